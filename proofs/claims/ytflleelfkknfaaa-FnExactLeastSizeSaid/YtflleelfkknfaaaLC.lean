/- Walks: the program's rounds. -/
import Derived.Test.YtflleelfkknfaaaLA
import Derived.Test.YtflleelfkknfaaaNI
import Derived.Test.YtflleelfkknfaaaMB
namespace Go.Proofs.Ytflleelfkknfaaa
open Go Go.RowKit SL
namespace SL
section
variable {P : Program} {B : Nat} {w0 : World} {n : Nat} {Q : Po} {F : Fr} {H : Hp} {ops : Array Oper} {l : List Oper} {ty : TypeId} {pos : String} {af : Array Edge} {K V : Type} {eK : K → Value} {eV : V → Value} [DecidableEq K] {kt et T : TypeId}
/-- What lies behind a row is one cell. -/
theorem JC_oneV {c : Code} {v : Value} {e sz : Nat} {xs : List Value} (hm : It.row v e sz xs ∈ H) (k : v.oneCell' = true → JC P B w0 n c Q F H) : JC P B w0 n c Q F H := by
  unfold JC at *
  intro a w ha hw
  obtain ⟨m, h1, h2⟩ := hw.row_slice hm
  rcases h2 with ⟨rfl, rfl⟩ | ⟨gg, cap, _, rfl, _, _, hc, _⟩
  · exact k rfl a w ha hw
  · exact k rfl a w ha hw
theorem J_insert {ok : Value → Prop} {x y t : Operand} {a : Nat} {m m' : List (Value × Value)} {key v : Value} {H' : Obj → Hp} {o : Obj} [hT : Un P T (.map kt et)] (K : KLaw P kt ok) (hx : ev F x = some (.map (some a))) (hy : ev F y = some key) (ht : ev F t = some v) (hu : UO a H o H') (ho : o = mapO m) (hn : (m.map (·.1)).Nodup) (hall : ∀ p ∈ m, ok p.1) (hk : ok key)
    (hm' : putV m key v = m') (k : J false P B w0 n ops Q l F (H' (mapO m'))) : J false P B w0 n ops Q (⟨none, .insert T x y t, ty, pos, af, none⟩ :: l) F H := by
  obtain ⟨H1, H2, rfl, h2⟩ := hu.out
  subst ho hm'
  refine J_doS fun A w ha hw => ?_
  have hb := hw.obj_at (a := a) (o := mapO m) (by simp)
  refine ⟨_, H1 ++ .obj a (mapO (putV m key v)) :: H2, ?_, hw.setObj, by rw [← h2]; exact k⟩
  simp only [execOp, ha.ev hx, ha.ev hy, ha.ev ht]
  rw [Sem.run_bind, run_mapUpdate K hT.out hn hall hk v hb]; rfl
end
end SL
/-- Grids as entries of a map. -/
def mp (S : List GridB) : List (GridB × Unit) := S.map fun x => (x, ())
theorem mp_keys (S : List GridB) : (mp S).map (·.1) = S := by unfold mp; rw [List.map_map]; exact List.map_id S
theorem mp_len (S : List GridB) : (mp S).length = S.length := by simp [mp]
theorem mp_snoc (S : List GridB) (x : GridB) : mp (S ++ [x]) = mp S ++ [(x, ())] := by simp [mp]
/-- What a round leaves. -/
def nxR (p : RSt) (b bm : Nat) (H2 : Hp) (v' : Value) (H' : Hp) : Prop :=
  (rnd p = none ∧ v' = .bool false ∧ H' = H2) ∨ ∃ q v2, rnd p = some q ∧ v' = .bool true ∧ H' = .blk b [.map (some bm), v2] 54 :: .obj bm (mapO (encM grV uV (mp q.1))) :: .row v2 27 17 (q.2.flatMap encG) :: H2
set_option maxRecDepth 100000 in
theorem rnext_gives {B : Nat} {w0 : World} {H2 : Hp} {v : Value} {b bm : Nat} (p : RSt) (hp : RI p) :
    GivesE Try.prog 31 #[.pointer (some ⟨b, 0, none⟩)] B w0 (.blk b [.map (some bm), v] 54 :: .obj bm (mapO (encM grV uV (mp p.1))) :: .row v 27 17 (p.2.flatMap encG) :: H2) (nxR p b bm H2) := by
  obtain ⟨S0, fr⟩ := p
  dsimp only
  have lf := flat_len fr
  have hfr := hp.fl
  have hle := hp.le
  dsimp only at hfr hle
  have h1 : ∀ x : GridB, ∀ u ∈ encG x, u.oneCell' = true := fun x => gv_one _ _ _
  refine givesE_of (args := [.pointer (some ⟨b, 0, none⟩)]) [(0, .pointer (some ⟨b, 0, none⟩))] Try.func31 rfl Try.ntmps31 rfl (argsF_cons rfl argsF_nil) ?_
  repeat' (first | (apply Jq_move; exact rfl; exact rfl) | (apply Jq_assign; exact rfl; exact rfl) | (apply Jq_load; exact rfl; exact rfl; (exact mb); (exact rfl)) | (apply Jq_fieldAddr; exact rfl; exact rfl) | (apply Jq_lenRs; exact rfl; exact rfl; (exact rb); exact lf; decide) | (apply Jq_nilCheck; exact rfl; exact rfl) | (apply J_lit0; exact rfl; (intro _)) | refine thenQ_normal ?_ | refine JC_seq ?_ | refine JC_region ?_ | refine J_nil ?_ | refine JC_block ?_)
  rename_i b8
  refine JC_loop (X := Nat × List GridB × Value × List GridB) (fun x => x.1 ≤ fr.length ∧ fld (some (S0, [])) ((fr.take x.1).flatMap nbL) = some (x.2.1, x.2.2.2) ∧ RI (x.2.1, x.2.2.2))
    (fun x => [(14, .int .i64 (x.1 : Int)), (13, .int .i64 (fr.length : Int)), (12, v), (3, x.2.2.1), (0, .pointer (some ⟨b, 0, none⟩))]) (fun x => .row x.2.2.1 27 17 (x.2.2.2.flatMap encG) :: .blk b [.map (some bm), v] 54 :: .obj bm (mapO (encM grV uV (mp x.2.1))) :: .row v 27 17 (fr.flatMap encG) :: H2) (fun x => fr.length - x.1)
    (0, S0, .slice (some ⟨b8, 0, none⟩) 0 0, []) ⟨Nat.zero_le _, rfl, hp.clear⟩ ?_ ?_
  · dsimp only
    (refine entP (ent ?_ (List.nil_sublist _)) ?_; (repeat refine fr_cons rfl ?_); exact fr_nil; (repeat (exact sp_refl)))
  · rintro ⟨i, S, v3, F⟩ ⟨hi, hst, hri⟩
    dsimp only at hi hst hri ⊢
    by_cases hlt : i < fr.length
    · obtain ⟨g, hg⟩ : ∃ g, fr[i]? = some g := ⟨_, List.getElem?_eq_getElem hlt⟩
      have ug := encG_len g
      have hok : okB g := hp.ok g (hp.sub g (List.mem_of_getElem? hg))
      repeat' (first | (apply JcN (N := nbR g); exact rfl; exact rfl; exact rfl; infer_instance; (intro w _; exact inb_gives hok w); exact nbR_mine; (intro v9 its hV; obtain ⟨l', ha', hm', hl', rfl⟩ := hV; obtain rfl := nbL_eq ha' hm'; have ln := flat_len (nbL g); refine J_app1 ?_)) | (apply Jq_lenRs; exact rfl; exact rfl; exact rb; exact ln; decide) | (apply Jq_move; exact rfl; exact rfl) | (apply Jq_cmp; exact rfl; exact rfl; exact rfl; exact rfl) | (apply Jq_loadW; exact rfl; exact rfl; (exact mb); (omega)) | (apply J_sW; exact rfl; exact rfl; infer_instance; (exact rfl); (omega); (exact gv_one _ _ _); infer_instance) | (apply Jq_indexRs; exact rfl; exact rfl; exact rfl; (exact rb); omega) | (apply Jq_loadRA; exact rfl; exact rfl; (exact rb); (exact flat_at hg); (omega); decide) | (apply J_alloc (cs := gv 0 Z8 Z8); exact rfl; exact rfl; (intro _)) | refine thenQ_normal ?_ | refine JC_seq ?_ | refine JC_region ?_ | refine J_nil ?_ | refine JC_block ?_ | refine JC_skip ?_ | (apply JC_dec_true; exact rfl; omega))
      refine JC_loop (X := Nat × List GridB × Value × List GridB) (fun x => x.1 ≤ (nbL g).length ∧ fld (some (S0, [])) ((fr.take i).flatMap nbL ++ (nbL g).take x.1) = some (x.2.1, x.2.2.2) ∧ RI (x.2.1, x.2.2.2))
        (fun x => [(21, .int .i64 (x.1 : Int)), (20, .int .i64 ((nbL g).length : Int)), (19, v9), (14, .int .i64 (i : Int)), (13, .int .i64 (fr.length : Int)), (12, v), (3, x.2.2.1), (0, .pointer (some ⟨b, 0, none⟩))]) (fun x => .row x.2.2.1 27 17 (x.2.2.2.flatMap encG) :: .blk b [.map (some bm), v] 54 :: .obj bm (mapO (encM grV uV (mp x.2.1))) :: .row v9 27 17 ((nbL g).flatMap encG) :: .row v 27 17 (fr.flatMap encG) :: H2) (fun x => (nbL g).length - x.1)
        (0, S, v3, F) ⟨Nat.zero_le _, by rw [List.take_zero, List.append_nil]; exact hst, hri⟩ ?_ ?_
      · dsimp only
        (refine entP (ent ?_ (List.nil_sublist _)) ?_; (repeat refine fr_cons rfl ?_); exact fr_nil; (repeat (first | exact sp_end | (with_reducible apply sp0) | (with_reducible apply sp2))))
      · clear hst hri
        clear S v3 F
        rintro ⟨j, S, v3, F⟩ ⟨hj, hst, hri⟩
        dsimp only at hj hst hri ⊢
        by_cases hltj : j < (nbL g).length
        · obtain ⟨x, hx⟩ : ∃ x, (nbL g)[j]? = some x := ⟨_, List.getElem?_eq_getElem hltj⟩
          have ux := encG_len x
          have hox : okB x := nbP_ok hok (nbL_ok (List.mem_of_getElem? hx))
          have hS := hri.le
          have hF := hri.fl
          dsimp only at hS hF
          have lF := flat_len F
          have lM := mp_len S
          have hnd : ((mp S).map (·.1)).Nodup := by rw [mp_keys]; exact hri.nd
          have hsn : F.flatMap encG ++ encG x = (F ++ [x]).flatMap encG := by simp
          have hne : encG x ≠ [] := List.cons_ne_nil _ _
          have htk : (fr.take i).flatMap nbL ++ (nbL g).take (j + 1) = ((fr.take i).flatMap nbL ++ (nbL g).take j) ++ [x] := by rw [List.take_add_one, hx, List.append_assoc]; rfl
          by_cases hxS : x ∈ S
          · have hlk := lkM_yes (M := mp S) (q := x) (by rw [mp_keys]; exact hxS)
            repeat' (first | (apply JC_draw (id := 8) mixed; kernel_rfl) | (apply Jq_lookT (eV := uV) (E := kencG) (k := x); exact rfl; exact rfl; exact rfl; exact mo; exact hnd; exact hlk) | (apply Jq_move; exact rfl; exact rfl) | (apply Jq_load; exact rfl; exact rfl; (exact mb); (exact rfl)) | (apply Jq_fieldAddr; exact rfl; exact rfl) | (apply Jq_cmp; exact rfl; exact rfl; exact rfl; exact rfl) | (apply Jq_add; exact rfl; exact rfl; exact rfl; omega) | (apply Jq_loadW; exact rfl; exact rfl; (exact mb); (omega)) | (apply J_sW; exact rfl; exact rfl; infer_instance; (exact rfl); (omega); (exact gv_one _ _ _); infer_instance) | (apply Jq_indexRs; exact rfl; exact rfl; exact rfl; (exact rb); omega) | (apply Jq_loadRA; exact rfl; exact rfl; (exact rb); (exact flat_at hx); (omega); decide) | (apply Jq_nilCheck; exact rfl; exact rfl) | (apply J_alloc (cs := gv 0 Z8 Z8); exact rfl; exact rfl; (intro _)) | refine thenQ_normal ?_ | refine thenQ_exit ?_ | refine inBlockQ_here ?_ | refine JC_seq ?_ | refine JC_region ?_ | refine J_nil ?_ | refine JC_block ?_ | refine JC_skip ?_ | refine JC_exit ?_ | (apply JC_if_true; exact rfl) | (apply JC_dec_true; exact rfl; omega))
            refine ⟨(j + 1, S, v3, F), ⟨by dsimp only; omega, by dsimp only; rw [htk, fld_snoc, hst, addG_old hxS], hri⟩, by dsimp only; omega, ?_⟩
            dsimp only
            (refine entP (ent ?_ (List.nil_sublist _)) ?_; (repeat refine fr_cons rfl ?_); exact fr_nil; (repeat (exact sp_end)))
          · have hlk := lkM_no (M := mp S) (q := x) (by rw [mp_keys]; exact hxS)
            by_cases hfull : S.length < 300
            · have hput : putM (mp S) x () = mp (S ++ [x]) := by rw [mp_snoc]; exact putM_new' (by rw [mp_keys]; exact hxS)
              repeat' (first | (apply JC_draw (id := 8) mixed; kernel_rfl) | (apply Jq_lookT (eV := uV) (E := kencG) (k := x); exact rfl; exact rfl; exact rfl; exact mo; exact hnd; exact hlk) | (apply Jq_lenT (eK := grV) (eV := uV); exact rfl; exact rfl; exact mo) | (apply Jq_move; exact rfl; exact rfl) | (apply Jq_load; exact rfl; exact rfl; (exact mb); (exact rfl)) | (apply Jq_fieldAddr; exact rfl; exact rfl) | (apply Jq_cmp; exact rfl; exact rfl; exact rfl; exact rfl) | (apply Jq_loadW; exact rfl; exact rfl; (exact mb); (omega)) | (apply J_sW; exact rfl; exact rfl; infer_instance; (exact rfl); (omega); (exact gv_one _ _ _); infer_instance) | (apply Jq_indexRs; exact rfl; exact rfl; exact rfl; (exact rb); omega) | (apply Jq_loadRA; exact rfl; exact rfl; (exact rb); (exact flat_at hx); (omega); decide) | (apply Jq_nilCheck; exact rfl; exact rfl) | (apply J_alloc (cs := gv 0 Z8 Z8); exact rfl; exact rfl; (intro _)) | refine thenQ_normal ?_ | refine JC_seq ?_ | refine JC_region ?_ | refine J_nil ?_ | refine JC_block ?_ | refine JC_skip ?_ | (apply JC_if_false; exact rfl) | (apply JC_dec_true; exact rfl; omega) | (apply JC_dec_false; exact rfl; omega))
              rename_i b7
              refine JC_cut1 (x := .region 11 _ _) [(7, .pointer (some ⟨b7, 0, none⟩)), (21, .int .i64 (j : Int)), (20, .int .i64 ((nbL g).length : Int)), (19, v9), (14, .int .i64 (i : Int)), (13, .int .i64 (fr.length : Int)), (12, v), (3, v3), (0, .pointer (some ⟨b, 0, none⟩))] (.blk b7 (encG x) 27 :: .row v3 27 17 (F.flatMap encG) :: .blk b [.map (some bm), v] 54 :: .obj bm (mapO (encM grV uV (mp (S ++ [x])))) :: .row v9 27 17 ((nbL g).flatMap encG) :: .row v 27 17 (fr.flatMap encG) :: H2) ?_ ?_
              ·
                refine JC_any (m := 6) rfl [.blk b7 (encG x) 27, .blk b [.map (some bm), v] 54] mixed (by ((repeat (apply sub_cons; (focus ((with_reducible (repeat (first | exact m0 | refine mS ?_))); done)))); exact sub_nil)) ?_
                (apply JF_q 0; exact rfl; kernel_rfl; exact rfl; (intro E hE; (apply q_move; exact rfl)))
                (apply JF_q 1; exact rfl; kernel_rfl; exact rfl; (intro E hE; (apply q_nilCheck; exact rfl)))
                (apply JF_q 2; exact rfl; kernel_rfl; exact rfl; (intro E hE; (apply q_fieldAddr; exact rfl)))
                (apply JF_q 3; exact rfl; kernel_rfl; exact rfl; (intro E hE; (apply q_load; exact rfl; (refine hE _ ?_; exact mb); (exact rfl))))
                (apply JF_q 4; exact rfl; kernel_rfl; exact rfl; (intro E hE; (apply q_loadW; exact rfl; (refine hE _ ?_; exact mb); (omega))))
                (apply JF_all [5]; kernel_rfl)
                (apply JFs_cons; exact rfl)
                · (apply J_updT (eV := uV) (v := ()) (E := kencG) (k := x); exact rfl; exact rfl; exact rfl; infer_instance; exact rfl; exact hnd; exact hput)
                  (apply J_nil; apply JF_end; ((repeat (apply sub_cons; (focus ((with_reducible (repeat (first | exact m0 | refine mS ?_))); done)))); exact sub_nil))
                  (apply JF_done; kernel_rfl)
                  (apply thenQ_normal; (refine entP (ent ?_ (List.nil_sublist _)) ?_; (repeat refine fr_cons rfl ?_); exact fr_nil; (repeat (exact sp_refl))))
                exact JFs_nil
              · repeat' (first | (apply J_ap; decide; exact rfl; exact rfl; exact rfl; infer_instance; exact rb; exact hne; exact h1 _; ((show (_ + _) * _ ≤ _); omega); decide; exact hsn; (intro v3')) | (apply Jq_move; exact rfl; exact rfl) | (apply Jq_assign; exact rfl; exact rfl) | (apply Jq_add; exact rfl; exact rfl; exact rfl; omega) | (apply Jq_loadW; exact rfl; exact rfl; (exact mb); (omega)) | (apply J_lit1s; exact rfl; exact rfl; (omega); decide; decide; (intro _)) | refine thenQ_normal ?_ | refine inBlockQ_normal ?_ | refine JC_region ?_ | refine J_nil ?_)
                refine ⟨(j + 1, S ++ [x], v3', F ++ [x]), ⟨by dsimp only; omega, by dsimp only; rw [htk, fld_snoc, hst, addG_new hxS hfull], hri.add hxS hfull hox⟩, by dsimp only; omega, ?_⟩
                dsimp only
                (refine entP (ent ?_ (List.nil_sublist _)) ?_; (repeat refine fr_cons rfl ?_); exact fr_nil; (repeat (exact sp_end)))
            · repeat' (first | (apply JC_draw (id := 8) mixed; kernel_rfl) | (apply Jq_lookT (eV := uV) (E := kencG) (k := x); exact rfl; exact rfl; exact rfl; exact mo; exact hnd; exact hlk) | (apply Jq_lenT (eK := grV) (eV := uV); exact rfl; exact rfl; exact mo) | (apply Jq_move; exact rfl; exact rfl) | (apply Jq_assign; exact rfl; exact rfl) | (apply Jq_load; exact rfl; exact rfl; (exact mb); (exact rfl)) | (apply Jq_fieldAddr; exact rfl; exact rfl) | (apply Jq_cmp; exact rfl; exact rfl; exact rfl; exact rfl) | (apply Jq_loadW; exact rfl; exact rfl; (exact mb); (omega)) | (apply J_sW; exact rfl; exact rfl; infer_instance; (exact rfl); (omega); (exact gv_one _ _ _); infer_instance) | (apply Jq_indexRs; exact rfl; exact rfl; exact rfl; (exact rb); omega) | (apply Jq_loadRA; exact rfl; exact rfl; (exact rb); (exact flat_at hx); (omega); decide) | (apply Jq_nilCheck; exact rfl; exact rfl) | (apply J_alloc (cs := gv 0 Z8 Z8); exact rfl; exact rfl; (intro _)) | refine thenQ_normal ?_ | refine thenQ_ret ?_ | refine inBlockQ_ret ?_ | refine JC_seq ?_ | refine JC_region ?_ | refine J_nil ?_ | refine JC_block ?_ | refine JC_skip ?_ | refine JC_ret ?_ | (apply JC_if_false; exact rfl) | (apply JC_dec_true; exact rfl; omega))
              refine e1 rfl rfl rfl ?_ (.inl ⟨?_, rfl, rfl⟩)
              · (refine entP (ent ?_ (List.nil_sublist _)) ?_; (repeat refine fr_cons rfl ?_); exact fr_nil; (repeat (exact sp_end)))
              · unfold rnd
                dsimp only
                rw [met_split hg hx, fld_app, fld_snoc, hst, addG_full hxS hfull, fld_none]
        · obtain rfl : j = (nbL g).length := by omega
          repeat' (first | (apply Jq_move; exact rfl; exact rfl) | (apply Jq_cmp; exact rfl; exact rfl; exact rfl; exact rfl) | (apply Jq_add; exact rfl; exact rfl; exact rfl; omega) | refine thenQ_normal ?_ | refine thenQ_exit ?_ | refine inBlockQ_normal ?_ | refine inBlockQ_here ?_ | refine JC_seq ?_ | refine JC_region ?_ | refine J_nil ?_ | refine JC_exit ?_ | (apply JC_dec_false; exact rfl; omega))
          refine ⟨(i + 1, S, v3, F), ⟨by dsimp only; omega, by dsimp only; rw [flat_next hg]; rwa [List.take_length] at hst, hri⟩, by dsimp only; omega, ?_⟩
          dsimp only
          (refine entP (ent ?_ (List.nil_sublist _)) ?_; (repeat refine fr_cons rfl ?_); exact fr_nil; (repeat (first | exact sp_end | (with_reducible apply sp0))))
    · obtain rfl : i = fr.length := by omega
      refine JC_oneV (v := v3) (e := 27) (sz := 17) (xs := F.flatMap encG) (by simp) fun hone => ?_
      repeat' (first | (apply J_s1; exact rfl; exact rfl; exact hone; infer_instance; exact Nat.lt_succ_self 1; exact rfl; infer_instance) | (apply Jq_move; exact rfl; exact rfl) | (apply Jq_assign; exact rfl; exact rfl) | (apply Jq_fieldAddr; exact rfl; exact rfl) | (apply Jq_cmp; exact rfl; exact rfl; exact rfl; exact rfl) | (apply Jq_nilCheck; exact rfl; exact rfl) | refine thenQ_normal ?_ | refine thenQ_exit ?_ | refine inBlockQ_here ?_ | refine JC_seq ?_ | refine JC_region ?_ | refine J_nil ?_ | refine JC_ret ?_ | refine JC_exit ?_ | (apply JC_dec_false; exact rfl; omega))
      refine e1 rfl rfl rfl ?_ (.inr ⟨(S, F), v3, by rw [← hst, List.take_length]; rfl, rfl, rfl⟩)
      (refine entP (ent ?_ (List.nil_sublist _)) ?_; (repeat refine fr_cons rfl ?_); exact fr_nil; (repeat (first | exact sp_end | (with_reducible apply sp0) | (with_reducible apply sp1) | apply sp1)))
theorem J_insT {P : Program} {B : Nat} {w0 : World} {n : Nat} {Q : Po} {F : Fr} {H : Hp} {ops : Array Oper} {l : List Oper} {ty : TypeId} {pos : String} {af : Array Edge} {K V : Type} {eK : K → Value} {eV : V → Value} [DecidableEq K] {kt et T : TypeId} {x y t : Operand} {a : Nat} {m m' : List (K × V)} {k : K} {v : V} {H' : Obj → Hp} {o : Obj} [hT : Un P T (.map kt et)] (E : KEnc P kt eK) (hx : ev F x = some (.map (some a))) (hy : ev F y = some (eK k)) (ht : ev F t = some (eV v)) (hu : UO a H o H') (ho : o = mapO (encM eK eV m)) (hn : (m.map (·.1)).Nodup)
    (hm' : putM m k v = m') (kk : J false P B w0 n ops Q l F (H' (mapO (encM eK eV m')))) : J false P B w0 n ops Q (⟨none, .insert T x y t, ty, pos, af, none⟩ :: l) F H :=
  J_insert E.law hx hy ht hu ho (encM_nodup E.inj hn) (encM_ok m) ⟨k, rfl⟩ rfl (by rw [putV_enc E.inj, hm']; exact kk)
theorem built_rounds (bm bl : Nat) : Try.prog.built 54 [(0, .map (some bm)), (1, .slice (some ⟨bl, 0, none⟩) 1 1)] = some [.map (some bm), .slice (some ⟨bl, 0, none⟩) 1 1].toArray := by kernel_rfl
/-- A new record. -/
def stR (c : GridB) (v : Value) (its : Hp) : Prop := ∃ b bm u, v = .pointer (some ⟨b, 0, none⟩) ∧ its = [.blk b [.map (some bm), u] 54, .obj bm (mapO (encM grV uV (mp [c]))), .row u 27 17 ([c].flatMap encG)]
theorem stR_mine {c : GridB} (v : Value) (its : Hp) (h : stR c v its) : ∀ x, x ∈ its → x.mine = true := by
  obtain ⟨b, bm, u, _, rfl⟩ := h; simp [It.mine]
set_option maxRecDepth 100000 in
theorem start_gives {p : GridB} (hp : okB p) (w : World) : GivesN Try.prog 29 #[.agg (encG p).toArray] (stR (canB p)) w := by
  have ug := encG_len p
  have uc := encG_len (canB p)
  have hcan := canB_spec hp
  have h1 : ∀ x : GridB, ∀ u ∈ encG x, u.oneCell' = true := fun x => gv_one _ _ _
  have hput : putM ([] : List (GridB × Unit)) (canB p) () = mp [canB p] := putM_new' (by simp)
  have hnd : (([] : List (GridB × Unit)).map (·.1)).Nodup := List.nodup_nil
  have e1 : [canB p].flatMap encG = encG (canB p) := by simp
  have hs0 : (0 : Nat) < 17 := by decide
  have hs1 : (17 : Nat) ≤ 1000 := by decide
  refine givesN_of (args := [.agg (encG p).toArray]) [(0, .agg (encG p).toArray)] [] Try.func29 rfl Try.ntmps29 rfl (argsF_cons rfl argsF_nil) (Holds.start w) ?_
  repeat' (first | (apply Jq_assign; exact rfl; exact rfl) | (apply Jc; exact rfl; exact rfl; exact rfl; infer_instance; ((intro w hw); exact hcan.2.1 w)) | (apply Jq_loadW; exact rfl; exact rfl; (exact mb); (omega)) | (apply J_sW; exact rfl; exact rfl; infer_instance; (exact rfl); (omega); (exact gv_one _ _ _); infer_instance) | (apply J_box; exact rfl; exact rfl; exact rfl; (intro _)) | (apply J_alloc (cs := gv 0 Z8 Z8); exact rfl; exact rfl; (intro _)) | refine thenQ_normal ?_ | refine JC_seq ?_ | refine JC_region ?_ | refine J_nil ?_)
  rename_i b1 b3
  refine JC_any (m := 9) rfl [.blk b3 (encG (canB p)) 27] mixed (by ((repeat (apply sub_cons; (focus ((with_reducible (repeat (exact m0))); done)))); exact sub_nil)) ?_
  (apply JF_q 1; exact rfl; kernel_rfl; exact rfl; (intro E hE; (apply q_loadW; exact rfl; (refine hE _ ?_; exact mb); (omega))))
  (apply JF_q 4; exact rfl; kernel_rfl; exact rfl; (intro E hE; (apply q_loadW; exact rfl; (refine hE _ ?_; exact mb); (omega))))
  (apply JF_all [0, 5]; kernel_rfl)
  (apply JFs_cons; exact rfl)
  · (apply J_makeMap; exact rfl; (intro bm))
    (apply J_nil; apply JF_end; ((repeat (apply sub_cons; (focus ((with_reducible (repeat (first | exact m0 | refine mS ?_))); done)))); exact sub_nil))
    (apply JF_all [2, 5]; kernel_rfl)
    (apply JFs_cons; exact rfl)
    · (apply J_insT (eV := uV) (v := ()) (m := []) (E := kencG) (k := canB p); exact rfl; exact rfl; exact rfl; infer_instance; exact rfl; exact hnd; exact hput)
      (apply J_nil; apply JF_end; ((repeat (apply sub_cons; (focus ((with_reducible (repeat (first | exact m0 | refine mS ?_))); done)))); exact sub_nil))
      (apply JF_q 3; exact rfl; kernel_rfl; exact rfl; (intro E hE; (apply q_move; exact rfl)))
      (apply JF_all [5]; kernel_rfl)
      (apply JFs_cons; exact rfl)
      · (apply J_lit1s; exact rfl; exact rfl; exact uc; exact hs0; exact hs1; (intro bl))
        (apply J_nil; apply JF_end; ((repeat (apply sub_cons; (focus ((with_reducible (repeat (first | exact m0 | refine mS ?_))); done)))); exact sub_nil))
        (apply JF_q 6; exact rfl; kernel_rfl; exact rfl; (intro E hE; (apply q_build2; exact rfl; exact rfl; exact built_rounds _ _)))
        (apply JF_all [7]; kernel_rfl)
        (apply JFs_cons; exact rfl)
        · (apply J_box; exact rfl; exact rfl; exact rfl; (intro bb))
          (apply J_nil; apply JF_end; ((repeat (apply sub_cons; (focus ((with_reducible (repeat (first | exact m0 | refine mS ?_))); done)))); exact sub_nil))
          (apply JF_q 8; exact rfl; kernel_rfl; exact rfl; (intro E hE; (apply q_assign; exact rfl)))
          (apply JF_done; kernel_rfl)
          (refine thenQ_normal ?_; refine JC_ret ?_; refine n1 (its := [.blk bb [.map (some bm), .slice (some ⟨bl, 0, none⟩) 1 1] 54, .obj bm (mapO (encM grV uV (mp [canB p]))), .row (.slice (some ⟨bl, 0, none⟩) 1 1) 27 17 (encG (canB p))]) rfl rfl rfl ?_ ⟨bb, bm, _, rfl, by rw [e1]⟩; (refine entP (ent ?_ (List.nil_sublist _)) ?_; (repeat refine fr_cons rfl ?_); exact fr_nil; (repeat (first | exact sp_nil | (with_reducible apply sp0) | (with_reducible apply sp1)))))
        exact JFs_nil
      exact JFs_nil
    (apply JFs_cons; exact rfl)
    · (apply J_lit1s; exact rfl; exact rfl; exact uc; exact hs0; exact hs1; (intro bl))
      (apply J_nil; apply JF_end; ((repeat (apply sub_cons; (focus ((with_reducible (repeat (first | exact m0 | refine mS ?_))); done)))); exact sub_nil))
      (apply JF_all [2]; kernel_rfl)
      (apply JFs_cons; exact rfl)
      · (apply J_insT (eV := uV) (v := ()) (m := []) (E := kencG) (k := canB p); exact rfl; exact rfl; exact rfl; infer_instance; exact rfl; exact hnd; exact hput)
        (apply J_nil; apply JF_end; ((repeat (apply sub_cons; (focus ((with_reducible (repeat (first | exact m0 | refine mS ?_))); done)))); exact sub_nil))
        (apply JF_q 3; exact rfl; kernel_rfl; exact rfl; (intro E hE; (apply q_move; exact rfl)))
        (apply JF_q 6; exact rfl; kernel_rfl; exact rfl; (intro E hE; (apply q_build2; exact rfl; exact rfl; exact built_rounds _ _)))
        (apply JF_all [7]; kernel_rfl)
        (apply JFs_cons; exact rfl)
        · (apply J_box; exact rfl; exact rfl; exact rfl; (intro bb))
          (apply J_nil; apply JF_end; ((repeat (apply sub_cons; (focus ((with_reducible (repeat (first | exact m0 | refine mS ?_))); done)))); exact sub_nil))
          (apply JF_q 8; exact rfl; kernel_rfl; exact rfl; (intro E hE; (apply q_assign; exact rfl)))
          (apply JF_done; kernel_rfl)
          (refine thenQ_normal ?_; refine JC_ret ?_; refine n1 (its := [.blk bb [.map (some bm), .slice (some ⟨bl, 0, none⟩) 1 1] 54, .obj bm (mapO (encM grV uV (mp [canB p]))), .row (.slice (some ⟨bl, 0, none⟩) 1 1) 27 17 (encG (canB p))]) rfl rfl rfl ?_ ⟨bb, bm, _, rfl, by rw [e1]⟩; (refine entP (ent ?_ (List.nil_sublist _)) ?_; (repeat refine fr_cons rfl ?_); exact fr_nil; (repeat (first | exact sp_nil | (with_reducible apply sp0) | (with_reducible apply sp1)))))
        exact JFs_nil
      exact JFs_nil
    exact JFs_nil
  (apply JFs_cons; exact rfl)
  · (apply J_lit1s; exact rfl; exact rfl; exact uc; exact hs0; exact hs1; (intro bl))
    (apply J_nil; apply JF_end; ((repeat (apply sub_cons; (focus ((with_reducible (repeat (first | exact m0 | refine mS ?_))); done)))); exact sub_nil))
    (apply JF_all [0]; kernel_rfl)
    (apply JFs_cons; exact rfl)
    · (apply J_makeMap; exact rfl; (intro bm))
      (apply J_nil; apply JF_end; ((repeat (apply sub_cons; (focus ((with_reducible (repeat (first | exact m0 | refine mS ?_))); done)))); exact sub_nil))
      (apply JF_all [2]; kernel_rfl)
      (apply JFs_cons; exact rfl)
      · (apply J_insT (eV := uV) (v := ()) (m := []) (E := kencG) (k := canB p); exact rfl; exact rfl; exact rfl; infer_instance; exact rfl; exact hnd; exact hput)
        (apply J_nil; apply JF_end; ((repeat (apply sub_cons; (focus ((with_reducible (repeat (first | exact m0 | refine mS ?_))); done)))); exact sub_nil))
        (apply JF_q 3; exact rfl; kernel_rfl; exact rfl; (intro E hE; (apply q_move; exact rfl)))
        (apply JF_q 6; exact rfl; kernel_rfl; exact rfl; (intro E hE; (apply q_build2; exact rfl; exact rfl; exact built_rounds _ _)))
        (apply JF_all [7]; kernel_rfl)
        (apply JFs_cons; exact rfl)
        · (apply J_box; exact rfl; exact rfl; exact rfl; (intro bb))
          (apply J_nil; apply JF_end; ((repeat (apply sub_cons; (focus ((with_reducible (repeat (first | exact m0 | refine mS ?_))); done)))); exact sub_nil))
          (apply JF_q 8; exact rfl; kernel_rfl; exact rfl; (intro E hE; (apply q_assign; exact rfl)))
          (apply JF_done; kernel_rfl)
          (refine thenQ_normal ?_; refine JC_ret ?_; refine n1 (its := [.blk bb [.map (some bm), .slice (some ⟨bl, 0, none⟩) 1 1] 54, .obj bm (mapO (encM grV uV (mp [canB p]))), .row (.slice (some ⟨bl, 0, none⟩) 1 1) 27 17 (encG (canB p))]) rfl rfl rfl ?_ ⟨bb, bm, _, rfl, by rw [e1]⟩; (refine entP (ent ?_ (List.nil_sublist _)) ?_; (repeat refine fr_cons rfl ?_); exact fr_nil; (repeat (first | exact sp_nil | (with_reducible apply sp0)))))
        exact JFs_nil
      exact JFs_nil
    exact JFs_nil
  exact JFs_nil
end Go.Proofs.Ytflleelfkknfaaa
