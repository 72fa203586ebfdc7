/- Walks: the reference's table with a number added. Plain: blocked numbers. Walks: the reference's blocked table. Walks: the program's blocked ranks. Walks: the sum of all blocked ranks, in the reference and in the program; the law. -/
import Derived.Test.YtmbbcmebdefggaaGreatDoorUK
import Derived.Test.YtmbbcmebdefggaaGreatDoorEG
namespace Go.Proofs.YtmbbcmebdefggaaGreatDoor
open Go Go.RowKit SL
def encT (e : GrB × Int) : List Value := [.int .i64 e.1.1, .int .i64 e.1.2, .int .i64 e.2]
abbrev LT : Type := List (Value × (GrB × Int))
def valsT (L : LT) : TB := L.map (·.2)
def inT (L : LT) (H : Hp) : Prop := ∀ p ∈ L, It.row p.1 2 1 (encT p.2) ∈ H
theorem inT.mono {L : LT} {H H' : Hp} (h : inT L H) (k : ∀ x ∈ H, x ∈ H') : inT L H' := fun p hp => k _ (h p hp)
theorem inT.app {L : LT} {H : Hp} (h : inT L H) {v : Value} {e : GrB × Int} (hv : It.row v 2 1 (encT e) ∈ H) : inT (L ++ [(v, e)]) H := fun p hp => by
  rcases List.mem_append.1 hp with hp | hp
  · exact h p hp
  · rw [List.mem_singleton.1 hp]; exact hv
theorem valsT_app (L : LT) (v : Value) (e : GrB × Int) : valsT (L ++ [(v, e)]) = valsT L ++ [e] := by unfold valsT; rw [List.map_append]; rfl
theorem fstT_app (L : LT) (v : Value) (e : GrB × Int) : L.map (·.1) ++ [v] = (L ++ [(v, e)]).map (·.1) := by rw [List.map_append]; rfl
def smallT (L : LT) (K : Int) : Prop := ∀ p ∈ L, -K ≤ p.2.2 ∧ p.2.2 ≤ K
set_option maxRecDepth 100000 in
theorem sputS_gives {B : Nat} {w0 : World} {H : Hp} {v : Value} (L : LT) (a m k : Int) (hk : k ≠ 0) (hT : Tab (valsT L)) (hv : It.row v 50 1 (L.map (·.1)) ∈ H) (hL : inT L H) (hl : L.length ≤ 100000) (hkb : -1000000 ≤ k ∧ k ≤ 1000000) (hs : smallT L 1000000000) :
    GivesE Tryz.prog 102 #[v, .int .i64 a, .int .i64 m, .int .i64 k] B w0 H (fun v' H' => ∃ (L' : LT) (H2 : Hp), valsT L' = insT (a, m) k (valsT L) ∧ H' = .row v' 50 1 (L'.map (·.1)) :: H2 ∧ inT L' H2 ∧ ∀ x ∈ H, x ∈ H2) := by
  have iv0 : RB v H 50 1 (L.map (·.1)) := ⟨hv⟩
  have l1 : (L.map (·.1)).length = L.length := List.length_map _
  refine givesE_of (args := [v, .int .i64 a, .int .i64 m, .int .i64 k]) [(0, v), (1, .int .i64 a), (2, .int .i64 m), (3, .int .i64 k)] Tryz.func102 rfl Tryz.ntmps102 rfl (argsF_cons rfl (argsF_cons rfl (argsF_cons rfl (argsF_cons rfl argsF_nil)))) ?_
  repeat' (first | (apply Jq_assign; exact rfl; exact rfl) | (apply J_lit0; exact rfl; (intro _)) | refine thenQ_normal ?_ | refine JC_seq ?_ | refine JC_region ?_ | refine J_nil ?_ | refine JC_block ?_)
  rename_i b9
  refine JC_loop (X := Nat × Value × LT × Bool × Hp) (fun p => p.1 ≤ L.length ∧ (valsT p.2.2.1, p.2.2.2.1) = ((valsT L).take p.1).foldl (stT (a, m) k) ([], false) ∧ inT p.2.2.1 p.2.2.2.2 ∧ (∀ x ∈ H, x ∈ p.2.2.2.2) ∧ p.2.2.1.length ≤ 2 * p.1)
    (fun p => [(11, .int .i64 (p.1 : Int)), (10, .bool p.2.2.2.1), (9, p.2.1), (0, v), (1, .int .i64 a), (2, .int .i64 m), (3, .int .i64 k)]) (fun p => .row p.2.1 50 1 (p.2.2.1.map (·.1)) :: p.2.2.2.2) (fun p => L.length - p.1) (0, .slice (some ⟨b9, 0, none⟩) 0 0, [], false, H) ⟨Nat.zero_le _, rfl, fun p hp => absurd hp List.not_mem_nil, fun _ h => h, Nat.le_refl _⟩ ?_ ?_
  · dsimp only
    (refine entP (ent ?_ (List.nil_sublist _)) ?_; (repeat refine fr_cons rfl ?_); exact fr_nil; (repeat (exact sp_refl)))
  · rintro ⟨i, v9, Lo, done, Hx⟩ ⟨hi, hfold, hin, hsub, hlo⟩
    dsimp only at hi hfold hin hsub hlo ⊢
    have iv : RB v Hx 50 1 (L.map (·.1)) := ⟨hsub _ hv⟩
    have l2 : (Lo.map (·.1)).length = Lo.length := List.length_map _
    by_cases hlt : i < L.length
    · obtain ⟨⟨vp, ⟨⟨ea, em⟩, c⟩⟩, hp⟩ : ∃ p, L[i]? = some p := ⟨_, List.getElem?_eq_getElem hlt⟩
      have hpm := List.mem_of_getElem? hp
      have g1 : (L.map (·.1))[i]? = some vp := by rw [List.getElem?_map, hp]; rfl
      have hrow := hsub _ (hL _ hpm)
      have hcb := hs _ hpm
      dsimp only at hrow hcb
      have ip : RB vp Hx 2 1 [.int .i64 ea, .int .i64 em, .int .i64 c] := ⟨hrow⟩
      have le : [Value.int .i64 ea, Value.int .i64 em, Value.int .i64 c].length = 3 := rfl
      have hfn : ((valsT L).take (i + 1)).foldl (stT (a, m) k) ([], false) = stT (a, m) k (valsT Lo, done) ((ea, em), c) := by
        have h2 : (valsT L)[i]? = some ((ea, em), c) := by unfold valsT; rw [List.getElem?_map, hp]; rfl
        rw [List.take_add_one, h2, hfold]
        show List.foldl _ _ (_ ++ [_]) = _
        rw [List.foldl_append]; rfl
      by_cases he : ea = a ∧ em = m
      · obtain ⟨rfl, rfl⟩ := he
        have hst : stT (ea, em) k (valsT Lo, done) ((ea, em), c) = (if c + k = 0 then valsT Lo else valsT Lo ++ [((ea, em), c + k)], true) := if_pos rfl
        by_cases hz : c + k = 0
        · repeat' (first | (apply Jq_indexRN (i := 0); exact rfl; exact rfl; exact rfl; exact rb; omega) | (apply Jq_indexRN (i := 1); exact rfl; exact rfl; exact rfl; exact rb; omega) | (apply Jq_indexRN (i := 2); exact rfl; exact rfl; exact rfl; exact rb; omega) | (apply Jq_move; exact rfl; exact rfl) | (apply Jq_assign; exact rfl; exact rfl) | (apply Jq_cmp; exact rfl; exact rfl; exact rfl; exact rfl) | (apply Jq_add; exact rfl; exact rfl; exact rfl; omega) | (apply Jq_pick_true; exact rfl; exact rfl; exact rfl) | (apply J_on; exact rfl; exact rfl) | (apply Jq_lenR; exact rfl; exact rfl; (exact rb)) | (apply Jq_indexRN; exact rfl; exact rfl; exact rfl; (exact rb); omega) | (apply Jq_loadR; exact rfl; exact rfl; (exact rb); (first | exact rfl | exact g1)) | refine thenQ_normal ?_ | refine thenQ_exit ?_ | refine inBlockQ_here ?_ | (apply inBlockQ_on; exact rfl) | refine JC_seq ?_ | refine JC_region ?_ | refine J_nil ?_ | refine JC_block ?_ | refine JC_skip ?_ | refine JC_exit ?_ | (apply JC_dec_true; exact rfl; omega) | (apply JC_ndec_false; exact rfl; omega) | (apply J_gdT; exact rfl; exact rfl; omega))
          all_goals first
            | (exfalso; omega)
            | (refine ⟨(i + 1, v9, Lo, true, Hx), ⟨by dsimp only; omega, by dsimp only; rw [hfn, hst, if_pos hz], hin, hsub, by dsimp only; omega⟩, by dsimp only; omega, ?_⟩; dsimp only; (refine entP (ent ?_ (List.nil_sublist _)) ?_; (repeat refine fr_cons rfl ?_); exact fr_nil; (repeat (exact sp_refl))))
        · repeat' (first | (apply Jq_indexRN (i := 0); exact rfl; exact rfl; exact rfl; exact rb; omega) | (apply Jq_indexRN (i := 1); exact rfl; exact rfl; exact rfl; exact rb; omega) | (apply Jq_indexRN (i := 2); exact rfl; exact rfl; exact rfl; exact rb; omega) | (apply Jq_move; exact rfl; exact rfl) | (apply Jq_assign; exact rfl; exact rfl) | (apply Jq_cmp; exact rfl; exact rfl; exact rfl; exact rfl) | (apply Jq_add; exact rfl; exact rfl; exact rfl; omega) | (apply Jq_pick_true; exact rfl; exact rfl; exact rfl) | (apply J_on; exact rfl; exact rfl) | (apply J_lit1; exact rfl; exact rfl; exact rfl; (intro _)) | (apply J_lit3; exact rfl; exact rfl; exact rfl; exact rfl; exact rfl; exact rfl; exact rfl; (intro _)) | (apply J_ap; exact Nat.one_pos; exact rfl; exact rfl; exact rfl; infer_instance; (exact rb); exact List.cons_ne_nil _ _; exact ones_of rfl; ((show (_ + 1) * _ ≤ _); omega); decide; (exact fstT_app _ _ ((ea, em), c + k)); (intro _)) | (apply Jq_lenR; exact rfl; exact rfl; (exact rb)) | (apply Jq_indexRN; exact rfl; exact rfl; exact rfl; (exact rb); omega) | (apply Jq_loadR; exact rfl; exact rfl; (exact rb); (first | exact rfl | exact g1)) | refine thenQ_normal ?_ | refine thenQ_exit ?_ | refine inBlockQ_here ?_ | (apply inBlockQ_on; exact rfl) | refine JC_seq ?_ | refine JC_region ?_ | refine J_nil ?_ | refine JC_block ?_ | refine JC_skip ?_ | refine JC_exit ?_ | (apply JC_dec_true; exact rfl; omega) | (apply JC_ndec_true; exact rfl; omega) | (apply J_gdT; exact rfl; exact rfl; omega))
          all_goals first
            | (exfalso; omega)
            | skip
          rename_i bl b1 vn
          refine ⟨(i + 1, vn, Lo ++ [(.slice (some ⟨bl, 0, none⟩) 3 3, ((ea, em), c + k))], true, .row (.slice (some ⟨bl, 0, none⟩) 3 3) 2 1 (encT ((ea, em), c + k)) :: Hx), ⟨by dsimp only; omega, by dsimp only; rw [hfn, hst, if_neg hz, valsT_app], (hin.mono fun x hx => mS hx).app m0, fun x hx => mS (hsub x hx), by dsimp only; rw [List.length_append]; show _ + 1 ≤ _; omega⟩, by dsimp only; omega, ?_⟩
          dsimp only
          (refine entP (ent ?_ (List.nil_sublist _)) ?_; (repeat refine fr_cons rfl ?_); exact fr_nil; (repeat (first | exact sp_end | (with_reducible apply sp2) | apply sp1)))
      · have hne : ((ea, em) : GrB) ≠ (a, m) := fun e => he ⟨congrArg Prod.fst e, congrArg Prod.snd e⟩
        have hpv : ∀ (L1 : LT) (H1 : Hp), inT L1 H1 → (∀ x ∈ Hx, x ∈ H1) → inT (L1 ++ [(vp, ((ea, em), c))]) H1 := fun L1 H1 h h2 => h.app (h2 _ hrow)
        by_cases hgt : done = false ∧ gLt (a, m) (ea, em)
        · obtain ⟨rfl, hgt⟩ := hgt
          have hst : stT (a, m) k (valsT Lo, false) ((ea, em), c) = (valsT Lo ++ [((a, m), k)] ++ [((ea, em), c)], true) := by
            unfold stT
            rw [if_neg hne, if_pos ⟨rfl, hgt⟩]
          have hgt' : a < ea ∨ a = ea ∧ m < em := hgt
          refine JC_row1' (mS hrow) fun oa ca => ?_
          repeat' (first | (apply J_lit1; exact rfl; exact rfl; exact ca; (intro _)) | (apply J_ap; decide; exact rfl; exact rfl; exact rfl; infer_instance; exact m0; exact List.cons_ne_nil _ _; (intro c hc; rw [List.mem_singleton] at hc; subst hc; exact oa); ((show (_ + _) * _ ≤ _); (simp only [List.length_cons, List.length_nil, List.length_map, List.length_append]); omega); decide; exact fstT_app _ vp ((ea, em), c); (intro _)) | (apply Jq_indexRN (i := 0); exact rfl; exact rfl; exact rfl; exact rb; omega) | (apply Jq_indexRN (i := 1); exact rfl; exact rfl; exact rfl; exact rb; omega) | (apply Jq_move; exact rfl; exact rfl) | (apply Jq_assign; exact rfl; exact rfl) | (apply Jq_cmp; exact rfl; exact rfl; exact rfl; exact rfl) | (apply Jq_add; exact rfl; exact rfl; exact rfl; omega) | (apply Jq_not; exact rfl; exact rfl) | (apply Jq_pick_true; exact rfl; exact rfl; exact rfl) | (apply Jq_pick_false; exact rfl; exact rfl; exact rfl) | (apply J_on; exact rfl; exact rfl) | (apply J_skip; exact rfl; exact rfl; exact rfl; exact rfl) | (apply J_skipU; exact rfl; exact rfl; exact rfl) | (apply J_lit1; exact rfl; exact rfl; exact rfl; (intro _)) | (apply J_lit3; exact rfl; exact rfl; exact rfl; exact rfl; exact rfl; exact rfl; exact rfl; (intro _)) | (apply J_ap; exact Nat.one_pos; exact rfl; exact rfl; exact rfl; infer_instance; (exact rb); exact List.cons_ne_nil _ _; exact ones_of rfl; ((show (_ + 1) * _ ≤ _); omega); decide; (exact fstT_app _ _ ((a, m), k)); (intro _)) | (apply Jq_lenR; exact rfl; exact rfl; (exact rb)) | (apply Jq_indexRN; exact rfl; exact rfl; exact rfl; (exact rb); omega) | (apply Jq_loadR; exact rfl; exact rfl; (exact rb); (first | exact rfl | exact g1)) | refine thenQ_normal ?_ | refine inBlockQ_normal ?_ | refine JC_seq ?_ | refine JC_region ?_ | refine J_nil ?_ | refine JC_block ?_ | refine JC_skip ?_ | (apply JC_if_true; exact rfl) | (apply JC_if_false; exact rfl) | (apply JC_dec_true; exact rfl; omega) | (apply JC_dec_false; exact rfl; omega) | (apply J_gdT; exact rfl; exact rfl; omega) | (apply J_gdF; exact rfl; exact rfl; omega) | refine J_gd rfl rfl (fun _ => ?_) (fun _ => ?_))
          all_goals first
            | (exfalso; omega)
            | (rename_i bl b1 v1 b2 vn; refine ⟨(i + 1, vn, Lo ++ [(.slice (some ⟨bl, 0, none⟩) 3 3, ((a, m), k))] ++ [(vp, ((ea, em), c))], true, .row (.slice (some ⟨bl, 0, none⟩) 3 3) 2 1 (encT ((a, m), k)) :: Hx), ⟨by dsimp only; omega, by dsimp only; rw [hfn, hst, valsT_app, valsT_app], hpv _ _ ((hin.mono fun x hx => mS hx).app m0) (fun x hx => mS hx), fun x hx => mS (hsub x hx), by dsimp only; simp only [List.length_append, List.length_cons, List.length_nil]; omega⟩, by dsimp only; omega, ?_⟩; dsimp only; (refine entP (ent ?_ (List.nil_sublist _)) ?_; (repeat refine fr_cons rfl ?_); exact fr_nil; (repeat (first | exact sp_end | (with_reducible apply sp3) | apply sp2))))
        · have hst : stT (a, m) k (valsT Lo, done) ((ea, em), c) = (valsT Lo ++ [((ea, em), c)], done) := by
            unfold stT
            rw [if_neg hne, if_neg hgt]
          have hgt' : done = true ∨ ¬ (a < ea ∨ a = ea ∧ m < em) := by
            cases done
            · exact .inr fun h => hgt ⟨rfl, h⟩
            · exact .inl rfl
          refine JC_row1' (mS hrow) fun oa ca => ?_
          cases done
          · have hg2 : ¬ (a < ea ∨ a = ea ∧ m < em) := hgt'.resolve_left (by decide)
            repeat' (first | (apply J_lit1; exact rfl; exact rfl; exact ca; (intro _)) | (apply J_ap; decide; exact rfl; exact rfl; exact rfl; infer_instance; exact m0; exact List.cons_ne_nil _ _; (intro c hc; rw [List.mem_singleton] at hc; subst hc; exact oa); ((show (_ + _) * _ ≤ _); (simp only [List.length_cons, List.length_nil, List.length_map, List.length_append]); omega); decide; exact fstT_app _ vp ((ea, em), c); (intro _)) | (apply Jq_indexRN (i := 0); exact rfl; exact rfl; exact rfl; exact rb; omega) | (apply Jq_indexRN (i := 1); exact rfl; exact rfl; exact rfl; exact rb; omega) | (apply Jq_move; exact rfl; exact rfl) | (apply Jq_assign; exact rfl; exact rfl) | (apply Jq_cmp; exact rfl; exact rfl; exact rfl; exact rfl) | (apply Jq_add; exact rfl; exact rfl; exact rfl; omega) | (apply Jq_not; exact rfl; exact rfl) | (apply Jq_pick_true; exact rfl; exact rfl; exact rfl) | (apply Jq_pick_false; exact rfl; exact rfl; exact rfl) | (apply J_on; exact rfl; exact rfl) | (apply J_skip; exact rfl; exact rfl; exact rfl; exact rfl) | (apply Jq_lenR; exact rfl; exact rfl; (exact rb)) | (apply Jq_indexRN; exact rfl; exact rfl; exact rfl; (exact rb); omega) | (apply Jq_loadR; exact rfl; exact rfl; (exact rb); (first | exact rfl | exact g1)) | refine thenQ_normal ?_ | refine inBlockQ_normal ?_ | refine JC_seq ?_ | refine JC_region ?_ | refine J_nil ?_ | refine JC_block ?_ | refine JC_skip ?_ | (apply JC_if_false; exact rfl) | (apply JC_dec_true; exact rfl; omega) | (apply JC_dec_false; exact rfl; omega) | (apply J_gdT; exact rfl; exact rfl; omega) | (apply J_gdF; exact rfl; exact rfl; omega) | refine J_gd rfl rfl (fun _ => ?_) (fun _ => ?_))
            all_goals first
              | (exfalso; omega)
              | (rename_i b2 vn; refine ⟨(i + 1, vn, Lo ++ [(vp, ((ea, em), c))], false, Hx), ⟨by dsimp only; omega, by dsimp only; rw [hfn, hst, valsT_app], hpv _ _ hin fun _ h => h, hsub, by dsimp only; simp only [List.length_append, List.length_cons, List.length_nil]; omega⟩, by dsimp only; omega, ?_⟩; dsimp only; (refine entP (ent ?_ (List.nil_sublist _)) ?_; (repeat refine fr_cons rfl ?_); exact fr_nil; (repeat (exact sp_end))))
          · repeat' (first | (apply J_lit1; exact rfl; exact rfl; exact ca; (intro _)) | (apply J_ap; decide; exact rfl; exact rfl; exact rfl; infer_instance; exact m0; exact List.cons_ne_nil _ _; (intro c hc; rw [List.mem_singleton] at hc; subst hc; exact oa); ((show (_ + _) * _ ≤ _); (simp only [List.length_cons, List.length_nil, List.length_map, List.length_append]); omega); decide; exact fstT_app _ vp ((ea, em), c); (intro _)) | (apply Jq_indexRN (i := 0); exact rfl; exact rfl; exact rfl; exact rb; omega) | (apply Jq_indexRN (i := 1); exact rfl; exact rfl; exact rfl; exact rb; omega) | (apply Jq_move; exact rfl; exact rfl) | (apply Jq_assign; exact rfl; exact rfl) | (apply Jq_cmp; exact rfl; exact rfl; exact rfl; exact rfl) | (apply Jq_add; exact rfl; exact rfl; exact rfl; omega) | (apply Jq_not; exact rfl; exact rfl) | (apply Jq_pick_true; exact rfl; exact rfl; exact rfl) | (apply Jq_pick_false; exact rfl; exact rfl; exact rfl) | (apply J_on; exact rfl; exact rfl) | (apply J_skip; exact rfl; exact rfl; exact rfl; exact rfl) | (apply J_skipU; exact rfl; exact rfl; exact rfl) | (apply Jq_lenR; exact rfl; exact rfl; (exact rb)) | (apply Jq_indexRN; exact rfl; exact rfl; exact rfl; (exact rb); omega) | (apply Jq_loadR; exact rfl; exact rfl; (exact rb); (first | exact rfl | exact g1)) | refine thenQ_normal ?_ | refine inBlockQ_normal ?_ | refine JC_seq ?_ | refine JC_region ?_ | refine J_nil ?_ | refine JC_block ?_ | refine JC_skip ?_ | (apply JC_if_false; exact rfl) | (apply JC_dec_true; exact rfl; omega) | (apply JC_dec_false; exact rfl; omega) | refine J_gd rfl rfl (fun _ => ?_) (fun _ => ?_))
            all_goals first
              | (exfalso; omega)
              | (rename_i b2 vn; refine ⟨(i + 1, vn, Lo ++ [(vp, ((ea, em), c))], true, Hx), ⟨by dsimp only; omega, by dsimp only; rw [hfn, hst, valsT_app], hpv _ _ hin fun _ h => h, hsub, by dsimp only; simp only [List.length_append, List.length_cons, List.length_nil]; omega⟩, by dsimp only; omega, ?_⟩; dsimp only; (refine entP (ent ?_ (List.nil_sublist _)) ?_; (repeat refine fr_cons rfl ?_); exact fr_nil; (repeat (exact sp_end))))
    · obtain rfl : i = L.length := by omega
      have hlv : (valsT L).length = L.length := List.length_map _
      rw [← hlv, List.take_length] at hfold
      have hend : enT (a, m) k (valsT Lo, done) = insT (a, m) k (valsT L) := by rw [hfold, stT_ins _ _ _ _ hT]; rfl
      cases done
      · have hend' : valsT Lo ++ [((a, m), k)] = insT (a, m) k (valsT L) := hend
        repeat' (first | (apply Jq_move; exact rfl; exact rfl) | (apply Jq_assign; exact rfl; exact rfl) | (apply Jq_cmp; exact rfl; exact rfl; exact rfl; exact rfl) | (apply Jq_not; exact rfl; exact rfl) | (apply Jq_pick_true; exact rfl; exact rfl; exact rfl) | (apply J_on; exact rfl; exact rfl) | (apply J_lit1; exact rfl; exact rfl; exact rfl; (intro _)) | (apply J_lit3; exact rfl; exact rfl; exact rfl; exact rfl; exact rfl; exact rfl; exact rfl; (intro _)) | (apply J_ap; exact Nat.one_pos; exact rfl; exact rfl; exact rfl; infer_instance; (exact rb); exact List.cons_ne_nil _ _; exact ones_of rfl; ((show (_ + 1) * _ ≤ _); omega); decide; (exact fstT_app _ _ ((a, m), k)); (intro _)) | (apply Jq_lenR; exact rfl; exact rfl; (exact rb)) | refine thenQ_normal ?_ | refine thenQ_exit ?_ | refine inBlockQ_here ?_ | refine JC_seq ?_ | refine JC_region ?_ | refine J_nil ?_ | refine JC_ret ?_ | refine JC_exit ?_ | (apply JC_dec_false; exact rfl; omega) | (apply JC_ndec_true; exact rfl; omega))
        all_goals first
          | (exfalso; omega)
          | skip
        rename_i bl b1 vn
        refine e1 (H' := .row vn 50 1 ((Lo ++ [(Value.slice (some ⟨bl, 0, none⟩) 3 3, ((a, m), k))] : LT).map (·.1)) :: .row (.slice (some ⟨bl, 0, none⟩) 3 3) 2 1 (encT ((a, m), k)) :: Hx) rfl rfl rfl ?_ ⟨Lo ++ [(.slice (some ⟨bl, 0, none⟩) 3 3, ((a, m), k))], _, by rw [valsT_app]; exact hend', rfl, (hin.mono fun x hx => mS hx).app m0, fun x hx => mS (hsub x hx)⟩
        (refine entP (ent ?_ (List.nil_sublist _)) ?_; (repeat refine fr_cons rfl ?_); exact fr_nil; (repeat (first | exact sp_end | (with_reducible apply sp2) | apply sp1)))
      · have hend' : valsT Lo = insT (a, m) k (valsT L) := hend
        repeat' (first | (apply Jq_move; exact rfl; exact rfl) | (apply Jq_assign; exact rfl; exact rfl) | (apply Jq_cmp; exact rfl; exact rfl; exact rfl; exact rfl) | (apply Jq_not; exact rfl; exact rfl) | (apply Jq_pick_false; exact rfl; exact rfl; exact rfl) | (apply J_skip; exact rfl; exact rfl; exact rfl; exact rfl) | (apply Jq_lenR; exact rfl; exact rfl; (exact rb)) | refine thenQ_normal ?_ | refine thenQ_exit ?_ | refine inBlockQ_here ?_ | refine JC_seq ?_ | refine JC_region ?_ | refine J_nil ?_ | refine JC_skip ?_ | refine JC_ret ?_ | refine JC_exit ?_ | (apply JC_if_false; exact rfl) | (apply JC_dec_false; exact rfl; omega))
        refine e1 (H' := .row v9 50 1 (Lo.map (·.1)) :: Hx) rfl rfl rfl ?_ ⟨Lo, Hx, hend', rfl, hin, hsub⟩
        (refine entP (ent ?_ (List.nil_sublist _)) ?_; (repeat refine fr_cons rfl ?_); exact fr_nil; (repeat (exact sp_refl)))
theorem sput_gives {B : Nat} {w0 : World} {H : Hp} {v : Value} (L : LT) (a m k : Int) (hk : k ≠ 0) (hT : Tab (valsT L)) (hv : It.row v 50 1 (L.map (·.1)) ∈ H) (hL : inT L H) (hl : L.length ≤ 100000) (hkb : -1000000 ≤ k ∧ k ≤ 1000000) (hs : smallT L 1000000000) :
    GivesE Tryz.prog 102 #[v, .int .i64 a, .int .i64 m, .int .i64 k] B w0 H (fun v' H' => ∃ L' : LT, valsT L' = insT (a, m) k (valsT L) ∧ It.row v' 50 1 (L'.map (·.1)) ∈ H' ∧ inT L' H' ∧ ∀ x ∈ H, x ∈ H') := by
  have h := sputS_gives (B := B) (w0 := w0) (H := H) L a m k hk hT hv hL hl hkb hs
  unfold GivesE at h ⊢
  intro w hw
  refine (h w hw).mono ?_
  rintro e w' ⟨v', H', rfl, ⟨L', H2, h1, rfl, h2, h3⟩, hh⟩
  exact ⟨_, _, rfl, ⟨L', h1, m0, h2.mono fun x hx => mS hx, fun x hx => mS (h3 x hx)⟩, hh⟩
end Go.Proofs.YtmbbcmebdefggaaGreatDoor
namespace Go.Proofs.YtmbbcmebdefggaaGreatDoor
open Go Go.RowKit SL
/-- States of a grade, the rank of a grade, the blocked number. -/
noncomputable def cN (n : Nat) (X O : List Nat) (g : GrB) : Nat := ((stB n).filter (selG n X O g.1 g.2)).length
noncomputable def rN (n : Nat) (X O : List Nat) (g : GrB) : Nat := rkN n X O ((stB n).filter (selG n X O g.1 g.2))
noncomputable def hN (n : Nat) (X O : List Nat) (g : GrB) : Int := (cN n X O g : Int) - rN n X O g - rN n X O (g.1, g.2 + 1)
theorem cN_le {n : Nat} (h6 : n ≤ 6) (X O : List Nat) (g : GrB) : cN n X O g ≤ 720 := Nat.le_trans (List.length_filter_le _ _) (stB_720 h6)
theorem mem_sel {n : Nat} {X O : List Nat} (g : GrB) (x : StB) : x ∈ (stB n).filter (selG n X O g.1 g.2) ↔ x ∈ stB n ∧ grP n X O x = g := by
  rw [List.mem_filter]
  unfold selG
  rw [decide_eq_true_iff]
  exact Iff.rfl
theorem rN_bg {n : Nat} {X O : List Nat} (g0 : okG (n : Int) X O) (h8 : n ≤ 8) (g : GrB) : rN n X O g = dm (Bg (stB n) (grP n X O) (op n (marks n X O) (stB n) []) (sh g 0 (-1))) := by
  unfold rN rkN
  congr 1
  funext v
  refine propext ?_
  rw [Bg_spn (okG.grd g0) (stB_all h8) (S := (stB n).filter (selG n X O g.1 g.2)) (fun x => by rw [mem_sel, sh_sh, show (0 : Int) + 0 = 0 from rfl, show (-1 : Int) + 1 = 0 from rfl, sh_0])]
theorem cN_dm {n : Nat} {X O : List Nat} (h8 : n ≤ 8) (g : GrB) : dm (Cg (stB n) (grP n X O) g) = cN n X O g :=
  states_dm (stB_all h8) ((stB_asc h8).nodup.filter _) fun x => mem_sel g x
theorem rN_le {n : Nat} {X O : List Nat} (g0 : okG (n : Int) X O) (h6 : n ≤ 6) (g : GrB) : rN n X O g ≤ 720 := by
  have g' := okG.grd g0
  have hL := stB_all (n := n) (by omega)
  have hd := lin0 g' hL
  rw [rN_bg g0 (by omega)]
  refine Nat.le_trans (dm_mono (Bg.spc hd _) (Cg.spc _ _ _) (fun v hv => hv.spp) fun v hv => Bg.cg hd hv) ?_
  rw [cN_dm (by omega)]
  exact cN_le h6 X O _
theorem rkN_nil (n : Nat) (X O : List Nat) : rkN n X O [] = 0 := rkN_is (B := []) ⟨fun b hb => (by cases hb), fun b hb => (by cases hb), List.Pairwise.nil⟩ fun v => Iff.rfl
theorem rN_zero {n : Nat} {X O : List Nat} {g : GrB} (h : cN n X O g = 0) : rN n X O g = 0 := by
  unfold rN
  rw [List.eq_nil_of_length_eq_zero h, rkN_nil]
theorem insT_len (g : GrB) (k : Int) : ∀ T : TB, (insT g k T).length ≤ T.length + 1
  | [] => Nat.le_refl _
  | e :: T => by
    have := insT_len g k T
    unfold insT
    split
    · rw [List.length_cons, List.length_cons]; omega
    · split
      · split
        · rw [List.length_cons]; omega
        · rw [List.length_cons, List.length_cons]; omega
      · rw [List.length_cons]; omega
theorem small_of {L : LT} (h : Tab (valsT L)) {K : Int} (hb : ∀ g, -K ≤ vT (valsT L) g ∧ vT (valsT L) g ≤ K) : smallT L K := fun p hp => by
  have h1 := ((h.mem p.2).1 (List.mem_map.2 ⟨p, hp, rfl⟩)).1
  have := hb p.2.1
  rw [h1] at this
  exact this
/-- How many states have a grade. -/
def cnG (n : Nat) (X O : List Nat) (S : List StB) (g : GrB) : Int := ((S.filter (selG n X O g.1 g.2)).length : Nat)
theorem cnG_snoc (n : Nat) (X O : List Nat) (S : List StB) (x : StB) (g : GrB) : cnG n X O (S ++ [x]) g = cnG n X O S g + if g = grd n X O x then 1 else 0 := by
  unfold cnG
  rw [List.filter_append, List.length_append]
  by_cases h : g = grd n X O x
  · rw [if_pos h, List.filter_cons_of_pos (show selG n X O g.1 g.2 x = true from decide_eq_true h.symm)]
    simp
  · rw [if_neg h, List.filter_cons_of_neg (show ¬ selG n X O g.1 g.2 x = true from fun k => h (of_decide_eq_true k).symm)]
    simp
theorem cnG_bd {n : Nat} (h6 : n ≤ 6) (X O : List Nat) (k : Nat) (g : GrB) : -1000 ≤ cnG n X O ((stB n).take k) g ∧ cnG n X O ((stB n).take k) g ≤ 1000 := by
  unfold cnG
  have h1 : (((stB n).take k).filter (selG n X O g.1 g.2)).length ≤ ((stB n).take k).length := List.length_filter_le _ _
  have h2 : ((stB n).take k).length ≤ (stB n).length := by rw [List.length_take]; omega
  have := stB_720 h6
  omega
/-- The table while the ranks are taken away. -/
noncomputable def bT (n : Nat) (X O : List Nat) (G : List GrB) (q : GrB) : Int := (cN n X O q : Int) - (if q ∈ G then (rN n X O q : Int) else 0) - (if (q.1, q.2 + 1) ∈ G then (rN n X O (q.1, q.2 + 1) : Int) else 0)
theorem bT_snoc {n : Nat} {X O : List Nat} {G : List GrB} {g : GrB} (hg : g ∉ G) (q : GrB) : bT n X O (G ++ [g]) q = bT n X O G q + (if q = g then -(rN n X O g : Int) else 0) + (if q = (g.1, g.2 - 1) then -(rN n X O g : Int) else 0) := by
  have key : ∀ p : GrB, (if p ∈ G ++ [g] then (rN n X O p : Int) else 0) = (if p ∈ G then (rN n X O p : Int) else 0) + if p = g then (rN n X O g : Int) else 0 := fun p => by
    by_cases h : p = g
    · subst h
      rw [if_pos (List.mem_append.2 (.inr (List.mem_singleton.2 rfl))), if_neg hg, if_pos rfl, Int.zero_add]
    · have : p ∈ G ++ [g] ↔ p ∈ G := by rw [List.mem_append, List.mem_singleton]; exact ⟨fun k => k.resolve_right h, .inl⟩
      rw [if_neg h, Int.add_zero]
      by_cases k : p ∈ G
      · rw [if_pos k, if_pos (this.2 k)]
      · rw [if_neg k, if_neg fun k2 => k (this.1 k2)]
  have e2 : ((q.1, q.2 + 1) : GrB) = g ↔ q = (g.1, g.2 - 1) := by
    constructor
    · intro h; rw [← h]; exact Prod.ext rfl (by show q.2 = q.2 + 1 - 1; omega)
    · intro h; rw [h]; exact Prod.ext rfl (by show g.2 - 1 + 1 = g.2; omega)
  unfold bT
  rw [key, key]
  by_cases h1 : q = g <;> by_cases h2 : q = (g.1, g.2 - 1)
  · rw [if_pos h1, if_pos h1, if_pos (e2.2 h2), if_pos h2]; omega
  · rw [if_pos h1, if_pos h1, if_neg (fun k => h2 (e2.1 k)), if_neg h2]; omega
  · rw [if_neg h1, if_neg h1, if_pos (e2.2 h2), if_pos h2]; omega
  · rw [if_neg h1, if_neg h1, if_neg (fun k => h2 (e2.1 k)), if_neg h2]; omega
theorem bT_bd {n : Nat} {X O : List Nat} (g0 : okG (n : Int) X O) (h6 : n ≤ 6) (G : List GrB) (q : GrB) : -2000 ≤ bT n X O G q ∧ bT n X O G q ≤ 2000 := by
  have h1 := cN_le h6 X O q
  have h2 := rN_le g0 h6 q
  have h3 := rN_le g0 h6 (q.1, q.2 + 1)
  unfold bT
  constructor <;> split <;> split <;> omega
theorem bT_all {n : Nat} {X O : List Nat} {G : List GrB} (h : ∀ q, q ∉ G → cN n X O q = 0) (q : GrB) : bT n X O G q = hN n X O q := by
  have key : ∀ p : GrB, (if p ∈ G then (rN n X O p : Int) else 0) = rN n X O p := fun p => by
    by_cases k : p ∈ G
    · rw [if_pos k]
    · rw [if_neg k, rN_zero (h p k)]; rfl
  unfold bT hN
  rw [key, key]
set_option maxRecDepth 100000 in
theorem sblocked_gives {B : Nat} {w0 : World} {H : Hp} (n : Nat) (X O : List Nat) (bX : isB X) (bO : isB O) (h6 : n ≤ 6) (g0 : okG (n : Int) X O) :
    GivesE Tryz.prog 49 #[.agg (gv (n : Int) X O).toArray] B w0 H (fun v' H' => ∃ L : LT, Tab (valsT L) ∧ (∀ g, vT (valsT L) g = hN n X O g) ∧ L.length ≤ 10000 ∧ It.row v' 50 1 (L.map (·.1)) ∈ H' ∧ inT L H' ∧ ∀ x ∈ H, x ∈ H') := by
  have ug := gv_len (n := (n : Int)) bX.1 bO.1
  have uO : (u8s O).length = 8 := (u8s_len O).trans bO.1
  have hS := stB_720 h6
  have lS := fl_len encS_len (stB n)
  refine givesE_of (args := [.agg (gv (n : Int) X O).toArray]) [(0, .agg (gv (n : Int) X O).toArray)] Tryz.func49 rfl Tryz.ntmps49 rfl (argsF_cons rfl argsF_nil) ?_
  repeat' (first | (apply JcE; exact rfl; exact rfl; exact rfl; infer_instance; (exact lall_gives n (by omega)); (intro v4 H' hV; subst hV)) | (apply Jq_assign; exact rfl; exact rfl) | (apply Jq_load; exact rfl; exact rfl; (exact mb); (exact rfl)) | (apply Jq_fieldAddr; exact rfl; exact rfl) | (apply J_box; exact rfl; exact rfl; exact rfl; (intro _)) | (apply J_lit0; exact rfl; (intro _)) | refine thenQ_normal ?_ | refine JC_seq ?_ | refine JC_region ?_ | refine J_nil ?_ | refine JC_block ?_)
  rename_i b1 b3
  refine JC_loop (X := Nat × Value × LT × Hp) (fun p => p.1 ≤ (stB n).length ∧ Tab (valsT p.2.2.1) ∧ (∀ g, vT (valsT p.2.2.1) g = cnG n X O ((stB n).take p.1) g) ∧ p.2.2.1.length ≤ p.1 ∧ It.row p.2.1 50 1 (p.2.2.1.map (·.1)) ∈ p.2.2.2 ∧ inT p.2.2.1 p.2.2.2 ∧ (∀ x ∈ H, x ∈ p.2.2.2) ∧ It.blk b1 (gv (n : Int) X O) 28 ∈ p.2.2.2 ∧ It.row v4 72 8 ((stB n).flatMap encS) ∈ p.2.2.2)
    (fun p => [(5, .int .i64 (p.1 : Int)), (4, v4), (3, p.2.1), (1, .pointer (some ⟨b1, 0, none⟩))]) (fun p => p.2.2.2) (fun p => (stB n).length - p.1) (0, .slice (some ⟨b3, 0, none⟩) 0 0, [], .row v4 72 8 ((stB n).flatMap encS) :: .row (.slice (some ⟨b3, 0, none⟩) 0 0) 50 1 [] :: .blk b1 (gv (n : Int) X O) 28 :: H) ⟨Nat.zero_le _, ⟨List.Pairwise.nil, fun e he => absurd he List.not_mem_nil⟩, fun g => rfl, Nat.le_refl _, mS m0, fun p hp => absurd hp List.not_mem_nil, fun x hx => mS (mS (mS hx)), mS (mS m0), m0⟩ ?_ ?_
  · dsimp only
    (refine entP (ent ?_ (List.nil_sublist _)) ?_; (repeat refine fr_cons rfl ?_); exact fr_nil; (repeat (exact sp_refl)))
  · rintro ⟨k, v3, L, Hx⟩ ⟨hk, hTab, hval, hlen, hv3, hin, hsub, hb1, hr4⟩
    dsimp only at hk hTab hval hlen hv3 hin hsub hb1 hr4 ⊢
    have i1 : MB b1 Hx (gv (n : Int) X O) 28 := ⟨hb1⟩
    have i4 : RB v4 Hx 72 8 ((stB n).flatMap encS) := ⟨hr4⟩
    have i3 : RB v3 Hx 50 1 (L.map (·.1)) := ⟨hv3⟩
    have l3 : (L.map (·.1)).length = L.length := List.length_map _
    by_cases hlt : k < (stB n).length
    · obtain ⟨x, hx⟩ := get_in hlt
      have ux := encS_len x
      have hgx := fl_at encS_len hx
      have htk : (stB n).take (k + 1) = (stB n).take k ++ [x] := by rw [List.take_add_one, hx]; rfl
      have hsm : smallT L 1000000000 := small_of hTab fun g => by rw [hval]; have := cnG_bd h6 X O k g; omega
      have hput := fun (H2 : Hp) (h1 : It.row v3 50 1 (L.map (·.1)) ∈ H2) (h2 : inT L H2) => sput_gives (B := B) (w0 := w0) (H := H2) L (grd n X O x).1 (grd n X O x).2 1 (by decide) hTab h1 h2 (by omega) (by decide) hsm
      have hnv : ∀ L' : LT, valsT L' = insT ((grd n X O x).1, (grd n X O x).2) 1 (valsT L) → Tab (valsT L') ∧ (∀ g, vT (valsT L') g = cnG n X O ((stB n).take (k + 1)) g) ∧ L'.length ≤ k + 1 := fun L' h => by
        refine ⟨by rw [h]; exact insT_tab (by decide) hTab, fun g => by rw [h, insT_val hTab, hval, htk, cnG_snoc], ?_⟩
        have h1 := congrArg List.length h
        have h2 := insT_len ((grd n X O x).1, (grd n X O x).2) 1 (valsT L)
        unfold valsT at h1 h2
        rw [List.length_map] at h1 h2
        omega
      repeat' (first | (apply Jq_move; exact rfl; exact rfl) | (apply Jq_cmp; exact rfl; exact rfl; exact rfl; exact rfl) | (apply Jq_lenRs; exact rfl; exact rfl; (exact rb); exact lS; decide) | refine thenQ_normal ?_ | refine JC_seq ?_ | refine JC_region ?_ | refine J_nil ?_ | refine JC_block ?_ | refine JC_skip ?_ | (apply JC_dec_true; exact rfl; omega))
      refine JC_any (m := 17) rfl [.blk b1 (gv (n : Int) X O) 28, .row v4 72 8 ((stB n).flatMap encS)] mixed (by ((repeat (apply sub_cons; ((focus ((with_reducible (repeat (assumption))); done))))); exact sub_nil)) ?_
      (apply JF_q 0; exact rfl; kernel_rfl; exact rfl; (intro E hE; (apply q_move; exact rfl)))
      (apply JF_q 1; exact rfl; kernel_rfl; exact rfl; (intro E hE; (apply q_loadW; exact rfl; (refine hE _ ?_; exact mb); (omega))))
      (apply JF_q 2; exact rfl; kernel_rfl; exact rfl; (intro E hE; (apply q_move; exact rfl)))
      (apply JF_q 3; exact rfl; kernel_rfl; exact rfl; (intro E hE; (apply q_move; exact rfl)))
      (apply JF_q 4; exact rfl; kernel_rfl; exact rfl; (intro E hE; (apply q_indexRs; exact rfl; exact rfl; (refine hE _ ?_; exact rb); omega)))
      (apply JF_q 5; exact rfl; kernel_rfl; exact rfl; (intro E hE; (apply q_loadRA; exact rfl; (refine hE _ ?_; exact rb); (exact hgx); (omega); decide)))
      (apply JF_q 6; exact rfl; kernel_rfl; exact rfl; (intro E hE; (apply q_callE; exact rfl; exact rfl; infer_instance; ((intro w hw); exact alex_gives n X O x bX bO (by omega) w))))
      (apply JF_q 7; exact rfl; kernel_rfl; exact rfl; (intro E hE; (apply q_loadW; exact rfl; (refine hE _ ?_; exact mb); (omega))))
      (apply JF_q 8; exact rfl; kernel_rfl; exact rfl; (intro E hE; (apply q_move; exact rfl)))
      (apply JF_q 9; exact rfl; kernel_rfl; exact rfl; (intro E hE; (apply q_move; exact rfl)))
      (apply JF_q 10; exact rfl; kernel_rfl; exact rfl; (intro E hE; (apply q_indexRs; exact rfl; exact rfl; (refine hE _ ?_; exact rb); omega)))
      (apply JF_q 11; exact rfl; kernel_rfl; exact rfl; (intro E hE; (apply q_loadRA; exact rfl; (refine hE _ ?_; exact rb); (exact hgx); (omega); decide)))
      (apply JF_q 12; exact rfl; kernel_rfl; exact rfl; (intro E hE; (apply q_fieldAddr; exact rfl)))
      (apply JF_q 13; exact rfl; kernel_rfl; exact rfl; (intro E hE; (apply q_loadA; exact rfl; (refine hE _ ?_; exact mb); (exact gv_arrO bX.1 bO.1); (omega))))
      (apply JF_q 14; exact rfl; kernel_rfl; exact rfl; (intro E hE; (apply q_callE; exact rfl; exact rfl; infer_instance; ((intro w hw); exact l05Maslov_gives n X O x.1 O bX bO x.2 bO (by omega) w))))
      (apply JF_all [15]; kernel_rfl)
      (apply JFs_cons; exact rfl)
      · (apply JcE; exact rfl; exact rfl; exact rfl; infer_instance; (exact hput _ hv3 hin); (intro v' H' hV; obtain ⟨L', hL', hv', hin', hs'⟩ := hV))
        (apply J_nil; apply JF_end; ((repeat (apply sub_cons; (first | exact hs' _ hb1 | exact hs' _ hr4))); exact sub_nil))
        (apply JF_q 16; exact rfl; kernel_rfl; exact rfl; (intro E hE; (apply q_assign; exact rfl)))
        (apply JF_done; kernel_rfl)
        ((repeat' (first | (apply Jq_move; exact rfl; exact rfl) | (apply Jq_assign; exact rfl; exact rfl) | (apply Jq_add; exact rfl; exact rfl; exact rfl; omega) | refine thenQ_normal ?_ | refine inBlockQ_normal ?_ | refine JC_region ?_ | refine J_nil ?_)); obtain ⟨q1, q2, q3⟩ := hnv L' hL'; refine ⟨(k + 1, v', L', H'), ⟨(by dsimp only; omega), q1, q2, q3, hv', hin', (fun z hz => hs' _ (hsub _ hz)), hs' _ hb1, hs' _ hr4⟩, (by dsimp only; omega), ?_⟩; dsimp only; (refine ent ?_ ?_; (repeat refine fr_cons rfl ?_); exact fr_nil; (repeat (exact List.Sublist.refl _))))
      exact JFs_nil
    · obtain rfl : k = (stB n).length := by omega
      rw [List.take_length] at hval
      have hL7 : L.length ≤ 720 := by omega
      have hval' : ∀ g, vT (valsT L) g = (cN n X O g : Int) := hval
      repeat' (first | (apply Jq_move; exact rfl; exact rfl) | (apply Jq_assign; exact rfl; exact rfl) | (apply Jq_cmp; exact rfl; exact rfl; exact rfl; exact rfl) | (apply Jq_lenRs; exact rfl; exact rfl; (exact rb); exact lS; decide) | refine thenQ_normal ?_ | refine thenQ_exit ?_ | refine inBlockQ_here ?_ | refine JC_seq ?_ | refine JC_region ?_ | refine J_nil ?_ | refine JC_block ?_ | refine JC_exit ?_ | (apply JC_dec_false; exact rfl; omega))
      clear i1 i4 i3
      have hnd : (L.map (·.2.1)).Nodup := by
        have h1 := hTab.srt
        rw [List.nodup_iff_pairwise_ne, List.pairwise_map]
        refine (List.pairwise_map.1 h1).imp fun {p q} h k => ?_
        exact gLt.irr q.2.1 (by have h' : gLt p.2.1 q.2.1 := h; rwa [k] at h')
      refine JC_loop (X := Nat × Value × LT × Hp) (fun p => p.1 ≤ L.length ∧ Tab (valsT p.2.2.1) ∧ (∀ g, vT (valsT p.2.2.1) g = bT n X O ((L.map (·.2.1)).take p.1) g) ∧ p.2.2.1.length ≤ 720 + 2 * p.1 ∧ It.row p.2.1 50 1 (p.2.2.1.map (·.1)) ∈ p.2.2.2 ∧ inT p.2.2.1 p.2.2.2 ∧ (∀ x ∈ Hx, x ∈ p.2.2.2))
        (fun p => [(7, .int .i64 (p.1 : Int)), (6, p.2.1), (3, v3), (1, .pointer (some ⟨b1, 0, none⟩))]) (fun p => p.2.2.2) (fun p => L.length - p.1) (0, v3, L, Hx) ⟨Nat.zero_le _, hTab, fun g => by rw [hval', List.take_zero]; unfold bT; rw [if_neg List.not_mem_nil, if_neg List.not_mem_nil]; omega, by dsimp only; omega, hv3, hin, fun _ h => h⟩ ?_ ?_
      · dsimp only
        (refine ent ?_ ?_; (repeat refine fr_cons rfl ?_); exact fr_nil; (repeat (exact List.Sublist.refl _)))
      · rintro ⟨i, v6, L2, Hy⟩ ⟨hi, hTab2, hval2, hlen2, hv6, hin2, hsub2⟩
        dsimp only at hi hTab2 hval2 hlen2 hv6 hin2 hsub2 ⊢
        have hb1y : It.blk b1 (gv (n : Int) X O) 28 ∈ Hy := hsub2 _ hb1
        have i1 : MB b1 Hy (gv (n : Int) X O) 28 := ⟨hb1y⟩
        have i3 : RB v3 Hy 50 1 (L.map (·.1)) := ⟨hsub2 _ hv3⟩
        by_cases hli : i < L.length
        · obtain ⟨⟨vp, ⟨⟨a, m⟩, c⟩⟩, hp⟩ : ∃ p, L[i]? = some p := ⟨_, List.getElem?_eq_getElem hli⟩
          have hpm := List.mem_of_getElem? hp
          have g1 : (L.map (·.1))[i]? = some vp := by rw [List.getElem?_map, hp]; rfl
          have hrow := hsub2 _ (hin _ hpm)
          dsimp only at hrow
          have ip : RB vp Hy 2 1 [.int .i64 a, .int .i64 m, .int .i64 c] := ⟨hrow⟩
          have le : [Value.int .i64 a, Value.int .i64 m, Value.int .i64 c].length = 3 := rfl
          have gk : (L.map (·.2.1))[i]? = some (a, m) := by rw [List.getElem?_map, hp]; rfl
          have htk : (L.map (·.2.1)).take (i + 1) = (L.map (·.2.1)).take i ++ [(a, m)] := by rw [List.take_add_one, gk]; rfl
          have hno : ((a, m) : GrB) ∉ (L.map (·.2.1)).take i := fun hm => by
            have hnd2 : ((L.map (·.2.1)).take (i + 1)).Nodup := hnd.sublist (List.take_sublist _ _)
            rw [htk, List.nodup_append] at hnd2
            exact hnd2.2.2 _ hm _ List.mem_cons_self rfl
          have hmr : -127 ≤ m ∧ m ≤ 129 := by
            have h1 := (hTab.mem ((a, m), c)).1 (List.mem_map.2 ⟨_, hpm, rfl⟩)
            have h2 : cN n X O (a, m) ≠ 0 := fun k => h1.2 (by rw [← h1.1, hval', k]; rfl)
            have h6' : (stB n).filter (selG n X O a m) ≠ [] := fun k => h2 (by show ((stB n).filter (selG n X O a m)).length = 0; rw [k]; rfl)
            obtain ⟨x, hx⟩ := List.exists_mem_of_ne_nil _ h6'
            have h3 : grd n X O x = (a, m) := of_decide_eq_true (List.mem_filter.1 hx).2
            have h4 := mX_bd (n := n) (by omega) x.1 O
            have h5 : mX n x.1 O = m := congrArg Prod.snd h3
            rw [h5] at h4
            exact h4
          have hrk := rN_le g0 h6 (a, m)
          have hnx := bT_snoc (n := n) (X := X) (O := O) hno
          have hsm2 : smallT L2 1000000 := small_of hTab2 fun g => by rw [hval2]; have := bT_bd g0 h6 ((L.map (·.2.1)).take i) g; omega
          have c1 := fun (H : Hp) => sgrade_gives (B := B) (w0 := w0) (H := H) n X O a m bX bO h6
          have p1 : ∀ x ∈ (stB n).filter (selG n X O a m), isPerm x.1 n := fun x hx => stB_perm (by omega) x (List.mem_filter.1 hx).1
          have lc : ((stB n).filter (selG n X O a m)).length ≤ 46656 := Nat.le_trans (List.length_filter_le _ _) (by omega)
          have c2 := fun (H : Hp) (v : Value) hv => srank_gives (B := B) (w0 := w0) (H := H) (v := v) n X O ((stB n).filter (selG n X O a m)) bX bO h6 hv p1 lc
          change ∀ (H : Hp) (v : Value), _ → GivesE _ _ _ _ _ _ (fun v' H' => v' = .int .i64 (rN n X O (a, m) : Int) ∧ _) at c2
          generalize (stB n).filter (selG n X O a m) = S at *
          generalize rN n X O (a, m) = r at *
          repeat' (first | (apply Jq_move; exact rfl; exact rfl) | (apply Jq_cmp; exact rfl; exact rfl; exact rfl; exact rfl) | (apply Jq_lenR; exact rfl; exact rfl; (exact rb)) | refine thenQ_normal ?_ | refine JC_seq ?_ | refine JC_region ?_ | refine J_nil ?_ | refine JC_block ?_ | refine JC_skip ?_ | (apply JC_dec_true; exact rfl; omega))
          refine JC_any (m := 14) rfl [.row v3 50 1 (L.map (·.1)), .row vp 2 1 [.int .i64 a, .int .i64 m, .int .i64 c]] mixed (by ((repeat (apply sub_cons; (first | exact hsub2 _ hv3 | exact hrow))); exact sub_nil)) ?_
          (apply JF_q 0; exact rfl; kernel_rfl; exact rfl; (intro E hE; (apply q_move; exact rfl)))
          (apply JF_q 1; exact rfl; kernel_rfl; exact rfl; (intro E hE; (apply q_move; exact rfl)))
          (apply JF_q 2; exact rfl; kernel_rfl; exact rfl; (intro E hE; (apply q_indexRN; exact rfl; exact rfl; (refine hE _ ?_; exact rb); omega)))
          (apply JF_q 3; exact rfl; kernel_rfl; exact rfl; (intro E hE; (apply q_loadR; exact rfl; (refine hE _ ?_; exact rb); (exact g1))))
          (apply JF_q 4; exact rfl; kernel_rfl; exact rfl; (intro E hE; (apply q_indexRN (i := 0); exact rfl; exact rfl; (refine hE _ ?_; exact rb); omega)))
          (apply JF_q 5; exact rfl; kernel_rfl; exact rfl; (intro E hE; (apply q_loadR; exact rfl; (refine hE _ ?_; exact rb); (exact rfl))))
          (apply JF_q 6; exact rfl; kernel_rfl; exact rfl; (intro E hE; (apply q_move; exact rfl)))
          (apply JF_q 7; exact rfl; kernel_rfl; exact rfl; (intro E hE; (apply q_move; exact rfl)))
          (apply JF_q 8; exact rfl; kernel_rfl; exact rfl; (intro E hE; (apply q_indexRN; exact rfl; exact rfl; (refine hE _ ?_; exact rb); omega)))
          (apply JF_q 9; exact rfl; kernel_rfl; exact rfl; (intro E hE; (apply q_loadR; exact rfl; (refine hE _ ?_; exact rb); (exact g1))))
          (apply JF_q 10; exact rfl; kernel_rfl; exact rfl; (intro E hE; (apply q_indexRN (i := 1); exact rfl; exact rfl; (refine hE _ ?_; exact rb); omega)))
          (apply JF_q 11; exact rfl; kernel_rfl; exact rfl; (intro E hE; (apply q_loadR; exact rfl; (refine hE _ ?_; exact rb); (exact rfl))))
          (apply JF_q 12; exact rfl; kernel_rfl; exact rfl; (intro E hE; (apply q_assign; exact rfl)))
          (apply JF_q 13; exact rfl; kernel_rfl; exact rfl; (intro E hE; (apply q_assign; exact rfl)))
          (apply JF_done; kernel_rfl)
          skip
          repeat' (first | refine thenQ_normal ?_ | refine JC_seq ?_)
          refine JC_cutT (Y := Hp) (fun H2 => ∀ x ∈ Hy, x ∈ H2) (fun _ => [(10, .int .i64 (r : Int)), (9, .int .i64 m), (8, .int .i64 a), (7, .int .i64 (i : Int)), (6, v6), (3, v3), (1, .pointer (some ⟨b1, 0, none⟩))]) (fun H2 => H2) ?_ ?_
          ·
            refine JC_any (m := 7) rfl [.blk b1 (gv (n : Int) X O) 28] mixed (by ((repeat (apply sub_cons; ((focus ((with_reducible (repeat (assumption))); done))))); exact sub_nil)) ?_
            (apply JF_q 0; exact rfl; kernel_rfl; exact rfl; (intro E hE; (apply q_loadW; exact rfl; (refine hE _ ?_; exact mb); (omega))))
            (apply JF_q 1; exact rfl; kernel_rfl; exact rfl; (intro E hE; (apply q_loadW; exact rfl; (refine hE _ ?_; exact mb); (omega))))
            (apply JF_q 2; exact rfl; kernel_rfl; exact rfl; (intro E hE; (apply q_move; exact rfl)))
            (apply JF_q 3; exact rfl; kernel_rfl; exact rfl; (intro E hE; (apply q_move; exact rfl)))
            (apply JF_all [4]; kernel_rfl)
            (apply JFs_cons; exact rfl)
            · (apply JcE; exact rfl; exact rfl; exact rfl; infer_instance; (exact c1 _); (intro v1 H1 hV; subst hV))
              (apply J_nil; apply JF_end; ((repeat (apply sub_cons; ((focus ((with_reducible (repeat (first | assumption | refine mS ?_))); done))))); exact sub_nil))
              (apply JF_all [5]; kernel_rfl)
              (apply JFs_cons; exact rfl)
              · (apply JcE; exact rfl; exact rfl; exact rfl; infer_instance; (exact c2 _ _ m0); (intro v2 H2 hV; obtain ⟨rfl, hs3⟩ := hV))
                (apply J_nil; apply JF_end; ((repeat (apply sub_cons; (exact hs3 _ (mS hb1y)))); exact sub_nil))
                (apply JF_q 6; exact rfl; kernel_rfl; exact rfl; (intro E hE; (apply q_assign; exact rfl)))
                (apply JF_done; kernel_rfl)
                (apply thenQ_normal; refine ⟨H2, fun x hx => hs3 _ (mS hx), ?_⟩; (refine ent ?_ ?_; (repeat refine fr_cons rfl ?_); exact fr_nil; (repeat (exact List.Sublist.refl _))))
              exact JFs_nil
            exact JFs_nil
          intro H2 hs3
          have hv6' := hs3 _ hv6
          have hin2' : inT L2 H2 := hin2.mono hs3
          have hsub2' : ∀ x ∈ Hx, x ∈ H2 := fun x hx => hs3 _ (hsub2 x hx)
          by_cases hr0 : r = 0
          · have hbt : ∀ q, bT n X O ((L.map (·.2.1)).take (i + 1)) q = bT n X O ((L.map (·.2.1)).take i) q := fun q => by
              rw [htk, hnx, hr0]
              split <;> split <;> simp
            repeat' (first | (apply Jq_move; exact rfl; exact rfl) | (apply Jq_assign; exact rfl; exact rfl) | (apply Jq_cmp; exact rfl; exact rfl; exact rfl; exact rfl) | (apply Jq_add; exact rfl; exact rfl; exact rfl; omega) | refine thenQ_normal ?_ | refine inBlockQ_normal ?_ | refine JC_seq ?_ | refine JC_region ?_ | refine J_nil ?_ | refine JC_skip ?_ | (apply JC_dec_false; exact rfl; omega))
            all_goals first
              | (exfalso; omega)
              | (refine ⟨(i + 1, v6, L2, H2), ⟨by dsimp only; omega, hTab2, fun g => by dsimp only; rw [hbt, hval2], by dsimp only; omega, hv6', hin2', hsub2'⟩, by dsimp only; omega, ?_⟩; dsimp only; (refine ent ?_ ?_; (repeat refine fr_cons rfl ?_); exact fr_nil; (repeat (exact List.Sublist.refl _))))
          · have hk : -(r : Int) ≠ 0 := by omega
            have hput1 := fun (H : Hp) h1 h2 => sput_gives (B := B) (w0 := w0) (H := H) (v := v6) L2 a m (-(r : Int)) hk hTab2 h1 h2 (by omega) (by omega) fun p hp => by have := hsm2 p hp; omega
            have hnv1 : ∀ L3 : LT, valsT L3 = insT (a, m) (-(r : Int)) (valsT L2) → Tab (valsT L3) ∧ (∀ q, vT (valsT L3) q = vT (valsT L2) q + if q = (a, m) then -(r : Int) else 0) ∧ L3.length ≤ L2.length + 1 ∧ smallT L3 1000000000 := fun L3 h => by
              have hv : ∀ q, vT (valsT L3) q = vT (valsT L2) q + if q = (a, m) then -(r : Int) else 0 := fun q => by rw [h, insT_val hTab2]
              have ht : Tab (valsT L3) := by rw [h]; exact insT_tab hk hTab2
              refine ⟨ht, hv, ?_, small_of ht fun q => ?_⟩
              · have h1 := congrArg List.length h
                have h2 := insT_len (a, m) (-(r : Int)) (valsT L2)
                unfold valsT at h1 h2
                rw [List.length_map] at h1 h2
                omega
              · rw [hv, hval2]
                have := bT_bd g0 h6 ((L.map (·.2.1)).take i) q
                split <;> omega
            have hput2 := fun (L3 : LT) (h : valsT L3 = insT (a, m) (-(r : Int)) (valsT L2)) (H : Hp) (v : Value) h1 h2 => sput_gives (B := B) (w0 := w0) (H := H) (v := v) L3 a (m - 1) (-(r : Int)) hk (hnv1 L3 h).1 h1 h2 (by have := (hnv1 L3 h).2.2.1; omega) (by omega) (hnv1 L3 h).2.2.2
            have hnv2 : ∀ L3 L4 : LT, valsT L3 = insT (a, m) (-(r : Int)) (valsT L2) → valsT L4 = insT (a, m - 1) (-(r : Int)) (valsT L3) → Tab (valsT L4) ∧ (∀ q, vT (valsT L4) q = bT n X O ((L.map (·.2.1)).take (i + 1)) q) ∧ L4.length ≤ 720 + 2 * (i + 1) := fun L3 L4 h3 h4 => by
              obtain ⟨k1, k2, k3, _⟩ := hnv1 L3 h3
              refine ⟨by rw [h4]; exact insT_tab hk k1, fun q => by rw [h4, insT_val k1, k2, hval2, htk, hnx], ?_⟩
              have h1 := congrArg List.length h4
              have h2 := insT_len (a, m - 1) (-(r : Int)) (valsT L3)
              unfold valsT at h1 h2
              rw [List.length_map] at h1 h2
              omega
            repeat' (first | (apply JcE; exact rfl; exact rfl; exact rfl; infer_instance; (exact hput1 _ hv6' hin2'); (intro v7 H3 hV; obtain ⟨L3, hL3, hv7, hin3, hs4⟩ := hV)) | (apply JcE; exact rfl; exact rfl; exact rfl; infer_instance; (exact hput2 L3 hL3 _ _ hv7 hin3); (intro v8 H4 hV; obtain ⟨L4, hL4, hv8, hin4, hs5⟩ := hV)) | (apply Jq_move; exact rfl; exact rfl) | (apply Jq_assign; exact rfl; exact rfl) | (apply Jq_cmp; exact rfl; exact rfl; exact rfl; exact rfl) | (apply Jq_add; exact rfl; exact rfl; exact rfl; omega) | (apply Jq_sub; exact rfl; exact rfl; exact rfl; omega) | (apply Jq_neg; exact rfl; exact rfl; omega) | refine thenQ_normal ?_ | refine inBlockQ_normal ?_ | refine JC_seq ?_ | refine JC_region ?_ | refine J_nil ?_ | (apply JC_dec_true; exact rfl; omega))
            all_goals first
              | (exfalso; omega)
              | (obtain ⟨q1, q2, q3⟩ := hnv2 L3 L4 hL3 hL4; refine ⟨(i + 1, v8, L4, H4), ⟨by dsimp only; omega, q1, q2, q3, hv8, hin4, fun x hx => hs5 _ (hs4 _ (hsub2' x hx))⟩, by dsimp only; omega, ?_⟩; dsimp only; (refine ent ?_ ?_; (repeat refine fr_cons rfl ?_); exact fr_nil; (repeat (exact List.Sublist.refl _))))
        · obtain rfl : i = L.length := by omega
          have hlm : (L.map (·.2.1)).length = L.length := List.length_map _
          rw [← hlm, List.take_length] at hval2
          have hfin : ∀ g, vT (valsT L2) g = hN n X O g := fun g => (hval2 g).trans (bT_all (fun q hq => by
            have h1 := hval' q
            have h2 : vT (valsT L) q = 0 := by
              apply Classical.byContradiction
              intro h3
              exact hq (List.mem_map.2 (by
                have h4 := (hTab.mem (q, vT (valsT L) q)).2 ⟨rfl, h3⟩
                obtain ⟨p, hp, e⟩ := List.mem_map.1 h4
                exact ⟨p, hp, by rw [e]⟩))
            omega) g)
          repeat' (first | (apply Jq_move; exact rfl; exact rfl) | (apply Jq_assign; exact rfl; exact rfl) | (apply Jq_cmp; exact rfl; exact rfl; exact rfl; exact rfl) | (apply Jq_lenR; exact rfl; exact rfl; (exact rb)) | refine thenQ_normal ?_ | refine thenQ_exit ?_ | refine inBlockQ_here ?_ | refine JC_seq ?_ | refine JC_region ?_ | refine J_nil ?_ | refine JC_ret ?_ | refine JC_exit ?_ | (apply JC_dec_false; exact rfl; omega))
          refine e1 (H' := Hy) rfl rfl rfl ?_ ⟨L2, hTab2, hfin, by omega, hv6, hin2, fun x hx => hsub2 _ (hsub x hx)⟩
          (refine ent ?_ ?_; (repeat refine fr_cons rfl ?_); exact fr_nil; (repeat (exact List.Sublist.refl _)))
end Go.Proofs.YtmbbcmebdefggaaGreatDoor
namespace Go.Proofs.YtmbbcmebdefggaaGreatDoor
open Go Go.RowKit SL
/-- Keys met so far. -/
def metK {V : Type} (M : List (GrB × V)) (seen : List Nat) (q : GrB) : Prop := ∃ i ∈ seen, ∃ p, M[i]? = some p ∧ p.1 = q
theorem metK_snoc {V : Type} {M : List (GrB × V)} {seen : List Nat} {i : Nat} {p : GrB × V} (hp : M[i]? = some p) (q : GrB) : metK M (seen ++ [i]) q ↔ metK M seen q ∨ q = p.1 := by
  unfold metK
  constructor
  · rintro ⟨j, hj, r, hr, e⟩
    rcases List.mem_append.1 hj with hj | hj
    · exact .inl ⟨j, hj, r, hr, e⟩
    · rw [List.mem_singleton] at hj
      subst hj
      rw [hp] at hr
      cases hr
      exact .inr e.symm
  · rintro (⟨j, hj, r, hr, e⟩ | e)
    · exact ⟨j, List.mem_append.2 (.inl hj), r, hr, e⟩
    · exact ⟨i, List.mem_append.2 (.inr List.mem_cons_self), p, hp, e.symm⟩
theorem metK_all {V : Type} {M : List (GrB × V)} {seen : List Nat} (h : ∀ i, i < M.length → i ∈ seen) (q : GrB) : metK M seen q ↔ q ∈ M.map (·.1) := by
  unfold metK
  constructor
  · rintro ⟨i, _, p, hp, e⟩
    exact List.mem_map.2 ⟨p, List.mem_of_getElem? hp, e⟩
  · intro hq
    obtain ⟨p, hp, e⟩ := List.mem_map.1 hq
    obtain ⟨i, hi⟩ := List.getElem?_of_mem hp
    exact ⟨i, h i (List.getElem?_eq_some_iff.1 hi).1, p, hi, e⟩
open Classical in
/-- A map that has the numbers of the keys met. -/
def hasK {V : Type} (M : List (GrB × V)) (f : GrB → Int) (seen : List Nat) (R : TB) : Prop := (R.map (·.1)).Nodup ∧ (∀ q, vT R q = if metK M seen q then f q else 0)
theorem hasK.nil {V : Type} (M : List (GrB × V)) (f : GrB → Int) : hasK M f [] [] := ⟨List.nodup_nil, fun q => by
  rw [vT_nil, if_neg]
  rintro ⟨i, hi, _⟩
  cases hi⟩
theorem vT_put (R : TB) (k : GrB) (v : Int) (q : GrB) : vT (putM R k v) q = if q = k then v else vT R q := by
  unfold vT
  rw [lkM_put]
  by_cases h : q = k
  · rw [if_pos h, if_pos h]; rfl
  · rw [if_neg h, if_neg h]
theorem hasK.put {V : Type} {M : List (GrB × V)} {f : GrB → Int} {seen : List Nat} {R : TB} (h : hasK M f seen R) {i : Nat} {p : GrB × V} (hp : M[i]? = some p) : hasK M f (seen ++ [i]) (putM R p.1 (f p.1)) := ⟨putM_nodup h.1 _ _, fun q => by
  rw [vT_put, h.2]
  by_cases e : q = p.1
  · subst e
    rw [if_pos rfl, if_pos ((metK_snoc hp _).2 (.inr rfl))]
  · rw [if_neg e]
    by_cases k : metK M seen q
    · rw [if_pos k, if_pos ((metK_snoc hp _).2 (.inl k))]
    · rw [if_neg k, if_neg fun k2 => ((metK_snoc hp _).1 k2).elim k e]⟩
theorem hasK.skip {V : Type} {M : List (GrB × V)} {f : GrB → Int} {seen : List Nat} {R : TB} (h : hasK M f seen R) {i : Nat} {p : GrB × V} (hp : M[i]? = some p) (h0 : f p.1 = 0) : hasK M f (seen ++ [i]) R := ⟨h.1, fun q => by
  rw [h.2]
  by_cases e : q = p.1
  · subst e
    rw [h0]
    split <;> split <;> rfl
  · by_cases k : metK M seen q
    · rw [if_pos k, if_pos ((metK_snoc hp _).2 (.inl k))]
    · rw [if_neg k, if_neg fun k2 => ((metK_snoc hp _).1 k2).elim k e]⟩
theorem hasK.all {V : Type} {M : List (GrB × V)} {f : GrB → Int} {seen : List Nat} {R : TB} (h : hasK M f seen R) (ha : ∀ i, i < M.length → i ∈ seen) (hf : ∀ q, q ∉ M.map (·.1) → f q = 0) (q : GrB) : vT R q = f q := by
  rw [h.2]
  by_cases k : metK M seen q
  · rw [if_pos k]
  · rw [if_neg k, hf q fun k2 => k ((metK_all ha q).2 k2)]
theorem putM_nz {R : TB} (h : ∀ e ∈ R, e.2 ≠ 0) {k : GrB} {v : Int} (hv : v ≠ 0) : ∀ e ∈ putM R k v, e.2 ≠ 0 := fun e he => by
  unfold putM at he
  split at he
  · obtain ⟨p, hp, rfl⟩ := List.mem_map.1 he
    split
    · exact hv
    · exact h p hp
  · rcases List.mem_append.1 he with he | he
    · exact h e he
    · rw [List.mem_singleton.1 he]; exact hv
theorem grOK.out {n : Nat} {X O : List Nat} {M : GM} (h : grOK (grd n X O) (stB n) M) {q : GrB} (hq : q ∉ M.map (·.1)) : cN n X O q = 0 := by
  rcases h.look q with ⟨u, h1, _⟩ | ⟨_, h2⟩
  · exact absurd ((lkM_isSome M q).1 (by rw [h1]; rfl)) hq
  · unfold cN
    have : (stB n).filter (selG n X O q.1 q.2) = [] := h2
    rw [this]; rfl
theorem hN_out {n : Nat} {X O : List Nat} (g0 : okG (n : Int) X O) (h6 : n ≤ 6) {q : GrB} (hq : cN n X O q = 0) : hN n X O q = 0 := by
  have h1 := rN_zero hq
  have h2 : rN n X O (q.1, q.2 + 1) = 0 := by
    have g' := okG.grd g0
    have hL := stB_all (n := n) (by omega)
    have hd := lin0 g' hL
    have h3 : rN n X O (q.1, q.2 + 1) ≤ cN n X O q := by
      rw [rN_bg g0 (by omega), ← cN_dm (X := X) (O := O) (show n ≤ 8 by omega)]
      have e : sh (q.1, q.2 + 1) 0 (-1) = q := by unfold sh; exact Prod.ext (Int.add_zero _) (by show q.2 + 1 + -1 = q.2; omega)
      rw [e]
      exact dm_mono (Bg.spc hd _) (Cg.spc _ _ _) (fun v hv => hv.spp) fun v hv => Bg.cg hd hv
    omega
  unfold hN
  rw [h1, h2, hq]; rfl
set_option maxRecDepth 100000 in
theorem iblocked_gives {B : Nat} {w0 : World} {H : Hp} (n : Nat) (X O : List Nat) (bX : isB X) (bO : isB O) (h6 : n ≤ 6) (g0 : okG (n : Int) X O) (hT : tabI ∈ H) :
    GivesE Tryz.prog 54 #[.agg (gv (n : Int) X O).toArray] B w0 H (fun v' H' => ∃ b Tb, v' = .map (some b) ∧ (Tb.map (·.1)).Nodup ∧ (∀ e ∈ Tb, e.2 ≠ 0) ∧ (∀ g, vT Tb g = hN n X O g) ∧ H' = .obj b (mapO (encM grK zV Tb)) :: H) := by
  have ug := gv_len (n := (n : Int)) bX.1 bO.1
  have hS := stB_720 h6
  refine givesE_of (args := [.agg (gv (n : Int) X O).toArray]) [(0, .agg (gv (n : Int) X O).toArray)] Tryz.func54 rfl Tryz.ntmps54 rfl (argsF_cons rfl argsF_nil) ?_
  repeat' (first | (apply J_makeMap; exact rfl; (intro _)) | (apply JcE; exact rfl; exact rfl; exact rfl; infer_instance; (exact graded_gives n X O bX bO h6); (intro v' H' hV; obtain ⟨bm, M, T, rfl, hM, hTe, rfl⟩ := hV)) | (apply J_rangeT (eK := grK) (eV := vL); exact rfl; exact rfl; exact mo; (intro bi)) | (apply Jq_move; exact rfl; exact rfl) | (apply Jq_assign; exact rfl; exact rfl) | (apply Jq_loadW; exact rfl; exact rfl; (exact mb); (omega)) | (apply J_box; exact rfl; exact rfl; exact rfl; (intro _)) | refine thenQ_normal ?_ | refine JC_seq ?_ | refine JC_region ?_ | refine J_nil ?_ | refine JC_block ?_)
  rename_i b1 b4 b5
  have hTt : tabI ∈ T := by rw [hTe]; exact List.mem_append.2 (.inr (mS hT))
  have hrw : ∀ x ∈ rwS M, x ∈ T := fun x hx => by rw [hTe]; exact List.mem_append.2 (.inl hx)
  have hb1 : It.blk b1 (gv (n : Int) X O) 28 ∈ T := by rw [hTe]; exact List.mem_append.2 (.inr m0)
  have hsubT : List.Sublist H T := by rw [hTe]; exact List.sublist_append_of_sublist_right (List.sublist_cons_self _ _)
  clear hTe
  have i1 : MB b1 T (gv (n : Int) X O) 28 := ⟨hb1⟩
  have hnd := hM.1
  have hbl : ∀ y z : Int, Tryz.prog.built 108 [(0, .int .i64 y), (1, .int .i64 z)] = some (encGr (y, z)).toArray := fun y z => by kernel_rfl
  refine JC_cutB (Y := TB) (fun R => (R.map (·.1)).Nodup ∧ ∀ q, vT R q = rN n X O q) (fun _ => [(5, .map (some b5)), (4, .map (some b4)), (3, .map (some bm)), (1, .pointer (some ⟨b1, 0, none⟩))]) (fun R => .obj b4 (mapO (encM grK zV R)) :: .obj b5 (mapO []) :: .obj bm (mapO (encM grK vL M)) :: T) ?_ ?_
  · refine JC_loop (X := TB × List Nat) (fun p => p.2.Nodup ∧ (∀ i ∈ p.2, i < M.length) ∧ hasK M (fun q => rN n X O q) p.2 p.1) (fun p => [(15, .pointer (some ⟨bi, 0, none⟩)), (5, .map (some b5)), (4, .map (some b4)), (3, .map (some bm)), (1, .pointer (some ⟨b1, 0, none⟩))]) (fun p => .obj b4 (mapO (encM grK zV p.1)) :: .obj b5 (mapO []) :: .obj bi (itO bm M.length p.2) :: .obj bm (mapO (encM grK vL M)) :: T) (fun p => M.length - p.2.length) ([], []) ⟨List.nodup_nil, fun i hi => absurd hi List.not_mem_nil, hasK.nil _ _⟩ ?_ ?_
    · dsimp only [encM, List.map_nil]
      (refine entP (ent ?_ (List.nil_sublist _)) ?_; (repeat refine fr_cons rfl ?_); exact fr_nil; (repeat (first | exact sp_refl | (with_reducible apply sp1) | apply sp2)))
    · rintro ⟨R, seen⟩ ⟨hs1, hs2, hR⟩
      dsimp only at hs1 hs2 hR ⊢
      repeat' (first | refine J_nextT (eK := grK) (eV := vL) (m := M) rfl rfl inferInstance rfl mo hs2 (fun hall => ?_) (fun i p hi hns => ?_) | (apply Jq_entryT (eK := grK) (eV := vL) (m := M) (p := p); exact rfl; exact rfl; exact mo; exact mo; exact hi) | (apply J_sW; exact rfl; exact rfl; infer_instance; (exact rfl); (exact rfl); (exact ones_of rfl); infer_instance) | (apply Jq_ext20; exact rfl; exact rfl) | (apply Jq_extract; exact rfl; exact rfl; exact rfl) | (apply J_alloc; exact rfl; exact rfl; (intro _)) | refine thenQ_normal ?_ | refine thenQ_exit ?_ | refine inBlockQ_here ?_ | refine JC_seq ?_ | refine JC_region ?_ | refine J_nil ?_ | refine JC_block ?_ | refine JC_skip ?_ | refine JC_exit ?_ | (apply JC_if_true; exact rfl) | (apply JC_if_false; exact rfl))
      · refine ⟨R, ⟨hR.1, fun q => hR.all hall (fun q hq => by rw [rN_zero (hM.out hq)]; rfl) q⟩, ?_⟩
        (refine entP (ent ?_ (List.nil_sublist _)) ?_; (repeat refine fr_cons rfl ?_); exact fr_nil; (repeat (first | exact sp_end | (with_reducible apply sp0))))
      · have hin : ∀ t ∈ seen ++ [i], t < M.length := fun t ht => by
          rcases List.mem_append.1 ht with h | h
          · exact hs2 t h
          · rw [List.mem_singleton] at h
            subst h
            exact (List.getElem?_eq_some_iff.1 hi).1
        have hnn : (seen ++ [i]).Nodup := List.nodup_append.2 ⟨hs1, by simp, fun a ha b hb e => hns (by rw [List.mem_singleton] at hb; subst hb e; exact ha)⟩
        have hlt : seen.length < M.length := by
          have := List.Nodup.length_le_of_subset hnn (l₂ := List.range M.length) fun a ha => List.mem_range.2 (hin a ha)
          rw [List.length_range, List.length_append, List.length_singleton] at this
          omega
        have hput := hR.put hi
        have hzn := hR.1
        obtain ⟨⟨a, m⟩, u, l⟩ := p
        dsimp only at hput
        unfold vL grK
        dsimp only
        repeat' (refine J_nil ?_)
        rename_i b6
        have hrg := fun (H : Hp) h1 h2 h3 => rank_gives (B := B) (w0 := w0) (H := H) (bm := bm) n X O a m bX bO h6 g0 h1 h2 hM h3
        change ∀ (H : Hp) (_ : _) (_ : _) (_ : _), GivesE _ _ _ _ _ _ (fun v' H' => v' = .int .i64 (rN n X O (a, m) : Int) ∧ _) at hrg
        generalize rN n X O (a, m) = r at *
        have hsz : (seen ++ [i]).length = seen.length + 1 := by rw [List.length_append]; rfl
        refine JC_any (m := 7) rfl [.blk b6 (encGr (a, m)) 108, .blk b1 (gv (n : Int) X O) 28] mixed (by ((repeat (apply sub_cons; (focus ((with_reducible (repeat (first | exact m0 | assumption | refine mS ?_))); done)))); exact sub_nil)) ?_
        (apply JF_q 0; exact rfl; kernel_rfl; exact rfl; (intro E hE; (apply q_move; exact rfl)))
        (apply JF_q 1; exact rfl; kernel_rfl; exact rfl; (intro E hE; (apply q_loadW; exact rfl; (refine hE _ ?_; exact mb); (exact rfl))))
        (apply JF_q 2; exact rfl; kernel_rfl; exact rfl; (intro E hE; (apply q_loadW; exact rfl; (refine hE _ ?_; exact mb); (omega))))
        (apply JF_q 3; exact rfl; kernel_rfl; exact rfl; (intro E hE; (apply q_move; exact rfl)))
        (apply JF_q 4; exact rfl; kernel_rfl; exact rfl; (intro E hE; (apply q_loadW; exact rfl; (refine hE _ ?_; exact mb); (exact rfl))))
        (apply JF_all [5]; kernel_rfl)
        (apply JFs_cons; exact rfl)
        · ((apply JcE; exact rfl; exact rfl; exact rfl; infer_instance; (exact hrg _ (mS (mS (mS (mS (mS hTt))))) (mS (mS (mS (mS m0)))) (fun x hx => mS (mS (mS (mS (mS (hrw x hx))))))); (intro v2 H2 hV; obtain ⟨rfl, rfl⟩ := hV)))
          (apply J_nil; apply JF_end; ((repeat (apply sub_cons; (focus ((with_reducible (repeat (first | exact m0 | assumption | refine mS ?_))); done)))); exact sub_nil))
          (apply JF_all [6]; kernel_rfl)
          (apply JFs_cons; exact rfl)
          · (apply J_updT (eV := zV) (E := kencGr) (k := (a, m)) (v := (r : Int)); exact rfl; exact rfl; exact rfl; infer_instance; exact rfl; exact hzn; exact rfl)
            (apply J_nil; apply JF_end; ((repeat (apply sub_cons; (focus ((with_reducible (repeat (first | exact m0 | assumption | refine mS ?_))); done)))); exact sub_nil))
            (apply JF_done; kernel_rfl)
            ((repeat' (first | refine thenQ_normal ?_ | refine inBlockQ_normal ?_)); refine ⟨(putM R (a, m) (r : Int), seen ++ [i]), ⟨hnn, hin, hput⟩, (by dsimp only; omega), ?_⟩; (refine entP (ent ?_ (List.nil_sublist _)) ?_; (repeat refine fr_cons rfl ?_); exact fr_nil; (repeat (first | exact sp_end | apply sp1))))
          exact JFs_nil
        exact JFs_nil
  · rintro R ⟨hRn, hRv⟩
    have hlk : ∀ q, ((lkM R q).map zV).getD (.int .i64 0) = .int .i64 (rN n X O q : Int) := fun q => by
      have := hRv q
      unfold vT at this
      rw [← this]
      cases lkM R q <;> rfl
    repeat' (first | (apply J_rangeT (eK := grK) (eV := vL); exact rfl; exact rfl; exact mo; (intro bj)) | (apply Jq_move; exact rfl; exact rfl) | refine thenQ_normal ?_ | refine JC_seq ?_ | refine JC_region ?_ | refine J_nil ?_ | refine JC_block ?_)
    refine JC_loop (X := TB × List Nat) (fun p => p.2.Nodup ∧ (∀ i ∈ p.2, i < M.length) ∧ hasK M (hN n X O) p.2 p.1 ∧ ∀ e ∈ p.1, e.2 ≠ 0) (fun p => [(27, .pointer (some ⟨bj, 0, none⟩)), (5, .map (some b5)), (4, .map (some b4)), (3, .map (some bm))]) (fun p => .obj b5 (mapO (encM grK zV p.1)) :: .obj b4 (mapO (encM grK zV R)) :: .obj bj (itO bm M.length p.2) :: .obj bm (mapO (encM grK vL M)) :: T) (fun p => M.length - p.2.length) ([], []) ⟨List.nodup_nil, fun i hi => absurd hi List.not_mem_nil, hasK.nil _ _, fun e he => absurd he List.not_mem_nil⟩ ?_ ?_
    · dsimp only [encM, List.map_nil]
      (refine entP (ent ?_ (List.nil_sublist _)) ?_; (repeat refine fr_cons rfl ?_); exact fr_nil; (repeat (first | exact sp_refl | (with_reducible apply sp1) | apply sp2)))
    · rintro ⟨out, seen⟩ ⟨hs1, hs2, hO, hnz⟩
      dsimp only at hs1 hs2 hO hnz ⊢
      repeat' (first | refine J_nextT (eK := grK) (eV := vL) (m := M) rfl rfl inferInstance rfl mo hs2 (fun hall => ?_) (fun i p hi hns => ?_) | (apply Jq_entryT (eK := grK) (eV := vL) (m := M) (p := p); exact rfl; exact rfl; exact mo; exact mo; exact hi) | (apply Jq_move; exact rfl; exact rfl) | (apply Jq_assign; exact rfl; exact rfl) | (apply J_sW; exact rfl; exact rfl; infer_instance; (exact rfl); (exact rfl); (exact ones_of rfl); infer_instance) | (apply Jq_ext20; exact rfl; exact rfl) | (apply Jq_ext21; exact rfl; exact rfl) | (apply Jq_extract; exact rfl; exact rfl; exact rfl) | (apply J_alloc; exact rfl; exact rfl; (intro _)) | refine thenQ_normal ?_ | refine thenQ_exit ?_ | refine inBlockQ_here ?_ | refine JC_seq ?_ | refine JC_region ?_ | refine J_nil ?_ | refine JC_block ?_ | refine JC_skip ?_ | refine JC_ret ?_ | refine JC_exit ?_ | (apply JC_if_true; exact rfl) | (apply JC_if_false; exact rfl))
      · refine e1 (H' := .obj b5 (mapO (encM grK zV out)) :: H) rfl rfl rfl ?_ ⟨b5, out, rfl, hO.1, hnz, fun q => hO.all hall (fun q hq => hN_out g0 h6 (hM.out hq)) q, rfl⟩
        refine entP (ent (fun _ _ h => by cases h) (List.nil_sublist _)) ⟨_, .refl _, ?_⟩
        exact (List.Sublist.cons _ (.cons _ (.cons _ hsubT))).cons_cons _
      · have hin : ∀ t ∈ seen ++ [i], t < M.length := fun t ht => by
          rcases List.mem_append.1 ht with h | h
          · exact hs2 t h
          · rw [List.mem_singleton] at h
            subst h
            exact (List.getElem?_eq_some_iff.1 hi).1
        have hnn : (seen ++ [i]).Nodup := List.nodup_append.2 ⟨hs1, by simp, fun a ha b hb e => hns (by rw [List.mem_singleton] at hb; subst hb e; exact ha)⟩
        have hlt : seen.length < M.length := by
          have := List.Nodup.length_le_of_subset hnn (l₂ := List.range M.length) fun a ha => List.mem_range.2 (hin a ha)
          rw [List.length_range, List.length_append, List.length_singleton] at this
          omega
        have hput := hO.put hi
        have hskip := hO.skip hi
        have hzn := hO.1
        have hpm := List.mem_of_getElem? hi
        have hpl := (hM.2.1 _ hpm).1
        have hpne := (hM.2.1 _ hpm).2
        have hrow := hrw _ (List.mem_map.2 ⟨p, hpm, rfl⟩)
        obtain ⟨⟨a, m⟩, u, l⟩ := p
        dsimp only at hput hskip hpl hpne hrow
        have iu : RB u T 72 8 (l.flatMap encS) := ⟨hrow⟩
        have lfl := fl_len encS_len l
        have hl720 : l.length ≤ 720 := by rw [hpl]; exact Nat.le_trans (List.length_filter_le _ _) hS
        have hmr : -127 ≤ m ∧ m ≤ 129 := by
          obtain ⟨x, hx⟩ := List.exists_mem_of_ne_nil _ hpne
          rw [hpl] at hx
          have h3 : grd n X O x = (a, m) := of_decide_eq_true (List.mem_filter.1 hx).2
          have h4 := mX_bd (n := n) (by omega) x.1 O
          have h5 : mX n x.1 O = m := congrArg Prod.snd h3
          rw [h5] at h4
          exact h4
        have hr1 := rN_le g0 h6 (a, m)
        have hr2 := rN_le g0 h6 (a, m + 1)
        have hh : (l.length : Int) - (rN n X O (a, m) : Int) - (rN n X O (a, m + 1) : Int) = hN n X O (a, m) := by
          have : l.length = cN n X O (a, m) := congrArg List.length hpl
          rw [this]; rfl
        have hk1 := hlk (a, m)
        have hk2 := hlk (a, m + 1)
        rw [← hh] at hput hskip
        generalize rN n X O (a, m) = r1 at *
        generalize rN n X O (a, m + 1) = r2 at *
        have hsz : (seen ++ [i]).length = seen.length + 1 := by rw [List.length_append]; rfl
        unfold vL grK
        dsimp only
        repeat' (first | (apply Jq_buildE; exact rfl; exact rfl; exact hbl _ _) | (apply Jq_lookT (eV := zV) (E := kencGr) (k := (a, m)); exact rfl; exact rfl; exact rfl; exact mo; exact hRn; exact hk1) | (apply Jq_lookT (eV := zV) (E := kencGr) (k := (a, m + 1)); exact rfl; exact rfl; exact rfl; exact mo; exact hRn; exact hk2) | (apply J_updT (eV := zV) (E := kencGr) (k := (a, m)) (v := (l.length : Int) - (r1 : Int) - (r2 : Int)); exact rfl; exact rfl; exact rfl; infer_instance; exact rfl; exact hzn; exact rfl) | (apply Jq_move; exact rfl; exact rfl) | (apply Jq_assign; exact rfl; exact rfl) | (apply Jq_load; exact rfl; exact rfl; (exact mb); (exact rfl)) | (apply Jq_fieldAddr; exact rfl; exact rfl) | (apply Jq_cmp; exact rfl; exact rfl; exact rfl; exact rfl) | (apply Jq_add; exact rfl; exact rfl; exact rfl; omega) | (apply Jq_sub; exact rfl; exact rfl; exact rfl; omega) | (apply Jq_loadW; exact rfl; exact rfl; (exact mb); (exact rfl)) | (apply Jq_lenRs; exact rfl; exact rfl; (exact rb); exact lfl; decide) | refine thenQ_normal ?_ | refine inBlockQ_normal ?_ | refine JC_seq ?_ | refine JC_region ?_ | (apply JC_draw mixed; kernel_rfl) | refine J_nil ?_ | refine JC_skip ?_ | refine JC_ndec rfl (fun _ => ?_) (fun _ => ?_))
        · rename_i hne
          refine ⟨(putM out (a, m) ((l.length : Int) - (r1 : Int) - (r2 : Int)), seen ++ [i]), ⟨hnn, hin, hput, putM_nz hnz hne⟩, (by dsimp only; omega), ?_⟩
          (refine entP (ent ?_ (List.nil_sublist _)) ?_; (repeat refine fr_cons rfl ?_); exact fr_nil; (repeat (first | exact sp_end | apply sp1)))
        · rename_i hne
          refine ⟨(out, seen ++ [i]), ⟨hnn, hin, hskip (by omega), hnz⟩, (by dsimp only; omega), ?_⟩
          (refine entP (ent ?_ (List.nil_sublist _)) ?_; (repeat refine fr_cons rfl ?_); exact fr_nil; (repeat (exact sp_end)))
end Go.Proofs.YtmbbcmebdefggaaGreatDoor
namespace Go.Proofs.YtmbbcmebdefggaaGreatDoor
open Go Go.RowKit SL
/-- Entries by their keys. -/
structure BlT (n : Nat) (X O : List Nat) (T : TB) : Prop where
  nd : (T.map (·.1)).Nodup
  nz : ∀ e ∈ T, e.2 ≠ 0
  val : ∀ g, vT T g = hN n X O g
theorem vT_mem {T : TB} (hn : (T.map (·.1)).Nodup) {e : GrB × Int} (h : e ∈ T) : vT T e.1 = e.2 := by
  obtain ⟨i, hi⟩ := List.getElem?_of_mem h
  unfold vT
  rw [lkM_get hn hi]; rfl
theorem BlT.mem {n : Nat} {X O : List Nat} {T : TB} (h : BlT n X O T) (e : GrB × Int) : e ∈ T ↔ hN n X O e.1 = e.2 ∧ e.2 ≠ 0 := by
  constructor
  · intro he
    exact ⟨by rw [← h.val, vT_mem h.nd he], h.nz e he⟩
  · rintro ⟨h1, h2⟩
    rw [← h.val] at h1
    unfold vT at h1
    cases hl : lkM T e.1 with
    | none => rw [hl] at h1; exact absurd h1.symm h2
    | some v =>
      rw [hl] at h1
      have h1' : v = e.2 := h1
      have := lkM_mem hl
      rw [h1'] at this
      exact this
theorem hN_bd {n : Nat} {X O : List Nat} (g0 : okG (n : Int) X O) (h6 : n ≤ 6) (q : GrB) : -2000 ≤ hN n X O q ∧ hN n X O q ≤ 2000 := by
  have h1 := cN_le h6 X O q
  have h2 := rN_le g0 h6 q
  have h3 := rN_le g0 h6 (q.1, q.2 + 1)
  unfold hN
  omega
theorem BlT.len {n : Nat} {X O : List Nat} {T : TB} (h : BlT n X O T) (g0 : okG (n : Int) X O) (h6 : n ≤ 6) : T.length ≤ 720 := by
  have h1 := List.Nodup.length_le_of_subset h.nd (l₂ := (stB n).map (grd n X O)) fun q hq => by
    obtain ⟨e, he, rfl⟩ := List.mem_map.1 hq
    obtain ⟨h2, h3⟩ := (h.mem e).1 he
    have h4 : cN n X O e.1 ≠ 0 := fun k => h3 (by rw [← h2, hN_out g0 h6 k])
    have h5 : (stB n).filter (selG n X O e.1.1 e.1.2) ≠ [] := fun k => h4 (by show ((stB n).filter (selG n X O e.1.1 e.1.2)).length = 0; rw [k]; rfl)
    obtain ⟨x, hx⟩ := List.exists_mem_of_ne_nil _ h5
    have h6' : grd n X O x = e.1 := of_decide_eq_true (List.mem_filter.1 hx).2
    exact List.mem_map.2 ⟨x, (List.mem_filter.1 hx).1, h6'⟩
  rw [List.length_map, List.length_map] at h1
  exact Nat.le_trans h1 (stB_720 h6)
end Go.Proofs.YtmbbcmebdefggaaGreatDoor
