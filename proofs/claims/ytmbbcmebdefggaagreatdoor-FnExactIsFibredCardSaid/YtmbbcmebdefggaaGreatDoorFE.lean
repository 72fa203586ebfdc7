/- Walks: the genus of a knot; knots that are fibred. Walks: unknots told by their genus. Walks: fibred knots. -/
import Derived.Test.YtmbbcmebdefggaaGreatDoorFB
import Derived.Test.YtmbbcmebdefggaaGreatDoorMM
namespace Go.Proofs.YtmbbcmebdefggaaGreatDoor
open Go Go.RowKit SL
theorem Tower.len {n : Nat} {X O : List Nat} {Q : Nat → GrB → Int} (t : Tower n X O Q) (g0 : okG (n : Int) X O) (h6 : n ≤ 6) {T : TB} (hi : IsT (Q (n - 1)) T) : T.length ≤ 720 := by
  have hn2 := (okG.grd g0).h2
  exact keys_720 h6 hi.nd fun e he => t.supp g0 h6 (n - 1) (by omega) _ (by rw [((hi.mem e).1 he).1]; exact hi.nz e he)
theorem isTop.pos {F : GrB → Int} {k : GrB} (h : isTop F k) {T : TB} (hT : IsT F T) : 0 < T.length := by
  have h1 : (k, F k) ∈ T := (hT.mem (k, F k)).2 ⟨rfl, h.1⟩
  exact List.length_pos_of_mem h1
theorem top_exists {n : Nat} {X O : List Nat} {Q : Nat → GrB → Int} (t : Tower n X O Q) (g0 : okG (n : Int) X O) (h6 : n ≤ 6) (h1 : comps n X O = 1) : ∃ T k, Tab T ∧ (∀ g, vT T g = Q (n - 1) g) ∧ T.length ≤ 720 ∧ isTop (Q (n - 1)) k ∧ ((-300 ≤ k.1 ∧ k.1 ≤ 300) ∧ (-127 ≤ k.2 ∧ k.2 ≤ 129)) := by
  have hn2 := (okG.grd g0).h2
  have hs := t.supp g0 h6 (n - 1) (by omega)
  obtain ⟨T, hT, hv, hl⟩ := tab_of (X := X) (O := O) h6 (Q (n - 1)) hs
  obtain ⟨q, hq⟩ := t.some g0 h6 h1
  have hi := IsT.ofTab hT hv
  have hm : (q, Q (n - 1) q) ∈ T := (hi.mem (q, Q (n - 1) q)).2 ⟨rfl, hq⟩
  have hp : 0 < T.length := List.length_pos_of_mem hm
  obtain ⟨e, he⟩ : ∃ e, T[T.length - 1]? = some e := ⟨_, List.getElem?_eq_getElem (by omega)⟩
  have ht := isTop.last hT hv he
  exact ⟨T, e.1, hT, hv, hl, ht, cN_keys h6 (hs _ ht.1)⟩
set_option maxRecDepth 100000 in
theorem igreat_gives {B : Nat} {w0 : World} {H : Hp} {b : Nat} {F : GrB → Int} {k : GrB} (M : TB) (hM : IsT F M) (hk : isTop F k) (hb : It.obj b (mapO (encM grK zV M)) ∈ H) (hl : M.length ≤ 100000) :
    GivesE Tryz.prog 88 #[.map (some b)] B w0 H (fun v' H' => v' = .int .i64 k.1 ∧ H' = H) := by
  have hbS := hb
  rw [mapO_S, encM_len] at hbS
  have h0 := hk.pos hM
  refine givesE_of (args := [.map (some b)]) [(0, .map (some b))] Tryz.func88 rfl Tryz.ntmps88 rfl (argsF_cons rfl argsF_nil) ?_
  repeat' (first | (apply JcE; exact rfl; exact rfl; exact rfl; infer_instance; (exact mapKeysB_gives b); (intro v' H' hV; obtain ⟨Bm, rfl, rfl⟩ := hV)) | (apply JcE; exact rfl; exact rfl; exact rfl; infer_instance; (exact collectB_gives (StOK.range _) (mS hbS) m0 (by omega)); (intro vs H' hV; obtain ⟨ss, hp, rfl⟩ := hV; have hss := hp.length_eq; rw [List.length_map] at hss)) | (apply JcE; exact rfl; exact rfl; exact rfl; infer_instance; (exact maxU_gives ss m0 (by omega) (by omega)); (intro vm H' hV; obtain ⟨rfl, q, hmq, rfl⟩ := hV)) | (apply Jq_fieldV (ft := 2) (off := 0); exact rfl; kernel_rfl; kernel_rfl; infer_instance; exact rfl; exact rfl) | (apply Jq_move; exact rfl; exact rfl) | (apply Jq_assign; exact rfl; exact rfl) | refine thenQ_normal ?_ | refine JC_seq ?_ | refine JC_region ?_ | refine J_nil ?_ | refine JC_ret ?_)
  obtain rfl := hk.one (isTop.keys hM hp hmq)
  refine SL.e1 (H' := H) rfl rfl rfl ?_ ⟨rfl, rfl⟩
  (refine entP (ent ?_ (List.nil_sublist _)) ?_; (repeat refine fr_cons rfl ?_); exact fr_nil; (repeat (exact sp_end)))
end Go.Proofs.YtmbbcmebdefggaaGreatDoor
namespace Go.Proofs.YtmbbcmebdefggaaGreatDoor
open Go Go.RowKit SL
namespace SL
theorem Jq_nebX {P : Program} {B : Nat} {w0 : World} {n : Nat} {Q : Po} {F : Fr} {H : Hp} {ops : Array Oper} {l : List Oper} {ty : TypeId} {pos : String} {af : Array Edge} {d : Nat} {dr : Bool} {T T' : TypeId} {x y : Operand} {a : Bool} [hT : Un P T .bool] (hdn : Nat.blt d n = true) (hx : ev F x = some (.bool a)) (hy : ev F y = some (.bool a)) (kk : J dr P B w0 n ops Q l ((d, .bool false) :: F) H) :
    J dr P B w0 n ops Q (⟨some d, .binOp .neq T x y T', ty, pos, af, none⟩ :: l) F H := Jq_neb hdn hx hy (by rw [show (!(a == a)) = false by cases a <;> rfl]; exact kk)
end SL
end Go.Proofs.YtmbbcmebdefggaaGreatDoor
namespace Go.Proofs.YtmbbcmebdefggaaGreatDoor
open Go Go.RowKit SL
/-- A number at a greatest grade. -/
def fibG (a : Int) (e : GrB × Int) : Int := if e.1.1 = a then e.2 else 0
theorem fibG_perm {T U : TB} (g : GrB × Int → Int) (h : T.Perm U) : (T.map g).sum = (U.map g).sum := sumZ_perm (h.map g)
theorem at_all (g : GrB × Int → Int) (T : TB) : (List.range T.length).map (fun i => ((T[i]?).map g).getD 0) = T.map g := List.ext_getElem? fun i => by
  rw [List.getElem?_map, List.getElem?_map]
  by_cases h : i < T.length
  · rw [List.getElem?_range h, Option.map_some, List.getElem?_eq_getElem h]; rfl
  · rw [List.getElem?_eq_none (by rw [List.length_range]; omega), List.getElem?_eq_none (by omega)]; rfl
theorem fibG_bd {T : TB} {a : Int} (h : ∀ e ∈ T, 0 ≤ e.2 ∧ e.2 ≤ 2000) {e : GrB × Int} (he : e ∈ T) : -2000 ≤ fibG a e ∧ fibG a e ≤ 2000 := by
  have := h e he
  unfold fibG
  split <;> omega
theorem Tower.vals {n : Nat} {X O : List Nat} {Q : Nat → GrB → Int} (t : Tower n X O Q) (g0 : okG (n : Int) X O) (h6 : n ≤ 6) {T : TB} (hi : IsT (Q (n - 1)) T) : ∀ e ∈ T, 0 ≤ e.2 ∧ e.2 ≤ 2000 := fun e he => by
  have hn2 := (okG.grd g0).h2
  have := t.bd g0 h6 (show n - 1 < n by omega) e.1
  rwa [((hi.mem e).1 he).1] at this
set_option maxRecDepth 100000 in
theorem sfib_good {B : Nat} {w0 : World} {H : Hp} (n : Nat) (X O : List Nat) (bX : isB X) (bO : isB O) (h6 : n ≤ 6) (g0 : okG (n : Int) X O) (hc : kcode n X O = 0) {Q : Nat → GrB → Int} (t : Tower n X O Q) {T : TB} (hT : IsT (Q (n - 1)) T) {k : GrB} (hk : isTop (Q (n - 1)) k) {r : Bool} (hr : r = decide ((T.map (fibG k.1)).sum = 1)) :
    GivesE Tryz.prog 34 #[.agg (gv (n : Int) X O).toArray] B w0 H (fun v' H' => v' = .tuple #[.bool r, .int .i64 0] ∧ ∀ x ∈ H, notRow x → x ∈ H') := by
  have ug := gv_len (n := (n : Int)) bX.1 bO.1
  refine givesE_of (args := [.agg (gv (n : Int) X O).toArray]) [(0, .agg (gv (n : Int) X O).toArray)] Tryz.func34 rfl Tryz.ntmps34 rfl (argsF_cons rfl argsF_nil) ?_
  repeat' (first | (apply JcE; exact rfl; exact rfl; exact rfl; infer_instance; (exact sdiv_gives n X O bX bO h6 g0 t); (intro v5 H' hV; obtain ⟨L, hL, hval, hu, hin, hsub⟩ := hV)) | (apply Jq_move; exact rfl; exact rfl) | (apply Jq_assign; exact rfl; exact rfl) | (apply Jq_cmp; exact rfl; exact rfl; exact rfl; exact rfl) | (apply Jq_loadW; exact rfl; exact rfl; (exact mb); (omega)) | (apply JqM; exact rfl; exact rfl; exact rfl; infer_instance; (exact lknot_gives n X O bX bO hc)) | (apply J_box; exact rfl; exact rfl; exact rfl; (intro _)) | refine thenQ_normal ?_ | refine JC_seq ?_ | refine JC_region ?_ | refine J_nil ?_ | refine JC_block ?_ | refine JC_skip ?_ | (apply JC_if_false; exact rfl))
  have hi := IsT.ofTab hL hval
  have hpos := hk.pos hi
  have hl7 := t.len g0 h6 hi
  have hvl := t.vals g0 h6 hi
  have lv : (valsT L).length = L.length := List.length_map _
  have ll : (L.map (·.1)).length = L.length := List.length_map _
  have hr' : r = decide (((valsT L).map (fibG k.1)).sum = 1) := by rw [hr, fibG_perm _ (hT.perm hi)]
  clear hr hT
  obtain ⟨⟨vl, ⟨⟨k1, k2⟩, cl⟩⟩, hp⟩ : ∃ p, L[L.length - 1]? = some p := ⟨_, List.getElem?_eq_getElem (by omega)⟩
  have gl : (L.map (·.1))[L.length - 1]? = some vl := by rw [List.getElem?_map, hp]; rfl
  have hpv : (valsT L)[(valsT L).length - 1]? = some ((k1, k2), cl) := by rw [lv]; unfold valsT; rw [List.getElem?_map, hp]; rfl
  obtain rfl := hk.one (isTop.last hL hval hpv)
  have hrl := hin _ (List.mem_of_getElem? hp)
  dsimp only at hrl hr'
  have il : RB vl H' 2 1 [.int .i64 k1, .int .i64 k2, .int .i64 cl] := ⟨hrl⟩
  have iu : RB v5 H' 50 1 (L.map (·.1)) := ⟨hu⟩
  have lle : [Value.int .i64 k1, Value.int .i64 k2, Value.int .i64 cl].length = 3 := rfl
  refine JC_loop (X := Nat) (fun i => i ≤ L.length) (fun i => [(7, .int .i64 (i : Int)), (6, .int .i64 (((valsT L).take i).map (fibG k1)).sum), (5, v5)]) (fun _ => H') (fun i => L.length - i) 0 (Nat.zero_le _) ?_ ?_
  · (refine ent ?_ ?_; (repeat refine fr_cons rfl ?_); exact fr_nil; (repeat (exact List.Sublist.refl _)))
  · intro i hile
    by_cases hlt : i < L.length
    · obtain ⟨⟨vp, ⟨⟨a, m⟩, c⟩⟩, hpi⟩ : ∃ p, L[i]? = some p := ⟨_, List.getElem?_eq_getElem hlt⟩
      have g1 : (L.map (·.1))[i]? = some vp := by rw [List.getElem?_map, hpi]; rfl
      have gv1 : (valsT L)[i]? = some ((a, m), c) := by unfold valsT; rw [List.getElem?_map, hpi]; rfl
      have hrow := hin _ (List.mem_of_getElem? hpi)
      dsimp only at hrow
      have ip : RB vp H' 2 1 [.int .i64 a, .int .i64 m, .int .i64 c] := ⟨hrow⟩
      have le : [Value.int .i64 a, Value.int .i64 m, Value.int .i64 c].length = 3 := rfl
      have hcb := hvl _ (List.mem_of_getElem? gv1)
      have hsn : (((valsT L).take (i + 1)).map (fibG k1)).sum = (((valsT L).take i).map (fibG k1)).sum + fibG k1 ((a, m), c) := by
        rw [List.take_add_one, gv1, Option.toList_some, List.map_append]
        exact sum_snoc _ _
      have hsb := sum_bd (K := 2000) (l := ((valsT L).take i).map (fibG k1)) fun x hx => by
        obtain ⟨e, he, rfl⟩ := List.mem_map.1 hx
        exact fibG_bd hvl (List.mem_of_mem_take he)
      rw [List.length_map, List.length_take] at hsb
      generalize (((valsT L).take i).map (fibG k1)).sum = su at *
      have hfg : fibG k1 ((a, m), c) = if a = k1 then c else 0 := rfl
      rw [hfg] at hsn
      dsimp only at hcb
      repeat' (first | (apply Jq_move; exact rfl; exact rfl) | (apply Jq_cmp; exact rfl; exact rfl; exact rfl; exact rfl) | (apply Jq_lenR; exact rfl; exact rfl; (exact rb)) | refine thenQ_normal ?_ | refine JC_seq ?_ | refine JC_region ?_ | refine J_nil ?_ | refine JC_block ?_ | refine JC_skip ?_ | (apply JC_dec_true; exact rfl; omega))
      refine JC_any (m := 15) rfl [.row v5 50 1 (L.map (·.1)), .row vp 2 1 [.int .i64 a, .int .i64 m, .int .i64 c], .row vl 2 1 [.int .i64 k1, .int .i64 k2, .int .i64 cl]] mixed (by ((repeat (apply sub_cons; (first | (focus ((with_reducible (repeat (assumption))); done)) | exact hrow | exact hrl))); exact sub_nil)) ?_
      (apply JF_q 0; exact rfl; kernel_rfl; exact rfl; (intro E hE; (apply q_move; exact rfl)))
      (apply JF_q 1; exact rfl; kernel_rfl; exact rfl; (intro E hE; (apply q_move; exact rfl)))
      (apply JF_q 2; exact rfl; kernel_rfl; exact rfl; (intro E hE; (apply q_indexRN; exact rfl; exact rfl; (refine hE _ ?_; exact rb); omega)))
      (apply JF_q 3; exact rfl; kernel_rfl; exact rfl; (intro E hE; (apply q_loadR; exact rfl; (refine hE _ ?_; exact rb); (exact g1))))
      (apply JF_q 4; exact rfl; kernel_rfl; exact rfl; (intro E hE; (apply q_indexRN (i := 0); exact rfl; exact rfl; (refine hE _ ?_; exact rb); omega)))
      (apply JF_q 5; exact rfl; kernel_rfl; exact rfl; (intro E hE; (apply q_loadR; exact rfl; (refine hE _ ?_; exact rb); (exact rfl))))
      (apply JF_q 6; exact rfl; kernel_rfl; exact rfl; (intro E hE; (apply q_move; exact rfl)))
      (apply JF_q 7; exact rfl; kernel_rfl; exact rfl; (intro E hE; (apply q_move; exact rfl)))
      (apply JF_q 8; exact rfl; kernel_rfl; exact rfl; (intro E hE; (apply q_lenR; exact rfl; (refine hE _ ?_; exact rb))))
      (apply JF_q 9; exact rfl; kernel_rfl; exact rfl; (intro E hE; ((apply q_subR (r := ((L.length - 1 : Nat) : Int)); exact rfl; exact rfl; omega; omega))))
      (apply JF_q 10; exact rfl; kernel_rfl; exact rfl; (intro E hE; (apply q_indexRN; exact rfl; exact rfl; (refine hE _ ?_; exact rb); omega)))
      (apply JF_q 11; exact rfl; kernel_rfl; exact rfl; (intro E hE; (apply q_loadR; exact rfl; (refine hE _ ?_; exact rb); (exact gl))))
      (apply JF_q 12; exact rfl; kernel_rfl; exact rfl; (intro E hE; (apply q_indexRN (i := 0); exact rfl; exact rfl; (refine hE _ ?_; exact rb); omega)))
      (apply JF_q 13; exact rfl; kernel_rfl; exact rfl; (intro E hE; (apply q_loadR; exact rfl; (refine hE _ ?_; exact rb); (exact rfl))))
      (apply JF_q 14; exact rfl; kernel_rfl; exact rfl; (intro E hE; (apply q_cmp; exact rfl; exact rfl; exact rfl)))
      (apply JF_done; kernel_rfl)
      skip
      by_cases ha : a = k1
      · rw [if_pos ha] at hsn
        repeat' (first | (apply Jq_indexRN (i := 2); exact rfl; exact rfl; exact rfl; exact rb; omega) | (apply Jq_move; exact rfl; exact rfl) | (apply Jq_assign; exact rfl; exact rfl) | (apply Jq_add; exact rfl; exact rfl; exact rfl; omega) | (apply Jq_indexRN; exact rfl; exact rfl; exact rfl; (exact rb); omega) | (apply Jq_loadR; exact rfl; exact rfl; (exact rb); (first | exact rfl | exact g1)) | refine thenQ_normal ?_ | refine inBlockQ_normal ?_ | refine JC_region ?_ | refine J_nil ?_ | (apply JC_dec_true; exact rfl; omega))
        all_goals first
          | (exfalso; omega)
          | (refine ⟨i + 1, by omega, by omega, ?_⟩; rw [hsn]; (refine ent ?_ ?_; (repeat refine fr_cons rfl ?_); exact fr_nil; (repeat (exact List.Sublist.refl _))))
      · rw [if_neg ha, Int.add_zero] at hsn
        repeat' (first | (apply Jq_move; exact rfl; exact rfl) | (apply Jq_assign; exact rfl; exact rfl) | (apply Jq_add; exact rfl; exact rfl; exact rfl; omega) | refine thenQ_normal ?_ | refine inBlockQ_normal ?_ | refine JC_region ?_ | refine J_nil ?_ | refine JC_skip ?_ | (apply JC_dec_false; exact rfl; omega))
        all_goals first
          | (exfalso; omega)
          | (refine ⟨i + 1, by omega, by omega, ?_⟩; rw [hsn]; (refine ent ?_ ?_; (repeat refine fr_cons rfl ?_); exact fr_nil; (repeat (exact List.Sublist.refl _))))
    · obtain rfl : i = L.length := by omega
      rw [← lv, List.take_length] at *
      repeat' (first | (apply Jq_move; exact rfl; exact rfl) | (apply Jq_assign; exact rfl; exact rfl) | (apply Jq_cmp; exact rfl; exact rfl; exact rfl; exact rfl) | (apply Jq_lenR; exact rfl; exact rfl; (exact rb)) | refine thenQ_normal ?_ | refine thenQ_exit ?_ | refine inBlockQ_here ?_ | refine JC_seq ?_ | refine JC_region ?_ | refine J_nil ?_ | refine JC_ret ?_ | refine JC_exit ?_ | (apply JC_dec_false; exact rfl; omega))
      refine eT2 (H' := H') rfl rfl rfl rfl (entS fun _ _ h => h) ⟨by rw [hr'], fun x hx hh => hsub _ (mS hx) hh⟩
set_option maxRecDepth 100000 in
theorem sfib_bad {B : Nat} {w0 : World} {H : Hp} (n : Int) (X O : List Nat) (bX : isB X) (bO : isB O) {c : Int} (hc : kcode n X O = c) (h0 : c ≠ 0) :
    GivesE Tryz.prog 34 #[.agg (gv n X O).toArray] B w0 H (fun v' H' => v' = .tuple #[.bool false, .int .i64 c] ∧ ∀ x ∈ H, notRow x → x ∈ H') := by
  have ug := gv_len (n := n) bX.1 bO.1
  refine givesE_of (args := [.agg (gv n X O).toArray]) [(0, .agg (gv n X O).toArray)] Tryz.func34 rfl Tryz.ntmps34 rfl (argsF_cons rfl argsF_nil) ?_
  repeat' (first | (apply Jq_move; exact rfl; exact rfl) | (apply Jq_assign; exact rfl; exact rfl) | (apply Jq_cmp; exact rfl; exact rfl; exact rfl; exact rfl) | (apply Jq_loadW; exact rfl; exact rfl; (exact mb); (omega)) | (apply JqM; exact rfl; exact rfl; exact rfl; infer_instance; (exact lknot_gives n X O bX bO hc)) | (apply J_box; exact rfl; exact rfl; exact rfl; (intro _)) | refine thenQ_normal ?_ | refine thenQ_ret ?_ | refine JC_seq ?_ | refine JC_region ?_ | refine J_nil ?_ | refine JC_ret ?_ | (apply JC_ndec_true; exact rfl; omega))
  refine eT2 (H' := H) rfl rfl rfl rfl ?_ ⟨rfl, fun x hx _ => hx⟩
  (refine ent ?_ ?_; (repeat refine fr_cons rfl ?_); exact fr_nil; (repeat (first | exact List.Sublist.refl _ | refine List.Sublist.cons _ ?_)))
set_option maxRecDepth 100000 in
theorem klB_bad {B : Nat} {w0 : World} {H : Hp} {f : Value} (n : Int) (X O : List Nat) (bX : isB X) (bO : isB O) {c : Int} (hc : (c = 5 ∧ okG n X O ∧ n ≤ 6 ∧ comps n.toNat X O ≠ 1) ∨ ((¬ okG n X O ∧ c = 1) ∨ (okG n X O ∧ 6 < n ∧ c = 2))) :
    GivesE Tryz.prog 89 #[.agg (gv n X O).toArray, f] B w0 H (fun v' H' => v' = .tuple #[.bool false, .int .i64 c] ∧ H' = H) := by
  have ug := gv_len (n := n) bX.1 bO.1
  rcases hc with ⟨rfl, g, h6, h1⟩ | hc
  · obtain ⟨k, rfl⟩ := okG_nat g
    have hcm : (comps k X O : Int) ≠ 1 := by rw [Int.toNat_natCast] at h1; omega
    refine givesE_of (args := [.agg (gv (k : Int) X O).toArray, f]) [(0, .agg (gv (k : Int) X O).toArray), (1, f)] Tryz.func89 rfl Tryz.ntmps89 rfl (argsF_cons rfl (argsF_cons rfl argsF_nil)) ?_
    repeat' (first | (apply JcE; exact rfl; exact rfl; exact rfl; infer_instance; (exact klisted_good k X O bX bO g (by omega)); (intro v' H' hV; obtain ⟨rfl, rfl⟩ := hV)) | (apply Jq_move; exact rfl; exact rfl) | (apply Jq_assign; exact rfl; exact rfl) | (apply Jq_cmp; exact rfl; exact rfl; exact rfl; exact rfl) | (apply Jq_not; exact rfl; exact rfl) | (apply Jq_loadW; exact rfl; exact rfl; (exact mb); (omega)) | (apply Jq_ext20; exact rfl; exact rfl) | (apply Jq_ext21; exact rfl; exact rfl) | (apply J_box; exact rfl; exact rfl; exact rfl; (intro _)) | refine thenQ_normal ?_ | refine thenQ_ret ?_ | refine inBlockQ_ret ?_ | refine JC_seq ?_ | refine JC_region ?_ | refine J_nil ?_ | refine JC_block ?_ | refine JC_ret ?_ | (apply JC_if_false; exact rfl) | (apply JC_ndec_true; exact rfl; omega))
    refine eT2 (H' := H) rfl rfl rfl rfl ?_ ⟨rfl, rfl⟩
    (refine ent ?_ ?_; (repeat refine fr_cons rfl ?_); exact fr_nil; (repeat (first | exact List.Sublist.refl _ | refine List.Sublist.cons _ ?_)))
  · have h0 : c ≠ 0 := by omega
    refine givesE_of (args := [.agg (gv n X O).toArray, f]) [(0, .agg (gv n X O).toArray), (1, f)] Tryz.func89 rfl Tryz.ntmps89 rfl (argsF_cons rfl (argsF_cons rfl argsF_nil)) ?_
    repeat' (first | (apply JcE; exact rfl; exact rfl; exact rfl; infer_instance; (exact klisted_bad n X O bX bO hc); (intro v' H' hV; obtain ⟨rfl, rfl⟩ := hV)) | (apply Jq_move; exact rfl; exact rfl) | (apply Jq_assign; exact rfl; exact rfl) | (apply Jq_cmp; exact rfl; exact rfl; exact rfl; exact rfl) | (apply Jq_loadW; exact rfl; exact rfl; (exact mb); (omega)) | (apply Jq_ext20; exact rfl; exact rfl) | (apply Jq_ext21; exact rfl; exact rfl) | (apply J_box; exact rfl; exact rfl; exact rfl; (intro _)) | refine thenQ_normal ?_ | refine thenQ_ret ?_ | refine inBlockQ_ret ?_ | refine JC_seq ?_ | refine JC_region ?_ | refine J_nil ?_ | refine JC_block ?_ | refine JC_ret ?_ | (apply JC_ndec_true; exact rfl; omega))
    refine eT2 (H' := H) rfl rfl rfl rfl ?_ ⟨rfl, rfl⟩
    (refine ent ?_ ?_; (repeat refine fr_cons rfl ?_); exact fr_nil; (repeat (first | exact List.Sublist.refl _ | refine List.Sublist.cons _ ?_)))
set_option maxRecDepth 100000 in
theorem klB_good {B : Nat} {w0 : World} {H : Hp} {fk : FuncId} {caps : Array Value} (hk : Runs Tryz.prog fk) (n : Nat) (X O : List Nat) (bX : isB X) (bO : isB O) (g0 : okG (n : Int) X O) (h6 : n ≤ 6) (h1 : comps n X O = 1) (hTb : tabI ∈ H) {Q : Nat → GrB → Int} (t : Tower n X O Q) (R : Nat → TB → Value → Hp → Prop)
    (hf : ∀ b M, IsT (Q (n - 1)) M → M.length ≤ 720 → GivesE Tryz.prog fk (([.map (some b)] : List Value) ++ caps.toList).toArray B w0 (.obj b (mapO (encM grK zV M)) :: H) (R b M)) :
    GivesE Tryz.prog 89 #[.agg (gv (n : Int) X O).toArray, .func (.func fk) #[] caps] B w0 H (fun v' H' => ∃ u b M, v' = .tuple #[u, .int .i64 0] ∧ IsT (Q (n - 1)) M ∧ M.length ≤ 720 ∧ R b M u H') := by
  have ug := gv_len (n := (n : Int)) bX.1 bO.1
  have hcm : (comps n X O : Int) = 1 := by omega
  refine givesE_of (args := [.agg (gv (n : Int) X O).toArray, .func (.func fk) #[] caps]) [(0, .agg (gv (n : Int) X O).toArray), (1, .func (.func fk) #[] caps)] Tryz.func89 rfl Tryz.ntmps89 rfl (argsF_cons rfl (argsF_cons rfl argsF_nil)) ?_
  repeat' (first | (apply JcE; exact rfl; exact rfl; exact rfl; infer_instance; (exact klisted_good n X O bX bO g0 h6); (intro v' H' hV; obtain ⟨rfl, rfl⟩ := hV)) | (apply JcE; exact rfl; exact rfl; exact rfl; infer_instance; (exact idiv_gives n X O bX bO h6 g0 (by (repeat (first | exact hTb | refine mS ?_))) t); (intro v' H' hV; obtain ⟨b, M, rfl, hM, hl, rfl⟩ := hV)) | (apply JcEcP (H1 := .obj b (mapO (encM grK zV M)) :: H); exact rfl; exact rfl; exact rfl; exact hk; (refine entP (ent ?_ (List.nil_sublist _)) ?_; (repeat refine fr_cons rfl ?_); exact fr_nil; (repeat (first | exact sp_end | (with_reducible apply sp0)))); exact hf b M hM hl; (intro u H' hV)) | (apply Jq_move; exact rfl; exact rfl) | (apply Jq_assign; exact rfl; exact rfl) | (apply Jq_cmp; exact rfl; exact rfl; exact rfl; exact rfl) | (apply Jq_not; exact rfl; exact rfl) | (apply Jq_loadW; exact rfl; exact rfl; (exact mb); (omega)) | (apply Jq_ext20; exact rfl; exact rfl) | (apply Jq_ext21; exact rfl; exact rfl) | (apply J_box; exact rfl; exact rfl; exact rfl; (intro _)) | refine thenQ_normal ?_ | refine inBlockQ_normal ?_ | refine JC_seq ?_ | refine JC_region ?_ | refine J_nil ?_ | refine JC_block ?_ | refine JC_skip ?_ | refine JC_ret ?_ | (apply JC_if_false; exact rfl) | (apply JC_ndec_false; exact rfl; omega))
  exact eT2 (H' := H') rfl rfl rfl rfl (entS fun _ _ h => h) ⟨u, b, M, rfl, hM, hl, hV⟩
set_option maxRecDepth 100000 in
theorem ifib1_gives {B : Nat} {w0 : World} {H : Hp} {b : Nat} {F : GrB → Int} {k : GrB} (M : TB) (hM : IsT F M) (hk : isTop F k) (hvl : ∀ e ∈ M, 0 ≤ e.2 ∧ e.2 ≤ 2000) (hb : It.obj b (mapO (encM grK zV M)) ∈ H) (hl : M.length ≤ 720) :
    GivesE Tryz.prog 90 #[.map (some b)] B w0 H (fun v' H' => v' = .bool (decide ((M.map (fibG k.1)).sum = 1)) ∧ H' = H) := by
  have imo : MO b H (mapO (encM grK zV M)) := ⟨hb⟩
  refine givesE_of (args := [.map (some b)]) [(0, .map (some b))] Tryz.func90 rfl Tryz.ntmps90 rfl (argsF_cons rfl argsF_nil) ?_
  repeat' (first | (apply J_rangeT (eK := grK) (eV := zV); exact rfl; exact rfl; exact mo; (intro bi)) | (apply Jq_move; exact rfl; exact rfl) | (apply Jq_assign; exact rfl; exact rfl) | refine thenQ_normal ?_ | refine JC_seq ?_ | refine JC_region ?_ | refine J_nil ?_ | refine JC_block ?_)
  refine JC_loop (X := List Nat) (fun seen => seen.Nodup ∧ ∀ i ∈ seen, i < M.length) (fun seen => [(7, .pointer (some ⟨bi, 0, none⟩)), (3, .int .i64 (seen.map fun i => ((M[i]?).map (fibG k.1)).getD 0).sum), (0, .map (some b))]) (fun seen => .obj bi (itO b M.length seen) :: H) (fun seen => M.length - seen.length) [] ⟨List.nodup_nil, fun i hi => absurd hi List.not_mem_nil⟩ ?_ ?_
  · (refine ent ?_ ?_; (repeat refine fr_cons rfl ?_); exact fr_nil; (repeat (exact List.Sublist.refl _)))
  · rintro seen ⟨hs1, hs2⟩
    have hsz0 : seen.length ≤ M.length := by
      have := List.Nodup.length_le_of_subset hs1 (l₂ := List.range M.length) fun a ha => List.mem_range.2 (hs2 a ha)
      rwa [List.length_range] at this
    have hsb := sum_bd (K := 2000) (l := seen.map fun i => ((M[i]?).map (fibG k.1)).getD 0) fun x hx => by
      obtain ⟨j, hj, rfl⟩ := List.mem_map.1 hx
      rw [List.getElem?_eq_getElem (hs2 j hj)]
      exact fibG_bd hvl (List.getElem_mem _)
    rw [List.length_map] at hsb
    repeat' (first | refine J_nextT (eK := grK) (eV := zV) (m := M) rfl rfl inferInstance rfl mo hs2 (fun hall => ?_) (fun i p hi hns => ?_) | (apply Jq_entryT (eK := grK) (eV := zV) (m := M) (p := p); exact rfl; exact rfl; exact mo; exact mo; exact hi) | (apply Jq_move; exact rfl; exact rfl) | (apply Jq_assign; exact rfl; exact rfl) | (apply Jq_cmp; exact rfl; exact rfl; exact rfl; exact rfl) | (apply J_sW; exact rfl; exact rfl; infer_instance; (exact rfl); (exact rfl); (exact ones_of rfl); infer_instance) | (apply Jq_ext20; exact rfl; exact rfl) | (apply Jq_ext21; exact rfl; exact rfl) | (apply Jq_extract; exact rfl; exact rfl; exact rfl) | (apply J_alloc; exact rfl; exact rfl; (intro _)) | refine thenQ_normal ?_ | refine thenQ_exit ?_ | refine inBlockQ_here ?_ | refine JC_seq ?_ | refine JC_region ?_ | refine J_nil ?_ | refine JC_block ?_ | refine JC_skip ?_ | refine JC_ret ?_ | refine JC_exit ?_ | (apply JC_if_true; exact rfl) | (apply JC_if_false; exact rfl))
    · have hsum : (seen.map fun i => ((M[i]?).map (fibG k.1)).getD 0).sum = (M.map (fibG k.1)).sum := by rw [← at_all]; exact sumZ_perm ((all_met hs1 hs2 hall).map _)
      rw [hsum]
      repeat' (refine J_nil ?_)
      refine SL.e1 (H' := H) rfl rfl rfl ?_ ⟨rfl, rfl⟩
      (refine entP (ent ?_ (List.nil_sublist _)) ?_; (repeat refine fr_cons rfl ?_); exact fr_nil; (repeat (exact sp_end)))
    · have hin : ∀ t ∈ seen ++ [i], t < M.length := fun t ht => by
        rcases List.mem_append.1 ht with h | h
        · exact hs2 t h
        · rw [List.mem_singleton] at h
          subst h
          exact (List.getElem?_eq_some_iff.1 hi).1
      have hnn : (seen ++ [i]).Nodup := List.nodup_append.2 ⟨hs1, by simp, fun a ha b hb e => hns (by rw [List.mem_singleton] at hb; subst hb e; exact ha)⟩
      have hlt : seen.length < M.length := by
        have := List.Nodup.length_le_of_subset hnn (l₂ := List.range M.length) fun a ha => List.mem_range.2 (hin a ha)
        rw [List.length_range, List.length_append, List.length_singleton] at this
        omega
      have hsz : (seen ++ [i]).length = seen.length + 1 := by rw [List.length_append]; rfl
      have hpb := hvl _ (List.mem_of_getElem? hi)
      have hsn : ((seen ++ [i]).map fun i => ((M[i]?).map (fibG k.1)).getD 0).sum = (seen.map fun i => ((M[i]?).map (fibG k.1)).getD 0).sum + fibG k.1 p := by
        rw [List.map_append]
        show (_ ++ [((M[i]?).map (fibG k.1)).getD 0]).sum = _
        rw [sum_snoc, hi]; rfl
      generalize (seen.map fun i => ((M[i]?).map (fibG k.1)).getD 0).sum = su at *
      obtain ⟨⟨a, m⟩, c⟩ := p
      have hfg : fibG k.1 ((a, m), c) = if a = k.1 then c else 0 := rfl
      rw [hfg] at hsn
      dsimp only at hpb
      unfold zV grK
      dsimp only
      repeat' (refine J_nil ?_)
      rename_i b4
      refine JC_cutT (Y := Unit) (fun _ => True) (fun _ => [(17, .bool (decide (a = k.1))), (5, .int .i64 c), (7, .pointer (some ⟨bi, 0, none⟩)), (3, .int .i64 su), (0, .map (some b))]) (fun _ => .obj bi (itO b M.length (seen ++ [i])) :: H) ?_ ?_
      ·
        refine JC_any (m := 5) rfl [.blk b4 (encGr (a, m)) 108] mixed (by ((repeat (apply sub_cons; (focus ((with_reducible (repeat (exact m0))); done)))); exact sub_nil)) ?_
        (apply JF_q 0; exact rfl; kernel_rfl; exact rfl; (intro E hE; (apply q_fieldAddr; exact rfl)))
        (apply JF_q 1; exact rfl; kernel_rfl; exact rfl; (intro E hE; (apply q_load; exact rfl; (refine hE _ ?_; exact mb); (exact rfl))))
        (apply JF_q 2; exact rfl; kernel_rfl; exact rfl; (intro E hE; (apply q_move; exact rfl)))
        (apply JF_all [3]; kernel_rfl)
        (apply JFs_cons; exact rfl)
        · ((apply JcE; exact rfl; exact rfl; exact rfl; infer_instance; (exact igreat_gives M hM hk (by (repeat (first | exact hb | refine mS ?_))) (by omega)); (intro v' H' hV; obtain ⟨rfl, rfl⟩ := hV)))
          (apply J_nil; apply JF_end; ((repeat (apply sub_cons; (focus ((with_reducible (repeat (exact m0))); done)))); exact sub_nil))
          (apply JF_q 4; exact rfl; kernel_rfl; exact rfl; (intro E hE; (apply q_cmp; exact rfl; exact rfl; exact rfl)))
          (apply JF_done; kernel_rfl)
          ((repeat' (refine thenQ_normal ?_)); refine ⟨(), trivial, ?_⟩; (refine entP (ent ?_ (List.nil_sublist _)) ?_; (repeat refine fr_cons rfl ?_); exact fr_nil; (repeat (exact sp_end))))
        exact JFs_nil
      · intro _ _
        by_cases ha : a = k.1
        · rw [if_pos ha] at hsn
          repeat' (first | (apply Jq_move; exact rfl; exact rfl) | (apply Jq_assign; exact rfl; exact rfl) | (apply Jq_add; exact rfl; exact rfl; exact rfl; omega) | refine thenQ_normal ?_ | refine inBlockQ_normal ?_ | refine JC_region ?_ | refine J_nil ?_ | (apply JC_dec_true; exact rfl; omega))
          all_goals first
            | (exfalso; omega)
            | (refine ⟨seen ++ [i], ⟨hnn, hin⟩, by omega, ?_⟩; rw [hsn]; (refine entP (ent ?_ (List.nil_sublist _)) ?_; (repeat refine fr_cons rfl ?_); exact fr_nil; (repeat (exact sp_refl))))
        · rw [if_neg ha, Int.add_zero] at hsn
          repeat' (first | refine thenQ_normal ?_ | refine inBlockQ_normal ?_ | refine JC_skip ?_ | (apply JC_dec_false; exact rfl; omega))
          all_goals first
            | (exfalso; omega)
            | (refine ⟨seen ++ [i], ⟨hnn, hin⟩, by omega, ?_⟩; rw [hsn]; (refine entP (ent ?_ (List.nil_sublist _)) ?_; (repeat refine fr_cons rfl ?_); exact fr_nil; (repeat (exact sp_refl))))
set_option maxRecDepth 100000 in
theorem ifib_good {B : Nat} {w0 : World} {H : Hp} (n : Nat) (X O : List Nat) (bX : isB X) (bO : isB O) (h6 : n ≤ 6) (g0 : okG (n : Int) X O) (h1 : comps n X O = 1) (hTb : tabI ∈ H) {Q : Nat → GrB → Int} (t : Tower n X O Q) {T : TB} (hT : IsT (Q (n - 1)) T) {k : GrB} (hk : isTop (Q (n - 1)) k) {r : Bool} (hr : r = decide ((T.map (fibG k.1)).sum = 1)) :
    GivesE Tryz.prog 35 #[.agg (gv (n : Int) X O).toArray] B w0 H (fun v' H' => v' = .tuple #[.bool r, .int .i64 0] ∧ H' = H) := by
  have ug := gv_len (n := (n : Int)) bX.1 bO.1
  have hkl := fun (H : Hp) (hTb : tabI ∈ H) => klB_good (B := B) (w0 := w0) (H := H) (fk := 90) (caps := #[]) inferInstance n X O bX bO g0 h6 h1 hTb t (fun (b : Nat) (M : TB) v' H' => v' = .bool (decide ((M.map (fibG k.1)).sum = 1)) ∧ H' = .obj b (mapO (encM grK zV M)) :: H) (fun b M hM hl => ifib1_gives M hM hk (t.vals g0 h6 hM) m0 hl)
  refine givesE_of (args := [.agg (gv (n : Int) X O).toArray]) [(0, .agg (gv (n : Int) X O).toArray)] Tryz.func35 rfl Tryz.ntmps35 rfl (argsF_cons rfl argsF_nil) ?_
  repeat' (first | (apply JcE; exact rfl; exact rfl; exact rfl; infer_instance; (exact hkl _ (mS hTb)); (intro v' H' hV; obtain ⟨u, b, M, rfl, hM, hl, rfl, rfl⟩ := hV)) | (apply Jq_assign; exact rfl; exact rfl) | (apply Jq_loadW; exact rfl; exact rfl; (exact mb); (omega)) | (apply Jq_ext20; exact rfl; exact rfl) | (apply Jq_ext21; exact rfl; exact rfl) | (apply J_box; exact rfl; exact rfl; exact rfl; (intro _)) | refine thenQ_normal ?_ | refine JC_seq ?_ | refine JC_region ?_ | refine J_nil ?_ | refine JC_ret ?_)
  refine eT2 (H' := H) rfl rfl rfl rfl ?_ ⟨by rw [hr, fibG_perm _ (hT.perm hM)], rfl⟩
  (refine entP (ent ?_ (List.nil_sublist _)) ?_; (repeat refine fr_cons rfl ?_); exact fr_nil; (repeat (exact sp_end)))
set_option maxRecDepth 100000 in
theorem ifib_bad {B : Nat} {w0 : World} {H : Hp} (n : Int) (X O : List Nat) (bX : isB X) (bO : isB O) {c : Int} (hc : (c = 5 ∧ okG n X O ∧ n ≤ 6 ∧ comps n.toNat X O ≠ 1) ∨ ((¬ okG n X O ∧ c = 1) ∨ (okG n X O ∧ 6 < n ∧ c = 2))) :
    GivesE Tryz.prog 35 #[.agg (gv n X O).toArray] B w0 H (fun v' H' => v' = .tuple #[.bool false, .int .i64 c] ∧ H' = H) := by
  have ug := gv_len (n := n) bX.1 bO.1
  refine givesE_of (args := [.agg (gv n X O).toArray]) [(0, .agg (gv n X O).toArray)] Tryz.func35 rfl Tryz.ntmps35 rfl (argsF_cons rfl argsF_nil) ?_
  repeat' (first | (apply JcE; exact rfl; exact rfl; exact rfl; infer_instance; (exact klB_bad n X O bX bO hc); (intro v' H' hV; obtain ⟨rfl, rfl⟩ := hV)) | (apply Jq_assign; exact rfl; exact rfl) | (apply Jq_loadW; exact rfl; exact rfl; (exact mb); (omega)) | (apply Jq_ext20; exact rfl; exact rfl) | (apply Jq_ext21; exact rfl; exact rfl) | (apply J_box; exact rfl; exact rfl; exact rfl; (intro _)) | refine thenQ_normal ?_ | refine JC_seq ?_ | refine JC_region ?_ | refine J_nil ?_ | refine JC_ret ?_)
  refine eT2 (H' := H) rfl rfl rfl rfl ?_ ⟨rfl, rfl⟩
  (refine entP (ent ?_ (List.nil_sublist _)) ?_; (repeat refine fr_cons rfl ?_); exact fr_nil; (repeat (exact sp_end)))
theorem fib_res (n : Int) (X O : List Nat) : ∃ (z : Bool) (c : Int), ∀ (B : Nat) (w0 : World) (H : Hp), tabI ∈ H → isB X → isB O →
    GivesE Tryz.prog 34 #[.agg (gv n X O).toArray] B w0 H (fun v' H' => v' = .tuple #[.bool z, .int .i64 c] ∧ ∀ x ∈ H, notRow x → x ∈ H') ∧
    GivesE Tryz.prog 35 #[.agg (gv n X O).toArray] B w0 H (fun v' H' => v' = .tuple #[.bool z, .int .i64 c] ∧ H' = H) := by
  rcases kcode_cases (n := n) (X := X) (O := O) rfl with ⟨h0, g, h6, h1⟩ | ⟨h0, h⟩
  · obtain ⟨k, rfl⟩ := okG_nat g
    have h6' : k ≤ 6 := by omega
    rw [Int.toNat_natCast] at h1
    obtain ⟨Q, t⟩ := knot_tower g (show k ≤ 8 by omega) h1
    obtain ⟨T, q, hT, hv, hl, hq, hqb⟩ := top_exists t g h6' h1
    exact ⟨_, 0, fun B w0 H hTb bX bO => ⟨sfib_good k X O bX bO h6' g h0 t (IsT.ofTab hT hv) hq rfl, ifib_good k X O bX bO h6' g h1 hTb t (IsT.ofTab hT hv) hq rfl⟩⟩
  · exact ⟨false, kcode n X O, fun B w0 H _ bX bO => ⟨sfib_bad n X O bX bO rfl h0, ifib_bad n X O bX bO h⟩⟩
set_option maxRecDepth 100000 in
theorem lawFib_gives {B : Nat} {w0 : World} {H : Hp} (hT : tabI ∈ H) (n : Int) (X O : List Nat) (bX : isB X) (bO : isB O) :
    GivesE Tryz.prog 7 #[.agg (gv n X O).toArray] B w0 H (fun v' _ => v' = .bool true) := by
  have ug := gv_len (n := n) bX.1 bO.1
  obtain ⟨z, c, hres⟩ := fib_res n X O
  refine givesE_of (args := [.agg (gv n X O).toArray]) [(0, .agg (gv n X O).toArray)] Tryz.func7 rfl Tryz.ntmps7 rfl (argsF_cons rfl argsF_nil) ?_
  repeat' (first | (apply JcE; exact rfl; exact rfl; exact rfl; infer_instance; (exact (hres _ _ _ (mS hT) bX bO).1); (intro v0 H0 hV; obtain ⟨rfl, hk0⟩ := hV; have i3 : MB _ H0 _ _ := ⟨hk0 _ m0 trivial⟩)) | (apply JcE; exact rfl; exact rfl; exact rfl; infer_instance; (exact (hres _ _ _ (hk0 _ (mS hT) trivial) bX bO).2); (intro v1 H1 hV; obtain ⟨rfl, rfl⟩ := hV)) | (apply Jq_nebX; exact rfl; exact rfl; exact rfl) | (apply Jq_move; exact rfl; exact rfl) | (apply Jq_assign; exact rfl; exact rfl) | (apply Jq_cmp; exact rfl; exact rfl; exact rfl; exact rfl) | (apply Jq_pick_false; exact rfl; exact rfl; exact rfl) | (apply J_on; exact rfl; exact rfl) | (apply Jc; exact rfl; exact rfl; exact rfl; infer_instance; ((intro w hw); exact toGrid_gives n X O bX.1 bO.1 w)) | (apply Jq_loadW; exact rfl; exact rfl; (exact mb); (omega)) | (apply Jq_ext20; exact rfl; exact rfl) | (apply Jq_ext21; exact rfl; exact rfl) | (apply J_box; exact rfl; exact rfl; exact rfl; (intro _)) | refine thenQ_normal ?_ | refine JC_seq ?_ | refine JC_region ?_ | refine J_nil ?_ | refine JC_skip ?_ | refine JC_ret ?_ | (apply JC_ndec_false; exact rfl; omega))
  refine SL.e1 rfl rfl rfl (entS fun _ _ h => h) ?_
  exact rfl
end Go.Proofs.YtmbbcmebdefggaaGreatDoor
