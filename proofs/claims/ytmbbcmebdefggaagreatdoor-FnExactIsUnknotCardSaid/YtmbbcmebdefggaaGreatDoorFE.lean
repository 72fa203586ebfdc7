/- Walks: the genus of a knot; knots that are fibred. Walks: unknots told by their genus. Walks: fibred knots. -/
import Derived.Test.YtmbbcmebdefggaaGreatDoorFB
import Derived.Test.YtmbbcmebdefggaaGreatDoorMM
namespace Go.Proofs.YtmbbcmebdefggaaGreatDoor
open Go Go.RowKit SL
theorem Tower.len {n : Nat} {X O : List Nat} {Q : Nat → GrB → Int} (t : Tower n X O Q) (g0 : okG (n : Int) X O) (h6 : n ≤ 6) {T : TB} (hi : IsT (Q (n - 1)) T) : T.length ≤ 720 := by
  have hn2 := (okG.grd g0).h2
  exact keys_720 h6 hi.nd fun e he => t.supp g0 h6 (n - 1) (by omega) _ (by rw [((hi.mem e).1 he).1]; exact hi.nz e he)
theorem isTop.pos {F : GrB → Int} {k : GrB} (h : isTop F k) {T : TB} (hT : IsT F T) : 0 < T.length := by
  have h1 : (k, F k) ∈ T := (hT.mem (k, F k)).2 ⟨rfl, h.1⟩
  exact List.length_pos_of_mem h1
theorem top_exists {n : Nat} {X O : List Nat} {Q : Nat → GrB → Int} (t : Tower n X O Q) (g0 : okG (n : Int) X O) (h6 : n ≤ 6) (h1 : comps n X O = 1) : ∃ T k, Tab T ∧ (∀ g, vT T g = Q (n - 1) g) ∧ T.length ≤ 720 ∧ isTop (Q (n - 1)) k ∧ ((-300 ≤ k.1 ∧ k.1 ≤ 300) ∧ (-127 ≤ k.2 ∧ k.2 ≤ 129)) := by
  have hn2 := (okG.grd g0).h2
  have hs := t.supp g0 h6 (n - 1) (by omega)
  obtain ⟨T, hT, hv, hl⟩ := tab_of (X := X) (O := O) h6 (Q (n - 1)) hs
  obtain ⟨q, hq⟩ := t.some g0 h6 h1
  have hi := IsT.ofTab hT hv
  have hm : (q, Q (n - 1) q) ∈ T := (hi.mem (q, Q (n - 1) q)).2 ⟨rfl, hq⟩
  have hp : 0 < T.length := List.length_pos_of_mem hm
  obtain ⟨e, he⟩ : ∃ e, T[T.length - 1]? = some e := ⟨_, List.getElem?_eq_getElem (by omega)⟩
  have ht := isTop.last hT hv he
  exact ⟨T, e.1, hT, hv, hl, ht, cN_keys h6 (hs _ ht.1)⟩
set_option maxRecDepth 100000 in
theorem igreat_gives {B : Nat} {w0 : World} {H : Hp} {b : Nat} {F : GrB → Int} {k : GrB} (M : TB) (hM : IsT F M) (hk : isTop F k) (hb : It.obj b (mapO (encM grK zV M)) ∈ H) (hl : M.length ≤ 100000) :
    GivesE Tryz.prog 88 #[.map (some b)] B w0 H (fun v' H' => v' = .int .i64 k.1 ∧ H' = H) := by
  have hbS := hb
  rw [mapO_S, encM_len] at hbS
  have h0 := hk.pos hM
  refine givesE_of (args := [.map (some b)]) [(0, .map (some b))] Tryz.func88 rfl Tryz.ntmps88 rfl (argsF_cons rfl argsF_nil) ?_
  repeat' (first | (apply JcE; exact rfl; exact rfl; exact rfl; infer_instance; (exact mapKeysB_gives b); (intro v' H' hV; obtain ⟨Bm, rfl, rfl⟩ := hV)) | (apply JcE; exact rfl; exact rfl; exact rfl; infer_instance; (exact collectB_gives (StOK.range _) (mS hbS) m0 (by omega)); (intro vs H' hV; obtain ⟨ss, hp, rfl⟩ := hV; have hss := hp.length_eq; rw [List.length_map] at hss)) | (apply JcE; exact rfl; exact rfl; exact rfl; infer_instance; (exact maxU_gives ss m0 (by omega) (by omega)); (intro vm H' hV; obtain ⟨rfl, q, hmq, rfl⟩ := hV)) | (apply Jq_fieldV (ft := 2) (off := 0); exact rfl; kernel_rfl; kernel_rfl; infer_instance; exact rfl; exact rfl) | (apply Jq_move; exact rfl; exact rfl) | (apply Jq_assign; exact rfl; exact rfl) | refine thenQ_normal ?_ | refine JC_seq ?_ | refine JC_region ?_ | refine J_nil ?_ | refine JC_ret ?_)
  obtain rfl := hk.one (isTop.keys hM hp hmq)
  refine SL.e1 (H' := H) rfl rfl rfl ?_ ⟨rfl, rfl⟩
  (refine entP (ent ?_ (List.nil_sublist _)) ?_; (repeat refine fr_cons rfl ?_); exact fr_nil; (repeat (exact sp_end)))
set_option maxRecDepth 100000 in
theorem skg_good {B : Nat} {w0 : World} {H : Hp} (n : Nat) (X O : List Nat) (bX : isB X) (bO : isB O) (h6 : n ≤ 6) (g0 : okG (n : Int) X O) (hc : kcode n X O = 0) {Q : Nat → GrB → Int} (t : Tower n X O Q) {k : GrB} (hk : isTop (Q (n - 1)) k) (hkb : -300 ≤ k.1 ∧ k.1 ≤ 300) :
    GivesE Tryz.prog 30 #[.agg (gv (n : Int) X O).toArray] B w0 H (fun v' H' => v' = .tuple #[.int .i64 (k.1.tdiv 2), .int .i64 0] ∧ ∀ x ∈ H, notRow x → x ∈ H') := by
  have ug := gv_len (n := (n : Int)) bX.1 bO.1
  have hdb : -9223372036854775808 ≤ k.1.tdiv 2 ∧ k.1.tdiv 2 ≤ 9223372036854775807 := by
    have := Int.tdiv_le_self (a := k.1.natAbs) 2 (by omega)
    rcases Int.natAbs_eq k.1 with e | e <;> rw [e] <;> (try rw [Int.neg_tdiv]) <;> have := Int.tdiv_nonneg (a := (k.1.natAbs : Int)) (b := 2) (by omega) (by decide) <;> omega
  refine givesE_of (args := [.agg (gv (n : Int) X O).toArray]) [(0, .agg (gv (n : Int) X O).toArray)] Tryz.func30 rfl Tryz.ntmps30 rfl (argsF_cons rfl argsF_nil) ?_
  repeat' (first | (apply JcE; exact rfl; exact rfl; exact rfl; infer_instance; (exact sdiv_gives n X O bX bO h6 g0 t); (intro v5 H' hV; obtain ⟨L, hL, hval, hu, hin, hsub⟩ := hV)) | (apply Jq_move; exact rfl; exact rfl) | (apply Jq_assign; exact rfl; exact rfl) | (apply Jq_cmp; exact rfl; exact rfl; exact rfl; exact rfl) | (apply Jq_loadW; exact rfl; exact rfl; (exact mb); (omega)) | (apply JqM; exact rfl; exact rfl; exact rfl; infer_instance; (exact lknot_gives n X O bX bO hc)) | (apply Jq_lenR; exact rfl; exact rfl; (assumption)) | (apply J_box; exact rfl; exact rfl; exact rfl; (intro _)) | refine thenQ_normal ?_ | refine JC_seq ?_ | refine JC_region ?_ | refine J_nil ?_ | refine JC_skip ?_ | (apply JC_if_false; exact rfl))
  have hi := IsT.ofTab hL hval
  have hpos := hk.pos hi
  have hl7 := t.len g0 h6 hi
  have lv : (valsT L).length = L.length := List.length_map _
  have ll : (L.map (·.1)).length = L.length := List.length_map _
  obtain ⟨⟨vp, ⟨⟨a, m⟩, c⟩⟩, hp⟩ : ∃ p, L[L.length - 1]? = some p := ⟨_, List.getElem?_eq_getElem (by omega)⟩
  have g1 : (L.map (·.1))[L.length - 1]? = some vp := by rw [List.getElem?_map, hp]; rfl
  have hpv : (valsT L)[(valsT L).length - 1]? = some ((a, m), c) := by rw [lv]; unfold valsT; rw [List.getElem?_map, hp]; rfl
  obtain rfl := hk.one (isTop.last hL hval hpv)
  have hrow := hin _ (List.mem_of_getElem? hp)
  dsimp only at hrow hkb hdb
  have ip : RB vp H' 2 1 [.int .i64 a, .int .i64 m, .int .i64 c] := ⟨hrow⟩
  have iu : RB v5 H' 50 1 (L.map (·.1)) := ⟨hu⟩
  have le : [Value.int .i64 a, Value.int .i64 m, Value.int .i64 c].length = 3 := rfl
  repeat' (first | (apply Jq_subR (r := ((L.length - 1 : Nat) : Int)); exact rfl; exact rfl; exact rfl; omega; omega) | (apply Jq_indexRN (i := 0); exact rfl; exact rfl; exact rfl; exact rb; omega) | (apply Jq_quoR (r := Int.tdiv a 2); exact rfl; exact rfl; exact rfl; decide; exact rfl; exact hdb) | (apply Jq_assign; exact rfl; exact rfl) | (apply Jq_indexRN; exact rfl; exact rfl; exact rfl; (exact rb); omega) | (apply Jq_loadR; exact rfl; exact rfl; (exact rb); (first | exact rfl | exact g1)) | refine thenQ_normal ?_ | refine J_nil ?_ | refine JC_ret ?_)
  exact eT2 (H' := H') rfl rfl rfl rfl (entS fun _ _ h => h) ⟨rfl, fun x hx hh => hsub _ (mS hx) hh⟩
set_option maxRecDepth 100000 in
theorem skg_bad {B : Nat} {w0 : World} {H : Hp} (n : Int) (X O : List Nat) (bX : isB X) (bO : isB O) {c : Int} (hc : kcode n X O = c) (h0 : c ≠ 0) :
    GivesE Tryz.prog 30 #[.agg (gv n X O).toArray] B w0 H (fun v' H' => v' = .tuple #[.int .i64 0, .int .i64 c] ∧ ∀ x ∈ H, notRow x → x ∈ H') := by
  have ug := gv_len (n := n) bX.1 bO.1
  refine givesE_of (args := [.agg (gv n X O).toArray]) [(0, .agg (gv n X O).toArray)] Tryz.func30 rfl Tryz.ntmps30 rfl (argsF_cons rfl argsF_nil) ?_
  repeat' (first | (apply Jq_move; exact rfl; exact rfl) | (apply Jq_assign; exact rfl; exact rfl) | (apply Jq_cmp; exact rfl; exact rfl; exact rfl; exact rfl) | (apply Jq_loadW; exact rfl; exact rfl; (exact mb); (omega)) | (apply JqM; exact rfl; exact rfl; exact rfl; infer_instance; (exact lknot_gives n X O bX bO hc)) | (apply J_box; exact rfl; exact rfl; exact rfl; (intro _)) | refine thenQ_normal ?_ | refine thenQ_ret ?_ | refine JC_seq ?_ | refine JC_region ?_ | refine J_nil ?_ | refine JC_ret ?_ | (apply JC_ndec_true; exact rfl; omega))
  refine eT2 (H' := H) rfl rfl rfl rfl ?_ ⟨rfl, fun x hx _ => hx⟩
  (refine ent ?_ ?_; (repeat refine fr_cons rfl ?_); exact fr_nil; (repeat (first | exact List.Sublist.refl _ | refine List.Sublist.cons _ ?_)))
set_option maxRecDepth 100000 in
theorem klI_bad {B : Nat} {w0 : World} {H : Hp} {f : Value} (n : Int) (X O : List Nat) (bX : isB X) (bO : isB O) {c : Int} (hc : (c = 5 ∧ okG n X O ∧ n ≤ 6 ∧ comps n.toNat X O ≠ 1) ∨ ((¬ okG n X O ∧ c = 1) ∨ (okG n X O ∧ 6 < n ∧ c = 2))) :
    GivesE Tryz.prog 86 #[.agg (gv n X O).toArray, f] B w0 H (fun v' H' => v' = .tuple #[.int .i64 0, .int .i64 c] ∧ H' = H) := by
  have ug := gv_len (n := n) bX.1 bO.1
  rcases hc with ⟨rfl, g, h6, h1⟩ | hc
  · obtain ⟨k, rfl⟩ := okG_nat g
    have hcm : (comps k X O : Int) ≠ 1 := by rw [Int.toNat_natCast] at h1; omega
    refine givesE_of (args := [.agg (gv (k : Int) X O).toArray, f]) [(0, .agg (gv (k : Int) X O).toArray), (1, f)] Tryz.func86 rfl Tryz.ntmps86 rfl (argsF_cons rfl (argsF_cons rfl argsF_nil)) ?_
    repeat' (first | (apply JcE; exact rfl; exact rfl; exact rfl; infer_instance; (exact klisted_good k X O bX bO g (by omega)); (intro v' H' hV; obtain ⟨rfl, rfl⟩ := hV)) | (apply Jq_move; exact rfl; exact rfl) | (apply Jq_assign; exact rfl; exact rfl) | (apply Jq_cmp; exact rfl; exact rfl; exact rfl; exact rfl) | (apply Jq_not; exact rfl; exact rfl) | (apply Jq_loadW; exact rfl; exact rfl; (exact mb); (omega)) | (apply Jq_ext20; exact rfl; exact rfl) | (apply Jq_ext21; exact rfl; exact rfl) | (apply J_box; exact rfl; exact rfl; exact rfl; (intro _)) | refine thenQ_normal ?_ | refine thenQ_ret ?_ | refine inBlockQ_ret ?_ | refine JC_seq ?_ | refine JC_region ?_ | refine J_nil ?_ | refine JC_block ?_ | refine JC_ret ?_ | (apply JC_if_false; exact rfl) | (apply JC_ndec_true; exact rfl; omega))
    refine eT2 (H' := H) rfl rfl rfl rfl ?_ ⟨rfl, rfl⟩
    (refine ent ?_ ?_; (repeat refine fr_cons rfl ?_); exact fr_nil; (repeat (first | exact List.Sublist.refl _ | refine List.Sublist.cons _ ?_)))
  · have h0 : c ≠ 0 := by omega
    refine givesE_of (args := [.agg (gv n X O).toArray, f]) [(0, .agg (gv n X O).toArray), (1, f)] Tryz.func86 rfl Tryz.ntmps86 rfl (argsF_cons rfl (argsF_cons rfl argsF_nil)) ?_
    repeat' (first | (apply JcE; exact rfl; exact rfl; exact rfl; infer_instance; (exact klisted_bad n X O bX bO hc); (intro v' H' hV; obtain ⟨rfl, rfl⟩ := hV)) | (apply Jq_move; exact rfl; exact rfl) | (apply Jq_assign; exact rfl; exact rfl) | (apply Jq_cmp; exact rfl; exact rfl; exact rfl; exact rfl) | (apply Jq_loadW; exact rfl; exact rfl; (exact mb); (omega)) | (apply Jq_ext20; exact rfl; exact rfl) | (apply Jq_ext21; exact rfl; exact rfl) | (apply J_box; exact rfl; exact rfl; exact rfl; (intro _)) | refine thenQ_normal ?_ | refine thenQ_ret ?_ | refine inBlockQ_ret ?_ | refine JC_seq ?_ | refine JC_region ?_ | refine J_nil ?_ | refine JC_block ?_ | refine JC_ret ?_ | (apply JC_ndec_true; exact rfl; omega))
    refine eT2 (H' := H) rfl rfl rfl rfl ?_ ⟨rfl, rfl⟩
    (refine ent ?_ ?_; (repeat refine fr_cons rfl ?_); exact fr_nil; (repeat (first | exact List.Sublist.refl _ | refine List.Sublist.cons _ ?_)))
set_option maxRecDepth 100000 in
theorem klI_good {B : Nat} {w0 : World} {H : Hp} {fk : FuncId} {caps : Array Value} (hk : Runs Tryz.prog fk) (n : Nat) (X O : List Nat) (bX : isB X) (bO : isB O) (g0 : okG (n : Int) X O) (h6 : n ≤ 6) (h1 : comps n X O = 1) (hTb : tabI ∈ H) {Q : Nat → GrB → Int} (t : Tower n X O Q) (R : Nat → TB → Value → Hp → Prop)
    (hf : ∀ b M, IsT (Q (n - 1)) M → M.length ≤ 720 → GivesE Tryz.prog fk (([.map (some b)] : List Value) ++ caps.toList).toArray B w0 (.obj b (mapO (encM grK zV M)) :: H) (R b M)) :
    GivesE Tryz.prog 86 #[.agg (gv (n : Int) X O).toArray, .func (.func fk) #[] caps] B w0 H (fun v' H' => ∃ u b M, v' = .tuple #[u, .int .i64 0] ∧ IsT (Q (n - 1)) M ∧ M.length ≤ 720 ∧ R b M u H') := by
  have ug := gv_len (n := (n : Int)) bX.1 bO.1
  have hcm : (comps n X O : Int) = 1 := by omega
  refine givesE_of (args := [.agg (gv (n : Int) X O).toArray, .func (.func fk) #[] caps]) [(0, .agg (gv (n : Int) X O).toArray), (1, .func (.func fk) #[] caps)] Tryz.func86 rfl Tryz.ntmps86 rfl (argsF_cons rfl (argsF_cons rfl argsF_nil)) ?_
  repeat' (first | (apply JcE; exact rfl; exact rfl; exact rfl; infer_instance; (exact klisted_good n X O bX bO g0 h6); (intro v' H' hV; obtain ⟨rfl, rfl⟩ := hV)) | (apply JcE; exact rfl; exact rfl; exact rfl; infer_instance; (exact idiv_gives n X O bX bO h6 g0 (by (repeat (first | exact hTb | refine mS ?_))) t); (intro v' H' hV; obtain ⟨b, M, rfl, hM, hl, rfl⟩ := hV)) | (apply JcEcP (H1 := .obj b (mapO (encM grK zV M)) :: H); exact rfl; exact rfl; exact rfl; exact hk; (refine entP (ent ?_ (List.nil_sublist _)) ?_; (repeat refine fr_cons rfl ?_); exact fr_nil; (repeat (first | exact sp_end | (with_reducible apply sp0)))); exact hf b M hM hl; (intro u H' hV)) | (apply Jq_move; exact rfl; exact rfl) | (apply Jq_assign; exact rfl; exact rfl) | (apply Jq_cmp; exact rfl; exact rfl; exact rfl; exact rfl) | (apply Jq_not; exact rfl; exact rfl) | (apply Jq_loadW; exact rfl; exact rfl; (exact mb); (omega)) | (apply Jq_ext20; exact rfl; exact rfl) | (apply Jq_ext21; exact rfl; exact rfl) | (apply J_box; exact rfl; exact rfl; exact rfl; (intro _)) | refine thenQ_normal ?_ | refine inBlockQ_normal ?_ | refine JC_seq ?_ | refine JC_region ?_ | refine J_nil ?_ | refine JC_block ?_ | refine JC_skip ?_ | refine JC_ret ?_ | (apply JC_if_false; exact rfl) | (apply JC_ndec_false; exact rfl; omega))
  exact eT2 (H' := H') rfl rfl rfl rfl (entS fun _ _ h => h) ⟨u, b, M, rfl, hM, hl, hV⟩
set_option maxRecDepth 100000 in
theorem ikg1_gives {B : Nat} {w0 : World} {H : Hp} {b : Nat} {F : GrB → Int} {k : GrB} (M : TB) (hM : IsT F M) (hk : isTop F k) (hkb : -300 ≤ k.1 ∧ k.1 ≤ 300) (hb : It.obj b (mapO (encM grK zV M)) ∈ H) (hl : M.length ≤ 100000) :
    GivesE Tryz.prog 87 #[.map (some b)] B w0 H (fun v' H' => v' = .int .i64 (k.1.tdiv 2) ∧ H' = H) := by
  have hdb : -9223372036854775808 ≤ k.1.tdiv 2 ∧ k.1.tdiv 2 ≤ 9223372036854775807 := by
    have := Int.tdiv_le_self (a := k.1.natAbs) 2 (by omega)
    rcases Int.natAbs_eq k.1 with e | e <;> rw [e] <;> (try rw [Int.neg_tdiv]) <;> have := Int.tdiv_nonneg (a := (k.1.natAbs : Int)) (b := 2) (by omega) (by decide) <;> omega
  refine givesE_of (args := [.map (some b)]) [(0, .map (some b))] Tryz.func87 rfl Tryz.ntmps87 rfl (argsF_cons rfl argsF_nil) ?_
  repeat' (first | (apply JcE; exact rfl; exact rfl; exact rfl; infer_instance; (exact igreat_gives M hM hk hb hl); (intro v' H' hV; obtain ⟨rfl, rfl⟩ := hV)) | (apply Jq_quoR (r := k.1.tdiv 2); exact rfl; exact rfl; exact rfl; decide; exact rfl; exact hdb) | (apply Jq_move; exact rfl; exact rfl) | (apply Jq_assign; exact rfl; exact rfl) | refine thenQ_normal ?_ | refine JC_seq ?_ | refine JC_region ?_ | refine J_nil ?_ | refine JC_ret ?_)
  refine SL.e1 rfl rfl rfl (entS fun _ _ h => h) ⟨rfl, rfl⟩
set_option maxRecDepth 100000 in
theorem ikg_good {B : Nat} {w0 : World} {H : Hp} (n : Nat) (X O : List Nat) (bX : isB X) (bO : isB O) (h6 : n ≤ 6) (g0 : okG (n : Int) X O) (h1 : comps n X O = 1) (hTb : tabI ∈ H) {Q : Nat → GrB → Int} (t : Tower n X O Q) {k : GrB} (hk : isTop (Q (n - 1)) k) (hkb : -300 ≤ k.1 ∧ k.1 ≤ 300) :
    GivesE Tryz.prog 31 #[.agg (gv (n : Int) X O).toArray] B w0 H (fun v' H' => v' = .tuple #[.int .i64 (k.1.tdiv 2), .int .i64 0] ∧ H' = H) := by
  have ug := gv_len (n := (n : Int)) bX.1 bO.1
  have hkl := fun (H : Hp) (hTb : tabI ∈ H) => klI_good (B := B) (w0 := w0) (H := H) (fk := 87) (caps := #[]) inferInstance n X O bX bO g0 h6 h1 hTb t (fun (b : Nat) (M : TB) v' H' => v' = .int .i64 (k.1.tdiv 2) ∧ H' = .obj b (mapO (encM grK zV M)) :: H) (fun b M hM hl => ikg1_gives M hM hk hkb m0 (by omega))
  refine givesE_of (args := [.agg (gv (n : Int) X O).toArray]) [(0, .agg (gv (n : Int) X O).toArray)] Tryz.func31 rfl Tryz.ntmps31 rfl (argsF_cons rfl argsF_nil) ?_
  repeat' (first | (apply JcE; exact rfl; exact rfl; exact rfl; infer_instance; (exact hkl _ (mS hTb)); (intro v' H' hV; obtain ⟨u, b, M, rfl, hM, hl, rfl, rfl⟩ := hV)) | (apply Jq_assign; exact rfl; exact rfl) | (apply Jq_loadW; exact rfl; exact rfl; (exact mb); (omega)) | (apply Jq_ext20; exact rfl; exact rfl) | (apply Jq_ext21; exact rfl; exact rfl) | (apply J_box; exact rfl; exact rfl; exact rfl; (intro _)) | refine thenQ_normal ?_ | refine JC_seq ?_ | refine JC_region ?_ | refine J_nil ?_ | refine JC_ret ?_)
  refine eT2 (H' := H) rfl rfl rfl rfl ?_ ⟨rfl, rfl⟩
  (refine entP (ent ?_ (List.nil_sublist _)) ?_; (repeat refine fr_cons rfl ?_); exact fr_nil; (repeat (exact sp_end)))
set_option maxRecDepth 100000 in
theorem ikg_bad {B : Nat} {w0 : World} {H : Hp} (n : Int) (X O : List Nat) (bX : isB X) (bO : isB O) {c : Int} (hc : (c = 5 ∧ okG n X O ∧ n ≤ 6 ∧ comps n.toNat X O ≠ 1) ∨ ((¬ okG n X O ∧ c = 1) ∨ (okG n X O ∧ 6 < n ∧ c = 2))) :
    GivesE Tryz.prog 31 #[.agg (gv n X O).toArray] B w0 H (fun v' H' => v' = .tuple #[.int .i64 0, .int .i64 c] ∧ H' = H) := by
  have ug := gv_len (n := n) bX.1 bO.1
  refine givesE_of (args := [.agg (gv n X O).toArray]) [(0, .agg (gv n X O).toArray)] Tryz.func31 rfl Tryz.ntmps31 rfl (argsF_cons rfl argsF_nil) ?_
  repeat' (first | (apply JcE; exact rfl; exact rfl; exact rfl; infer_instance; (exact klI_bad n X O bX bO hc); (intro v' H' hV; obtain ⟨rfl, rfl⟩ := hV)) | (apply Jq_assign; exact rfl; exact rfl) | (apply Jq_loadW; exact rfl; exact rfl; (exact mb); (omega)) | (apply Jq_ext20; exact rfl; exact rfl) | (apply Jq_ext21; exact rfl; exact rfl) | (apply J_box; exact rfl; exact rfl; exact rfl; (intro _)) | refine thenQ_normal ?_ | refine JC_seq ?_ | refine JC_region ?_ | refine J_nil ?_ | refine JC_ret ?_)
  refine eT2 (H' := H) rfl rfl rfl rfl ?_ ⟨rfl, rfl⟩
  (refine entP (ent ?_ (List.nil_sublist _)) ?_; (repeat refine fr_cons rfl ?_); exact fr_nil; (repeat (exact sp_end)))
theorem kg_res (n : Int) (X O : List Nat) : ∃ z c : Int, ∀ (B : Nat) (w0 : World) (H : Hp), tabI ∈ H → isB X → isB O →
    GivesE Tryz.prog 30 #[.agg (gv n X O).toArray] B w0 H (fun v' H' => v' = .tuple #[.int .i64 z, .int .i64 c] ∧ ∀ x ∈ H, notRow x → x ∈ H') ∧
    GivesE Tryz.prog 31 #[.agg (gv n X O).toArray] B w0 H (fun v' H' => v' = .tuple #[.int .i64 z, .int .i64 c] ∧ H' = H) := by
  rcases kcode_cases (n := n) (X := X) (O := O) rfl with ⟨h0, g, h6, h1⟩ | ⟨h0, h⟩
  · obtain ⟨k, rfl⟩ := okG_nat g
    have h6' : k ≤ 6 := by omega
    rw [Int.toNat_natCast] at h1
    obtain ⟨Q, t⟩ := knot_tower g (show k ≤ 8 by omega) h1
    obtain ⟨T, q, hT, hv, hl, hq, hqb⟩ := top_exists t g h6' h1
    exact ⟨q.1.tdiv 2, 0, fun B w0 H hTb bX bO => ⟨skg_good k X O bX bO h6' g h0 t hq hqb.1, ikg_good k X O bX bO h6' g h1 hTb t hq hqb.1⟩⟩
  · exact ⟨0, kcode n X O, fun B w0 H _ bX bO => ⟨skg_bad n X O bX bO rfl h0, ikg_bad n X O bX bO h⟩⟩
end Go.Proofs.YtmbbcmebdefggaaGreatDoor
namespace Go.Proofs.YtmbbcmebdefggaaGreatDoor
open Go Go.RowKit SL
namespace SL
theorem Jq_nebX {P : Program} {B : Nat} {w0 : World} {n : Nat} {Q : Po} {F : Fr} {H : Hp} {ops : Array Oper} {l : List Oper} {ty : TypeId} {pos : String} {af : Array Edge} {d : Nat} {dr : Bool} {T T' : TypeId} {x y : Operand} {a : Bool} [hT : Un P T .bool] (hdn : Nat.blt d n = true) (hx : ev F x = some (.bool a)) (hy : ev F y = some (.bool a)) (kk : J dr P B w0 n ops Q l ((d, .bool false) :: F) H) :
    J dr P B w0 n ops Q (⟨some d, .binOp .neq T x y T', ty, pos, af, none⟩ :: l) F H := Jq_neb hdn hx hy (by rw [show (!(a == a)) = false by cases a <;> rfl]; exact kk)
end SL
set_option maxRecDepth 100000 in
theorem sun_gives {B : Nat} {w0 : World} {H : Hp} (n : Int) (X O : List Nat) (bX : isB X) (bO : isB O) {z c : Int} (r : Bool) (hr : r = (decide (c = 0) && decide (z = 0)))
    (h : ∀ H, tabI ∈ H → GivesE Tryz.prog 30 #[.agg (gv n X O).toArray] B w0 H (fun v' H' => v' = .tuple #[.int .i64 z, .int .i64 c] ∧ ∀ x ∈ H, notRow x → x ∈ H')) (hTb : tabI ∈ H) :
    GivesE Tryz.prog 32 #[.agg (gv n X O).toArray] B w0 H (fun v' H' => v' = .tuple #[.bool r, .int .i64 c] ∧ ∀ x ∈ H, notRow x → x ∈ H') := by
  have ug := gv_len (n := n) bX.1 bO.1
  subst hr
  refine givesE_of (args := [.agg (gv n X O).toArray]) [(0, .agg (gv n X O).toArray)] Tryz.func32 rfl Tryz.ntmps32 rfl (argsF_cons rfl argsF_nil) ?_
  by_cases h1 : c = 0
  · repeat' (first | (apply JcE; exact rfl; exact rfl; exact rfl; infer_instance; (exact h _ (mS hTb)); (intro v0 H0 hV; obtain ⟨rfl, hk0⟩ := hV)) | (apply Jq_move; exact rfl; exact rfl) | (apply Jq_assign; exact rfl; exact rfl) | (apply Jq_cmp; exact rfl; exact rfl; exact rfl; exact rfl) | (apply Jq_pick_true; exact rfl; exact rfl; exact rfl) | (apply J_on; exact rfl; exact rfl) | (apply Jq_loadW; exact rfl; exact rfl; (exact mb); (omega)) | (apply Jq_ext20; exact rfl; exact rfl) | (apply Jq_ext21; exact rfl; exact rfl) | (apply J_box; exact rfl; exact rfl; exact rfl; (intro _)) | refine thenQ_normal ?_ | refine JC_seq ?_ | refine JC_region ?_ | refine J_nil ?_ | refine JC_ret ?_ | (apply J_gdT; exact rfl; exact rfl; omega))
    refine eT2 (H' := H0) rfl rfl rfl rfl (entS fun _ _ h => h) ⟨?_, fun x hx hh => hk0 _ (mS hx) hh⟩
    simp [h1]
  · repeat' (first | (apply JcE; exact rfl; exact rfl; exact rfl; infer_instance; (exact h _ (mS hTb)); (intro v0 H0 hV; obtain ⟨rfl, hk0⟩ := hV)) | (apply Jq_move; exact rfl; exact rfl) | (apply Jq_assign; exact rfl; exact rfl) | (apply Jq_cmp; exact rfl; exact rfl; exact rfl; exact rfl) | (apply Jq_pick_false; exact rfl; exact rfl; exact rfl) | (apply J_skip; exact rfl; exact rfl; exact rfl; exact rfl) | (apply Jq_loadW; exact rfl; exact rfl; (exact mb); (omega)) | (apply Jq_ext20; exact rfl; exact rfl) | (apply Jq_ext21; exact rfl; exact rfl) | (apply J_box; exact rfl; exact rfl; exact rfl; (intro _)) | refine thenQ_normal ?_ | refine JC_seq ?_ | refine JC_region ?_ | refine J_nil ?_ | refine JC_ret ?_ | (apply J_gdF; exact rfl; exact rfl; omega))
    refine eT2 (H' := H0) rfl rfl rfl rfl (entS fun _ _ h => h) ⟨?_, fun x hx hh => hk0 _ (mS hx) hh⟩
    simp [h1]
set_option maxRecDepth 100000 in
theorem iun_gives {B : Nat} {w0 : World} {H : Hp} (n : Int) (X O : List Nat) (bX : isB X) (bO : isB O) {z c : Int} (r : Bool) (hr : r = (decide (c = 0) && decide (z = 0)))
    (h : ∀ H, tabI ∈ H → GivesE Tryz.prog 31 #[.agg (gv n X O).toArray] B w0 H (fun v' H' => v' = .tuple #[.int .i64 z, .int .i64 c] ∧ H' = H)) (hTb : tabI ∈ H) :
    GivesE Tryz.prog 33 #[.agg (gv n X O).toArray] B w0 H (fun v' H' => v' = .tuple #[.bool r, .int .i64 c] ∧ H' = H) := by
  have ug := gv_len (n := n) bX.1 bO.1
  subst hr
  refine givesE_of (args := [.agg (gv n X O).toArray]) [(0, .agg (gv n X O).toArray)] Tryz.func33 rfl Tryz.ntmps33 rfl (argsF_cons rfl argsF_nil) ?_
  by_cases h1 : c = 0
  · repeat' (first | (apply JcE; exact rfl; exact rfl; exact rfl; infer_instance; (exact h _ (mS hTb)); (intro v0 H0 hV; obtain ⟨rfl, rfl⟩ := hV)) | (apply Jq_move; exact rfl; exact rfl) | (apply Jq_assign; exact rfl; exact rfl) | (apply Jq_cmp; exact rfl; exact rfl; exact rfl; exact rfl) | (apply Jq_pick_true; exact rfl; exact rfl; exact rfl) | (apply J_on; exact rfl; exact rfl) | (apply Jq_loadW; exact rfl; exact rfl; (exact mb); (omega)) | (apply Jq_ext20; exact rfl; exact rfl) | (apply Jq_ext21; exact rfl; exact rfl) | (apply J_box; exact rfl; exact rfl; exact rfl; (intro _)) | refine thenQ_normal ?_ | refine JC_seq ?_ | refine JC_region ?_ | refine J_nil ?_ | refine JC_ret ?_ | (apply J_gdT; exact rfl; exact rfl; omega))
    refine eT2 (H' := H) rfl rfl rfl rfl ?_ ⟨?_, rfl⟩
    · (refine entP (ent ?_ (List.nil_sublist _)) ?_; (repeat refine fr_cons rfl ?_); exact fr_nil; (repeat (exact sp_end)))
    · simp [h1]
  · repeat' (first | (apply JcE; exact rfl; exact rfl; exact rfl; infer_instance; (exact h _ (mS hTb)); (intro v0 H0 hV; obtain ⟨rfl, rfl⟩ := hV)) | (apply Jq_move; exact rfl; exact rfl) | (apply Jq_assign; exact rfl; exact rfl) | (apply Jq_cmp; exact rfl; exact rfl; exact rfl; exact rfl) | (apply Jq_pick_false; exact rfl; exact rfl; exact rfl) | (apply J_skip; exact rfl; exact rfl; exact rfl; exact rfl) | (apply Jq_loadW; exact rfl; exact rfl; (exact mb); (omega)) | (apply Jq_ext20; exact rfl; exact rfl) | (apply Jq_ext21; exact rfl; exact rfl) | (apply J_box; exact rfl; exact rfl; exact rfl; (intro _)) | refine thenQ_normal ?_ | refine JC_seq ?_ | refine JC_region ?_ | refine J_nil ?_ | refine JC_ret ?_ | (apply J_gdF; exact rfl; exact rfl; omega))
    refine eT2 (H' := H) rfl rfl rfl rfl ?_ ⟨?_, rfl⟩
    · (refine entP (ent ?_ (List.nil_sublist _)) ?_; (repeat refine fr_cons rfl ?_); exact fr_nil; (repeat (exact sp_end)))
    · simp [h1]
set_option maxRecDepth 100000 in
theorem lawUn_gives {B : Nat} {w0 : World} {H : Hp} (hT : tabI ∈ H) (n : Int) (X O : List Nat) (bX : isB X) (bO : isB O) :
    GivesE Tryz.prog 6 #[.agg (gv n X O).toArray] B w0 H (fun v' _ => v' = .bool true) := by
  have ug := gv_len (n := n) bX.1 bO.1
  obtain ⟨z, c, hres⟩ := kg_res n X O
  obtain ⟨r, hr⟩ : ∃ r, r = (decide (c = 0) && decide (z = 0)) := ⟨_, rfl⟩
  have h1 := fun (H : Hp) (hT : tabI ∈ H) => sun_gives (B := B) (w0 := w0) (H := H) n X O bX bO r hr (fun H hT => (hres _ _ _ hT bX bO).1) hT
  have h2 := fun (H : Hp) (hT : tabI ∈ H) => iun_gives (B := B) (w0 := w0) (H := H) n X O bX bO r hr (fun H hT => (hres _ _ _ hT bX bO).2) hT
  clear hres hr
  refine givesE_of (args := [.agg (gv n X O).toArray]) [(0, .agg (gv n X O).toArray)] Tryz.func6 rfl Tryz.ntmps6 rfl (argsF_cons rfl argsF_nil) ?_
  repeat' (first | (apply JcE; exact rfl; exact rfl; exact rfl; infer_instance; (exact h1 _ (mS hT)); (intro v0 H0 hV; obtain ⟨rfl, hk0⟩ := hV; have i3 : MB _ H0 _ _ := ⟨hk0 _ m0 trivial⟩)) | (apply JcE; exact rfl; exact rfl; exact rfl; infer_instance; (exact h2 _ (hk0 _ (mS hT) trivial)); (intro v1 H1 hV; obtain ⟨rfl, rfl⟩ := hV)) | (apply Jq_nebX; exact rfl; exact rfl; exact rfl) | (apply Jq_move; exact rfl; exact rfl) | (apply Jq_assign; exact rfl; exact rfl) | (apply Jq_cmp; exact rfl; exact rfl; exact rfl; exact rfl) | (apply Jq_pick_false; exact rfl; exact rfl; exact rfl) | (apply J_on; exact rfl; exact rfl) | (apply Jc; exact rfl; exact rfl; exact rfl; infer_instance; ((intro w hw); exact toGrid_gives n X O bX.1 bO.1 w)) | (apply Jq_loadW; exact rfl; exact rfl; (exact mb); (omega)) | (apply Jq_ext20; exact rfl; exact rfl) | (apply Jq_ext21; exact rfl; exact rfl) | (apply J_box; exact rfl; exact rfl; exact rfl; (intro _)) | refine thenQ_normal ?_ | refine JC_seq ?_ | refine JC_region ?_ | refine J_nil ?_ | refine JC_skip ?_ | refine JC_ret ?_ | (apply JC_ndec_false; exact rfl; omega))
  refine SL.e1 rfl rfl rfl (entS fun _ _ h => h) ?_
  exact rfl
end Go.Proofs.YtmbbcmebdefggaaGreatDoor
namespace Go.Proofs.YtmbbcmebdefggaaGreatDoor
open Go Go.RowKit SL
end Go.Proofs.YtmbbcmebdefggaaGreatDoor
