/- Law: FnExactGridOfMosaic. -/
import Derived.Test.YthijakignhjmgaaND
import Derived.Test.YthijakignhjmgaaWP
namespace Go.Proofs.Ythijakignhjmgaa
open Go Go.RowKit SL
theorem alongS_len {n : Nat} {c : Nat → Nat → Bool} {st row : Nat} : ∀ (f i r : Nat) (X O : List Nat) (D : List Bool), (alongS n c st row f i r (X, O, D)).2.1.length = X.length ∧ (alongS n c st row f i r (X, O, D)).2.2.1.length = O.length
  | 0, _, _, _, _, _ => ⟨rfl, rfl⟩
  | f + 1, i, r, X, O, D => by
    unfold alongS
    split
    · exact ⟨rfl, rfl⟩
    · split
      · exact ⟨List.length_set, rfl⟩
      · split
        · exact ⟨List.length_set, List.length_set⟩
        · obtain ⟨h1, h2⟩ := alongS_len (n := n) (c := c) (st := st) (row := row) f (oR n c (oC n c i r).toNat i).toNat (oC n c i r).toNat (X.set i r) (O.set i (oC n c i r).toNat) (D.set i true)
          exact ⟨h1.trans List.length_set, h2.trans List.length_set⟩
theorem gridS_len {n : Nat} {c : Nat → Nat → Bool} : ∀ (k : Nat) (X O : List Nat) (D : List Bool), gridS n c (Z8, Z8, F8) k = some (X, O, D) → X.length = 8 ∧ O.length = 8
  | 0, X, O, D, h => by
    unfold gridS at h
    injection h with h
    injection h with h1 h2
    injection h2 with h2 h3
    exact ⟨by rw [← h1]; rfl, by rw [← h2]; rfl⟩
  | k + 1, X, O, D, h => by
    unfold gridS at h
    cases hk : gridS n c (Z8, Z8, F8) k with
    | none => rw [hk] at h; cases h
    | some s =>
      obtain ⟨X1, O1, D1⟩ := s
      have ih := gridS_len k X1 O1 D1 hk
      rw [hk] at h
      dsimp only at h
      split at h
      · injection h with h
        injection h with h1 h2
        injection h2 with h2 h3
        rw [← h1, ← h2]
        exact ih
      · split at h
        · cases h
        · split at h
          · injection h with h
            have h1 := alongS_len (n := n) (c := c) (st := k) (row := (lowD (fun r => c r k) n n).toNat) (n + 1) k (lowD (fun r => c r k) n n).toNat X1 O1 D1
            rw [h] at h1
            exact ⟨h1.1.trans ih.1, h1.2.trans ih.2⟩
          · cases h
theorem endG_form (n : Nat) (T : List Nat) : ∃ (m : Int) (X O : List Nat) (c : Int), X.length = 8 ∧ O.length = 8 ∧ endG n T (gridS n (crT n T) (Z8, Z8, F8) n) = .tuple #[.agg (gv m X O).toArray, .int .i64 c] := by
  cases h : gridS n (crT n T) (Z8, Z8, F8) n with
  | none => exact ⟨0, Z8, Z8, 5, rfl, rfl, rfl⟩
  | some s =>
    obtain ⟨X, O, D⟩ := s
    have hl := gridS_len n X O D h
    by_cases hk : okG (n : Int) X O ∧ mosT n (tile n X O) = T
    · exact ⟨n, X, O, 0, hl.1, hl.2, if_pos hk⟩
    · exact ⟨0, Z8, Z8, 5, rfl, rfl, if_neg hk⟩
set_option maxRecDepth 100000 in
theorem lawGridOf_gives (n : Int) (T : List Nat) (bT : isB64 T) (w : World) : Gives Try.prog 3 #[.agg (mv n T).toArray] (.bool true) w := by
  have lT := bT.1
  have ug := mv_len (n := n) lT
  refine gives_of (args := [.agg (mv n T).toArray]) [(0, .agg (mv n T).toArray)] [] Try.func3 rfl Try.ntmps3 rfl (argsF_cons rfl argsF_nil) (Holds.start w) ?_
  by_cases g : okM n T
  · obtain ⟨n, rfl⟩ : ∃ m : Nat, n = (m : Int) := ⟨n.toNat, by have := g.1; omega⟩
    obtain ⟨m, X, O, c, lX, lO, he⟩ := endG_form n T
    have hs := fun w => sgrid_good n T bT g w
    have hi := fun w => igrid_good n T bT g w
    rw [he] at hs hi
    have ug1 := gv_len (n := m) lX lO
    repeat' (first | (apply Jq_move; exact rfl; exact rfl) | (apply Jq_assign; exact rfl; exact rfl) | (apply Jq_load; exact rfl; exact rfl; (exact mb); (first | exact rfl)) | (apply Jq_cmp; exact rfl; exact rfl; exact rfl; exact rfl) | (apply Jq_not; exact rfl; exact rfl) | (apply Jq_pick_true; exact rfl; exact rfl; exact rfl) | (apply Jq_pick_false; exact rfl; exact rfl; exact rfl) | (apply J_on; exact rfl; exact rfl) | (apply J_skip; exact rfl; exact rfl; exact rfl; exact rfl) | (apply Jc; exact rfl; exact rfl; exact rfl; infer_instance; ((intro w hw); first | exact toMosaic_gives _ T lT w | exact hs w | exact hi w | exact eqGrid_same m X O lX lO w)) | (apply Jq_loadW; exact rfl; exact rfl; (exact mb); (first | exact rfl | omega)) | (apply Jq_loadA; exact rfl; exact rfl; (exact mb); (first | exact rfl); (first | exact rfl | omega)) | (apply J_s1; exact rfl; exact rfl; exact rfl; infer_instance; (first | exact rfl | omega); (first | exact rfl); infer_instance) | (apply J_sW; exact rfl; exact rfl; infer_instance; (first | exact rfl | omega); (first | exact rfl | omega); (first | exact ones_of rfl | exact u8s_one _ | exact i64s_one _ | exact bls_one _ | exact gv_one _ _ _ | exact dv_one _ _ _ _ _ _ | exact mv_one _ _ | exact gv_one _ _ _); infer_instance) | (apply J_sR; exact rfl; exact rfl; exact rfl; infer_instance; (first | exact rfl | omega); (first | exact i64s_setR)) | (apply Jq_loadR; exact rfl; exact rfl; (first | exact rb | assumption); (first | exact rfl)) | (apply Jq_ext20; exact rfl; exact rfl) | (apply Jq_ext21; exact rfl; exact rfl) | (apply Jq_extract; exact rfl; exact rfl; exact rfl) | (apply J_box; exact rfl; exact rfl; exact rfl; (intro _)) | (apply J_alloc (cs := gv 0 Z8 Z8); exact rfl; exact rfl; (intro _)) | (apply J_alloc (cs := dv 0 Z8 Z8 0 Z8 Z8); exact rfl; exact rfl; (intro _)) | (apply J_alloc (cs := u8s Z8); exact rfl; exact rfl; (intro _)) | (apply J_alloc (cs := i64s Z8); exact rfl; exact rfl; (intro _)) | (apply J_alloc (cs := bls F8); exact rfl; exact rfl; (intro _)) | (apply J_alloc; exact rfl; exact rfl; (intro _)) | refine thenQ_normal ?_ | refine thenQ_exit ?_ | refine thenQ_ret ?_ | refine inBlockQ_normal ?_ | refine inBlockQ_ret ?_ | refine inBlockQ_here ?_ | (apply inBlockQ_on; exact rfl) | refine JC_seq ?_ | refine JC_region ?_ | refine J_nil ?_ | refine JC_block ?_ | refine JC_skip ?_ | refine JC_ret ?_ | refine JC_exit ?_ | (apply JC_if_true; exact rfl) | (apply JC_if_false; exact rfl) | (apply JC_dec_true; exact rfl; omega) | (apply JC_dec_false; exact rfl; omega) | (apply JC_ndec_true; exact rfl; omega) | (apply JC_ndec_false; exact rfl; omega) | (apply J_gdT; exact rfl; exact rfl; omega) | (apply J_gdF; exact rfl; exact rfl; omega) | (apply J_gnT; exact rfl; exact rfl; omega) | (apply J_gnF; exact rfl; exact rfl; omega) | refine JC_dec rfl (fun _ => ?_) (fun _ => ?_) | refine JC_ndec rfl (fun _ => ?_) (fun _ => ?_) | refine JC_if rfl (fun _ => ?_) (fun _ => ?_) | refine J_gd rfl rfl (fun _ => ?_) (fun _ => ?_) | refine J_gn rfl rfl (fun _ => ?_) (fun _ => ?_) | refine J_gb rfl rfl (fun _ => ?_) (fun _ => ?_))
    exact g1 rfl rfl rfl rfl
  · have lZ : Z8.length = 8 := rfl
    have ug1 := gv_len (n := 0) lZ lZ
    repeat' (first | (apply Jq_move; exact rfl; exact rfl) | (apply Jq_assign; exact rfl; exact rfl) | (apply Jq_load; exact rfl; exact rfl; (exact mb); (first | exact rfl)) | (apply Jq_cmp; exact rfl; exact rfl; exact rfl; exact rfl) | (apply Jq_not; exact rfl; exact rfl) | (apply Jq_pick_true; exact rfl; exact rfl; exact rfl) | (apply Jq_pick_false; exact rfl; exact rfl; exact rfl) | (apply J_on; exact rfl; exact rfl) | (apply J_skip; exact rfl; exact rfl; exact rfl; exact rfl) | (apply Jc; exact rfl; exact rfl; exact rfl; infer_instance; ((intro w hw); first | exact toMosaic_gives _ T lT w | exact sgrid_bad n T bT g w | exact igrid_bad n T bT g w | exact eqGrid_same 0 Z8 Z8 lZ lZ w)) | (apply Jq_loadW; exact rfl; exact rfl; (exact mb); (first | exact rfl | omega)) | (apply Jq_loadA; exact rfl; exact rfl; (exact mb); (first | exact rfl); (first | exact rfl | omega)) | (apply J_s1; exact rfl; exact rfl; exact rfl; infer_instance; (first | exact rfl | omega); (first | exact rfl); infer_instance) | (apply J_sW; exact rfl; exact rfl; infer_instance; (first | exact rfl | omega); (first | exact rfl | omega); (first | exact ones_of rfl | exact u8s_one _ | exact i64s_one _ | exact bls_one _ | exact gv_one _ _ _ | exact dv_one _ _ _ _ _ _ | exact mv_one _ _ | exact gv_one _ _ _); infer_instance) | (apply J_sR; exact rfl; exact rfl; exact rfl; infer_instance; (first | exact rfl | omega); (first | exact i64s_setR)) | (apply Jq_loadR; exact rfl; exact rfl; (first | exact rb | assumption); (first | exact rfl)) | (apply Jq_ext20; exact rfl; exact rfl) | (apply Jq_ext21; exact rfl; exact rfl) | (apply Jq_extract; exact rfl; exact rfl; exact rfl) | (apply J_box; exact rfl; exact rfl; exact rfl; (intro _)) | (apply J_alloc (cs := gv 0 Z8 Z8); exact rfl; exact rfl; (intro _)) | (apply J_alloc (cs := dv 0 Z8 Z8 0 Z8 Z8); exact rfl; exact rfl; (intro _)) | (apply J_alloc (cs := u8s Z8); exact rfl; exact rfl; (intro _)) | (apply J_alloc (cs := i64s Z8); exact rfl; exact rfl; (intro _)) | (apply J_alloc (cs := bls F8); exact rfl; exact rfl; (intro _)) | (apply J_alloc; exact rfl; exact rfl; (intro _)) | refine thenQ_normal ?_ | refine thenQ_exit ?_ | refine thenQ_ret ?_ | refine inBlockQ_normal ?_ | refine inBlockQ_ret ?_ | refine inBlockQ_here ?_ | (apply inBlockQ_on; exact rfl) | refine JC_seq ?_ | refine JC_region ?_ | refine J_nil ?_ | refine JC_block ?_ | refine JC_skip ?_ | refine JC_ret ?_ | refine JC_exit ?_ | (apply JC_if_true; exact rfl) | (apply JC_if_false; exact rfl) | (apply JC_dec_true; exact rfl; omega) | (apply JC_dec_false; exact rfl; omega) | (apply JC_ndec_true; exact rfl; omega) | (apply JC_ndec_false; exact rfl; omega) | (apply J_gdT; exact rfl; exact rfl; omega) | (apply J_gdF; exact rfl; exact rfl; omega) | (apply J_gnT; exact rfl; exact rfl; omega) | (apply J_gnF; exact rfl; exact rfl; omega) | refine JC_dec rfl (fun _ => ?_) (fun _ => ?_) | refine JC_ndec rfl (fun _ => ?_) (fun _ => ?_) | refine JC_if rfl (fun _ => ?_) (fun _ => ?_) | refine J_gd rfl rfl (fun _ => ?_) (fun _ => ?_) | refine J_gn rfl rfl (fun _ => ?_) (fun _ => ?_) | refine J_gb rfl rfl (fun _ => ?_) (fun _ => ?_))
    exact g1 rfl rfl rfl rfl
end Go.Proofs.Ythijakignhjmgaa
