/- Walks: states. -/
import Derived.Test.YthijakignhjmgaaSA
namespace Go.Proofs.Ythijakignhjmgaa
open Go Go.RowKit SL
instance : Zr Try.prog 189 .nilFunc := Zr_mk (by kernel_rfl)
theorem stF_isB {n : Nat} (h8 : n ≤ 8) : ∀ (f : Nat) (x : List Nat) (i used : Nat), isB x → ∀ y ∈ stF n f x i used, isB y
  | 0, x, i, used, bx, y, hy => by
    rw [stF, List.mem_singleton] at hy
    rw [hy]; exact bx
  | f + 1, x, i, used, bx, y, hy => by
    rw [stF, List.mem_flatMap] at hy
    obtain ⟨r, hr, hy⟩ := hy
    have := List.mem_range.1 hr
    split at hy
    · exact stF_isB h8 f _ _ _ (isB_set bx (by omega)) y hy
    · cases hy
theorem flatS_len : ∀ {l : List (List Nat)}, (∀ y ∈ l, isB y) → (flatS l).length = 8 * l.length
  | [], _ => rfl
  | y :: l, h => by
    have ih := flatS_len (l := l) fun z hz => h z (List.mem_cons_of_mem _ hz)
    unfold flatS at ih ⊢
    rw [List.flatMap_cons, List.length_append, ih, u8s_len, (h y (List.mem_cons_self)).1, List.length_cons]
    omega
theorem states_len {n : Nat} (h8 : n ≤ 8) : (flatS (stF n n Z8 0 0)).length ≤ 134217728 := by
  rw [flatS_len (stF_isB h8 n Z8 0 0 isB_Z8)]
  have h1 := stF_count n n Z8 0 0
  have h2 : n ^ n ≤ 8 ^ n := Nat.pow_le_pow_left h8 n
  have h3 : 8 ^ n ≤ 8 ^ 8 := Nat.pow_le_pow_right (by decide) h8
  have h4 : (8 : Nat) ^ 8 = 16777216 := by decide
  omega
set_option maxRecDepth 100000 in
theorem states_gives (n : Nat) (h8 : n ≤ 8) (w : World) : GivesN Try.prog 87 #[.int .i64 (n : Int)] (isRow 115 8 (flatS (stF n n Z8 0 0))) w := by
  have hb := states_len h8
  refine givesN_of (args := [.int .i64 (n : Int)]) [(0, .int .i64 (n : Int))] [] Try.func87 rfl Try.ntmps87 rfl (argsF_cons rfl argsF_nil) (Holds.start w) ?_
  repeat' (first | (apply Jq_func3; exact rfl; exact rfl; exact rfl; exact rfl) | (apply Jq_assign; exact rfl; exact rfl) | (apply Jq_load; exact rfl; exact rfl; (exact mb); (first | exact rfl)) | (apply Jq_loadW; exact rfl; exact rfl; (exact mb); (first | exact rfl | omega | exact Nat.le_of_ble_eq_true rfl)) | (apply Jq_loadA; exact rfl; exact rfl; (exact mb); (first | exact rfl); (first | exact rfl | omega | exact Nat.le_of_ble_eq_true rfl)) | (apply J_s1; exact rfl; exact rfl; exact rfl; infer_instance; (first | exact rfl | omega | exact Nat.le_of_ble_eq_true rfl); (first | exact rfl); infer_instance) | (apply J_sW; exact rfl; exact rfl; infer_instance; (first | exact rfl | omega | exact Nat.le_of_ble_eq_true rfl); (first | exact rfl | omega | exact Nat.le_of_ble_eq_true rfl); (first | exact ones_of rfl | exact u8s_one _ | exact i64s_one _ | exact bls_one _ | exact gv_one _ _ _ | exact dv_one _ _ _ _ _ _); infer_instance) | (apply J_sR; exact rfl; exact rfl; exact rfl; infer_instance; (first | exact rfl | omega | exact Nat.le_of_ble_eq_true rfl); (first | exact i64s_setR)) | (apply Jq_loadR; exact rfl; exact rfl; (first | exact rb | assumption); (first | exact rfl)) | (apply J_box; exact rfl; exact rfl; exact rfl; (intro _)) | (apply J_alloc (cs := gv 0 Z8 Z8); exact rfl; exact rfl; (intro _)) | (apply J_alloc (cs := dv 0 Z8 Z8 0 Z8 Z8); exact rfl; exact rfl; (intro _)) | (apply J_alloc (cs := u8s Z8); exact rfl; exact rfl; (intro _)) | (apply J_alloc (cs := i64s Z8); exact rfl; exact rfl; (intro _)) | (apply J_alloc (cs := bls F8); exact rfl; exact rfl; (intro _)) | (apply J_alloc; exact rfl; exact rfl; (intro _)) | (apply Jz (cs := gv 0 Z8 Z8); exact rfl; exact rfl) | (apply Jz (cs := dv 0 Z8 Z8 0 Z8 Z8); exact rfl; exact rfl) | (apply Jz (cs := u8s Z8); exact rfl; exact rfl) | (apply Jz (cs := i64s Z8); exact rfl; exact rfl) | (apply Jz (cs := bls F8); exact rfl; exact rfl) | (apply Jq_build0; exact rfl) | (apply J_lit0; exact rfl; (intro _)) | refine thenQ_normal ?_ | refine thenQ_exit ?_ | refine thenQ_ret ?_ | refine inBlockQ_normal ?_ | refine inBlockQ_ret ?_ | refine inBlockQ_here ?_ | (apply inBlockQ_on; exact rfl) | refine JC_seq ?_ | refine JC_region ?_ | refine J_nil ?_ | refine JC_block ?_ | refine JC_skip ?_ | refine JC_ret ?_ | refine JC_exit ?_)
  rename_i bn br bo bp
  repeat' (first | (apply JcEcP (H1 := .blk bo [.slice (some ⟨br, 0, none⟩) 0 0] 62 :: .row (.slice (some ⟨br, 0, none⟩) 0 0) 115 8 [] :: .blk bp [.func (.func 139) #[] #[.pointer (some ⟨bn, 0, none⟩), .pointer (some ⟨bo, 0, none⟩), .pointer (some ⟨bp, 0, none⟩)]] 189 :: .blk bn [.int .i64 (n : Int)] 3 :: []); exact rfl; exact rfl; exact rfl; infer_instance; (refine entP (ent ?_ (List.nil_sublist _)) ?_; (repeat refine fr_cons rfl ?_); exact fr_nil; (repeat (first | exact sp_nil | exact sp_refl | exact sp_end | (with_reducible apply sp0) | (with_reducible apply sp1) | (with_reducible apply sp2) | (with_reducible apply sp3) | (with_reducible apply sp4) | (with_reducible apply sp5) | (with_reducible apply sp6) | (with_reducible apply sp7) | apply sp0 | apply sp1 | apply sp2 | apply sp3 | apply sp4 | apply sp5))); (exact put_gives n h8 w.heap.size w bn bo bp _ _ _ n 0 (by omega) Z8 0 isB_Z8 (by decide) [] [] _ (by rw [List.length_nil]; omega)); (intro v' H' hV; obtain ⟨rfl, u, rfl⟩ := hV)) | (apply Jq_assign; exact rfl; exact rfl) | (apply Jq_load; exact rfl; exact rfl; (exact mb); (first | exact rfl)) | (apply Jq_loadW; exact rfl; exact rfl; (exact mb); (first | exact rfl | omega | exact Nat.le_of_ble_eq_true rfl)) | (apply Jq_loadA; exact rfl; exact rfl; (exact mb); (first | exact rfl); (first | exact rfl | omega | exact Nat.le_of_ble_eq_true rfl)) | (apply J_s1; exact rfl; exact rfl; exact rfl; infer_instance; (first | exact rfl | omega | exact Nat.le_of_ble_eq_true rfl); (first | exact rfl); infer_instance) | (apply J_sW; exact rfl; exact rfl; infer_instance; (first | exact rfl | omega | exact Nat.le_of_ble_eq_true rfl); (first | exact rfl | omega | exact Nat.le_of_ble_eq_true rfl); (first | exact ones_of rfl | exact u8s_one _ | exact i64s_one _ | exact bls_one _ | exact gv_one _ _ _ | exact dv_one _ _ _ _ _ _); infer_instance) | (apply J_sR; exact rfl; exact rfl; exact rfl; infer_instance; (first | exact rfl | omega | exact Nat.le_of_ble_eq_true rfl); (first | exact i64s_setR)) | (apply Jq_loadR; exact rfl; exact rfl; (first | exact rb | assumption); (first | exact rfl)) | (apply J_box; exact rfl; exact rfl; exact rfl; (intro _)) | (apply J_alloc (cs := gv 0 Z8 Z8); exact rfl; exact rfl; (intro _)) | (apply J_alloc (cs := dv 0 Z8 Z8 0 Z8 Z8); exact rfl; exact rfl; (intro _)) | (apply J_alloc (cs := u8s Z8); exact rfl; exact rfl; (intro _)) | (apply J_alloc (cs := i64s Z8); exact rfl; exact rfl; (intro _)) | (apply J_alloc (cs := bls F8); exact rfl; exact rfl; (intro _)) | (apply J_alloc; exact rfl; exact rfl; (intro _)) | (apply Jz (cs := gv 0 Z8 Z8); exact rfl; exact rfl) | (apply Jz (cs := dv 0 Z8 Z8 0 Z8 Z8); exact rfl; exact rfl) | (apply Jz (cs := u8s Z8); exact rfl; exact rfl) | (apply Jz (cs := i64s Z8); exact rfl; exact rfl) | (apply Jz (cs := bls F8); exact rfl; exact rfl) | (apply Jq_build0; exact rfl) | (apply J_lit0; exact rfl; (intro _)) | refine thenQ_normal ?_ | refine thenQ_exit ?_ | refine thenQ_ret ?_ | refine inBlockQ_normal ?_ | refine inBlockQ_ret ?_ | refine inBlockQ_here ?_ | (apply inBlockQ_on; exact rfl) | refine JC_seq ?_ | refine JC_region ?_ | refine J_nil ?_ | refine JC_block ?_ | refine JC_skip ?_ | refine JC_ret ?_ | refine JC_exit ?_)
  rw [List.nil_append]
  refine n1 (its := [.row u 115 8 (flatS (stF n n Z8 0 0))]) rfl rfl rfl ?_ (by unfold isRow; rfl)
  (refine ent ?_ ?_; (repeat refine fr_cons rfl ?_); exact fr_nil; (repeat (first | exact List.nil_sublist _ | exact List.Sublist.refl _ | refine List.Sublist.cons_cons _ ?_ | refine List.Sublist.cons _ ?_)))
end Go.Proofs.Ythijakignhjmgaa
