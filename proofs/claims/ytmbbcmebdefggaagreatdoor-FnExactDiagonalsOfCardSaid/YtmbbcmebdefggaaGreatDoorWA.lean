/- Walks: tests of grids; places. -/
import Derived.Test.YtmbbcmebdefggaaGreatDoorV
namespace Go.Proofs.YtmbbcmebdefggaaGreatDoor
open Go Go.RowKit SL
set_option maxRecDepth 100000 in
theorem within_gives (x lo hi : Int) (w : World) : Gives Tryz.prog 115 #[.int .i64 x, .int .i64 lo, .int .i64 hi] (.bool (decide (lo ≤ x ∧ x ≤ hi))) w := by
  refine gives_of (args := [.int .i64 x, .int .i64 lo, .int .i64 hi]) [(0, .int .i64 x), (1, .int .i64 lo), (2, .int .i64 hi)] [] Tryz.func115 rfl Tryz.ntmps115 rfl (argsF_cons rfl (argsF_cons rfl (argsF_cons rfl argsF_nil))) (Holds.start w) ?_
  repeat' (first | (apply Jq_move; exact rfl; exact rfl) | (apply Jq_assign; exact rfl; exact rfl) | (apply Jq_cmp; exact rfl; exact rfl; exact rfl; exact rfl) | (apply Jq_pick_true; exact rfl; exact rfl; exact rfl) | (apply Jq_pick_false; exact rfl; exact rfl; exact rfl) | (apply J_on; exact rfl; exact rfl) | (apply J_skip; exact rfl; exact rfl; exact rfl; exact rfl) | refine thenQ_normal ?_ | refine JC_seq ?_ | refine JC_region ?_ | refine J_nil ?_ | refine JC_ret ?_ | refine J_gd rfl rfl (fun _ => ?_) (fun _ => ?_))
  · exact g1 rfl rfl rfl (by simp [*])
  · exact g1 rfl rfl rfl (by simp [*])
set_option maxRecDepth 100000 in
theorem l01In_gives (x lo hi : Int) (w : World) : Gives Tryz.prog 138 #[.int .i64 x, .int .i64 lo, .int .i64 hi] (.bool (decide (lo ≤ x ∧ x ≤ hi))) w := by
  refine gives_of (args := [.int .i64 x, .int .i64 lo, .int .i64 hi]) [(0, .int .i64 x), (1, .int .i64 lo), (2, .int .i64 hi)] [] Tryz.func138 rfl Tryz.ntmps138 rfl (argsF_cons rfl (argsF_cons rfl (argsF_cons rfl argsF_nil))) (Holds.start w) ?_
  repeat' (first | (apply Jq_move; exact rfl; exact rfl) | (apply Jq_assign; exact rfl; exact rfl) | (apply Jq_cmp; exact rfl; exact rfl; exact rfl; exact rfl) | (apply Jq_pick_true; exact rfl; exact rfl; exact rfl) | (apply Jq_pick_false; exact rfl; exact rfl; exact rfl) | (apply J_on; exact rfl; exact rfl) | (apply J_skip; exact rfl; exact rfl; exact rfl; exact rfl) | refine thenQ_normal ?_ | refine JC_seq ?_ | refine JC_region ?_ | refine J_nil ?_ | refine JC_ret ?_ | refine J_gd rfl rfl (fun _ => ?_) (fun _ => ?_))
  · exact g1 rfl rfl rfl (by simp [*])
  · exact g1 rfl rfl rfl (by simp [*])
set_option maxRecDepth 100000 in
theorem n_gives (n : Int) (X O : List Nat) (w : World) : Gives Tryz.prog 73 #[.agg (gv n X O).toArray] (.int .i64 n) w := by
  refine gives_of (args := [.agg (gv n X O).toArray]) [(0, .agg (gv n X O).toArray)] [] Tryz.func73 rfl Tryz.ntmps73 rfl (argsF_cons rfl argsF_nil) (Holds.start w) ?_
  repeat' (first | (apply Jq_assign; exact rfl; exact rfl) | (apply Jq_load; exact rfl; exact rfl; (exact mb); (exact rfl)) | (apply Jq_fieldAddr; exact rfl; exact rfl) | (apply J_box; exact rfl; exact rfl; exact rfl; (intro _)) | refine thenQ_normal ?_ | refine JC_seq ?_ | refine JC_region ?_ | refine J_nil ?_ | refine JC_ret ?_)
  exact g1 rfl rfl rfl rfl
set_option maxRecDepth 100000 in
theorem l01Perm_gives (X : List Nat) (n : Nat) (hB : isB X) (h2 : 2 ≤ n) (h8 : n ≤ 8) (w : World) :
    Gives Tryz.prog 139 #[.agg (u8s X).toArray, .int .i64 (n : Int)] (.bool (@decide (isPerm X n) (Classical.propDecidable _))) w := by
  obtain ⟨hX, hb⟩ := hB
  refine gives_of (args := [.agg (u8s X).toArray, .int .i64 (n : Int)]) [(0, .agg (u8s X).toArray), (1, .int .i64 (n : Int))] [] Tryz.func139 rfl Tryz.ntmps139 rfl (argsF_cons rfl (argsF_cons rfl argsF_nil)) (Holds.start w) ?_
  repeat' (first | (apply Jq_assign; exact rfl; exact rfl) | (apply J_sW; exact rfl; exact rfl; infer_instance; (exact rfl); (exact rfl); (exact ones_of rfl); infer_instance) | (apply J_box; exact rfl; exact rfl; exact rfl; (intro _)) | (apply J_alloc (cs := bls F8); exact rfl; exact rfl; (intro _)) | (apply Jz (cs := bls F8); exact rfl; exact rfl) | refine thenQ_normal ?_ | refine JC_seq ?_ | refine JC_region ?_ | refine J_nil ?_ | refine JC_block ?_)
  rename_i b2 b5
  refine JC_loop (X := Nat × List Bool) (fun p => p.1 ≤ 8 ∧ okp X n p.1 ∧ metp X n p.1 p.2) (fun p => [(6, .int .i64 (p.1 : Int)), (1, .int .i64 (n : Int)), (2, .pointer (some ⟨b2, 0, none⟩)), (5, .pointer (some ⟨b5, 0, none⟩))])
    (fun p => [.blk b5 (bls p.2) 198, .blk b2 (u8s X) 22]) (fun p => 8 - p.1) (0, List.replicate 8 false) ⟨by omega, okp_zero X n, metp_zero X n⟩ ?_ ?_
  · (refine ent ?_ ?_; (repeat refine fr_cons rfl ?_); exact fr_nil; (repeat (exact List.Sublist.refl _)))
  · rintro ⟨k, M⟩ ⟨hk, ho, hm⟩
    dsimp only at hk ho hm ⊢
    have hbk := hb k
    have hM := hm.1
    have lM := bls_len M
    repeat' (first | (apply Jq_move; exact rfl; exact rfl) | (apply Jq_assign; exact rfl; exact rfl) | (apply Jq_load; exact rfl; exact rfl; (exact mb); (first | (refine u8s_at ?_; omega) | (refine bls_at ?_; omega))) | (apply Jq_indexN; exact rfl; exact rfl; exact rfl; omega) | (apply Jq_cmp; exact rfl; exact rfl; exact rfl; exact rfl) | (apply Jq_add; exact rfl; exact rfl; exact rfl; omega) | (apply Jq_pick_true; exact rfl; exact rfl; exact rfl) | (apply Jq_pick_false; exact rfl; exact rfl; exact rfl) | (apply J_on; exact rfl; exact rfl) | (apply J_skip; exact rfl; exact rfl; exact rfl; exact rfl) | (apply J_s1; exact rfl; exact rfl; exact rfl; infer_instance; (omega); (exact bls_set); infer_instance) | refine thenQ_normal ?_ | refine thenQ_exit ?_ | refine thenQ_ret ?_ | refine inBlockQ_normal ?_ | refine inBlockQ_ret ?_ | refine inBlockQ_here ?_ | refine JC_seq ?_ | refine JC_region ?_ | refine J_nil ?_ | refine JC_block ?_ | refine JC_skip ?_ | refine JC_ret ?_ | refine JC_exit ?_ | (apply JC_if_true; exact rfl) | (apply Jq_conv; exact rfl; exact rfl; exact wrap64_nat hbk) | refine JC_dec rfl (fun _ => ?_) (fun _ => ?_) | refine JC_ndec rfl (fun _ => ?_) (fun _ => ?_) | refine JC_if rfl (fun _ => ?_) (fun _ => ?_) | refine J_gd rfl rfl (fun _ => ?_) (fun _ => ?_))
    · exact g1 rfl rfl rfl (boolF fun hp => by have := hp.2.2 k (by omega); omega)
    · refine ⟨(k + 1, M), ⟨by omega, okp_skip ho (by omega) (by omega), metp_skip hm (by omega)⟩, by dsimp only; omega, ?_⟩
      (refine ent ?_ ?_; (repeat refine fr_cons rfl ?_); exact fr_nil; (repeat (exact List.Sublist.refl _)))
    · exact g1 rfl rfl rfl (boolF (okp_no_range (i := k) (by omega) (by omega)))
    · rename_i hf
      exact g1 rfl rfl rfl (boolF (okp_no_met hm (by omega) h8 hf))
    · rename_i hf
      refine ⟨(k + 1, M.set (X.getD k 0) true), ⟨by dsimp only; omega, okp_put ho hm (by omega) h8 (by omega) hf, metp_put hm (by omega) (by omega)⟩, by dsimp only; omega, ?_⟩
      (refine ent ?_ ?_; (repeat refine fr_cons rfl ?_); exact fr_nil; (repeat (exact List.Sublist.refl _)))
    · obtain rfl : k = 8 := by omega
      exact g1 rfl rfl rfl (boolT ((okp_end hX h8).1 ho))
set_option maxRecDepth 100000 in
theorem isOrder_gives (X : List Nat) (n b off : Nat) (hB : isB X) (h2 : 2 ≤ n) (h8 : n ≤ 8) (w : World) (hb' : b < w.heap.size) (hc : ∀ i v, (u8s X)[i]? = some v → w.cell? ⟨b, off + i, none⟩ = some v) :
    Gives Tryz.prog 116 #[.slice (some ⟨b, off, none⟩) 8 8, .int .i64 (n : Int)] (.bool (@decide (isPerm X n) (Classical.propDecidable _))) w := by
  obtain ⟨hX, hb⟩ := hB
  refine gives_of (args := [.slice (some ⟨b, off, none⟩) 8 8, .int .i64 (n : Int)]) [(0, .slice (some ⟨b, off, none⟩) 8 8), (1, .int .i64 (n : Int))] [.rd b off (u8s X)] Tryz.func116 rfl Tryz.ntmps116 rfl (argsF_cons rfl (argsF_cons rfl argsF_nil)) (Holds.start_rd hb' hc) ?_
  repeat' (first | (apply Jq_move; exact rfl; exact rfl) | (apply Jq_assign; exact rfl; exact rfl) | (apply Jq_len; exact rfl; exact rfl) | refine thenQ_normal ?_ | refine JC_seq ?_ | refine JC_region ?_ | refine J_nil ?_ | refine JC_block ?_)
  refine JC_loop (X := Nat × Nat) (fun p => p.1 ≤ 8 ∧ oko X n p.1 p.2) (fun p => [(10, .int .i64 (p.1 : Int)), (9, .int .i64 8), (1, .int .i64 (n : Int)), (5, .int .i64 (p.2 : Int)), (8, .slice (some ⟨b, off, none⟩) 8 8)])
    (fun _ => [.rd b off (u8s X)]) (fun p => 8 - p.1) (0, 0) ⟨by omega, oko_zero X n⟩ ?_ ?_
  · (refine ent ?_ ?_; (repeat refine fr_cons rfl ?_); exact fr_nil; (repeat (exact List.Sublist.refl _)))
  · rintro ⟨k, M⟩ ⟨hk, ho⟩
    dsimp only at hk ho ⊢
    have hbk := hb k
    repeat' (first | (apply Jq_move; exact rfl; exact rfl) | (apply Jq_assign; exact rfl; exact rfl) | (apply Jq_indexSN; exact rfl; exact rfl; exact rfl; omega) | (apply Jq_cmp; exact rfl; exact rfl; exact rfl; exact rfl) | (apply Jq_add; exact rfl; exact rfl; exact rfl; omega) | (apply Jq_pick_true; exact rfl; exact rfl; exact rfl) | (apply Jq_pick_false; exact rfl; exact rfl; exact rfl) | (apply J_on; exact rfl; exact rfl) | (apply J_skip; exact rfl; exact rfl; exact rfl; exact rfl) | refine thenQ_normal ?_ | refine thenQ_exit ?_ | refine thenQ_ret ?_ | refine inBlockQ_normal ?_ | refine inBlockQ_ret ?_ | refine inBlockQ_here ?_ | refine JC_seq ?_ | refine JC_region ?_ | refine J_nil ?_ | refine JC_block ?_ | refine JC_skip ?_ | refine JC_ret ?_ | refine JC_exit ?_ | (apply JC_if_true; exact rfl) | (apply JC_dec_true; exact rfl; omega) | (apply JC_dec_false; exact rfl; omega) | (apply Jq_conv; exact rfl; exact rfl; exact wrap64_nat hbk) | (apply Jq_loadD (j := k); exact rfl; exact rfl; exact m0; omega; (refine u8s_get ?_; omega)) | (apply Jq_shl1; exact rfl; exact rfl; exact rfl; omega) | (apply Jq_or; exact rfl; exact rfl; exact rfl; exact Nat.lt_trans (oko_lt ho h8) (by decide); exact Nat.pow_lt_pow_right (by decide) (by omega)) | refine JC_dec rfl (fun _ => ?_) (fun _ => ?_) | refine J_gd rfl rfl (fun _ => ?_) (fun _ => ?_) | refine J_gn rfl rfl (fun _ => ?_) (fun _ => ?_))
    · exact g1 rfl rfl rfl (boolF (oko_no (i := k) (by omega) (.inl ⟨by omega, by omega⟩)))
    · refine ⟨(k + 1, M), ⟨by dsimp only; omega, oko_skip ho (by omega) (by omega) (by omega)⟩, by dsimp only; omega, ?_⟩
      (refine ent ?_ ?_; (repeat refine fr_cons rfl ?_); exact fr_nil; (repeat (exact List.Sublist.refl _)))
    · exact g1 rfl rfl rfl (boolF (oko_no (i := k) (by omega) (.inr (by omega))))
    · refine ⟨(k + 1, M ||| 2 ^ X.getD k 0), ⟨by dsimp only; omega, oko_put ho (by omega) (by omega)⟩, by dsimp only; omega, ?_⟩
      (refine ent ?_ ?_; (repeat refine fr_cons rfl ?_); exact fr_nil; (repeat (exact List.Sublist.refl _)))
    · obtain rfl : k = 8 := by omega
      have h1 : 2 ^ n ≤ 2 ^ 8 := Nat.pow_le_pow_right (by decide) h8
      have h0 : 0 < 2 ^ n := Nat.pow_pos (by decide)
      have hend := oko_end hX h8 ho
      generalize hp : 2 ^ n = p at *
      repeat' (first | (apply Jq_assign; exact rfl; exact rfl) | (apply Jq_cmp; exact rfl; exact rfl; exact rfl; exact rfl) | (apply Jq_sub; exact rfl; exact rfl; exact rfl; omega) | refine thenQ_normal ?_ | refine J_nil ?_ | refine JC_ret ?_)
      exact g1 rfl rfl rfl (boolE (by rw [← hend]; omega))
end Go.Proofs.YtmbbcmebdefggaaGreatDoor
