/- Walks: what a grid is, in both texts; the copies that a law makes of its arguments. Walks: places of marks, strands of gaps, the braid index. -/
import Derived.Test.YtmbbcmebdefggaaGreatDoorWA
import Derived.Test.YtmbbcmebdefggaaGreatDoorDr
namespace Go.Proofs.YtmbbcmebdefggaaGreatDoor
open Go Go.RowKit SL
set_option maxRecDepth 100000 in
theorem l01Is_gives (n : Int) (X O : List Nat) (hX : isB X) (hO : isB O) (w : World) : Gives Tryz.prog 101 #[.agg (gv n X O).toArray] (.bool (@decide (okG n X O) (Classical.propDecidable _))) w := by
  have lX := hX.1
  have lO := hO.1
  have uX := u8s_len X
  have uO := u8s_len O
  by_cases hr : 2 ≤ n ∧ n ≤ 8
  · obtain ⟨m, rfl⟩ : ∃ m : Nat, n = (m : Int) := ⟨n.toNat, by omega⟩
    have h2 : 2 ≤ m := by omega
    have h8 : m ≤ 8 := by omega
    refine gives_of (args := [.agg (gv (m : Int) X O).toArray]) [(0, .agg (gv (m : Int) X O).toArray)] [] Tryz.func101 rfl Tryz.ntmps101 rfl (argsF_cons rfl argsF_nil) (Holds.start w) ?_
    repeat' (first | (apply Jq_move; exact rfl; exact rfl) | (apply Jq_assign; exact rfl; exact rfl) | (apply Jq_load; exact rfl; exact rfl; (exact mb); (exact rfl)) | (apply Jq_fieldAddr; exact rfl; exact rfl) | (apply Jq_not; exact rfl; exact rfl) | (apply Jq_pick_true; exact rfl; exact rfl; exact rfl) | (apply Jq_pick_false; exact rfl; exact rfl; exact rfl) | (apply J_on; exact rfl; exact rfl) | (apply J_skip; exact rfl; exact rfl; exact rfl; exact rfl) | (apply Jc; exact rfl; exact rfl; exact rfl; infer_instance; ((intro w hw); first | exact l01In_gives _ _ _ w | exact l01Perm_gives X m hX h2 h8 w | exact l01Perm_gives O m hO h2 h8 w)) | (apply Jq_loadA; exact rfl; exact rfl; (exact mb); (first | exact gv_arrX lX | exact gv_arrO lX lO); (omega)) | (apply J_box; exact rfl; exact rfl; exact rfl; (intro _)) | refine thenQ_normal ?_ | refine thenQ_ret ?_ | refine JC_seq ?_ | refine JC_region ?_ | refine J_nil ?_ | refine JC_block ?_ | refine JC_skip ?_ | refine JC_ret ?_ | (apply JC_if_true; exact rfl) | (apply J_gnF; exact rfl; exact rfl; omega) | refine JC_ndec rfl (fun _ => ?_) (fun _ => ?_) | refine J_gn rfl rfl (fun _ => ?_) (fun _ => ?_))
    · rename_i hp
      exact g1 rfl rfl rfl (boolF fun h => hp (by simpa using h.2.1))
    · rename_i hp
      exact g1 rfl rfl rfl (boolF fun h => hp (by simpa using h.2.2.1))
    · rename_i b1 hpX hpO
      refine JC_loop (X := Nat) (fun k => k ≤ m ∧ ∀ i, i < k → X.getD i 0 ≠ O.getD i 0) (fun k => [(3, .int .i64 (k : Int)), (1, .pointer (some ⟨b1, 0, none⟩))]) (fun _ => [.blk b1 (gv (m : Int) X O) 28]) (fun k => m - k) 0 ⟨by omega, by omega⟩ ?_ ?_
      · (refine ent ?_ ?_; (repeat refine fr_cons rfl ?_); exact fr_nil; (repeat (exact List.Sublist.refl _)))
      · rintro k ⟨hk, ho⟩
        repeat' (first | (apply Jq_move; exact rfl; exact rfl) | (apply Jq_assign; exact rfl; exact rfl) | (apply Jq_load; exact rfl; exact rfl; (exact mb); (first | exact rfl | (refine gv_X lX ?_; omega) | (refine gv_O lX lO ?_; omega))) | (apply Jq_fieldAddr; exact rfl; exact rfl) | (apply Jq_indexN; exact rfl; exact rfl; exact rfl; omega) | (apply Jq_cmp; exact rfl; exact rfl; exact rfl; exact rfl) | (apply Jq_add; exact rfl; exact rfl; exact rfl; omega) | refine thenQ_normal ?_ | refine thenQ_exit ?_ | refine thenQ_ret ?_ | refine inBlockQ_normal ?_ | refine inBlockQ_ret ?_ | refine inBlockQ_here ?_ | refine JC_seq ?_ | refine JC_region ?_ | (apply JC_draw mixed; kernel_rfl) | refine J_nil ?_ | refine JC_block ?_ | refine JC_skip ?_ | refine JC_ret ?_ | refine JC_exit ?_ | refine JC_dec rfl (fun _ => ?_) (fun _ => ?_))
        · exact g1 rfl rfl rfl (boolF fun h => h.2.2.2 k (by omega) (by omega))
        · refine ⟨k + 1, ⟨by omega, fun i hi => ?_⟩, by omega, ?_⟩
          · by_cases hik : i < k
            · exact ho i hik
            · obtain rfl : i = k := by omega
              omega
          · (refine ent ?_ ?_; (repeat refine fr_cons rfl ?_); exact fr_nil; (repeat (exact List.Sublist.refl _)))
        · exact g1 rfl rfl rfl (boolT (okG_loop h2 h8 hpX hpO fun i hi => ho i (by omega)))
  · refine gives_of (args := [.agg (gv n X O).toArray]) [(0, .agg (gv n X O).toArray)] [] Tryz.func101 rfl Tryz.ntmps101 rfl (argsF_cons rfl argsF_nil) (Holds.start w) ?_
    repeat' (first | (apply Jq_move; exact rfl; exact rfl) | (apply Jq_assign; exact rfl; exact rfl) | (apply Jq_load; exact rfl; exact rfl; (exact mb); (exact rfl)) | (apply Jq_fieldAddr; exact rfl; exact rfl) | (apply Jq_not; exact rfl; exact rfl) | (apply Jq_pick_true; exact rfl; exact rfl; exact rfl) | (apply J_skip; exact rfl; exact rfl; exact rfl; exact rfl) | (apply Jc; exact rfl; exact rfl; exact rfl; infer_instance; ((intro w hw); exact l01In_gives _ _ _ w)) | (apply J_box; exact rfl; exact rfl; exact rfl; (intro _)) | refine thenQ_normal ?_ | refine thenQ_ret ?_ | refine JC_seq ?_ | refine JC_region ?_ | refine J_nil ?_ | refine JC_ret ?_ | (apply JC_if_true; exact rfl) | (apply J_gnT; exact rfl; exact rfl; omega))
    exact g1 rfl rfl rfl (boolF fun h => hr h.1)
set_option maxRecDepth 100000 in
theorem IsGrid_gives (n : Int) (X O : List Nat) (hX : isB X) (hO : isB O) (w : World) : Gives Tryz.prog 60 #[.agg (gv n X O).toArray] (.bool (@decide (okG n X O) (Classical.propDecidable _))) w := by
  have lX := hX.1
  have lO := hO.1
  have uX := u8s_len X
  have uO := u8s_len O
  by_cases hr : 2 ≤ n ∧ n ≤ 8
  · obtain ⟨m, rfl⟩ : ∃ m : Nat, n = (m : Int) := ⟨n.toNat, by omega⟩
    have h2 : 2 ≤ m := by omega
    have h8 : m ≤ 8 := by omega
    have lG := gv_len (n := m) lX lO
    refine gives_of (args := [.agg (gv (m : Int) X O).toArray]) [(0, .agg (gv (m : Int) X O).toArray)] [] Tryz.func60 rfl Tryz.ntmps60 rfl (argsF_cons rfl argsF_nil) (Holds.start w) ?_
    repeat' (first | (apply Jq_move; exact rfl; exact rfl) | (apply Jq_assign; exact rfl; exact rfl) | (apply Jq_load; exact rfl; exact rfl; (exact mb); (exact rfl)) | (apply Jq_fieldAddr; exact rfl; exact rfl) | (apply Jq_not; exact rfl; exact rfl) | (apply Jq_pick_true; exact rfl; exact rfl; exact rfl) | (apply Jq_pick_false; exact rfl; exact rfl; exact rfl) | (apply J_on; exact rfl; exact rfl) | (apply J_skip; exact rfl; exact rfl; exact rfl; exact rfl) | (apply Jc; exact rfl; exact rfl; exact rfl; infer_instance; ((intro w hw); first | exact within_gives _ _ _ w | exact n_gives _ _ _ w | exact isOrder_gives X m _ _ hX h2 h8 w (hw.blk_lt m0) (hw.blk_cells m0 (gv_partX lX)) | exact isOrder_gives O m _ _ hO h2 h8 w (hw.blk_lt m0) (hw.blk_cells m0 (gv_partO lX lO)))) | (apply Jq_loadW; exact rfl; exact rfl; (exact mb); (omega)) | (apply Jq_sliceA; exact rfl; exact rfl) | (apply J_box; exact rfl; exact rfl; exact rfl; (intro _)) | refine thenQ_normal ?_ | refine thenQ_ret ?_ | refine JC_seq ?_ | refine JC_region ?_ | (apply JC_draw mixed; kernel_rfl) | refine J_nil ?_ | refine JC_block ?_ | refine JC_skip ?_ | refine JC_ret ?_ | (apply JC_if_true; exact rfl) | (apply J_gnF; exact rfl; exact rfl; omega) | refine JC_ndec rfl (fun _ => ?_) (fun _ => ?_) | refine J_gn rfl rfl (fun _ => ?_) (fun _ => ?_))
    · rename_i hp
      exact g1 rfl rfl rfl (boolF fun h => hp (by simpa using h.2.1))
    · rename_i hp
      exact g1 rfl rfl rfl (boolF fun h => hp (by simpa using h.2.2.1))
    · rename_i b1 hpX hpO
      refine JC_loop (X := Nat) (fun k => k ≤ m ∧ ∀ i, i < k → X.getD i 0 ≠ O.getD i 0) (fun k => [(26, .int .i64 (k : Int)), (25, .int .i64 (m : Int)), (1, .pointer (some ⟨b1, 0, none⟩))]) (fun _ => [.blk b1 (gv (m : Int) X O) 28]) (fun k => m - k) 0 ⟨by omega, by omega⟩ ?_ ?_
      · (refine ent ?_ ?_; (repeat refine fr_cons rfl ?_); exact fr_nil; (repeat (exact List.Sublist.refl _)))
      · rintro k ⟨hk, ho⟩
        repeat' (first | (apply Jq_move; exact rfl; exact rfl) | (apply Jq_assign; exact rfl; exact rfl) | (apply Jq_load; exact rfl; exact rfl; (exact mb); (first | (refine gv_X lX ?_; omega) | (refine gv_O lX lO ?_; omega))) | (apply Jq_fieldAddr; exact rfl; exact rfl) | (apply Jq_indexN; exact rfl; exact rfl; exact rfl; omega) | (apply Jq_cmp; exact rfl; exact rfl; exact rfl; exact rfl) | (apply Jq_add; exact rfl; exact rfl; exact rfl; omega) | refine thenQ_normal ?_ | refine thenQ_exit ?_ | refine thenQ_ret ?_ | refine inBlockQ_normal ?_ | refine inBlockQ_ret ?_ | refine inBlockQ_here ?_ | refine JC_seq ?_ | refine JC_region ?_ | (apply JC_draw mixed; kernel_rfl) | refine J_nil ?_ | refine JC_block ?_ | refine JC_skip ?_ | refine JC_ret ?_ | refine JC_exit ?_ | refine JC_dec rfl (fun _ => ?_) (fun _ => ?_))
        · exact g1 rfl rfl rfl (boolF fun h => h.2.2.2 k (by omega) (by omega))
        · refine ⟨k + 1, ⟨by omega, fun i hi => ?_⟩, by omega, ?_⟩
          · by_cases hik : i < k
            · exact ho i hik
            · obtain rfl : i = k := by omega
              omega
          · (refine ent ?_ ?_; (repeat refine fr_cons rfl ?_); exact fr_nil; (repeat (exact List.Sublist.refl _)))
        · exact g1 rfl rfl rfl (boolT (okG_loop h2 h8 hpX hpO fun i hi => ho i (by omega)))
  · refine gives_of (args := [.agg (gv n X O).toArray]) [(0, .agg (gv n X O).toArray)] [] Tryz.func60 rfl Tryz.ntmps60 rfl (argsF_cons rfl argsF_nil) (Holds.start w) ?_
    repeat' (first | (apply Jq_move; exact rfl; exact rfl) | (apply Jq_assign; exact rfl; exact rfl) | (apply Jq_load; exact rfl; exact rfl; (exact mb); (exact rfl)) | (apply Jq_fieldAddr; exact rfl; exact rfl) | (apply Jq_not; exact rfl; exact rfl) | (apply Jq_pick_true; exact rfl; exact rfl; exact rfl) | (apply J_skip; exact rfl; exact rfl; exact rfl; exact rfl) | (apply Jc; exact rfl; exact rfl; exact rfl; infer_instance; ((intro w hw); exact within_gives _ _ _ w)) | (apply J_box; exact rfl; exact rfl; exact rfl; (intro _)) | refine thenQ_normal ?_ | refine thenQ_ret ?_ | refine JC_seq ?_ | refine JC_region ?_ | (apply JC_draw mixed; kernel_rfl) | refine J_nil ?_ | refine JC_ret ?_ | (apply JC_if_true; exact rfl) | (apply J_gnT; exact rfl; exact rfl; omega))
    exact g1 rfl rfl rfl (boolF fun h => hr h.1)
set_option maxRecDepth 100000 in
theorem toByteA8_gives (X : List Nat) (lX : X.length = 8) (w : World) : Gives Tryz.prog 50 #[.agg (u8s X).toArray] (.agg (u8s X).toArray) w := by
  have uX := u8s_len X
  refine gives_of (args := [.agg (u8s X).toArray]) [(0, .agg (u8s X).toArray)] [] Tryz.func50 rfl Tryz.ntmps50 rfl (argsF_cons rfl argsF_nil) (Holds.start w) ?_
  repeat' (first | (apply Jq_assign; exact rfl; exact rfl) | (apply J_box; exact rfl; exact rfl; exact rfl; (intro _)) | (apply J_alloc (cs := u8s Z8); exact rfl; exact rfl; (intro _)) | refine thenQ_normal ?_ | refine JC_seq ?_ | refine JC_region ?_ | refine J_nil ?_ | refine JC_block ?_)
  rename_i b1 b2 b3
  refine JC_loop (X := Nat × List Nat) (fun p => p.1 ≤ 8 ∧ p.2.length = 8 ∧ ∀ i, i < p.1 → p.2.getD i 0 = X.getD i 0) (fun p => [(4, .int .i64 (p.1 : Int)), (1, .pointer (some ⟨b1, 0, none⟩)), (2, .pointer (some ⟨b2, 0, none⟩)), (3, .pointer (some ⟨b3, 0, none⟩))])
    (fun p => [.blk b3 (u8s p.2) 22, .blk b2 (u8s Z8) 22, .blk b1 (u8s X) 22]) (fun p => 8 - p.1) (0, Z8) ⟨by omega, rfl, by omega⟩ ?_ ?_
  · (refine ent ?_ ?_; (repeat refine fr_cons rfl ?_); exact fr_nil; (repeat (exact List.Sublist.refl _)))
  · rintro ⟨k, M⟩ ⟨hk, lM, ho⟩
    dsimp only at hk lM ho ⊢
    have uM := u8s_len M
    have uZ := u8s_len Z8
    have lZ : Z8.length = 8 := rfl
    repeat' (first | (apply Jq_move; exact rfl; exact rfl) | (apply Jq_assign; exact rfl; exact rfl) | (apply Jq_load; exact rfl; exact rfl; (exact mb); (refine u8s_at ?_; omega)) | (apply Jq_indexN; exact rfl; exact rfl; exact rfl; omega) | (apply Jq_cmp; exact rfl; exact rfl; exact rfl; exact rfl) | (apply Jq_add; exact rfl; exact rfl; exact rfl; omega) | (apply Jq_loadW; exact rfl; exact rfl; (exact mb); (omega)) | (apply J_s1; exact rfl; exact rfl; exact rfl; infer_instance; (omega); (exact u8s_set); infer_instance) | (apply J_sW; exact rfl; exact rfl; infer_instance; (exact rfl); (omega); (exact u8s_one _); infer_instance) | refine thenQ_normal ?_ | refine thenQ_exit ?_ | refine inBlockQ_normal ?_ | refine inBlockQ_here ?_ | refine JC_seq ?_ | refine JC_region ?_ | refine J_nil ?_ | refine JC_block ?_ | refine JC_skip ?_ | refine JC_ret ?_ | refine JC_exit ?_ | refine JC_dec rfl (fun _ => ?_) (fun _ => ?_))
    · refine ⟨(k + 1, M.set k (X.getD k 0)), ⟨by dsimp only; omega, by simpa using lM, fun i hi => ?_⟩, by dsimp only; omega, ?_⟩
      · dsimp only at hi ⊢
        rw [set_getD (by omega)]
        split
        · rename_i e; rw [e]
        · exact ho i (by omega)
      · (refine ent ?_ ?_; (repeat refine fr_cons rfl ?_); exact fr_nil; (repeat (exact List.Sublist.refl _)))
    · have e := list8_ext lX lM fun i hi => ho i (by omega)
      exact gC rfl rfl rfl (.tail _ (.head _)) (by omega) (by rw [e])
set_option maxRecDepth 100000 in
theorem toGrid_gives (n : Int) (X O : List Nat) (lX : X.length = 8) (lO : O.length = 8) (w : World) : Gives Tryz.prog 12 #[.agg (gv n X O).toArray] (.agg (gv n X O).toArray) w := by
  have uX := u8s_len X
  have uO := u8s_len O
  have uZ := u8s_len Z8
  have lZ : Z8.length = 8 := rfl
  have g0 := gv_len (n := 0) lZ lZ
  have g1' := gv_len (n := n) lZ lZ
  have g2' := gv_len (n := n) lX lZ
  have g3' := gv_len (n := n) lX lO
  refine gives_of (args := [.agg (gv n X O).toArray]) [(0, .agg (gv n X O).toArray)] [] Tryz.func12 rfl Tryz.ntmps12 rfl (argsF_cons rfl argsF_nil) (Holds.start w) ?_
  repeat' (first | (apply Jq_load; exact rfl; exact rfl; (exact mb); (exact rfl)) | (apply Jq_fieldAddr; exact rfl; exact rfl) | (apply Jc; exact rfl; exact rfl; exact rfl; infer_instance; ((intro w hw); first | exact toByteA8_gives X lX w | exact toByteA8_gives O lO w)) | (apply Jq_loadW; exact rfl; exact rfl; (exact mb); (omega)) | (apply Jq_loadA; exact rfl; exact rfl; (exact mb); (first | exact gv_arrX lX | exact gv_arrO lX lO); (omega)) | (apply J_s1; exact rfl; exact rfl; exact rfl; infer_instance; (omega); (exact gv_setN); infer_instance) | (apply J_sP; infer_instance; exact rfl; exact rfl; (omega); (first | exact u8s_one _ | exact gv_one _ _ _); infer_instance; (omega); (first | exact gv_putX lZ | exact gv_putO lX lZ); infer_instance) | (apply J_sW; exact rfl; exact rfl; infer_instance; (exact rfl); (omega); (exact gv_one _ _ _); infer_instance) | (apply J_box; exact rfl; exact rfl; exact rfl; (intro _)) | (apply J_alloc (cs := gv 0 Z8 Z8); exact rfl; exact rfl; (intro _)) | refine thenQ_normal ?_ | refine JC_seq ?_ | refine JC_region ?_ | refine J_nil ?_ | refine JC_ret ?_)
  exact gC rfl rfl rfl (.tail _ (.head _)) g3' rfl
end Go.Proofs.YtmbbcmebdefggaaGreatDoor
namespace Go.Proofs.YtmbbcmebdefggaaGreatDoor
open Go Go.RowKit SL
def plc (r : List Nat) : Nat → List Nat
  | 0 => List.replicate 8 0
  | k + 1 => (plc r k).set (r.getD k 0) k
theorem plc_len (r : List Nat) : ∀ k, (plc r k).length = 8
  | 0 => rfl
  | k + 1 => by simp [plc, plc_len r k]
set_option maxRecDepth 100000 in
theorem places_gives (n : Nat) (X O r : List Nat) (hn : n ≤ 8) (hX : X.length = 8) (hO : O.length = 8) (hr : r.length = 8) (hlt : ∀ i, i < n → r.getD i 0 < 8) (w : World) :
    Gives Tryz.prog 192 #[.agg (gv n X O).toArray, .agg (u8s r).toArray] (.agg (i64s (plc r n)).toArray) w := by
  have ug := gv_len (n := n) hX hO
  have ur := u8s_len r
  refine gives_of (args := [.agg (gv n X O).toArray, .agg (u8s r).toArray]) [(0, .agg (gv n X O).toArray), (1, .agg (u8s r).toArray)] [] Tryz.func192 rfl Tryz.ntmps192 rfl (argsF_cons rfl (argsF_cons rfl argsF_nil)) (Holds.start w) ?_
  repeat' (first | (apply Jq_move; exact rfl; exact rfl) | (apply Jc; exact rfl; exact rfl; exact rfl; infer_instance; ((intro w hw); exact n_gives n X O w)) | (apply Jq_loadW; exact rfl; exact rfl; (exact mb); (omega)) | (apply J_sW; exact rfl; exact rfl; infer_instance; (exact rfl); (exact rfl); (exact ones_of rfl); infer_instance) | (apply J_box; exact rfl; exact rfl; exact rfl; (intro _)) | (apply J_alloc (cs := i64s Z8); exact rfl; exact rfl; (intro _)) | (apply Jz (cs := i64s Z8); exact rfl; exact rfl) | refine thenQ_normal ?_ | refine JC_seq ?_ | refine JC_region ?_ | refine J_nil ?_ | refine JC_block ?_)
  rename_i b2 b3 b4 b5
  refine JC_loop (X := Nat) (fun k => k ≤ n) (fun k => [(10, .int .i64 (k : Int)), (9, .int .i64 (n : Int)), (2, .pointer (some ⟨b2, 0, none⟩)), (3, .pointer (some ⟨b3, 0, none⟩)), (4, .pointer (some ⟨b4, 0, none⟩)), (5, .pointer (some ⟨b5, 0, none⟩))])
    (fun k => [.blk b5 (i64s (plc r k)) 184, .blk b4 (i64s Z8) 184, .blk b3 (u8s r) 22, .blk b2 (gv n X O) 28]) (fun k => n - k) 0 (Nat.zero_le _) ?_ ?_
  · (refine ent ?_ ?_; (repeat refine fr_cons rfl ?_); exact fr_nil; (repeat (exact List.Sublist.refl _)))
  · intro k hk
    have hk8 := hlt k
    have lp := plc_len r k
    have up := i64s_len (plc r k)
    repeat' (first | (apply Jq_move; exact rfl; exact rfl) | (apply Jq_assign; exact rfl; exact rfl) | (apply Jq_load; exact rfl; exact rfl; (exact mb); (refine u8s_at ?_; omega)) | (apply Jq_indexN; exact rfl; exact rfl; exact rfl; omega) | (apply Jq_cmp; exact rfl; exact rfl; exact rfl; exact rfl) | (apply Jq_add; exact rfl; exact rfl; exact rfl; omega) | (apply Jq_loadW; exact rfl; exact rfl; (exact mb); (omega)) | (apply J_s1; exact rfl; exact rfl; exact rfl; infer_instance; (omega); (exact i64s_set); infer_instance) | (apply J_sW; exact rfl; exact rfl; infer_instance; (exact rfl); (omega); (exact i64s_one _); infer_instance) | refine thenQ_normal ?_ | refine thenQ_exit ?_ | refine inBlockQ_normal ?_ | refine inBlockQ_here ?_ | refine JC_seq ?_ | refine JC_region ?_ | refine J_nil ?_ | refine JC_block ?_ | refine JC_skip ?_ | refine JC_ret ?_ | refine JC_exit ?_ | refine JC_dec rfl (fun _ => ?_) (fun _ => ?_))
    · refine ⟨k + 1, by omega, by omega, ?_⟩
      (refine ent ?_ ?_; (repeat refine fr_cons rfl ?_); exact fr_nil; (repeat (exact List.Sublist.refl _)))
    · obtain rfl : k = n := by omega
      exact gC rfl rfl rfl (.tail _ (.head _)) (by omega) rfl
/-- The first place of a mark. -/
def posF (X : List Nat) (n r : Nat) : Nat := ((List.range n).find? fun i => X.getD i 0 == r).getD 0
theorem posF_hit {X : List Nat} {n r k : Nat} (hk : k < n) (h : X.getD k 0 = r) (hn : ∀ j, j < k → X.getD j 0 ≠ r) : posF X n r = k := by
  unfold posF
  have : (List.range n).find? (fun i => X.getD i 0 == r) = some k := by
    rw [List.find?_range_eq_some]
    exact ⟨by simpa using h, by simpa using hk, by simpa using hn⟩
  rw [this]; rfl
theorem posF_none {X : List Nat} {n r : Nat} (hn : ∀ j, j < n → X.getD j 0 ≠ r) : posF X n r = 0 := by
  unfold posF
  have : (List.range n).find? (fun i => X.getD i 0 == r) = none := by
    rw [List.find?_range_eq_none]
    simpa using hn
  rw [this]; rfl
set_option maxRecDepth 100000 in
theorem l01Row_gives (X : List Nat) (n r : Nat) (bX : isB X) (h8 : n ≤ 8) (w : World) :
    Gives Tryz.prog 211 #[.agg (u8s X).toArray, .int .i64 (n : Int), .int .i64 (r : Int)] (.int .i64 (posF X n r : Nat)) w := by
  obtain ⟨lX, hb⟩ := bX
  have uX := u8s_len X
  refine gives_of (args := [.agg (u8s X).toArray, .int .i64 (n : Int), .int .i64 (r : Int)]) [(0, .agg (u8s X).toArray), (1, .int .i64 (n : Int)), (2, .int .i64 (r : Int))] [] Tryz.func211 rfl Tryz.ntmps211 rfl (argsF_cons rfl (argsF_cons rfl (argsF_cons rfl argsF_nil))) (Holds.start w) ?_
  repeat' (first | (apply Jq_assign; exact rfl; exact rfl) | (apply J_box; exact rfl; exact rfl; exact rfl; (intro _)) | refine thenQ_normal ?_ | refine JC_seq ?_ | refine JC_region ?_ | refine J_nil ?_ | refine JC_block ?_)
  rename_i b3
  refine JC_loop (X := Nat) (fun k => k ≤ n ∧ ∀ j, j < k → X.getD j 0 ≠ r) (fun k => [(7, .int .i64 (k : Int)), (1, .int .i64 (n : Int)), (2, .int .i64 (r : Int)), (3, .pointer (some ⟨b3, 0, none⟩))])
    (fun _ => [.blk b3 (u8s X) 22]) (fun k => n - k) 0 ⟨Nat.zero_le _, by omega⟩ ?_ ?_
  · (refine ent ?_ ?_; (repeat refine fr_cons rfl ?_); exact fr_nil; (repeat (exact List.Sublist.refl _)))
  · rintro k ⟨hk, hn⟩
    have hbk := hb k
    repeat' (first | (apply Jq_move; exact rfl; exact rfl) | (apply Jq_assign; exact rfl; exact rfl) | (apply Jq_load; exact rfl; exact rfl; (exact mb); (refine u8s_at ?_; omega)) | (apply Jq_indexN; exact rfl; exact rfl; exact rfl; omega) | (apply Jq_cmp; exact rfl; exact rfl; exact rfl; exact rfl) | (apply Jq_add; exact rfl; exact rfl; exact rfl; omega) | refine thenQ_normal ?_ | refine thenQ_exit ?_ | refine thenQ_ret ?_ | refine inBlockQ_normal ?_ | refine inBlockQ_ret ?_ | refine inBlockQ_here ?_ | refine JC_seq ?_ | refine JC_region ?_ | refine J_nil ?_ | refine JC_block ?_ | refine JC_skip ?_ | refine JC_ret ?_ | refine JC_exit ?_ | (apply Jq_conv; exact rfl; exact rfl; exact wrap64_nat hbk) | refine JC_dec rfl (fun _ => ?_) (fun _ => ?_))
    · rename_i hlt he
      exact g1 rfl rfl rfl (by rw [posF_hit (k := k) (by omega) (by omega) hn])
    · rename_i hlt he
      refine ⟨k + 1, ⟨by omega, fun j hj => ?_⟩, by omega, ?_⟩
      · by_cases e : j = k
        · subst e; omega
        · exact hn j (by omega)
      · (refine ent ?_ ?_; (repeat refine fr_cons rfl ?_); exact fr_nil; (repeat (exact List.Sublist.refl _)))
    · exact g1 rfl rfl rfl (by rw [posF_none fun j hj => hn j (by omega)]; rfl)
/-! ### A gap's strands: the two tests are one -/
theorem isPerm.posF_spec {X : List Nat} {n r : Nat} (h : isPerm X n) (hr : r < n) : posF X n r < n ∧ X.getD (posF X n r) 0 = r := by
  obtain ⟨j, hj, e⟩ := surj_of_inj h.1 h.2.1 r hr
  unfold posF
  cases hf : (List.range n).find? (fun i => X.getD i 0 == r) with
  | none =>
    rw [List.find?_range_eq_none] at hf
    have := hf j (by simpa using hj)
    simp at this
    simp [List.getD_eq_getElem?_getD] at e
    exact absurd e this
  | some k =>
    rw [List.find?_range_eq_some] at hf
    exact ⟨by simpa using hf.2.1, by simpa using hf.1⟩
theorem plc_get {X : List Nat} {n : Nat} (h : isPerm X n) (h8 : n ≤ 8) : ∀ k, k ≤ n → ∀ j, j < k → (plc X k).getD (X.getD j 0) 0 = j
  | 0, _, j, hj => by omega
  | k + 1, hk, j, hj => by
    have hb := h.1 k (by omega)
    rw [plc, set_getD (by rw [plc_len]; omega)]
    by_cases e : j = k
    · subst e; rw [if_pos rfl]
    · rw [if_neg (fun e' => e (h.2.1 j k (by omega) (by omega) e')), plc_get h h8 k (by omega) j (by omega)]
theorem plc_pos {X : List Nat} {n r : Nat} (h : isPerm X n) (h8 : n ≤ 8) (hr : r < n) : (plc X n).getD r 0 = posF X n r := by
  have hs := h.posF_spec hr
  have := plc_get h h8 n (Nat.le_refl _) (posF X n r) hs.1
  rwa [hs.2] at this
theorem plc_lt {X : List Nat} {n r : Nat} (h : isPerm X n) (h8 : n ≤ 8) (hr : r < n) : (plc X n).getD r 0 < n := by
  rw [plc_pos h h8 hr]; exact (h.posF_spec hr).1
def covI (n x o i : Nat) : Prop := ((i : Int) - o - 1 + 2 * n) % n < ((x : Int) - o + n) % n
def covS (n x o i : Nat) : Prop := 0 ≤ ((i : Int) - o - 1 + n) % n ∧ ((i : Int) - o - 1 + n) % n ≤ ((x : Int) - o - 1 + n) % n
instance (n x o i : Nat) : Decidable (covI n x o i) := by unfold covI; infer_instance
instance (n x o i : Nat) : Decidable (covS n x o i) := by unfold covS; infer_instance
end Go.Proofs.YtmbbcmebdefggaaGreatDoor
