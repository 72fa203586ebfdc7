/- Walks: the reference's destabilization. -/
import Derived.Test.YtflleelfkknfaaaME
namespace Go.Proofs.Ytflleelfkknfaaa
open Go Go.RowKit SL
set_option maxRecDepth 100000 in
theorem lowered_gives (x row : Nat) (hx : x < 256) (w : World) : Gives Try.prog 107 #[.int .u8 (x : Int), .int .i64 (row : Int)] (.int .u8 ((low row x : Nat) : Int)) w := by
  refine gives_of (args := [.int .u8 (x : Int), .int .i64 (row : Int)]) [(0, .int .u8 (x : Int)), (1, .int .i64 (row : Int))] [] Try.func107 rfl Try.ntmps107 rfl (argsF_cons rfl (argsF_cons rfl argsF_nil)) (Holds.start w) ?_
  repeat' (first | (apply Jq_conv; exact rfl; exact rfl; exact wrap64_nat hx) | (apply Jq_subwR; exact rfl; exact rfl; exact rfl; exact wrap8m1 (by omega) (by omega)) | (apply Jq_move; exact rfl; exact rfl) | (apply Jq_assign; exact rfl; exact rfl) | (apply Jq_cmp; exact rfl; exact rfl; exact rfl; exact rfl) | refine thenQ_normal ?_ | refine thenQ_ret ?_ | refine JC_seq ?_ | refine JC_region ?_ | refine J_nil ?_ | refine JC_skip ?_ | refine JC_ret ?_ | refine JC_dec rfl (fun _ => ?_) (fun _ => ?_))
  · exact g1 rfl rfl rfl (by rw [show low row x = x - 1 from if_pos (by omega)])
  · exact g1 rfl rfl rfl (by rw [show low row x = x from if_neg (by omega)])
set_option maxRecDepth 100000 in
theorem without_gives (n i row d : Nat) (A B : List Nat) (bA : isB A) (bB : isB B) (h2 : 2 ≤ n) (h8 : n ≤ 8) (hi : i + 1 < n) (hd : d ≤ 1) (w : World) :
    Gives Try.prog 95 #[.agg (gv n A B).toArray, .int .i64 ((i + 1 - d : Nat) : Int), .int .i64 (row : Int)] (.agg (gv ((n - 1 : Nat) : Int) (rmv n i row d A) (rmv n i row d B)).toArray) w := by
  have kX := bA.1
  have kO := bB.1
  have ug := gv_len (n := (n : Int)) kX kO
  have e1 : (n : Int) - 1 = ((n - 1 : Nat) : Int) := by omega
  have lZ : Z8.length = 8 := rfl
  have uz := gv_len (n := ((n - 1 : Nat) : Int)) lZ lZ
  refine gives_of (args := [.agg (gv n A B).toArray, .int .i64 ((i + 1 - d : Nat) : Int), .int .i64 (row : Int)]) [(0, .agg (gv n A B).toArray), (1, .int .i64 ((i + 1 - d : Nat) : Int)), (2, .int .i64 (row : Int))] [] Try.func95 rfl Try.ntmps95 rfl (argsF_cons rfl (argsF_cons rfl (argsF_cons rfl argsF_nil))) (Holds.start w) ?_
  repeat' (first | (apply Jq_subR; exact rfl; exact rfl; exact rfl; omega; exact e1) | (apply Jq_assign; exact rfl; exact rfl) | (apply Jq_load; exact rfl; exact rfl; (exact mb); (exact rfl)) | (apply Jq_fieldAddr; exact rfl; exact rfl) | (apply J_sW; exact rfl; exact rfl; infer_instance; (exact rfl); (exact rfl); (exact ones_of rfl); infer_instance) | (apply J_box; exact rfl; exact rfl; exact rfl; (intro _)) | (apply Jq_buildE; exact rfl; exact rfl; exact built_grid _) | (apply J_alloc (cs := gv 0 Z8 Z8); exact rfl; exact rfl; (intro _)) | refine thenQ_normal ?_ | refine JC_seq ?_ | refine JC_region ?_ | refine J_nil ?_ | refine JC_block ?_)
  rename_i b3 b6 b7
  refine JC_loop (X := Nat) (fun k => k ≤ n) (fun k => [(8, .int .i64 (k : Int)), (1, .int .i64 ((i + 1 - d : Nat) : Int)), (2, .int .i64 (row : Int)), (3, .pointer (some ⟨b3, 0, none⟩)), (6, .pointer (some ⟨b6, 0, none⟩)), (7, .pointer (some ⟨b7, 0, none⟩))])
    (fun k => [.blk b7 (gv ((n - 1 : Nat) : Int) (shT n i row d A k) (shT n i row d B k)) 27, .blk b6 (gv 0 Z8 Z8) 27, .blk b3 (gv n A B) 27]) (fun k => n - k) 0 (Nat.zero_le _) ?_ ?_
  · rw [shT_zero, shT_zero]
    (refine ent ?_ ?_; (repeat refine fr_cons rfl ?_); exact fr_nil; (repeat (exact List.Sublist.refl _)))
  · intro k hk
    by_cases hlt : k < n
    · by_cases hsk : k = i + 1 - d
      · have hs1 := shT_skip (n := n) (r := row) (A := A) hd hsk
        have hs2 := shT_skip (n := n) (r := row) (A := B) hd hsk
        repeat' (first | (apply Jq_move; exact rfl; exact rfl) | (apply Jq_assign; exact rfl; exact rfl) | (apply Jq_load; exact rfl; exact rfl; (exact mb); (exact rfl)) | (apply Jq_fieldAddr; exact rfl; exact rfl) | (apply Jq_cmp; exact rfl; exact rfl; exact rfl; exact rfl) | (apply Jq_add; exact rfl; exact rfl; exact rfl; omega) | refine thenQ_normal ?_ | refine inBlockQ_normal ?_ | refine JC_seq ?_ | refine JC_region ?_ | refine J_nil ?_ | refine JC_block ?_ | refine JC_skip ?_ | (apply JC_dec_true; exact rfl; omega) | (apply JC_dec_false; exact rfl; omega) | (apply JC_ndec_false; exact rfl; omega))
        refine ⟨k + 1, by omega, by omega, ?_⟩
        rw [← hs1, ← hs2]
        (refine ent ?_ ?_; (repeat refine fr_cons rfl ?_); exact fr_nil; (repeat (exact List.Sublist.refl _)))
      · have hD8 : (if i < k then k - 1 else k) < 8 := by split <;> omega
        have sX := shT_set (r := row) (A := A) h8 hi hd hlt hsk
        have sO := shT_set (r := row) (A := B) h8 hi hd hlt hsk
        have lM := shT_len (n := n) (i := i) (r := row) (d := d) (A := A) (k := k)
        have lT := shT_len (n := n) (i := i) (r := row) (d := d) (A := B) (k := k)
        have xk := bA.2 k
        have ok := bB.2 k
        have hgx := gv_X (n := (n : Int)) (O := B) kX (k := k) (by omega)
        have hgy := gv_O (n := (n : Int)) kX kO (k := k) (by omega)
        generalize shT n i row d A k = M at *
        generalize shT n i row d B k = T at *
        generalize hDD : (if i < k then k - 1 else k) = D at *
        generalize A.getD k 0 = x at *
        generalize B.getD k 0 = y at *
        have f3 : i < k → (k : Int) - 1 = ((k - 1 : Nat) : Int) := by omega
        have lMx : (M.set D (low row x)).length = 8 := (List.length_set ..).trans lM
        have g1 := gv_len (n := ((n - 1 : Nat) : Int)) lM lT
        have g2 := gv_len (n := ((n - 1 : Nat) : Int)) lMx lT
        repeat' (first | (refine JC_cut1 (x := .seq (.region 6 _ _) _) [(9, .int .i64 (D : Int)), (8, .int .i64 (k : Int)), (1, .int .i64 ((i + 1 - d : Nat) : Int)), (2, .int .i64 (row : Int)), (3, .pointer (some ⟨b3, 0, none⟩)), (6, .pointer (some ⟨b6, 0, none⟩)), (7, .pointer (some ⟨b7, 0, none⟩))] [.blk b7 (gv ((n - 1 : Nat) : Int) M T) 27, .blk b6 (gv 0 Z8 Z8) 27, .blk b3 (gv n A B) 27] ?_ ?_) | (apply Jq_subR; exact rfl; exact rfl; exact rfl; omega; exact f3 (by omega)) | (apply Jq_move; exact rfl; exact rfl) | (apply Jq_assign; exact rfl; exact rfl) | (apply Jq_load; exact rfl; exact rfl; (exact mb); (first | exact rfl | exact hgx | exact hgy)) | (apply Jq_fieldAddr; exact rfl; exact rfl) | (apply Jq_indexN; exact rfl; exact rfl; exact rfl; omega) | (apply Jq_cmp; exact rfl; exact rfl; exact rfl; exact rfl) | (apply Jq_add; exact rfl; exact rfl; exact rfl; omega) | (apply Jc; exact rfl; exact rfl; exact rfl; infer_instance; ((intro w hw); first | exact lowered_gives x row xk w | exact lowered_gives y row ok w)) | (apply J_s1; exact rfl; exact rfl; exact rfl; infer_instance; (omega); (first | (refine gv_setX lM ?_; omega) | exact gv_setO lMx); infer_instance) | refine thenQ_normal ?_ | refine inBlockQ_normal ?_ | refine JC_seq ?_ | refine JC_region ?_ | refine J_nil ?_ | refine JC_block ?_ | refine JC_skip ?_ | (apply JC_dec_true; exact rfl; omega) | (apply JC_ndec_true; exact rfl; omega) | refine JC_dec rfl (fun _ => ?_) (fun _ => ?_))
        · rw [show D = k - 1 from hDD.symm.trans (if_pos (by omega))]
          (refine ent ?_ ?_; (repeat refine fr_cons rfl ?_); exact fr_nil; (repeat (exact List.Sublist.refl _)))
        · rw [show D = k from hDD.symm.trans (if_neg (by omega))]
          (refine ent ?_ ?_; (repeat refine fr_cons rfl ?_); exact fr_nil; (repeat (exact List.Sublist.refl _)))
        · refine ⟨k + 1, by omega, by omega, ?_⟩
          rw [← sX, ← sO]
          (refine ent ?_ ?_; (repeat refine fr_cons rfl ?_); exact fr_nil; (repeat (exact List.Sublist.refl _)))
    · have ekn : k = n := by omega
      rw [ekn, shT_end hi hd, shT_end hi hd]
      have uE := gv_len (n := ((n - 1 : Nat) : Int)) (rmv_len (n := n) (i := i) (r := row) (d := d) (A := A)) (rmv_len (n := n) (i := i) (r := row) (d := d) (A := B))
      repeat' (first | (apply Jq_move; exact rfl; exact rfl) | (apply Jq_load; exact rfl; exact rfl; (exact mb); (exact rfl)) | (apply Jq_fieldAddr; exact rfl; exact rfl) | (apply Jq_cmp; exact rfl; exact rfl; exact rfl; exact rfl) | (apply Jq_loadW; exact rfl; exact rfl; (exact mb); (exact rfl)) | (apply J_sW; exact rfl; exact rfl; infer_instance; (exact rfl); (exact rfl); (exact ones_of rfl); infer_instance) | refine thenQ_normal ?_ | refine thenQ_exit ?_ | refine inBlockQ_here ?_ | refine JC_seq ?_ | refine JC_region ?_ | refine J_nil ?_ | refine JC_ret ?_ | refine JC_exit ?_ | (apply JC_dec_false; exact rfl; omega))
      exact gC rfl rfl rfl mb uE rfl
theorem rmv_A {n i r d u : Nat} {A B : List Nat} (pA : isPerm A n) (lA : A.length = 8) (h8 : n ≤ 8) (hi : i + 1 < n) (hd : d ≤ 1) (hu : u ≤ 1) (s : stb i r d u A B) : rmv n i (r + 1 - u) d (A.set (i + d) (r + u)) = rmv n i r d A := by
  refine tab_eq rmv_len fun j hj => ?_
  rw [rmv_get h8]
  by_cases h : j + 1 < n
  · rw [if_pos h, if_pos h, ← src_at hd]
    have := wout_A pA lA h8 hi hd hu s h
    rw [this, src_at hd]
  · rw [if_neg h, if_neg h]
theorem rmv_B {n i r d u : Nat} {A B : List Nat} (pB : isPerm B n) (h8 : n ≤ 8) (hi : i + 1 < n) (hd : d ≤ 1) (hu : u ≤ 1) (s : stb i r d u A B) : rmv n i (r + 1 - u) d B = rmv n i r d B := by
  refine tab_eq rmv_len fun j hj => ?_
  rw [rmv_get h8]
  by_cases h : j + 1 < n
  · rw [if_pos h, if_pos h, ← src_at hd]
    have := wout_B pB hi hd hu s h
    rw [this, src_at hd]
  · rw [if_neg h, if_neg h]
/-- A move. -/
def encMo (k c r m d u : Nat) : List Value := [.int .i64 (k : Int), .int .i64 (c : Int), .int .i64 (r : Int), .int .i64 (m : Int), .int .i64 (d : Int), .int .i64 (u : Int)]
theorem encMo_one (k c r m d u : Nat) : ∀ x ∈ encMo k c r m d u, x.oneCell' = true := ones_of rfl
theorem built_move2 (i m d u : Nat) : Try.prog.built 73 [(0, .int .i64 2), (1, .int .i64 (i : Int)), (3, .int .i64 (m : Int)), (4, .int .i64 (d : Int)), (5, .int .i64 (u : Int))] = some (encMo 2 i 0 m d u).toArray := by kernel_rfl
set_option maxHeartbeats 1000000 in
set_option maxRecDepth 100000 in
theorem back_walk (n : Nat) (X O : List Nat) (i r k0 : Nat) (bX : isB X) (bO : isB O) (g : okG (n : Int) X O) (hi : i + 1 < n) (hr : r + 1 < n) (h0 : k0 ≤ 8) (hno : ∀ q, q < k0 → ¬ stbM X O i r (q / 4) (q / 2 % 2) (q % 2)) (hyes : k0 < 8 → stbM X O i r (k0 / 4) (k0 / 2 % 2) (k0 % 2)) (v : Value)
    (hv1 : k0 < 8 → Value.tuple #[.agg (gv ((n - 1 : Nat) : Int) (rmv n i r (k0 / 2 % 2) X) (rmv n i r (k0 / 2 % 2) O)).toArray, .agg (encMo 2 i 0 (k0 / 4) (k0 / 2 % 2) (k0 % 2)).toArray, .bool true] = v) (hv2 : k0 = 8 → Value.tuple #[.agg (gv 0 Z8 Z8).toArray, .agg (encMo 0 0 0 0 0 0).toArray, .bool false] = v) (w : World) :
    Gives Try.prog 71 #[.agg (gv n X O).toArray, .int .i64 (i : Int), .int .i64 (r : Int)] v w := by
  have ug := gv_len (n := (n : Int)) bX.1 bO.1
  have kX := bX.1
  have kO := bO.1
  have vX := (u8s_len X).trans kX
  have vO := (u8s_len O).trans kO
  have h8 : n ≤ 8 := by have := g.1; omega
  have gg := g
  obtain ⟨-, pX, pO, hne⟩ := gg
  rw [Int.toNat_natCast] at pX pO hne
  have lZ : Z8.length = 8 := rfl
  have uz := gv_len (n := 0) lZ lZ
  have um0 : (encMo 0 0 0 0 0 0).length = 6 := rfl
  have h3 : k0 < 8 → 3 ≤ n := fun h => by
    rcases hyes h with ⟨_, s⟩ | ⟨_, s⟩
    · exact (shr_ok g kX kO hi hr (by omega) (by omega) s).1
    · exact (shr_ok (okG_swap' g) kO kX hi hr (by omega) (by omega) s).1
  refine gives_of (args := [.agg (gv n X O).toArray, .int .i64 (i : Int), .int .i64 (r : Int)]) [(0, .agg (gv n X O).toArray), (1, .int .i64 (i : Int)), (2, .int .i64 (r : Int))] [] Try.func71 rfl Try.ntmps71 rfl (argsF_cons rfl (argsF_cons rfl (argsF_cons rfl argsF_nil))) (Holds.start w) ?_
  repeat' (first | (apply Jq_assign; exact rfl; exact rfl) | (apply Jq_load; exact rfl; exact rfl; (exact mb); (exact rfl)) | (apply Jq_fieldAddr; exact rfl; exact rfl) | (apply Jq_cmp; exact rfl; exact rfl; exact rfl; exact rfl) | (apply J_sW; exact rfl; exact rfl; infer_instance; (exact rfl); (exact rfl); (exact ones_of rfl); infer_instance) | (apply J_box; exact rfl; exact rfl; exact rfl; (intro _)) | (apply J_alloc (cs := gv 0 Z8 Z8); exact rfl; exact rfl; (intro _)) | (apply J_alloc (cs := encMo 0 0 0 0 0 0); exact rfl; exact rfl; (intro _)) | (apply Jz (cs := gv 0 Z8 Z8); exact rfl; exact rfl) | (apply Jz (cs := encMo 0 0 0 0 0 0); exact rfl; exact rfl) | refine thenQ_normal ?_ | refine thenQ_ret ?_ | refine JC_seq ?_ | refine JC_region ?_ | refine J_nil ?_ | refine JC_block ?_ | refine JC_skip ?_ | refine JC_ret ?_ | refine JC_dec rfl (fun _ => ?_) (fun _ => ?_))
  · exact gCCT rfl rfl rfl rfl rfl mb mb uz um0 (hv2 (Classical.byContradiction fun h => by have := h3 (by omega); omega))
  rename_i b3 b6 b7 hn3
  refine JC_loop (X := Nat) (fun m => m ≤ 2 ∧ 4 * m ≤ k0) (fun m => [(9, .int .i64 (m : Int)), (1, .int .i64 (i : Int)), (2, .int .i64 (r : Int)), (3, .pointer (some ⟨b3, 0, none⟩)), (6, .pointer (some ⟨b6, 0, none⟩)), (7, .pointer (some ⟨b7, 0, none⟩)), (8, .bool false)]) (fun _ => [.blk b7 (encMo 0 0 0 0 0 0) 73, .blk b6 (gv 0 Z8 Z8) 27, .blk b3 (gv n X O) 27]) (fun m => 2 - m) 0 ⟨by omega, by omega⟩ ?_ ?_
  · (refine ent ?_ ?_; (repeat refine fr_cons rfl ?_); exact fr_nil; (repeat (exact List.Sublist.refl _)))
  · rintro m ⟨hm, hmk⟩
    by_cases hm2 : m < 2
    · repeat' (first | (apply Jq_move; exact rfl; exact rfl) | (apply Jq_assign; exact rfl; exact rfl) | (apply Jq_cmp; exact rfl; exact rfl; exact rfl; exact rfl) | refine thenQ_normal ?_ | refine JC_seq ?_ | refine JC_region ?_ | refine J_nil ?_ | refine JC_block ?_ | refine JC_skip ?_ | (apply JC_dec_true; exact rfl; omega))
      refine JC_loop (X := Nat) (fun d => d ≤ 2 ∧ 4 * m + 2 * d ≤ k0) (fun d => [(10, .int .i64 (d : Int)), (9, .int .i64 (m : Int)), (1, .int .i64 (i : Int)), (2, .int .i64 (r : Int)), (3, .pointer (some ⟨b3, 0, none⟩)), (6, .pointer (some ⟨b6, 0, none⟩)), (7, .pointer (some ⟨b7, 0, none⟩)), (8, .bool false)]) (fun _ => [.blk b7 (encMo 0 0 0 0 0 0) 73, .blk b6 (gv 0 Z8 Z8) 27, .blk b3 (gv n X O) 27]) (fun d => 2 - d) 0 ⟨by omega, by omega⟩ ?_ ?_
      · (refine ent ?_ ?_; (repeat refine fr_cons rfl ?_); exact fr_nil; (repeat (exact List.Sublist.refl _)))
      · rintro d ⟨hd, hdk⟩
        by_cases hd2 : d < 2
        · repeat' (first | (apply Jq_move; exact rfl; exact rfl) | (apply Jq_assign; exact rfl; exact rfl) | (apply Jq_cmp; exact rfl; exact rfl; exact rfl; exact rfl) | refine thenQ_normal ?_ | refine JC_seq ?_ | refine JC_region ?_ | refine J_nil ?_ | refine JC_block ?_ | refine JC_skip ?_ | (apply JC_dec_true; exact rfl; omega))
          refine JC_loop (X := Nat) (fun u => u ≤ 2 ∧ 4 * m + 2 * d + u ≤ k0) (fun u => [(11, .int .i64 (u : Int)), (10, .int .i64 (d : Int)), (9, .int .i64 (m : Int)), (1, .int .i64 (i : Int)), (2, .int .i64 (r : Int)), (3, .pointer (some ⟨b3, 0, none⟩)), (6, .pointer (some ⟨b6, 0, none⟩)), (7, .pointer (some ⟨b7, 0, none⟩)), (8, .bool false)]) (fun _ => [.blk b7 (encMo 0 0 0 0 0 0) 73, .blk b6 (gv 0 Z8 Z8) 27, .blk b3 (gv n X O) 27]) (fun u => 2 - u) 0 ⟨by omega, by omega⟩ ?_ ?_
          · (refine ent ?_ ?_; (repeat refine fr_cons rfl ?_); exact fr_nil; (repeat (exact List.Sublist.refl _)))
          · rintro u ⟨hu, huk⟩
            by_cases hu2 : u < 2
            · have hd1 : d ≤ 1 := by omega
              have hu1 : u ≤ 1 := by omega
              have q1 : (4 * m + 2 * d + u) / 4 = m := by omega
              have q2 : (4 * m + 2 * d + u) / 2 % 2 = d := by omega
              have q3 : (4 * m + 2 * d + u) % 2 = u := by omega
              have hstep : ¬ stbM X O i r m d u → 4 * m + 2 * d + u + 1 ≤ k0 := fun hs => by
                refine Classical.byContradiction fun h => hs ?_
                have e : 4 * m + 2 * d + u = k0 := by omega
                have := hyes (by omega)
                rwa [← e, q1, q2, q3] at this
              have hlast : stbM X O i r m d u → Value.tuple #[.agg (gv ((n - 1 : Nat) : Int) (rmv n i r d X) (rmv n i r d O)).toArray, .agg (encMo 2 i 0 m d u).toArray, .bool true] = v := fun hs => by
                have e : 4 * m + 2 * d + u = k0 := Classical.byContradiction fun h => hno (4 * m + 2 * d + u) (by omega) (by rw [q1, q2, q3]; exact hs)
                have := hv1 (by omega)
                rwa [← e, q1, q2, q3] at this
              clear q1 q2 q3
              obtain ⟨A, B, hAB, bA, bB, pA, pB, hst, hXO⟩ : ∃ A B : List Nat, ((m = 0 ∧ A = X ∧ B = O) ∨ (m = 1 ∧ A = O ∧ B = X)) ∧ isB A ∧ isB B ∧ isPerm A n ∧ isPerm B n ∧ (stbM X O i r m d u ↔ stb i r d u A B) ∧ (m = 0 ∨ m = 1) := by
                rcases (show m = 0 ∨ m = 1 by omega) with e | e
                · subst e
                  exact ⟨X, O, .inl ⟨rfl, rfl, rfl⟩, bX, bO, pX, pO, ⟨fun s => s.elim (fun s => s.2) (fun s => absurd s.1 (by decide)), fun s => .inl ⟨rfl, s⟩⟩, .inl rfl⟩
                · subst e
                  exact ⟨O, X, .inr ⟨rfl, rfl, rfl⟩, bO, bX, pO, pX, ⟨fun s => s.elim (fun s => absurd s.1 (by decide)) (fun s => s.2), fun s => .inr ⟨rfl, s⟩⟩, .inr rfl⟩
              repeat' (first | (apply Jq_move; exact rfl; exact rfl) | (apply Jq_cmp; exact rfl; exact rfl; exact rfl; exact rfl) | refine thenQ_normal ?_ | refine JC_seq ?_ | refine JC_region ?_ | refine J_nil ?_ | refine JC_block ?_ | refine JC_skip ?_ | (apply JC_dec_true; exact rfl; omega))
              refine JC_cutT (Y := Nat × Nat) (fun _ => True) (fun p => [(12, .pointer (some ⟨p.1, 0, none⟩)), (13, .pointer (some ⟨p.2, 0, none⟩)), (11, .int .i64 (u : Int)), (10, .int .i64 (d : Int)), (9, .int .i64 (m : Int)), (1, .int .i64 (i : Int)), (2, .int .i64 (r : Int)), (3, .pointer (some ⟨b3, 0, none⟩)), (6, .pointer (some ⟨b6, 0, none⟩)), (7, .pointer (some ⟨b7, 0, none⟩)), (8, .bool false)]) (fun p => [.blk p.1 (u8s X) 22, .blk p.2 (u8s O) 22, .blk b7 (encMo 0 0 0 0 0 0) 73, .blk b6 (gv 0 Z8 Z8) 27, .blk b3 (gv n X O) 27]) ?_ ?_
              ·
                refine JC_any (m := 8) rfl _ mixed (fun _ h => h) ?_
                (apply JF_q 0; exact rfl; kernel_rfl; exact rfl; (intro E hE; (apply q_fieldAddr; exact rfl)))
                (apply JF_q 1; exact rfl; kernel_rfl; exact rfl; (intro E hE; (apply q_loadA; exact rfl; (refine hE _ ?_; exact mb); (exact gv_arrX kX); (omega))))
                (apply JF_q 2; exact rfl; kernel_rfl; exact rfl; (intro E hE; (apply q_fieldAddr; exact rfl)))
                (apply JF_q 3; exact rfl; kernel_rfl; exact rfl; (intro E hE; (apply q_loadA; exact rfl; (refine hE _ ?_; exact mb); (exact gv_arrO kX kO); (omega))))
                (apply JF_all [4, 5]; kernel_rfl)
                (apply JFs_cons; exact rfl)
                · (apply J_alloc (cs := u8s Z8); exact rfl; exact rfl; (intro _))
                  (apply J_nil; apply JF_end; ((repeat (apply sub_cons; (focus ((with_reducible (repeat (first | exact m0 | refine mS ?_))); done)))); exact sub_nil))
                  (apply JF_all [5]; kernel_rfl)
                  (apply JFs_cons; exact rfl)
                  · (apply J_alloc (cs := u8s Z8); exact rfl; exact rfl; (intro _))
                    (apply J_nil; apply JF_end; ((repeat (apply sub_cons; (focus ((with_reducible (repeat (first | exact m0 | refine mS ?_))); done)))); exact sub_nil))
                    (apply JF_all [6]; kernel_rfl)
                    (apply JFs_cons; exact rfl)
                    · (apply J_sW; exact rfl; exact rfl; infer_instance; (exact rfl); (omega); (exact u8s_one _); infer_instance)
                      (apply J_nil; apply JF_end; ((repeat (apply sub_cons; (focus ((with_reducible (repeat (first | exact m0 | refine mS ?_))); done)))); exact sub_nil))
                      (apply JF_all [7]; kernel_rfl)
                      (apply JFs_cons; exact rfl)
                      · (apply J_sW; exact rfl; exact rfl; infer_instance; (exact rfl); (omega); (exact u8s_one _); infer_instance)
                        (apply J_nil; apply JF_end; ((repeat (apply sub_cons; (focus ((with_reducible (repeat (first | exact m0 | refine mS ?_))); done)))); exact sub_nil))
                        (apply JF_done; kernel_rfl)
                        (apply thenQ_normal; apply ex2; refine ⟨trivial, ?_⟩; (refine entP (ent ?_ (List.nil_sublist _)) ?_; (repeat refine fr_cons rfl ?_); exact fr_nil; (repeat (first | exact sp_refl | (with_reducible apply sp1)))))
                      exact JFs_nil
                    exact JFs_nil
                  exact JFs_nil
                (apply JFs_cons; exact rfl)
                · (apply J_alloc (cs := u8s Z8); exact rfl; exact rfl; (intro _))
                  (apply J_nil; apply JF_end; ((repeat (apply sub_cons; (focus ((with_reducible (repeat (first | exact m0 | refine mS ?_))); done)))); exact sub_nil))
                  (apply JF_all [4]; kernel_rfl)
                  (apply JFs_cons; exact rfl)
                  · (apply J_alloc (cs := u8s Z8); exact rfl; exact rfl; (intro _))
                    (apply J_nil; apply JF_end; ((repeat (apply sub_cons; (focus ((with_reducible (repeat (first | exact m0 | refine mS ?_))); done)))); exact sub_nil))
                    (apply JF_all [6]; kernel_rfl)
                    (apply JFs_cons; exact rfl)
                    · (apply J_sW; exact rfl; exact rfl; infer_instance; (exact rfl); (omega); (exact u8s_one _); infer_instance)
                      (apply J_nil; apply JF_end; ((repeat (apply sub_cons; (focus ((with_reducible (repeat (first | exact m0 | refine mS ?_))); done)))); exact sub_nil))
                      (apply JF_all [7]; kernel_rfl)
                      (apply JFs_cons; exact rfl)
                      · (apply J_sW; exact rfl; exact rfl; infer_instance; (exact rfl); (omega); (exact u8s_one _); infer_instance)
                        (apply J_nil; apply JF_end; ((repeat (apply sub_cons; (focus ((with_reducible (repeat (first | exact m0 | refine mS ?_))); done)))); exact sub_nil))
                        (apply JF_done; kernel_rfl)
                        (apply thenQ_normal; apply ex2; refine ⟨trivial, ?_⟩; (refine entP (ent ?_ (List.nil_sublist _)) ?_; (repeat refine fr_cons rfl ?_); exact fr_nil; (repeat (exact sp_refl))))
                      exact JFs_nil
                    exact JFs_nil
                  exact JFs_nil
                exact JFs_nil
              · rintro ⟨b12, b13⟩ _
                dsimp only
                have kA := bA.1
                have kB := bB.1
                have vA := (u8s_len A).trans kA
                have vB := (u8s_len B).trans kB
                have e1 : (i : Int) + (d : Int) = ((i + d : Nat) : Int) := rfl
                have e2 : (r : Int) + 1 = ((r + 1 : Nat) : Int) := rfl
                have e3 : ((r + 1 : Nat) : Int) - (u : Int) = ((r + 1 - u : Nat) : Int) := by omega
                have e4 : (i : Int) + 1 = ((i + 1 : Nat) : Int) := rfl
                have e5 : ((i + 1 : Nat) : Int) - (d : Int) = ((i + 1 - d : Nat) : Int) := by omega
                have e6 : (r : Int) + (u : Int) = ((r + u : Nat) : Int) := rfl
                have a1 := u8s_at (l := A) (k := i + d) (by omega)
                have a2 := u8s_at (l := A) (k := i + 1 - d) (by omega)
                have c1 := u8s_at (l := B) (k := i + 1 - d) (by omega)
                have c2 := u8s_at (l := B) (k := i + d) (by omega)
                have z1 := bA.2 (i + d)
                have z2 := bA.2 (i + 1 - d)
                have z3 := bB.2 (i + 1 - d)
                have z4 := bB.2 (i + d)
                have hS : stb i r d u A B ↔ A.getD (i + d) 0 = r + 1 - u ∧ A.getD (i + 1 - d) 0 = r + u ∧ B.getD (i + 1 - d) 0 = r + 1 - u ∧ B.getD (i + d) 0 ≠ r + u := Iff.rfl
                generalize A.getD (i + d) 0 = x1 at *
                generalize A.getD (i + 1 - d) 0 = x2 at *
                generalize B.getD (i + 1 - d) 0 = y1 at *
                generalize B.getD (i + d) 0 = y2 at *
                repeat' (first | (refine JC_cut1 (x := .seq (.region 13 _ _) _) [(12, .pointer (some ⟨b12, 0, none⟩)), (13, .pointer (some ⟨b13, 0, none⟩)), (11, .int .i64 (u : Int)), (10, .int .i64 (d : Int)), (9, .int .i64 (m : Int)), (1, .int .i64 (i : Int)), (2, .int .i64 (r : Int)), (3, .pointer (some ⟨b3, 0, none⟩)), (6, .pointer (some ⟨b6, 0, none⟩)), (7, .pointer (some ⟨b7, 0, none⟩)), (8, .bool false)] [.blk b12 (u8s A) 22, .blk b13 (u8s B) 22, .blk b7 (encMo 0 0 0 0 0 0) 73, .blk b6 (gv 0 Z8 Z8) 27, .blk b3 (gv n X O) 27] ?_ ?_) | (refine JC_cutT (x := .seq (.region 16 _ _) _) (Y := Unit) (fun _ => stb i r d u A B) (fun _ => [(12, .pointer (some ⟨b12, 0, none⟩)), (13, .pointer (some ⟨b13, 0, none⟩)), (11, .int .i64 (u : Int)), (10, .int .i64 (d : Int)), (9, .int .i64 (m : Int)), (1, .int .i64 (i : Int)), (2, .int .i64 (r : Int)), (3, .pointer (some ⟨b3, 0, none⟩)), (6, .pointer (some ⟨b6, 0, none⟩)), (7, .pointer (some ⟨b7, 0, none⟩)), (8, .bool false)]) (fun _ => [.blk b12 (u8s A) 22, .blk b13 (u8s B) 22, .blk b7 (encMo 0 0 0 0 0 0) 73, .blk b6 (gv 0 Z8 Z8) 27, .blk b3 (gv n X O) 27]) ?_ ?_) | (apply Jq_addR; exact rfl; exact rfl; exact rfl; omega; first | exact e1 | exact e2 | exact e4 | exact e6) | (apply Jq_subR; exact rfl; exact rfl; exact rfl; omega; first | exact e3 | exact e5) | (apply Jq_conv; exact rfl; exact rfl; first | exact wrap64_nat z1 | exact wrap64_nat z2 | exact wrap64_nat z3 | exact wrap64_nat z4) | (apply Jq_move; exact rfl; exact rfl) | (apply Jq_assign; exact rfl; exact rfl) | (apply Jq_load; exact rfl; exact rfl; (exact mb); (first | exact a1 | exact a2 | exact c1 | exact c2)) | (apply Jq_fieldAddr; exact rfl; exact rfl) | (apply Jq_indexN; exact rfl; exact rfl; exact rfl; omega) | (apply Jq_cmp; exact rfl; exact rfl; exact rfl; exact rfl) | (apply Jq_add; exact rfl; exact rfl; exact rfl; omega) | (apply Jq_pick_true; exact rfl; exact rfl; exact rfl) | (apply Jq_pick_false; exact rfl; exact rfl; exact rfl) | (apply J_on; exact rfl; exact rfl) | (apply J_skip; exact rfl; exact rfl; exact rfl; exact rfl) | (apply Jq_loadA; exact rfl; exact rfl; (exact mb); (first | exact gv_arrX kX | exact gv_arrO kX kO); (omega)) | (apply J_sW; exact rfl; exact rfl; infer_instance; (omega); (omega); (exact u8s_one _); infer_instance) | refine thenQ_normal ?_ | refine thenQ_exit ?_ | refine inBlockQ_here ?_ | refine JC_seq ?_ | refine JC_region ?_ | refine J_nil ?_ | refine JC_skip ?_ | refine JC_exit ?_ | (apply JC_if_true; exact rfl) | refine JC_dec rfl (fun _ => ?_) (fun _ => ?_) | refine J_gn rfl rfl (fun _ => ?_) (fun _ => ?_))
                · have hm1 : m = 1 := by omega
                  obtain ⟨rfl, rfl⟩ : A = O ∧ B = X := by
                    rcases hAB with ⟨e, _⟩ | ⟨_, h⟩
                    · omega
                    · exact h
                  (refine ent ?_ ?_; (repeat refine fr_cons rfl ?_); exact fr_nil; (repeat (exact List.Sublist.refl _)))
                · have hm1 : m = 0 := by omega
                  obtain ⟨rfl, rfl⟩ : A = X ∧ B = O := by
                    rcases hAB with ⟨_, h⟩ | ⟨e, _⟩
                    · exact h
                    · omega
                  (refine ent ?_ ?_; (repeat refine fr_cons rfl ?_); exact fr_nil; (repeat (exact List.Sublist.refl _)))
                · refine ⟨u + 1, ⟨by omega, hstep fun hs => ?_⟩, by omega, ?_⟩
                  · have := hS.1 (hst.1 hs)
                    omega
                  · (refine ent ?_ ?_; (repeat refine fr_cons rfl ?_); exact fr_nil; (repeat (first | exact List.Sublist.refl _ | refine List.Sublist.cons _ ?_)))
                · refine ⟨u + 1, ⟨by omega, hstep fun hs => ?_⟩, by omega, ?_⟩
                  · have := hS.1 (hst.1 hs)
                    omega
                  · (refine ent ?_ ?_; (repeat refine fr_cons rfl ?_); exact fr_nil; (repeat (first | exact List.Sublist.refl _ | refine List.Sublist.cons _ ?_)))
                · refine ⟨u + 1, ⟨by omega, hstep fun hs => ?_⟩, by omega, ?_⟩
                  · have := hS.1 (hst.1 hs)
                    omega
                  · (refine ent ?_ ?_; (repeat refine fr_cons rfl ?_); exact fr_nil; (repeat (first | exact List.Sublist.refl _ | refine List.Sublist.cons _ ?_)))
                · refine ⟨u + 1, ⟨by omega, hstep fun hs => ?_⟩, by omega, ?_⟩
                  · have := hS.1 (hst.1 hs)
                    omega
                  · (refine ent ?_ ?_; (repeat refine fr_cons rfl ?_); exact fr_nil; (repeat (first | exact List.Sublist.refl _ | refine List.Sublist.cons _ ?_)))
                · refine ⟨(), hS.2 ⟨by omega, by omega, by omega, by omega⟩, ?_⟩
                  (refine ent ?_ ?_; (repeat refine fr_cons rfl ?_); exact fr_nil; (repeat (exact List.Sublist.refl _)))
                · rintro ⟨⟩ hs
                  have hvv := hlast (hst.2 hs)
                  repeat' (first | (refine JC_cutT (x := .region 17 _ _) (Y := Nat) (fun _ => True) (fun p => [(14, .pointer (some ⟨p, 0, none⟩)), (11, .int .i64 (u : Int)), (10, .int .i64 (d : Int)), (9, .int .i64 (m : Int)), (1, .int .i64 (i : Int)), (2, .int .i64 (r : Int)), (3, .pointer (some ⟨b3, 0, none⟩)), (6, .pointer (some ⟨b6, 0, none⟩)), (7, .pointer (some ⟨b7, 0, none⟩)), (8, .bool false)]) (fun p => [.blk p (gv n X O) 27, .blk b7 (encMo 0 0 0 0 0 0) 73, .blk b6 (gv 0 Z8 Z8) 27, .blk b3 (gv n X O) 27]) ?_ ?_) | (apply Jq_loadW; exact rfl; exact rfl; (exact mb); (omega)) | (apply J_sW; exact rfl; exact rfl; infer_instance; (exact rfl); (omega); (exact gv_one _ _ _); infer_instance) | (apply J_alloc (cs := gv 0 Z8 Z8); exact rfl; exact rfl; (intro _)) | refine thenQ_normal ?_ | refine JC_seq ?_ | refine JC_region ?_ | refine J_nil ?_)
                  · rename_i b14
                    refine ⟨b14, trivial, ?_⟩
                    (refine ent ?_ ?_; (repeat refine fr_cons rfl ?_); exact fr_nil; (repeat (first | exact List.Sublist.refl _ | refine List.Sublist.cons_cons _ ?_ | refine List.Sublist.cons _ ?_)))
                  · rintro b14 _
                    obtain ⟨X', O', hX'O', bX', bO', rX, rO⟩ : ∃ X' O' : List Nat, ((m = 0 ∧ X' = X.set (i + d) (r + u) ∧ O' = O) ∨ (m = 1 ∧ X' = X ∧ O' = O.set (i + d) (r + u))) ∧ isB X' ∧ isB O' ∧ rmv n i (r + 1 - u) d X' = rmv n i r d X ∧ rmv n i (r + 1 - u) d O' = rmv n i r d O := by
                      rcases hAB with ⟨e, rfl, rfl⟩ | ⟨e, rfl, rfl⟩
                      · exact ⟨_, _, .inl ⟨e, rfl, rfl⟩, isB_set bX (by omega), bO, rmv_A pX kX h8 hi hd1 hu1 hs, rmv_B pO h8 hi hd1 hu1 hs⟩
                      · exact ⟨_, _, .inr ⟨e, rfl, rfl⟩, bX, isB_set bO (by omega), rmv_B pX h8 hi hd1 hu1 hs, rmv_A pO kO h8 hi hd1 hu1 hs⟩
                    have ug' := gv_len (n := (n : Int)) bX'.1 bO'.1
                    have hwo := without_gives n i (r + 1 - u) d X' O' bX' bO' (by omega) h8 hi hd1
                    rw [rX, rO] at hwo
                    have uE := gv_len (n := ((n - 1 : Nat) : Int)) (rmv_len (n := n) (i := i) (r := r) (d := d) (A := X)) (rmv_len (n := n) (i := i) (r := r) (d := d) (A := O))
                    have uM : (encMo 2 i 0 m d u).length = 6 := rfl
                    repeat' (first | (refine JC_cut1 (x := .seq (.region 18 _ _) _) [(14, .pointer (some ⟨b14, 0, none⟩)), (11, .int .i64 (u : Int)), (10, .int .i64 (d : Int)), (9, .int .i64 (m : Int)), (1, .int .i64 (i : Int)), (2, .int .i64 (r : Int)), (3, .pointer (some ⟨b3, 0, none⟩)), (6, .pointer (some ⟨b6, 0, none⟩)), (7, .pointer (some ⟨b7, 0, none⟩)), (8, .bool false)] [.blk b14 (gv n X' O') 27, .blk b7 (encMo 0 0 0 0 0 0) 73, .blk b6 (gv 0 Z8 Z8) 27, .blk b3 (gv n X O) 27] ?_ ?_) | (apply Jq_addR; exact rfl; exact rfl; exact rfl; omega; first | exact e1 | exact e2 | exact e4 | exact e6) | (apply Jq_subR; exact rfl; exact rfl; exact rfl; omega; first | exact e3 | exact e5) | (apply Jq_conv; exact rfl; exact rfl; exact wrap8 (by omega)) | (apply Jq_move; exact rfl; exact rfl) | (apply Jq_assign; exact rfl; exact rfl) | (apply Jq_fieldAddr; exact rfl; exact rfl) | (apply Jq_indexN; exact rfl; exact rfl; exact rfl; omega) | (apply Jq_cmp; exact rfl; exact rfl; exact rfl; exact rfl) | (apply Jc; exact rfl; exact rfl; exact rfl; infer_instance; ((intro w hw); exact hwo w)) | (apply Jq_loadW; exact rfl; exact rfl; (exact mb); (omega)) | (apply J_s1; exact rfl; exact rfl; exact rfl; infer_instance; (omega); (first | (refine gv_setX kX ?_; omega) | exact gv_setO kX); infer_instance) | (apply J_sW; exact rfl; exact rfl; infer_instance; (exact rfl); (exact rfl); (exact ones_of rfl); infer_instance) | (apply Jq_buildE; exact rfl; exact rfl; exact built_move2 i m d u) | refine thenQ_normal ?_ | refine thenQ_ret ?_ | refine inBlockQ_ret ?_ | refine JC_seq ?_ | refine JC_region ?_ | refine J_nil ?_ | refine JC_ret ?_ | refine JC_dec rfl (fun _ => ?_) (fun _ => ?_))
                    · obtain ⟨rfl, rfl⟩ : X' = X ∧ O' = O.set (i + d) (r + u) := by
                        rcases hX'O' with ⟨e, _⟩ | ⟨_, h⟩
                        · omega
                        · exact h
                      (refine ent ?_ ?_; (repeat refine fr_cons rfl ?_); exact fr_nil; (repeat (exact List.Sublist.refl _)))
                    · obtain ⟨rfl, rfl⟩ : X' = X.set (i + d) (r + u) ∧ O' = O := by
                        rcases hX'O' with ⟨_, h⟩ | ⟨e, _⟩
                        · exact h
                        · omega
                      (refine ent ?_ ?_; (repeat refine fr_cons rfl ?_); exact fr_nil; (repeat (exact List.Sublist.refl _)))
                    · exact gCCT rfl rfl rfl rfl rfl mb mb uE uM hvv
            · have eu : u = 2 := by omega
              repeat' (first | (apply Jq_move; exact rfl; exact rfl) | (apply Jq_assign; exact rfl; exact rfl) | (apply Jq_cmp; exact rfl; exact rfl; exact rfl; exact rfl) | (apply Jq_add; exact rfl; exact rfl; exact rfl; omega) | refine thenQ_normal ?_ | refine thenQ_exit ?_ | refine inBlockQ_normal ?_ | refine inBlockQ_here ?_ | refine JC_seq ?_ | refine JC_region ?_ | refine J_nil ?_ | refine JC_exit ?_ | (apply JC_dec_false; exact rfl; omega))
              refine ⟨d + 1, ⟨by omega, by omega⟩, by omega, ?_⟩
              (refine ent ?_ ?_; (repeat refine fr_cons rfl ?_); exact fr_nil; (repeat (exact List.Sublist.refl _)))
        · have ed : d = 2 := by omega
          repeat' (first | (apply Jq_move; exact rfl; exact rfl) | (apply Jq_assign; exact rfl; exact rfl) | (apply Jq_cmp; exact rfl; exact rfl; exact rfl; exact rfl) | (apply Jq_add; exact rfl; exact rfl; exact rfl; omega) | refine thenQ_normal ?_ | refine thenQ_exit ?_ | refine inBlockQ_normal ?_ | refine inBlockQ_here ?_ | refine JC_seq ?_ | refine JC_region ?_ | refine J_nil ?_ | refine JC_exit ?_ | (apply JC_dec_false; exact rfl; omega))
          refine ⟨m + 1, ⟨by omega, by omega⟩, by omega, ?_⟩
          (refine ent ?_ ?_; (repeat refine fr_cons rfl ?_); exact fr_nil; (repeat (exact List.Sublist.refl _)))
    · have em : m = 2 := by omega
      repeat' (first | (apply Jq_move; exact rfl; exact rfl) | (apply Jq_assign; exact rfl; exact rfl) | (apply Jq_cmp; exact rfl; exact rfl; exact rfl; exact rfl) | (apply J_sW; exact rfl; exact rfl; infer_instance; (exact rfl); (exact rfl); (exact ones_of rfl); infer_instance) | (apply Jz (cs := gv 0 Z8 Z8); exact rfl; exact rfl) | (apply Jz (cs := encMo 0 0 0 0 0 0); exact rfl; exact rfl) | refine thenQ_normal ?_ | refine thenQ_exit ?_ | refine inBlockQ_here ?_ | refine JC_seq ?_ | refine JC_region ?_ | refine J_nil ?_ | refine JC_ret ?_ | refine JC_exit ?_ | (apply JC_dec_false; exact rfl; omega))
      exact gCCT rfl rfl rfl rfl rfl mb mb uz um0 (hv2 (by omega))
theorem back_yes (n : Nat) (X O : List Nat) (i r m d u : Nat) (bX : isB X) (bO : isB O) (g : okG (n : Int) X O) (hi : i + 1 < n) (hr : r + 1 < n) (hm : m ≤ 1) (hd : d ≤ 1) (hu : u ≤ 1) (s : stbM X O i r m d u) (w : World) :
    Gives Try.prog 71 #[.agg (gv n X O).toArray, .int .i64 (i : Int), .int .i64 (r : Int)] (.tuple #[.agg (gv ((n - 1 : Nat) : Int) (rmv n i r d X) (rmv n i r d O)).toArray, .agg (encMo 2 i 0 m d u).toArray, .bool true]) w := by
  have e1 : (4 * m + 2 * d + u) / 4 = m := by omega
  have e2 : (4 * m + 2 * d + u) / 2 % 2 = d := by omega
  have e3 : (4 * m + 2 * d + u) % 2 = u := by omega
  refine back_walk n X O i r (4 * m + 2 * d + u) bX bO g hi hr (by omega) (fun q hq hm' => ?_) (fun _ => ?_) _ (fun _ => by rw [e1, e2, e3]) (fun h => by omega) w
  · have := stbM_uniq g hi hd hu (by omega) (by omega) s hm'
    omega
  · rw [e1, e2, e3]
    exact s
theorem back_no (n : Nat) (X O : List Nat) (i r : Nat) (bX : isB X) (bO : isB O) (g : okG (n : Int) X O) (hi : i + 1 < n) (hr : r + 1 < n) (hno : ∀ m d u, m ≤ 1 → d ≤ 1 → u ≤ 1 → ¬ stbM X O i r m d u) (w : World) :
    Gives Try.prog 71 #[.agg (gv n X O).toArray, .int .i64 (i : Int), .int .i64 (r : Int)] (.tuple #[.agg (gv 0 Z8 Z8).toArray, .agg (encMo 0 0 0 0 0 0).toArray, .bool false]) w :=
  back_walk n X O i r 8 bX bO g hi hr (by omega) (fun q hq => hno _ _ _ (by omega) (by omega) (by omega)) (fun h => absurd h (by omega)) _ (fun h => absurd h (by omega)) (fun _ => rfl) w
end Go.Proofs.Ytflleelfkknfaaa
