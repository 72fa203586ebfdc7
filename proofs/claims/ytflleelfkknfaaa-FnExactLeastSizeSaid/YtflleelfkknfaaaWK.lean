/- Walks: shifts of grids. -/
import Derived.Test.YtflleelfkknfaaaPC
import Derived.Test.YtflleelfkknfaaaDr
import Derived.Test.YtflleelfkknfaaaWB
namespace Go.Proofs.Ytflleelfkknfaaa
open Go Go.RowKit SL
theorem built_grid (n : Int) : Try.prog.built 27 [(0, .int .i64 n)] = some (gv n Z8 Z8).toArray := by kernel_rfl
/-- A remainder that is made positive. -/
theorem tmod_pos {x n : Nat} {v : Int} (h2 : 2 ≤ n) (h8 : n ≤ 8) (hx : x < n) (hv : -(n : Int) ≤ v ∧ v ≤ n) : (Int.tmod ((x : Int) + v) n + n) % n = (((x + (v % n).toNat) % n : Nat) : Int) := by
  have ht : Int.tmod ((x : Int) + v) n = if 0 ≤ (x : Int) + v then ((x : Int) + v) % n else -((-((x : Int) + v)) % n) := by
    split
    · rename_i h; exact Int.tmod_eq_emod_of_nonneg h
    · rename_i h
      have := Int.neg_tmod (-((x : Int) + v)) n
      rw [Int.neg_neg] at this
      rw [this, Int.tmod_eq_emod_of_nonneg (by omega)]
  rw [ht]
  obtain rfl | rfl | rfl | rfl | rfl | rfl | rfl : n = 2 ∨ n = 3 ∨ n = 4 ∨ n = 5 ∨ n = 6 ∨ n = 7 ∨ n = 8 := by omega
  all_goals (split <;> omega)
theorem wrap8 {r : Nat} (h : r < 256) : IntKind.u8.wrap (r : Int) = (r : Int) := IntWalk.u8_in _ (by omega)
set_option maxRecDepth 100000 in
theorem rolled_gives (n u : Nat) (v : Int) (X O : List Nat) (bX : isB X) (bO : isB O) (g : okG (n : Int) X O) (hu : u ≤ n) (hv : -(n : Int) ≤ v ∧ v ≤ n) (w : World) :
    Gives Try.prog 43 #[.agg (gv n X O).toArray, .int .i64 v, .int .i64 (u : Int)] (.agg (gv n (rol n (v % n).toNat u X n) (rol n (v % n).toNat u O n)).toArray) w := by
  have ug := gv_len (n := n) bX.1 bO.1
  have lX := bX.1
  have lO := bO.1
  obtain ⟨⟨h2, h8⟩, pX, pO, hne⟩ := g
  simp only [Int.toNat_natCast] at pX pO hne
  refine gives_of (args := [.agg (gv n X O).toArray, .int .i64 v, .int .i64 (u : Int)]) [(0, .agg (gv n X O).toArray), (1, .int .i64 v), (2, .int .i64 (u : Int))] [] Try.func43 rfl Try.ntmps43 rfl (argsF_cons rfl (argsF_cons rfl (argsF_cons rfl argsF_nil))) (Holds.start w) ?_
  repeat' (first | (apply J_box; exact rfl; exact rfl; exact rfl; (intro _)) | (apply J_alloc (cs := gv 0 Z8 Z8); exact rfl; exact rfl; (intro _)) | refine thenQ_normal ?_ | refine JC_seq ?_ | refine JC_region ?_ | refine J_nil ?_)
  rename_i b3 b6
  refine JC_cutT (Y := Nat) (fun _ => True) (fun b => [(1, .int .i64 v), (2, .int .i64 (u : Int)), (3, .pointer (some ⟨b3, 0, none⟩)), (6, .pointer (some ⟨b6, 0, none⟩)), (7, .int .i64 (n : Int)), (8, .pointer (some ⟨b, 0, none⟩))])
    (fun b => [.blk b (gv n Z8 Z8) 27, .blk b6 (gv 0 Z8 Z8) 27, .blk b3 (gv n X O) 27]) ?_ ?_
  ·
    refine JC_any (m := 8) rfl _ mixed (fun _ h => h) ?_
    (apply JF_q 0; exact rfl; kernel_rfl; exact rfl; (intro E hE; (apply q_fieldAddr; exact rfl)))
    (apply JF_q 1; exact rfl; kernel_rfl; exact rfl; (intro E hE; (apply q_load; exact rfl; (refine hE _ ?_; exact mb); (exact rfl))))
    (apply JF_q 2; exact rfl; kernel_rfl; exact rfl; (intro E hE; (apply q_fieldAddr; exact rfl)))
    (apply JF_q 3; exact rfl; kernel_rfl; exact rfl; (intro E hE; (apply q_load; exact rfl; (refine hE _ ?_; exact mb); (exact rfl))))
    (apply JF_q 4; exact rfl; kernel_rfl; exact rfl; (intro E hE; (apply q_build1; exact rfl; exact built_grid n)))
    (apply JF_all [5]; kernel_rfl)
    (apply JFs_cons; exact rfl)
    · (apply J_alloc (cs := gv 0 Z8 Z8); exact rfl; exact rfl; (intro _))
      (apply J_nil; apply JF_end; ((repeat (apply sub_cons; (focus ((with_reducible (repeat (first | exact m0 | refine mS ?_))); done)))); exact sub_nil))
      (apply JF_q 6; exact rfl; kernel_rfl; exact rfl; (intro E hE; (apply q_assign; exact rfl)))
      (apply JF_all [7]; kernel_rfl)
      (apply JFs_cons; exact rfl)
      · (apply J_sW; exact rfl; exact rfl; infer_instance; (exact rfl); (exact rfl); (exact ones_of rfl); infer_instance)
        (apply J_nil; apply JF_end; ((repeat (apply sub_cons; (focus ((with_reducible (repeat (first | exact m0 | refine mS ?_))); done)))); exact sub_nil))
        (apply JF_done; kernel_rfl)
        (apply thenQ_normal; apply ex1; refine ⟨trivial, ?_⟩; (refine entP (ent ?_ (List.nil_sublist _)) ?_; (repeat refine fr_cons rfl ?_); exact fr_nil; (repeat (first | exact sp_nil | (with_reducible apply sp0)))))
      exact JFs_nil
    exact JFs_nil
  · intro b8 _
    repeat' (first | (apply Jq_assign; exact rfl; exact rfl) | refine thenQ_normal ?_ | refine JC_seq ?_ | refine JC_region ?_ | refine J_nil ?_ | refine JC_block ?_)
    refine JC_loop (X := Nat) (fun k => k ≤ n) (fun k => [(9, .int .i64 (k : Int)), (1, .int .i64 v), (2, .int .i64 (u : Int)), (3, .pointer (some ⟨b3, 0, none⟩)), (6, .pointer (some ⟨b6, 0, none⟩)), (7, .int .i64 (n : Int)), (8, .pointer (some ⟨b8, 0, none⟩))])
      (fun k => [.blk b8 (gv n (rol n (v % n).toNat u X k) (rol n (v % n).toNat u O k)) 27, .blk b6 (gv 0 Z8 Z8) 27, .blk b3 (gv n X O) 27]) (fun k => n - k) 0 (Nat.zero_le _) ?_ ?_
    · (refine ent ?_ ?_; (repeat refine fr_cons rfl ?_); exact fr_nil; (repeat (exact List.Sublist.refl _)))
    · intro k hk
      have lr1 := rol_len n (v % n).toNat u X k
      have lr2 := rol_len n (v % n).toNat u O k
      have lr3 : ((rol n (v % n).toNat u X k).set ((k + u) % n) ((X.getD k 0 + (v % n).toNat) % n)).length = 8 := rol_len n (v % n).toNat u X (k + 1)
      have lg := gv_len (n := n) lr1 lr2
      have lg2 := gv_len (n := n) lr3 lr2
      by_cases hlt : k < n
      · have hto : (k + u) % n < n := Nat.mod_lt _ (by omega)
        have e1 : ((k : Int) + (u : Int)) % (n : Int) = (((k + u) % n : Nat) : Int) := rfl
        have e2 : ((((k + u) % n : Nat) : Int) + (n : Int)) % (n : Int) = (((k + u) % n : Nat) : Int) := by
          rw [Int.add_emod_right]; exact Int.emod_eq_of_lt (by omega) (by omega)
        have x1 := tmod_pos (v := v) (by omega) (by omega) (pX.1 k hlt) hv
        have x2 := tmod_pos (v := v) (by omega) (by omega) (pO.1 k hlt) hv
        have t1 := Int.tmod_lt_of_pos ((X.getD k 0 : Int) + v) (show (0 : Int) < n by omega)
        have t2 := Int.tmod_lt_of_pos ((O.getD k 0 : Int) + v) (show (0 : Int) < n by omega)
        have t3 := Int.lt_tmod_of_pos ((X.getD k 0 : Int) + v) (show (0 : Int) < n by omega)
        have t4 := Int.lt_tmod_of_pos ((O.getD k 0 : Int) + v) (show (0 : Int) < n by omega)
        have y1 : (X.getD k 0 + (v % n).toNat) % n < n := Nat.mod_lt _ (by omega)
        have y2 : (O.getD k 0 + (v % n).toNat) % n < n := Nat.mod_lt _ (by omega)
        have bk := bX.2 k
        have bk' := bO.2 k
        repeat' (first | (apply Jq_remR; exact rfl; exact rfl; exact rfl; omega; omega; first | exact e1 | exact e2 | exact x1 | exact x2) | (apply Jq_remtR; exact rfl; exact rfl; exact rfl; omega; exact rfl) | (apply Jq_move; exact rfl; exact rfl) | (apply Jq_assign; exact rfl; exact rfl) | (apply Jq_load; exact rfl; exact rfl; (exact mb); (first | (refine gv_X lX ?_; omega) | (refine gv_O lX lO ?_; omega))) | (apply Jq_fieldAddr; exact rfl; exact rfl) | (apply Jq_indexN; exact rfl; exact rfl; exact rfl; omega) | (apply Jq_cmp; exact rfl; exact rfl; exact rfl; exact rfl) | (apply Jq_add; exact rfl; exact rfl; exact rfl; omega) | (apply J_s1; exact rfl; exact rfl; exact rfl; infer_instance; (omega); (first | (refine gv_setX lr1 ?_; omega) | exact gv_setO lr3); infer_instance) | refine thenQ_normal ?_ | refine inBlockQ_normal ?_ | refine JC_seq ?_ | refine JC_region ?_ | refine J_nil ?_ | refine JC_block ?_ | refine JC_skip ?_ | (apply JC_dec_true; exact rfl; omega) | (apply Jq_conv; exact rfl; exact rfl; first | exact wrap64_nat (by assumption) | exact wrap8 (by omega)))
        refine ⟨k + 1, by omega, by omega, ?_⟩
        (refine ent ?_ ?_; (repeat refine fr_cons rfl ?_); exact fr_nil; (repeat (exact List.Sublist.refl _)))
      · obtain rfl : k = n := by omega
        repeat' (first | (apply Jq_move; exact rfl; exact rfl) | (apply Jq_cmp; exact rfl; exact rfl; exact rfl; exact rfl) | (apply Jq_loadW; exact rfl; exact rfl; (exact mb); (omega)) | (apply J_sW; exact rfl; exact rfl; infer_instance; (exact rfl); (omega); (exact gv_one _ _ _); infer_instance) | refine thenQ_normal ?_ | refine thenQ_exit ?_ | refine inBlockQ_here ?_ | refine JC_seq ?_ | refine JC_region ?_ | refine J_nil ?_ | refine JC_ret ?_ | refine JC_exit ?_ | (apply JC_dec_false; exact rfl; omega))
        exact gC rfl rfl rfl (.tail _ (.head _)) (by omega) rfl
end Go.Proofs.Ytflleelfkknfaaa
