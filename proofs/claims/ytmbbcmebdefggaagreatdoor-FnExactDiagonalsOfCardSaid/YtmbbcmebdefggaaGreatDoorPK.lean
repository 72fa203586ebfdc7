/- Walks: grids told to be equal; shifts. Walks: the order of grids. Plain laws: the least of all shifts. -/
import Derived.Test.YtmbbcmebdefggaaGreatDoorDr
import Derived.Test.YtmbbcmebdefggaaGreatDoorWC
import Derived.Test.YtmbbcmebdefggaaGreatDoorPC
namespace Go.Proofs.YtmbbcmebdefggaaGreatDoor
open Go Go.RowKit SL
end Go.Proofs.YtmbbcmebdefggaaGreatDoor
namespace Go.Proofs.YtmbbcmebdefggaaGreatDoor
open Go Go.RowKit SL
theorem key_cmp {l m : List Nat} {i : Nat} (hlen : l.length = m.length) (hl : ∀ x ∈ l, x < 256) (hm : ∀ x ∈ m, x < 256) (hi : i < l.length) (hpre : ∀ j, j < i → l.getD j 0 = m.getD j 0) (hne : l.getD i 0 ≠ m.getD i 0) : l.getD i 0 < m.getD i 0 ↔ key l < key m := by
  refine ⟨key_first hlen hl hm hi hpre, fun hk => ?_⟩
  refine Classical.byContradiction fun h => ?_
  have := key_first (i := i) hlen.symm hm hl (by omega) (fun j hj => (hpre j hj).symm) (by omega)
  omega
theorem isB.mem {X : List Nat} (h : isB X) : ∀ x ∈ X, x < 256 := fun x hx => by
  obtain ⟨i, hi, rfl⟩ := List.getElem_of_mem hx
  have := h.2 i
  simpa [List.getD_eq_getElem?_getD, hi] using this
/-! Three-way comparisons. -/
def cmp3 (a b : Int) : Int := if a < b then -1 else if b < a then 1 else 0
set_option maxRecDepth 100000 in
theorem nan8_gives (a : Int) (w : World) : Gives Tryz.prog 181 #[.int .u8 a] (.bool (!decide (a = a))) w := by
  refine gives_of (args := [.int .u8 a]) [(0, .int .u8 a)] [] Tryz.func181 rfl Tryz.ntmps181 rfl (argsF_cons rfl argsF_nil) (Holds.start w) ?_
  repeat' (first | (apply Jq_move; exact rfl; exact rfl) | (apply Jq_assign; exact rfl; exact rfl) | (apply Jq_cmp; exact rfl; exact rfl; exact rfl; exact rfl) | refine thenQ_normal ?_ | refine JC_seq ?_ | refine JC_region ?_ | refine J_nil ?_ | refine JC_ret ?_)
  exact g1 rfl rfl rfl rfl
set_option maxRecDepth 100000 in
theorem cmp8_gives (a b : Int) (w : World) : Gives Tryz.prog 155 #[.int .u8 a, .int .u8 b] (.int .i64 (cmp3 a b)) w := by
  refine gives_of (args := [.int .u8 a, .int .u8 b]) [(0, .int .u8 a), (1, .int .u8 b)] [] Tryz.func155 rfl Tryz.ntmps155 rfl (argsF_cons rfl (argsF_cons rfl argsF_nil)) (Holds.start w) ?_
  repeat' (first | (apply Jq_move; exact rfl; exact rfl) | (apply Jq_assign; exact rfl; exact rfl) | (apply Jq_cmp; exact rfl; exact rfl; exact rfl; exact rfl) | (apply Jc; exact rfl; exact rfl; exact rfl; infer_instance; ((intro w hw); first | exact nan8_gives a w | exact nan8_gives b w)) | refine thenQ_normal ?_ | refine thenQ_ret ?_ | refine JC_seq ?_ | refine JC_region ?_ | refine J_nil ?_ | refine JC_skip ?_ | refine JC_ret ?_ | (apply JC_ndec_false; exact rfl; omega) | refine JC_dec rfl (fun _ => ?_) (fun _ => ?_))
  · exact g1 rfl rfl rfl (by rw [cmp3, if_pos (by omega)])
  · exact g1 rfl rfl rfl (by rw [cmp3, if_neg (by omega), if_pos (by omega)])
  · exact g1 rfl rfl rfl (by rw [cmp3, if_neg (by omega), if_neg (by omega)])
def cmpL (X Y : List Nat) : Int := cmp3 (key X : Int) (key Y : Int)
theorem cmp3_self (a : Int) : cmp3 a a = 0 := by unfold cmp3; rw [if_neg (by omega), if_neg (by omega)]
theorem cmp3_ne {a b : Int} (h : a ≠ b) : cmp3 a b ≠ 0 := by
  unfold cmp3
  by_cases h1 : a < b
  · rw [if_pos h1]; omega
  · rw [if_neg h1, if_pos (by omega)]; omega
theorem cmp3_iff {a b c d : Int} (h : a < b ↔ c < d) (h' : b < a ↔ d < c) : cmp3 a b = cmp3 c d := by
  unfold cmp3
  by_cases h1 : a < b
  · rw [if_pos h1, if_pos (h.1 h1)]
  · rw [if_neg h1, if_neg (fun k => h1 (h.2 k))]
    by_cases h2 : b < a
    · rw [if_pos h2, if_pos (h'.1 h2)]
    · rw [if_neg h2, if_neg (fun k => h2 (h'.2 k))]
theorem cmpL_first {X Y : List Nat} (bX : isB X) (bY : isB Y) {k : Nat} (hk : k < 8) (hpre : ∀ j, j < k → X.getD j 0 = Y.getD j 0) (hne : X.getD k 0 ≠ Y.getD k 0) : cmp3 (X.getD k 0 : Nat) (Y.getD k 0 : Nat) = cmpL X Y := by
  have h1 := key_cmp (by rw [bX.1, bY.1]) bX.mem bY.mem (by rw [bX.1]; exact hk) hpre hne
  have h2 := key_cmp (l := Y) (m := X) (by rw [bX.1, bY.1]) bY.mem bX.mem (by rw [bY.1]; exact hk) (fun j hj => (hpre j hj).symm) (fun e => hne e.symm)
  exact cmp3_iff (by omega) (by omega)
set_option maxRecDepth 100000 in
theorem sliceCmp_gives (X Y : List Nat) (b off c off' : Nat) (bX : isB X) (bY : isB Y) (w : World) (hb : b < w.heap.size) (hc : ∀ i v, (u8s X)[i]? = some v → w.cell? ⟨b, off + i, none⟩ = some v)
    (hb' : c < w.heap.size) (hc' : ∀ i v, (u8s Y)[i]? = some v → w.cell? ⟨c, off' + i, none⟩ = some v) :
    Gives Tryz.prog 117 #[.slice (some ⟨b, off, none⟩) 8 8, .slice (some ⟨c, off', none⟩) 8 8] (.int .i64 (cmpL X Y)) w := by
  have lX := bX.1
  have lY := bY.1
  refine gives_of (args := [.slice (some ⟨b, off, none⟩) 8 8, .slice (some ⟨c, off', none⟩) 8 8]) [(0, .slice (some ⟨b, off, none⟩) 8 8), (1, .slice (some ⟨c, off', none⟩) 8 8)] [.rd b off (u8s X), .rd c off' (u8s Y)] Tryz.func117 rfl Tryz.ntmps117 rfl (argsF_cons rfl (argsF_cons rfl argsF_nil)) (Holds.start_rd2 hb hc hb' hc') ?_
  repeat' (first | (apply Jq_move; exact rfl; exact rfl) | (apply Jq_assign; exact rfl; exact rfl) | (apply Jq_len; exact rfl; exact rfl) | refine thenQ_normal ?_ | refine JC_seq ?_ | refine JC_region ?_ | refine J_nil ?_ | refine JC_block ?_)
  refine JC_loop (X := Nat) (fun k => k ≤ 8 ∧ ∀ j, j < k → X.getD j 0 = Y.getD j 0) (fun k => [(11, .int .i64 (k : Int)), (10, .int .i64 8), (9, .slice (some ⟨b, off, none⟩) 8 8), (0, .slice (some ⟨b, off, none⟩) 8 8), (1, .slice (some ⟨c, off', none⟩) 8 8)])
    (fun _ => [.rd b off (u8s X), .rd c off' (u8s Y)]) (fun k => 8 - k) 0 ⟨Nat.zero_le _, by omega⟩ ?_ ?_
  · (refine ent ?_ ?_; (repeat refine fr_cons rfl ?_); exact fr_nil; (repeat (exact List.Sublist.refl _)))
  · rintro k ⟨hk, hpre⟩
    by_cases hlt : k < 8
    · have hcmp := cmp8_gives (X.getD k 0 : Nat) (Y.getD k 0 : Nat)
      by_cases hne : X.getD k 0 = Y.getD k 0
      · have e0 : cmp3 (X.getD k 0 : Nat) (Y.getD k 0 : Nat) = 0 := by rw [hne, cmp3_self]
        rw [e0] at hcmp
        repeat' (first | (apply Jq_move; exact rfl; exact rfl) | (apply Jq_assign; exact rfl; exact rfl) | (apply Jq_indexSN; exact rfl; exact rfl; exact rfl; omega) | (apply Jq_cmp; exact rfl; exact rfl; exact rfl; exact rfl) | (apply Jq_add; exact rfl; exact rfl; exact rfl; omega) | (apply Jc; exact rfl; exact rfl; exact rfl; infer_instance; ((intro w hw); exact hcmp w)) | (apply Jq_len; exact rfl; exact rfl) | refine thenQ_normal ?_ | refine inBlockQ_normal ?_ | refine JC_seq ?_ | refine JC_region ?_ | refine J_nil ?_ | refine JC_block ?_ | refine JC_skip ?_ | (apply JC_if_false; exact rfl) | (apply JC_dec_true; exact rfl; omega) | (apply JC_dec_false; exact rfl; omega) | (apply Jq_loadD (j := k); exact rfl; exact rfl; exact m0; omega; (refine u8s_get ?_; omega)) | (apply Jq_loadD (j := k); exact rfl; exact rfl; exact mS m0; omega; (refine u8s_get ?_; omega)))
        refine ⟨k + 1, ⟨by omega, fun j hj => ?_⟩, by omega, ?_⟩
        · by_cases e : j = k
          · subst e; exact hne
          · exact hpre j (by omega)
        · (refine ent ?_ ?_; (repeat refine fr_cons rfl ?_); exact fr_nil; (repeat (exact List.Sublist.refl _)))
      · rw [cmpL_first bX bY hlt hpre hne] at hcmp
        have h0 : cmpL X Y ≠ 0 := by
          rw [← cmpL_first bX bY hlt hpre hne]
          exact cmp3_ne (by omega)
        repeat' (first | (apply Jq_move; exact rfl; exact rfl) | (apply Jq_assign; exact rfl; exact rfl) | (apply Jq_indexSN; exact rfl; exact rfl; exact rfl; omega) | (apply Jq_cmp; exact rfl; exact rfl; exact rfl; exact rfl) | (apply Jc; exact rfl; exact rfl; exact rfl; infer_instance; ((intro w hw); exact hcmp w)) | (apply Jq_len; exact rfl; exact rfl) | refine thenQ_normal ?_ | refine thenQ_ret ?_ | refine inBlockQ_ret ?_ | refine JC_seq ?_ | refine JC_region ?_ | refine J_nil ?_ | refine JC_block ?_ | refine JC_skip ?_ | refine JC_ret ?_ | (apply JC_dec_true; exact rfl; omega) | (apply JC_dec_false; exact rfl; omega) | (apply JC_ndec_true; exact rfl; omega) | (apply Jq_loadD (j := k); exact rfl; exact rfl; exact m0; omega; (refine u8s_get ?_; omega)) | (apply Jq_loadD (j := k); exact rfl; exact rfl; exact mS m0; omega; (refine u8s_get ?_; omega)))
        exact g1 rfl rfl rfl rfl
    · have e := list8_ext lY lX (fun j hj => hpre j (by omega))
      repeat' (first | (apply Jq_move; exact rfl; exact rfl) | (apply Jq_assign; exact rfl; exact rfl) | (apply Jq_cmp; exact rfl; exact rfl; exact rfl; exact rfl) | (apply Jq_len; exact rfl; exact rfl) | refine thenQ_normal ?_ | refine thenQ_exit ?_ | refine inBlockQ_here ?_ | refine JC_seq ?_ | refine JC_region ?_ | refine J_nil ?_ | refine JC_skip ?_ | refine JC_ret ?_ | refine JC_exit ?_ | (apply JC_if_false; exact rfl) | (apply JC_dec_false; exact rfl; omega))
      exact g1 rfl rfl rfl (by rw [← e, cmpL, cmp3_self])
end Go.Proofs.YtmbbcmebdefggaaGreatDoor
namespace Go.Proofs.YtmbbcmebdefggaaGreatDoor
end Go.Proofs.YtmbbcmebdefggaaGreatDoor
