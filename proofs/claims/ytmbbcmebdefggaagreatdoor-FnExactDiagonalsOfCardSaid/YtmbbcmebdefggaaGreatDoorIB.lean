/- Walks: the reading of lists of numbers: equal, marked, held. Walks: rows of rows of numbers: alike, marked, held. Rows of rows, the newest first. -/
import Derived.Test.YtmbbcmebdefggaaGreatDoorDr
import Derived.Test.YtmbbcmebdefggaaGreatDoorV
import Derived.Test.YtmbbcmebdefggaaGreatDoorPG
import Derived.Test.YtmbbcmebdefggaaGreatDoorTG
import Derived.Test.YtmbbcmebdefggaaGreatDoorAP
namespace Go.Proofs.YtmbbcmebdefggaaGreatDoor
open Go Go.RowKit SL
set_option maxRecDepth 100000 in
theorem eqSame_gives {B : Nat} {w0 : World} {H : Hp} {v u : Value} {xs : List Value} (hv : It.row v 2 1 xs ∈ H) (hu : It.row u 2 1 xs ∈ H) (hx : isNums xs) (hl : xs.length < 1000000) :
    GivesM Tryz.prog 45 #[v, u] B w0 H (.bool true) H := by
  refine givesM_of (args := [v, u]) [(0, v), (1, u)] Tryz.func45 rfl Tryz.ntmps45 rfl (argsF_cons rfl (argsF_cons rfl argsF_nil)) ?_
  repeat' (first | (apply Jq_move; exact rfl; exact rfl) | (apply Jq_assign; exact rfl; exact rfl) | (apply Jq_cmp; exact rfl; exact rfl; exact rfl; exact rfl) | (apply Jq_lenR; exact rfl; exact rfl; (assumption)) | refine thenQ_normal ?_ | refine JC_seq ?_ | refine JC_region ?_ | refine J_nil ?_ | refine JC_block ?_ | refine JC_skip ?_ | (apply JC_ndec_false; exact rfl; omega))
  refine JC_loop (X := Nat) (fun k => k ≤ xs.length) (fun k => [(5, .int .i64 (k : Int)), (0, v), (1, u)]) (fun _ => H) (fun k => xs.length - k) 0 (Nat.zero_le _) ?_ ?_
  · (refine ent ?_ ?_; (repeat refine fr_cons rfl ?_); exact fr_nil; (repeat (exact List.Sublist.refl _)))
  · intro k hk
    by_cases hlt : k < xs.length
    · obtain ⟨z, hz⟩ := hx k hlt
      repeat' (first | (apply Jq_move; exact rfl; exact rfl) | (apply Jq_assign; exact rfl; exact rfl) | (apply Jq_cmp; exact rfl; exact rfl; exact rfl; exact rfl) | (apply Jq_add; exact rfl; exact rfl; exact rfl; omega) | (apply Jq_lenR; exact rfl; exact rfl; (assumption)) | (apply Jq_indexRN; exact rfl; exact rfl; exact rfl; (assumption); omega) | (apply Jq_loadR; exact rfl; exact rfl; (assumption); (exact hz)) | refine thenQ_normal ?_ | refine inBlockQ_normal ?_ | refine JC_seq ?_ | refine JC_region ?_ | (apply JC_draw mixed; kernel_rfl) | refine J_nil ?_ | refine JC_block ?_ | refine JC_skip ?_ | (apply JC_dec_true; exact rfl; omega) | (apply JC_ndec_false; exact rfl; omega))
      refine ⟨k + 1, by omega, by omega, ?_⟩
      (refine ent ?_ ?_; (repeat refine fr_cons rfl ?_); exact fr_nil; (repeat (exact List.Sublist.refl _)))
    · repeat' (first | (apply Jq_move; exact rfl; exact rfl) | (apply Jq_assign; exact rfl; exact rfl) | (apply Jq_cmp; exact rfl; exact rfl; exact rfl; exact rfl) | (apply Jq_lenR; exact rfl; exact rfl; (assumption)) | refine thenQ_normal ?_ | refine thenQ_exit ?_ | refine inBlockQ_here ?_ | refine JC_seq ?_ | refine JC_region ?_ | refine J_nil ?_ | refine JC_ret ?_ | refine JC_exit ?_ | (apply JC_dec_false; exact rfl; omega))
      refine m1 rfl rfl rfl rfl ?_
      (refine ent ?_ ?_; (repeat refine fr_cons rfl ?_); exact fr_nil; (repeat (exact List.Sublist.refl _)))
theorem set_mid (L : List Nat) (xs : List Value) (m : Nat) (h : L.length < xs.length) : (i64s L ++ xs.drop L.length).set L.length (.int .i64 (m : Int)) = i64s (L ++ [m]) ++ xs.drop (L ++ [m]).length := by
  have e : xs.drop L.length = xs[L.length] :: xs.drop (L.length + 1) := List.drop_eq_getElem_cons h
  rw [List.set_append_right _ _ (by rw [i64s_len]; exact Nat.le_refl _), i64s_len, Nat.sub_self, e, List.set_cons_zero, List.length_append]
  simp [i64s]
set_option maxRecDepth 100000 in
theorem mark_gives {B : Nat} {w0 : World} {H1 H2 : Hp} {v : Value} {xs : List Value} (k : Nat) (hk : k < 1000000000000000) (hl : xs.length < 1000000) :
    GivesM Tryz.prog 46 #[v, .int .i64 (k : Int)] B w0 (H1 ++ .row v 2 1 xs :: H2) (.int .i64 ((k + xs.length : Nat) : Int)) (H1 ++ .row v 2 1 (i64s (List.range' k xs.length)) :: H2) := by
  refine givesM_of (args := [v, .int .i64 (k : Int)]) [(0, v), (1, .int .i64 (k : Int))] Tryz.func46 rfl Tryz.ntmps46 rfl (argsF_cons rfl (argsF_cons rfl argsF_nil)) ?_
  repeat' (first | (apply Jq_assign; exact rfl; exact rfl) | refine thenQ_normal ?_ | refine JC_seq ?_ | refine JC_region ?_ | refine J_nil ?_ | refine JC_block ?_)
  refine JC_loop (X := Nat) (fun i => i ≤ xs.length) (fun i => [(5, .int .i64 (i : Int)), (0, v), (1, .int .i64 ((k + i : Nat) : Int))]) (fun i => H1 ++ .row v 2 1 (i64s (List.range' k i) ++ xs.drop i) :: H2) (fun i => xs.length - i) 0 (Nat.zero_le _) ?_ ?_
  · (refine ent ?_ ?_; (repeat refine fr_cons rfl ?_); exact fr_nil; (repeat (exact List.Sublist.refl _)))
  · intro i hi
    have hm : It.row v 2 1 (i64s (List.range' k i) ++ xs.drop i) ∈ H1 ++ .row v 2 1 (i64s (List.range' k i) ++ xs.drop i) :: H2 := List.mem_append_right _ m0
    have lx : (i64s (List.range' k i) ++ xs.drop i).length = xs.length := by simp [i64s]; omega
    by_cases hlt : i < xs.length
    · have es : (i64s (List.range' k i) ++ xs.drop i).set i (.int .i64 ((k + i : Nat) : Int)) = i64s (List.range' k (i + 1)) ++ xs.drop (i + 1) := by
        have := set_mid (List.range' k i) xs (k + i) (by simpa using hlt)
        simp only [List.length_range', List.length_append, List.length_singleton] at this
        rw [this, List.range'_concat, Nat.one_mul]
      repeat' (first | (apply Jq_move; exact rfl; exact rfl) | (apply Jq_assign; exact rfl; exact rfl) | (apply Jq_cmp; exact rfl; exact rfl; exact rfl; exact rfl) | (apply Jq_add; exact rfl; exact rfl; exact rfl; omega) | (apply Jq_lenR; exact rfl; exact rfl; (assumption)) | (apply Jq_indexRN; exact rfl; exact rfl; exact rfl; (assumption); omega) | refine thenQ_normal ?_ | refine inBlockQ_normal ?_ | refine JC_seq ?_ | refine JC_region ?_ | refine J_nil ?_ | refine JC_block ?_ | refine JC_skip ?_ | (apply JC_dec_true; exact rfl; omega) | (apply J_storeR; exact rfl; exact rfl; exact rfl; omega; exact es))
      refine ⟨i + 1, by omega, by omega, ?_⟩
      (refine ent ?_ ?_; (repeat refine fr_cons rfl ?_); exact fr_nil; (repeat (exact List.Sublist.refl _)))
    · obtain rfl : i = xs.length := by omega
      repeat' (first | (apply Jq_move; exact rfl; exact rfl) | (apply Jq_assign; exact rfl; exact rfl) | (apply Jq_cmp; exact rfl; exact rfl; exact rfl; exact rfl) | (apply Jq_lenR; exact rfl; exact rfl; (assumption)) | refine thenQ_normal ?_ | refine thenQ_exit ?_ | refine inBlockQ_here ?_ | refine JC_seq ?_ | refine JC_region ?_ | refine J_nil ?_ | refine JC_ret ?_ | refine JC_exit ?_ | (apply JC_dec_false; exact rfl; omega))
      rw [List.drop_length, List.append_nil]
      refine m1 rfl rfl rfl rfl ?_
      (refine ent ?_ ?_; (repeat refine fr_cons rfl ?_); exact fr_nil; (repeat (exact List.Sublist.refl _)))
theorem mark_gives0 {B : Nat} {w0 : World} {H2 : Hp} {v : Value} {xs : List Value} (k : Nat) (hk : k < 1000000000000000) (hl : xs.length < 1000000) :
    GivesM Tryz.prog 46 #[v, .int .i64 (k : Int)] B w0 (.row v 2 1 xs :: H2) (.int .i64 ((k + xs.length : Nat) : Int)) (.row v 2 1 (i64s (List.range' k xs.length)) :: H2) := mark_gives (H1 := []) k hk hl
set_option maxRecDepth 100000 in
theorem held_gives {B : Nat} {w0 : World} {H : Hp} {v : Value} (k m : Nat) (hv : It.row v 2 1 (i64s (List.range' k m)) ∈ H) (hk : k < 1000000000000000) (hl : m < 1000000000000000) :
    GivesM Tryz.prog 47 #[v, .int .i64 (k : Int)] B w0 H (.int .i64 ((k + m : Nat) : Int)) H := by
  have lx : (i64s (List.range' k m)).length = m := by simp [i64s]
  refine givesM_of (args := [v, .int .i64 (k : Int)]) [(0, v), (1, .int .i64 (k : Int))] Tryz.func47 rfl Tryz.ntmps47 rfl (argsF_cons rfl (argsF_cons rfl argsF_nil)) ?_
  repeat' (first | (apply Jq_assign; exact rfl; exact rfl) | refine thenQ_normal ?_ | refine JC_seq ?_ | refine JC_region ?_ | refine J_nil ?_ | refine JC_block ?_)
  refine JC_loop (X := Nat) (fun i => i ≤ m) (fun i => [(5, .int .i64 (i : Int)), (0, v), (1, .int .i64 ((k + i : Nat) : Int))]) (fun _ => H) (fun i => m - i) 0 (Nat.zero_le _) ?_ ?_
  · (refine ent ?_ ?_; (repeat refine fr_cons rfl ?_); exact fr_nil; (repeat (exact List.Sublist.refl _)))
  · intro i hi
    by_cases hlt : i < m
    · have hz : (i64s (List.range' k m))[i]? = some (.int .i64 ((k + i : Nat) : Int)) := by
        rw [i64s_get (by simpa using hlt)]
        simp [List.getD_eq_getElem?_getD, hlt]
      repeat' (first | (apply Jq_move; exact rfl; exact rfl) | (apply Jq_assign; exact rfl; exact rfl) | (apply Jq_cmp; exact rfl; exact rfl; exact rfl; exact rfl) | (apply Jq_add; exact rfl; exact rfl; exact rfl; omega) | (apply Jq_lenR; exact rfl; exact rfl; (assumption)) | (apply Jq_indexRN; exact rfl; exact rfl; exact rfl; (assumption); omega) | (apply Jq_loadR; exact rfl; exact rfl; (assumption); (exact hz)) | refine thenQ_normal ?_ | refine inBlockQ_normal ?_ | refine JC_seq ?_ | refine JC_region ?_ | refine J_nil ?_ | refine JC_block ?_ | refine JC_skip ?_ | (apply JC_dec_true; exact rfl; omega) | (apply JC_ndec_false; exact rfl; omega))
      refine ⟨i + 1, by omega, by omega, ?_⟩
      (refine ent ?_ ?_; (repeat refine fr_cons rfl ?_); exact fr_nil; (repeat (exact List.Sublist.refl _)))
    · obtain rfl : i = m := by omega
      repeat' (first | (apply Jq_move; exact rfl; exact rfl) | (apply Jq_assign; exact rfl; exact rfl) | (apply Jq_cmp; exact rfl; exact rfl; exact rfl; exact rfl) | (apply Jq_lenR; exact rfl; exact rfl; (assumption)) | refine thenQ_normal ?_ | refine thenQ_exit ?_ | refine inBlockQ_here ?_ | refine JC_seq ?_ | refine JC_region ?_ | refine J_nil ?_ | refine JC_ret ?_ | refine JC_exit ?_ | (apply JC_dec_false; exact rfl; omega))
      refine m1 rfl rfl rfl rfl ?_
      (refine ent ?_ ?_; (repeat refine fr_cons rfl ?_); exact fr_nil; (repeat (exact List.Sublist.refl _)))
end Go.Proofs.YtmbbcmebdefggaaGreatDoor
namespace Go.Proofs.YtmbbcmebdefggaaGreatDoor
open Go Go.RowKit SL
end Go.Proofs.YtmbbcmebdefggaaGreatDoor
namespace Go.Proofs.YtmbbcmebdefggaaGreatDoor
open Go Go.RowKit SL
namespace SL
instance (priority := low) RB_A {v : Value} {A H : Hp} {e sz : Nat} {xs : List Value} [h : RB v H e sz xs] : RB v (A ++ H) e sz xs := ⟨List.mem_append.2 (.inr h.out)⟩
instance (priority := low) MB_A {b : Nat} {A H : Hp} {cs : List Value} {E : TypeId} [h : MB b H cs E] : MB b (A ++ H) cs E := ⟨List.mem_append.2 (.inr h.out)⟩
end SL
end Go.Proofs.YtmbbcmebdefggaaGreatDoor
