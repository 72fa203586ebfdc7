/- Plain: rows of twelve words as functions to Bool; the first place. -/
import Derived.Test.YtmbbcmebdefggaaDoorVA
import Derived.Lib.TrailingZeros
namespace Go.Proofs.YtmbbcmebdefggaaDoor
/-- The number with these bits. -/
def natOf (f : Nat → Bool) : Nat → Nat
  | 0 => 0
  | k + 1 => 2 ^ k * (if f k then 1 else 0) + natOf f k
theorem natOf_lt (f : Nat → Bool) : ∀ k, natOf f k < 2 ^ k
  | 0 => by show 0 < 1; omega
  | k + 1 => by
    have := natOf_lt f k
    rw [natOf, Nat.pow_succ]
    by_cases h : f k
    · rw [if_pos h]; omega
    · rw [if_neg h]; omega
theorem natOf_bit (f : Nat → Bool) : ∀ k j, (natOf f k).testBit j = (decide (j < k) && f j)
  | 0, j => by simp [natOf]
  | k + 1, j => by
    have hl := natOf_lt f k
    have ih := natOf_bit f k j
    rw [natOf]
    by_cases h : f k
    · rw [if_pos h, Nat.mul_one]
      rcases Nat.lt_trichotomy j k with h1 | h1 | h1
      · rw [Nat.testBit_two_pow_add_gt h1, ih, decide_eq_true h1, decide_eq_true (by omega)]
      · subst h1
        rw [Nat.testBit_two_pow_add_eq, Nat.testBit_lt_two_pow hl, decide_eq_true (by omega), h]; rfl
      · rw [decide_eq_false (by omega), Bool.false_and]
        refine Nat.testBit_lt_two_pow ?_
        have : 2 ^ (k + 1) ≤ 2 ^ j := Nat.pow_le_pow_right (by decide) h1
        rw [Nat.pow_succ] at this
        omega
    · rw [if_neg h, Nat.mul_zero, Nat.zero_add, ih]
      by_cases h1 : j = k
      · subst h1
        rw [decide_eq_false (by omega), decide_eq_true (by omega)]
        simp [h]
      · congr 1
        exact decide_eq_decide.2 (by omega)
/-- Word i. -/
def wd (f : Nat → Bool) (i : Nat) : Nat := natOf (fun j => f (64 * i + j)) 64
theorem wd_lt (f : Nat → Bool) (i : Nat) : wd f i < 18446744073709551616 := natOf_lt _ 64
theorem wd_bit (f : Nat → Bool) {i j : Nat} (h : j < 64) : (wd f i).testBit j = f (64 * i + j) := by
  unfold wd
  rw [natOf_bit, decide_eq_true h, Bool.true_and]
theorem wd_is {f : Nat → Bool} {i a : Nat} (ha : a < 18446744073709551616) (h : ∀ j, j < 64 → a.testBit j = f (64 * i + j)) : a = wd f i := Nat.eq_of_testBit_eq fun j => by
  by_cases hj : j < 64
  · rw [wd_bit f hj, h j hj]
  · have p : ∀ b, b < 18446744073709551616 → b.testBit j = false := fun b hb => Nat.testBit_lt_two_pow (Nat.lt_of_lt_of_le hb (Nat.pow_le_pow_right (n := 2) (by decide) (show 64 ≤ j by omega)))
    rw [p a ha, p _ (wd_lt f i)]
theorem wd_congr {f g : Nat → Bool} {i : Nat} (h : ∀ j, j < 64 → f (64 * i + j) = g (64 * i + j)) : wd f i = wd g i := wd_is (wd_lt f i) fun j hj => by rw [wd_bit f hj, h j hj]
theorem wd_zero {f : Nat → Bool} {i : Nat} (h : wd f i = 0) {j : Nat} (hj : j < 64) : f (64 * i + j) = false := by
  rw [← wd_bit f hj, h, Nat.zero_testBit]
theorem ctzFrom_bit : ∀ (n x : Nat), 0 < x → x < 2 ^ n → x.testBit (Lib.ctzFrom n x) = true ∧ ∀ j, j < Lib.ctzFrom n x → x.testBit j = false
  | 0, x, h0, h => by simp at h; omega
  | n + 1, x, h0, h => by
    unfold Lib.ctzFrom
    split
    · rename_i h1
      exact ⟨by rw [Nat.testBit_zero]; exact decide_eq_true h1, fun j hj => absurd hj (Nat.not_lt_zero _)⟩
    · rename_i h1
      obtain ⟨k1, k2⟩ := ctzFrom_bit n (x / 2) (by omega) (by rw [Nat.pow_succ] at h; omega)
      refine ⟨by rw [Nat.add_comm, Nat.testBit_succ]; exact k1, fun j hj => ?_⟩
      cases j with
      | zero => rw [Nat.testBit_zero]; exact decide_eq_false h1
      | succ j => rw [Nat.testBit_succ]; exact k2 j (by omega)
theorem wd_ctz {f : Nat → Bool} {i : Nat} (h : wd f i ≠ 0) : Lib.ctz 64 (wd f i) < 64 ∧ f (64 * i + Lib.ctz 64 (wd f i)) = true ∧ ∀ j, j < Lib.ctz 64 (wd f i) → f (64 * i + j) = false := by
  have e : Lib.ctz 64 (wd f i) = Lib.ctzFrom 64 (wd f i) := if_neg h
  rw [e]
  obtain ⟨_, _, h1⟩ := Lib.ctzFrom_spec 64 (wd f i) (by omega) (natOf_lt _ 64)
  obtain ⟨h2, h3⟩ := ctzFrom_bit 64 (wd f i) (by omega) (natOf_lt _ 64)
  refine ⟨h1, by rw [← wd_bit f h1]; exact h2, fun j hj => ?_⟩
  rw [← wd_bit f (by omega)]
  exact h3 j hj
/-- The twelve words. -/
def wds (f : Nat → Bool) : List Nat := (List.range 12).map (wd f)
theorem wds_len (f : Nat → Bool) : (wds f).length = 12 := by unfold wds; rw [List.length_map, List.length_range]
theorem wds_get (f : Nat → Bool) {i : Nat} (h : i < 12) : (wds f)[i]? = some (wd f i) := by
  unfold wds
  rw [List.getElem?_map, List.getElem?_range h]; rfl
theorem wds_congr {f g : Nat → Bool} (h : ∀ k, k < 768 → f k = g k) : wds f = wds g := List.map_congr_left fun i hi => wd_congr fun j hj => h _ (by
  have := List.mem_range.1 hi
  omega)
theorem wds_set {f h : Nat → Bool} {i v : Nat} (hi : i < 12) (hv : v = wd h i) (ho : ∀ k, k < 768 → k / 64 ≠ i → h k = f k) : (wds f).set i v = wds h := List.ext_getElem? fun k => by
  by_cases hk : k < 12
  · rw [List.getElem?_set, wds_get h hk]
    by_cases e : i = k
    · subst e
      rw [if_pos rfl, if_pos (by rw [wds_len]; exact hk), hv]
    · rw [if_neg e, wds_get f hk]
      refine congrArg some (wd_congr fun j hj => (ho _ (by omega) (by omega)).symm)
  · rw [List.getElem?_eq_none (by rw [List.length_set, wds_len]; omega), List.getElem?_eq_none (by rw [wds_len]; omega)]
theorem wds_zero : wds (fun _ => false) = List.replicate 12 0 := by decide +kernel
theorem wd_xor (f g : Nat → Bool) (i : Nat) : wd f i ^^^ wd g i = wd (fun k => f k ^^ g k) i := wd_is (Nat.xor_lt_two_pow (n := 64) (wd_lt f i) (wd_lt g i)) fun j hj => by
  rw [Nat.testBit_xor, wd_bit f hj, wd_bit g hj]
theorem wd_flip (f : Nat → Bool) {k : Nat} (hk : k < 768) : wd f (k / 64) ^^^ 2 ^ (k % 64) = wd (fun j => f j ^^ decide (j = k)) (k / 64) := wd_is (Nat.xor_lt_two_pow (n := 64) (wd_lt f _) (Nat.pow_lt_pow_right (by decide) (Nat.mod_lt _ (by decide)))) fun j hj => by
  rw [Nat.testBit_xor, wd_bit f hj, Nat.testBit_two_pow]
  congr 1
  exact decide_eq_decide.2 (by omega)
/-- The first place, -1 if there is none. -/
def fstB (f : Nat → Bool) : Int := match (List.range 768).find? f with
  | some k => (k : Int)
  | none => -1
theorem fstB_some {f : Nat → Bool} {k : Nat} (hk : k < 768) (h : f k = true) (hl : ∀ j, j < k → f j = false) : fstB f = k := by
  unfold fstB
  cases e : (List.range 768).find? f with
  | none =>
    have := List.find?_eq_none.1 e k (List.mem_range.2 hk)
    exact absurd h this
  | some i =>
    obtain ⟨h1, ls, rs, h2, h3⟩ := List.find?_eq_some_iff_append.1 e
    have hi : i = k := by
      rcases Nat.lt_trichotomy i k with h4 | h4 | h4
      · rw [hl i h4] at h1; cases h1
      · exact h4
      · exfalso
        have hp : (ls ++ i :: rs).Pairwise (· < ·) := by rw [← h2]; exact List.pairwise_lt_range
        have hm : k ∈ ls ++ i :: rs := by rw [← h2]; exact List.mem_range.2 hk
        rcases List.mem_append.1 hm with hm | hm
        · have := h3 k hm
          rw [h] at this
          cases this
        · rcases List.mem_cons.1 hm with rfl | hm
          · omega
          · have := (List.pairwise_cons.1 (List.pairwise_append.1 hp).2.1).1 k hm
            omega
    rw [hi]
theorem fstB_none {f : Nat → Bool} (h : ∀ k, k < 768 → f k = false) : fstB f = -1 := by
  unfold fstB
  rw [List.find?_eq_none.2 fun k hk => by rw [h k (List.mem_range.1 hk)]; decide]
end Go.Proofs.YtmbbcmebdefggaaDoor
