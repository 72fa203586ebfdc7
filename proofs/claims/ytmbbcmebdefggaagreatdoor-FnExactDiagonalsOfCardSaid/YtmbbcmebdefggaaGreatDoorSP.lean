/- Plain laws: the states are the orders of the rows, each one once, in order. -/
import Derived.Test.YtmbbcmebdefggaaGreatDoorSB
import Derived.Test.YtmbbcmebdefggaaGreatDoorPO
import Derived.Test.YtmbbcmebdefggaaGreatDoorPC
namespace Go.Proofs.YtmbbcmebdefggaaGreatDoor
/-- The first i entries are laid; 'used' has their bits. -/
structure PreX (n i : Nat) (x : List Nat) (used : Nat) : Prop where
  b : isB x
  lt : ∀ j, j < i → x.getD j 0 < n
  zer : ∀ j, i ≤ j → x.getD j 0 = 0
  inj : ∀ j k, j < i → k < i → x.getD j 0 = x.getD k 0 → j = k
  bit : ∀ r, r < 8 → (used / 2 ^ r % 2 = 0 ↔ ¬ ∃ j, j < i ∧ x.getD j 0 = r)
theorem bit_or {u r s : Nat} : (u ||| 2 ^ r) / 2 ^ s % 2 = 0 ↔ u / 2 ^ s % 2 = 0 ∧ s ≠ r := by
  have h : ∀ a, a / 2 ^ s % 2 = 0 ↔ a.testBit s = false := fun a => by
    rw [Nat.testBit_eq_decide_div_mod_eq, decide_eq_false_iff_not]; omega
  rw [h, h, Nat.testBit_or, Nat.testBit_two_pow]
  by_cases e : r = s
  · simp [e]
  · have : s ≠ r := fun h => e h.symm
    simp [e, this]
theorem PreX.start (n : Nat) : PreX n 0 Z8 0 := by
  have hz : ∀ r, Z8.getD r 0 = 0 := fun r => by
    rw [List.getD_eq_getElem?_getD, List.getElem?_replicate]
    split <;> rfl
  exact ⟨isB_Z8, fun j h => absurd h (Nat.not_lt_zero _), fun j _ => hz j, fun j k h => absurd h (Nat.not_lt_zero _), fun r _ => ⟨fun _ ⟨_, h, _⟩ => absurd h (Nat.not_lt_zero _), fun _ => by rw [Nat.zero_div]⟩⟩
theorem PreX.step {n i r : Nat} {x : List Nat} {used : Nat} (h : PreX n i x used) (h8 : n ≤ 8) (hi : i < n) (hr : r < n) (fr : used / 2 ^ r % 2 = 0) : PreX n (i + 1) (x.set i r) (used ||| 2 ^ r) := by
  have lx := h.b.1
  have gx : ∀ j, (x.set i r).getD j 0 = if j = i then r else x.getD j 0 := fun j => set_getD (by omega)
  have hn := (h.bit r (by omega)).1 fr
  refine ⟨isB_set h.b (by omega), fun j hj => ?_, fun j hj => ?_, fun j k hj hk e => ?_, fun s hs => ?_⟩
  · rw [gx]
    by_cases e : j = i
    · rw [if_pos e]; exact hr
    · rw [if_neg e]; exact h.lt j (by omega)
  · rw [gx, if_neg (by omega)]; exact h.zer j (by omega)
  · rw [gx, gx] at e
    by_cases e1 : j = i
    · by_cases e2 : k = i
      · omega
      · rw [if_pos e1, if_neg e2] at e
        exact absurd ⟨k, by omega, e.symm⟩ hn
    · by_cases e2 : k = i
      · rw [if_neg e1, if_pos e2] at e
        exact absurd ⟨j, by omega, e⟩ hn
      · rw [if_neg e1, if_neg e2] at e
        exact h.inj j k (by omega) (by omega) e
  · rw [bit_or, h.bit s hs]
    constructor
    · rintro ⟨h1, h2⟩ ⟨j, hj, e⟩
      rw [gx] at e
      by_cases e1 : j = i
      · rw [if_pos e1] at e; exact h2 e.symm
      · rw [if_neg e1] at e; exact h1 ⟨j, by omega, e⟩
    · intro h1
      refine ⟨fun ⟨j, hj, e⟩ => h1 ⟨j, by omega, by rw [gx, if_neg (by omega)]; exact e⟩, fun e => h1 ⟨i, by omega, by rw [gx, if_pos rfl, e]⟩⟩
theorem stF_mem {n : Nat} (h8 : n ≤ 8) : ∀ (f i : Nat) (x : List Nat) (used : Nat), i + f = n → PreX n i x used → ∀ y, y ∈ stF n f x i used ↔ (isPerm y n ∧ y.length = 8) ∧ ∀ j, j < i → y.getD j 0 = x.getD j 0
  | 0, i, x, used, hi, hp, y => by
    obtain rfl : i = n := by omega
    rw [stF, List.mem_singleton]
    constructor
    · rintro rfl
      exact ⟨⟨⟨hp.lt, hp.inj, hp.zer⟩, hp.b.1⟩, fun _ _ => rfl⟩
    · rintro ⟨⟨h1, h2⟩, h3⟩
      exact list8_ext hp.b.1 h2 fun j hj => by
        by_cases hji : j < i
        · exact h3 j hji
        · rw [h1.2.2 j (by omega), hp.zer j (by omega)]
  | f + 1, i, x, used, hi, hp, y => by
    have lx := hp.b.1
    have gx : ∀ r j, (x.set i r).getD j 0 = if j = i then r else x.getD j 0 := fun r j => set_getD (by omega)
    rw [stF, List.mem_flatMap]
    constructor
    · rintro ⟨r, hr, hy⟩
      have hr := List.mem_range.1 hr
      by_cases hf : used / 2 ^ r % 2 = 0
      · rw [if_pos hf] at hy
        have := (stF_mem h8 f (i + 1) _ _ (by omega) (hp.step h8 (by omega) hr hf) y).1 hy
        refine ⟨this.1, fun j hj => ?_⟩
        have h2 := this.2 j (by omega)
        rwa [gx, if_neg (by omega)] at h2
      · rw [if_neg hf] at hy; cases hy
    · rintro ⟨⟨h1, h2⟩, h3⟩
      have hr := h1.1 i (by omega)
      have hf : used / 2 ^ (y.getD i 0) % 2 = 0 := (hp.bit _ (by omega)).2 fun ⟨j, hj, e⟩ => by
        have := h1.2.1 j i (by omega) (by omega) (by rw [h3 j hj]; exact e)
        omega
      refine ⟨y.getD i 0, List.mem_range.2 hr, ?_⟩
      rw [if_pos hf]
      refine (stF_mem h8 f (i + 1) _ _ (by omega) (hp.step h8 (by omega) hr hf) y).2 ⟨⟨h1, h2⟩, fun j hj => ?_⟩
      rw [gx]
      by_cases e : j = i
      · rw [if_pos e, e]
      · rw [if_neg e]; exact h3 j (by omega)
theorem flat_asc {α : Type} {rk : α → Int} {n : Nat} {F : Nat → List α} (h1 : ∀ r, r < n → Asc rk (F r)) (h2 : ∀ r s x y, r < s → s < n → x ∈ F r → y ∈ F s → rk x < rk y) : Asc rk ((List.range n).flatMap F) := by
  induction n with
  | zero => exact Asc.nil
  | succ n ih =>
    rw [List.range_succ, List.flatMap_append]
    refine List.pairwise_append.2 ⟨ih (fun r hr => h1 r (by omega)) (fun r s x y a b => h2 r s x y a (by omega)), ?_, fun x hx y hy => ?_⟩
    · have := h1 n (by omega)
      unfold Asc at this
      simpa using this
    · obtain ⟨r, hr, hx⟩ := List.mem_flatMap.1 hx
      have hr := List.mem_range.1 hr
      exact h2 r n x y hr (by omega) hx (by simpa using hy)
/-- The number by which states are in order. -/
def rkX (x : List Nat) : Int := (key x : Nat)
theorem isB.mem' {X : List Nat} (h : isB X) : ∀ x ∈ X, x < 256 := fun x hx => by
  obtain ⟨i, hi, rfl⟩ := List.getElem_of_mem hx
  have := h.2 i
  simpa [List.getD_eq_getElem?_getD, hi] using this
theorem rkX_first {x y : List Nat} {i : Nat} (bx : isB x) (by' : isB y) (hi : i < 8) (hpre : ∀ j, j < i → x.getD j 0 = y.getD j 0) (hlt : x.getD i 0 < y.getD i 0) : rkX x < rkX y := by
  have := key_first (bx.1.trans by'.1.symm) bx.mem' by'.mem' (by rw [bx.1]; exact hi) hpre hlt
  unfold rkX; omega
theorem stF_asc {n : Nat} (h8 : n ≤ 8) : ∀ (f i : Nat) (x : List Nat) (used : Nat), i + f = n → PreX n i x used → Asc rkX (stF n f x i used)
  | 0, i, x, used, hi, hp => by rw [stF]; exact List.pairwise_singleton _ _
  | f + 1, i, x, used, hi, hp => by
    have lx := hp.b.1
    have gx : ∀ r j, (x.set i r).getD j 0 = if j = i then r else x.getD j 0 := fun r j => set_getD (by omega)
    rw [stF]
    have info : ∀ r y, r < n → y ∈ (if used / 2 ^ r % 2 = 0 then stF n f (x.set i r) (i + 1) (used ||| 2 ^ r) else []) → isB y ∧ y.getD i 0 = r ∧ ∀ j, j < i → y.getD j 0 = x.getD j 0 := fun r y hr hy => by
      by_cases hf : used / 2 ^ r % 2 = 0
      · rw [if_pos hf] at hy
        have hs := hp.step h8 (by omega) hr hf
        have h1 := (stF_mem h8 f (i + 1) _ _ (by omega) hs y).1 hy
        refine ⟨stF_isB h8 f _ _ _ hs.b y hy, ?_, fun j hj => ?_⟩
        · rw [h1.2 i (by omega), gx, if_pos rfl]
        · rw [h1.2 j (by omega), gx, if_neg (by omega)]
      · rw [if_neg hf] at hy; cases hy
    refine flat_asc (fun r hr => ?_) fun r s y z hrs hs hy hz => ?_
    · by_cases hf : used / 2 ^ r % 2 = 0
      · rw [if_pos hf]; exact stF_asc h8 f (i + 1) _ _ (by omega) (hp.step h8 (by omega) hr hf)
      · rw [if_neg hf]; exact Asc.nil
    · have h1 := info r y (by omega) hy
      have h2 := info s z hs hz
      exact rkX_first (i := i) h1.1 h2.1 (by omega) (fun j hj => by rw [h1.2.2 j hj, h2.2.2 j hj]) (by rw [h1.2.1, h2.2.1]; exact hrs)
/-- All states of the size n. -/
def sts (n : Nat) : List (List Nat) := stF n n Z8 0 0
theorem sts_mem {n : Nat} (h8 : n ≤ 8) (y : List Nat) : y ∈ sts n ↔ isPerm y n ∧ y.length = 8 := by
  unfold sts
  rw [stF_mem h8 n 0 Z8 0 (by omega) (PreX.start n)]
  exact ⟨fun h => h.1, fun h => ⟨h, fun j hj => absurd hj (Nat.not_lt_zero _)⟩⟩
theorem sts_asc {n : Nat} (h8 : n ≤ 8) : Asc rkX (sts n) := stF_asc h8 n 0 Z8 0 (by omega) (PreX.start n)
theorem sts_isB {n : Nat} (h8 : n ≤ 8) : ∀ y ∈ sts n, isB y := stF_isB h8 n Z8 0 0 isB_Z8
end Go.Proofs.YtmbbcmebdefggaaGreatDoor
