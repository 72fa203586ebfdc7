/- Plain laws: sums of states: lists in order, what is in just one of two. -/
import Derived.Test.YtmbbcmebdefggaaDoorFL
import Derived.Test.YtmbbcmebdefggaaDoorPO
import Derived.Test.YtmbbcmebdefggaaDoorPC
namespace Go.Proofs.YtmbbcmebdefggaaDoor
/-- In order, as neighbours tell. -/
theorem asc_adj {α : Type} {rk : α → Int} {l : List α} (h : ∀ i x y, l[i]? = some x → l[i + 1]? = some y → rk x < rk y) : Asc rk l := by
  refine List.pairwise_iff_getElem.2 fun i j hi hj hij => ?_
  have key : ∀ d i (hi : i + d + 1 < l.length), rk (l[i]'(by omega)) < rk (l[i + d + 1]'hi) := by
    intro d
    induction d with
    | zero => exact fun i hi => h i _ _ (List.getElem?_eq_getElem _) (List.getElem?_eq_getElem _)
    | succ d ih =>
      intro i hi
      have h1 := ih i (by omega)
      have h2 := h (i + d + 1) _ _ (List.getElem?_eq_getElem (by omega)) (List.getElem?_eq_getElem (by omega))
      exact Int.lt_trans h1 h2
  have := key (j - i - 1) i (by omega)
  simp only [show i + (j - i - 1) + 1 = j by omega] at this
  exact this
section
variable {α : Type} (rk : α → Int)
/-- What is in just one of two lists in order. -/
def sd : List α → List α → List α
  | [], b => b
  | x :: a, [] => x :: a
  | x :: a, y :: b => if rk x < rk y then x :: sd a (y :: b) else if rk y < rk x then y :: sd (x :: a) b else sd a b
  termination_by a b => a.length + b.length
variable {rk}
theorem sd_nil (b : List α) : sd rk [] b = b := by rw [sd]
theorem sd_right : ∀ a : List α, sd rk a [] = a
  | [] => by rw [sd]
  | x :: a => by rw [sd]
theorem sd_lt {x y : α} {a b : List α} (h : rk x < rk y) : sd rk (x :: a) (y :: b) = x :: sd rk a (y :: b) := by rw [sd, if_pos h]
theorem sd_gt {x y : α} {a b : List α} (h : rk y < rk x) : sd rk (x :: a) (y :: b) = y :: sd rk (x :: a) b := by rw [sd, if_neg (by omega), if_pos h]
theorem sd_eq {x y : α} {a b : List α} (h1 : ¬ rk x < rk y) (h2 : ¬ rk y < rk x) : sd rk (x :: a) (y :: b) = sd rk a b := by rw [sd, if_neg h1, if_neg h2]
theorem sd_sub : ∀ (a b : List α) (x : α), x ∈ sd rk a b → x ∈ a ∨ x ∈ b
  | [], b, x, h => by rw [sd_nil] at h; exact .inr h
  | y :: a, [], x, h => by rw [sd_right] at h; exact .inl h
  | y :: a, z :: b, x, h => by
    by_cases h1 : rk y < rk z
    · rw [sd_lt h1] at h
      rcases List.mem_cons.1 h with e | h
      · exact .inl (by rw [e]; exact List.mem_cons_self)
      · rcases sd_sub a (z :: b) x h with h | h
        · exact .inl (List.mem_cons_of_mem _ h)
        · exact .inr h
    · by_cases h2 : rk z < rk y
      · rw [sd_gt h2] at h
        rcases List.mem_cons.1 h with e | h
        · exact .inr (by rw [e]; exact List.mem_cons_self)
        · rcases sd_sub (y :: a) b x h with h | h
          · exact .inl h
          · exact .inr (List.mem_cons_of_mem _ h)
      · rw [sd_eq h1 h2] at h
        rcases sd_sub a b x h with h | h
        · exact .inl (List.mem_cons_of_mem _ h)
        · exact .inr (List.mem_cons_of_mem _ h)
  termination_by a b => a.length + b.length
theorem sd_len : ∀ (a b : List α), (sd rk a b).length ≤ a.length + b.length
  | [], b => by rw [sd_nil]; simp
  | y :: a, [] => by rw [sd_right]; simp
  | y :: a, z :: b => by
    by_cases h1 : rk y < rk z
    · rw [sd_lt h1]
      have := sd_len a (z :: b)
      simp only [List.length_cons] at *
      omega
    · by_cases h2 : rk z < rk y
      · rw [sd_gt h2]
        have := sd_len (y :: a) b
        simp only [List.length_cons] at *
        omega
      · rw [sd_eq h1 h2]
        have := sd_len a b
        simp only [List.length_cons] at *
        omega
  termination_by a b => a.length + b.length
theorem sd_asc : ∀ (a b : List α), Asc rk a → Asc rk b → Asc rk (sd rk a b)
  | [], b, _, hb => by rw [sd_nil]; exact hb
  | y :: a, [], ha, _ => by rw [sd_right]; exact ha
  | y :: a, z :: b, ha, hb => by
    obtain ⟨ha1, ha2⟩ := List.pairwise_cons.1 ha
    obtain ⟨hb1, hb2⟩ := List.pairwise_cons.1 hb
    by_cases h1 : rk y < rk z
    · rw [sd_lt h1]
      refine List.pairwise_cons.2 ⟨fun x hx => ?_, sd_asc a (z :: b) ha2 hb⟩
      rcases sd_sub _ _ _ hx with h | h
      · exact ha1 x h
      · rcases List.mem_cons.1 h with e | h
        · rw [e]; exact h1
        · exact Int.lt_trans h1 (hb1 x h)
    · by_cases h2 : rk z < rk y
      · rw [sd_gt h2]
        refine List.pairwise_cons.2 ⟨fun x hx => ?_, sd_asc (y :: a) b ha hb2⟩
        rcases sd_sub _ _ _ hx with h | h
        · rcases List.mem_cons.1 h with e | h
          · rw [e]; exact h2
          · exact Int.lt_trans h2 (ha1 x h)
        · exact hb1 x h
      · rw [sd_eq h1 h2]; exact sd_asc a b ha2 hb2
  termination_by a b => a.length + b.length
theorem asc_head {y : α} {a : List α} (h : Asc rk (y :: a)) {x : α} (hx : x ∈ a) : rk y < rk x := (List.pairwise_cons.1 h).1 x hx
theorem sd_mem (hinj : ∀ x y, rk x = rk y → x = y) : ∀ (a b : List α), Asc rk a → Asc rk b → ∀ x, x ∈ sd rk a b ↔ ¬ (x ∈ a ↔ x ∈ b)
  | [], b, _, _, x => by rw [sd_nil]; simp
  | y :: a, [], _, _, x => by
    rw [sd_right]
    by_cases h : x ∈ y :: a
    · simp only [h, List.not_mem_nil, iff_false, not_true_eq_false, not_false_eq_true]
    · simp only [h, List.not_mem_nil, iff_false, not_false_eq_true, not_true_eq_false]
  | y :: a, z :: b, ha, hb, x => by
    have ha2 := (List.pairwise_cons.1 ha).2
    have hb2 := (List.pairwise_cons.1 hb).2
    have nya : y ∉ a := fun h => by have := asc_head ha h; omega
    have nzb : z ∉ b := fun h => by have := asc_head hb h; omega
    by_cases h1 : rk y < rk z
    · rw [sd_lt h1, List.mem_cons, sd_mem hinj a (z :: b) ha2 hb x, List.mem_cons]
      have nyb : y ∉ z :: b := fun h => by
        rcases List.mem_cons.1 h with e | h
        · subst e; omega
        · have := asc_head hb h; omega
      by_cases e : x = y
      · subst e
        have h5 : ¬ (x = z ∨ x ∈ b) := fun h => nyb (List.mem_cons.2 h)
        constructor
        · exact fun _ h => h5 (h.1 List.mem_cons_self)
        · exact fun _ => .inl rfl
      · simp [e]
    · by_cases h2 : rk z < rk y
      · rw [sd_gt h2, List.mem_cons, sd_mem hinj (y :: a) b ha hb2 x, List.mem_cons (a := x) (b := z)]
        have nza : z ∉ y :: a := fun h => by
          rcases List.mem_cons.1 h with e | h
          · subst e; omega
          · have := asc_head ha h; omega
        by_cases e : x = z
        · subst e; simp [nzb, nza]
        · simp [e]
      · rw [sd_eq h1 h2, sd_mem hinj a b ha2 hb2 x]
        have e := hinj y z (by omega)
        subst e
        by_cases e : x = y
        · subst e; simp [nya, nzb]
        · simp [e]
  termination_by a b => a.length + b.length
end
/-- The number by which states are in order. -/
def rkT (x : StB) : Int := (key x.1 : Nat)
theorem rkT_inj (p q : StB) (h : rkT p = rkT q) : p = q := by
  obtain ⟨x, bx⟩ := p
  obtain ⟨y, by'⟩ := q
  unfold rkT at h
  dsimp only at h
  have mem : ∀ {X : List Nat}, isB X → ∀ x ∈ X, x < 256 := fun {X} hX x hx => by
    obtain ⟨i, hi, rfl⟩ := List.getElem_of_mem hx
    have := hX.2 i
    simpa [List.getD_eq_getElem?_getD, hi] using this
  have e : x = y := key_inj (bx.1.trans by'.1.symm) (mem bx) (mem by') (by omega)
  subst e; rfl
/-- A sum of states of a grid. -/
def sumOK (n : Int) (X O : List Nat) (l : List StB) : Prop := okG n X O ∧ (∀ x ∈ l, isPerm x.1 n.toNat) ∧ Asc rkT l
end Go.Proofs.YtmbbcmebdefggaaDoor
