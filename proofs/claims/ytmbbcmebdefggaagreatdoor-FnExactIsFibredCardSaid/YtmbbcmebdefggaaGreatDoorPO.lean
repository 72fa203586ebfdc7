/- Plain laws: lists in strict order by a number. -/

namespace Go.Proofs.YtmbbcmebdefggaaGreatDoor
section
variable {α : Type} (rk : α → Int)
/-- In strict order. -/
def Asc (l : List α) : Prop := l.Pairwise fun x y => rk x < rk y
variable {rk}
theorem Asc.nil : Asc rk ([] : List α) := List.Pairwise.nil
/-- Two lists in strict order with the same members are one. -/
theorem Asc.ext : ∀ {l m : List α}, Asc rk l → Asc rk m → (∀ x, x ∈ l ↔ x ∈ m) → l = m
  | [], [], _, _, _ => rfl
  | [], y :: m, _, _, h => by have := (h y).2 (List.mem_cons_self); cases this
  | x :: l, [], _, _, h => by have := (h x).1 (List.mem_cons_self); cases this
  | x :: l, y :: m, hl, hm, h => by
    obtain ⟨hx, hl'⟩ := List.pairwise_cons.1 hl
    obtain ⟨hy, hm'⟩ := List.pairwise_cons.1 hm
    have exy : x = y := by
      rcases List.mem_cons.1 ((h x).1 List.mem_cons_self) with e | e
      · exact e
      · rcases List.mem_cons.1 ((h y).2 List.mem_cons_self) with e' | e'
        · exact e'.symm
        · have h1 := hy x e
          have h2 := hx y e'
          omega
    subst exy
    have e := Asc.ext (l := l) (m := m) hl' hm' fun z => by
      constructor
      · intro hz
        rcases List.mem_cons.1 ((h z).1 (List.mem_cons_of_mem _ hz)) with e | e
        · subst e; have := hx _ hz; omega
        · exact e
      · intro hz
        rcases List.mem_cons.1 ((h z).2 (List.mem_cons_of_mem _ hz)) with e | e
        · subst e; have := hy _ hz; omega
        · exact e
    rw [e]
theorem Asc.get {l : List α} (h : Asc rk l) {i j : Nat} {x y : α} (hi : l[i]? = some x) (hj : l[j]? = some y) (hij : i < j) : rk x < rk y := by
  obtain ⟨h1, h2⟩ := List.getElem?_eq_some_iff.1 hi
  obtain ⟨h3, h4⟩ := List.getElem?_eq_some_iff.1 hj
  have := List.pairwise_iff_getElem.1 h i j h1 h3 hij
  rwa [h2, h4] at this
theorem Asc.nodup {l : List α} (h : Asc rk l) : l.Nodup := List.Pairwise.imp (fun {a b} hab e => by subst e; omega) h
/-- A list, sorted, whose members are told apart by their numbers. -/
theorem asc_of_sorted {l : List α} (hs : l.Pairwise fun x y => rk x ≤ rk y) (hn : l.Nodup) (hinj : ∀ x ∈ l, ∀ y ∈ l, rk x = rk y → x = y) : Asc rk l := by
  induction l with
  | nil => exact Asc.nil
  | cons a l ih =>
    obtain ⟨h1, h2⟩ := List.pairwise_cons.1 hs
    obtain ⟨h3, h4⟩ := List.nodup_cons.1 hn
    refine List.pairwise_cons.2 ⟨fun b hb => ?_, ih h2 h4 fun x hx y hy => hinj x (List.mem_cons_of_mem _ hx) y (List.mem_cons_of_mem _ hy)⟩
    have h5 := h1 b hb
    rcases Int.lt_or_eq_of_le h5 with h6 | h6
    · exact h6
    · have := hinj a List.mem_cons_self b (List.mem_cons_of_mem _ hb) h6
      subst this
      exact absurd hb h3
end
end Go.Proofs.YtmbbcmebdefggaaGreatDoor
