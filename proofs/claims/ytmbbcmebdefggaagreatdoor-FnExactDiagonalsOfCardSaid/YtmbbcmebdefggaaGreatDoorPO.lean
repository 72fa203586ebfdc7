/- Plain laws: lists in strict order by a number. -/

namespace Go.Proofs.YtmbbcmebdefggaaGreatDoor
section
variable {α : Type} (rk : α → Int)
/-- In strict order. -/
def Asc (l : List α) : Prop := l.Pairwise fun x y => rk x < rk y
variable {rk}
theorem Asc.nil : Asc rk ([] : List α) := List.Pairwise.nil
/-- Two lists in strict order with the same members are one. -/
theorem Asc.ext : ∀ {l m : List α}, Asc rk l → Asc rk m → (∀ x, x ∈ l ↔ x ∈ m) → l = m
  | [], [], _, _, _ => rfl
  | [], y :: m, _, _, h => by have := (h y).2 (List.mem_cons_self); cases this
  | x :: l, [], _, _, h => by have := (h x).1 (List.mem_cons_self); cases this
  | x :: l, y :: m, hl, hm, h => by
    obtain ⟨hx, hl'⟩ := List.pairwise_cons.1 hl
    obtain ⟨hy, hm'⟩ := List.pairwise_cons.1 hm
    have exy : x = y := by
      rcases List.mem_cons.1 ((h x).1 List.mem_cons_self) with e | e
      · exact e
      · rcases List.mem_cons.1 ((h y).2 List.mem_cons_self) with e' | e'
        · exact e'.symm
        · have h1 := hy x e
          have h2 := hx y e'
          omega
    subst exy
    have e := Asc.ext (l := l) (m := m) hl' hm' fun z => by
      constructor
      · intro hz
        rcases List.mem_cons.1 ((h z).1 (List.mem_cons_of_mem _ hz)) with e | e
        · subst e; have := hx _ hz; omega
        · exact e
      · intro hz
        rcases List.mem_cons.1 ((h z).2 (List.mem_cons_of_mem _ hz)) with e | e
        · subst e; have := hy _ hz; omega
        · exact e
    rw [e]
theorem Asc.get {l : List α} (h : Asc rk l) {i j : Nat} {x y : α} (hi : l[i]? = some x) (hj : l[j]? = some y) (hij : i < j) : rk x < rk y := by
  obtain ⟨h1, h2⟩ := List.getElem?_eq_some_iff.1 hi
  obtain ⟨h3, h4⟩ := List.getElem?_eq_some_iff.1 hj
  have := List.pairwise_iff_getElem.1 h i j h1 h3 hij
  rwa [h2, h4] at this
theorem Asc.nodup {l : List α} (h : Asc rk l) : l.Nodup := List.Pairwise.imp (fun {a b} hab e => by subst e; omega) h
theorem Asc.insert {l : List α} (h : Asc rk l) {i : Nat} {x : α} (hlo : ∀ y ∈ l.take i, rk y < rk x) (hhi : ∀ y ∈ l.drop i, rk x < rk y) : Asc rk (l.take i ++ x :: l.drop i) := by
  refine List.pairwise_append.2 ⟨List.Pairwise.sublist (List.take_sublist _ _) h, List.pairwise_cons.2 ⟨hhi, List.Pairwise.sublist (List.drop_sublist _ _) h⟩, fun a ha b hb => ?_⟩
  rcases List.mem_cons.1 hb with rfl | hb
  · exact hlo a ha
  · have h1 := hlo a ha
    have h2 := hhi b hb
    omega
theorem mem_insert {l : List α} {i : Nat} {x y : α} : y ∈ l.take i ++ x :: l.drop i ↔ y = x ∨ y ∈ l := by
  have e : y ∈ l ↔ y ∈ l.take i ∨ y ∈ l.drop i := by
    rw [← List.mem_append, List.take_append_drop]
  rw [List.mem_append, List.mem_cons, e]
  constructor
  · rintro (h | h | h) <;> simp [h]
  · rintro (h | h | h) <;> simp [h]
theorem len_insert {l : List α} {i : Nat} {x : α} : (l.take i ++ x :: l.drop i).length = l.length + 1 := by
  have : l.length = (l.take i).length + (l.drop i).length := by rw [← List.length_append, List.take_append_drop]
  rw [List.length_append, List.length_cons, this]; omega
/-- What a search's bounds say: all below i are less, none from i on. -/
theorem Asc.bounds {l : List α} (h : Asc rk l) {i : Nat} {r : Int} (hlo : ∀ j x, j < i → l[j]? = some x → rk x < r) (hhi : ∀ x, l[i]? = some x → r ≤ rk x) :
    (∀ y ∈ l.take i, rk y < r) ∧ ∀ j y, i ≤ j → l[j]? = some y → r ≤ rk y := by
  refine ⟨fun y hy => ?_, fun j y hij hj => ?_⟩
  · obtain ⟨j, hj, rfl⟩ := List.getElem_of_mem hy
    rw [List.length_take] at hj
    refine hlo j _ (by omega) ?_
    rw [List.getElem_take, List.getElem?_eq_getElem]
  · have hlt := (List.getElem?_eq_some_iff.1 hj).1
    have hi : l[i]? = some (l[i]'(by omega)) := List.getElem?_eq_getElem _
    have h1 := hhi _ hi
    rcases Nat.lt_or_eq_of_le hij with h2 | h2
    · have := h.get hi hj h2
      omega
    · subst h2
      rw [hi] at hj
      cases hj
      exact h1
/-- A new one, at its place. -/
theorem Asc.insert_at {l : List α} (h : Asc rk l) {i : Nat} {x : α} (hlo : ∀ j y, j < i → l[j]? = some y → rk y < rk x) (hhi : ∀ y, l[i]? = some y → rk x < rk y) : Asc rk (l.take i ++ x :: l.drop i) := by
  have hb := h.bounds hlo (fun y hy => Int.le_of_lt (hhi y hy))
  refine h.insert hb.1 fun y hy => ?_
  obtain ⟨j, hj, rfl⟩ := List.getElem_of_mem hy
  rw [List.length_drop] at hj
  rw [List.getElem_drop]
  have hi : l[i]? = some (l[i]'(by omega)) := List.getElem?_eq_getElem _
  have h1 := hhi _ hi
  rcases Nat.eq_zero_or_pos j with rfl | hp
  · exact h1
  · have := h.get hi (j := i + j) (List.getElem?_eq_getElem (by omega)) (by omega)
    omega
/-- A list, sorted, whose members are told apart by their numbers. -/
theorem asc_of_sorted {l : List α} (hs : l.Pairwise fun x y => rk x ≤ rk y) (hn : l.Nodup) (hinj : ∀ x ∈ l, ∀ y ∈ l, rk x = rk y → x = y) : Asc rk l := by
  induction l with
  | nil => exact Asc.nil
  | cons a l ih =>
    obtain ⟨h1, h2⟩ := List.pairwise_cons.1 hs
    obtain ⟨h3, h4⟩ := List.nodup_cons.1 hn
    refine List.pairwise_cons.2 ⟨fun b hb => ?_, ih h2 h4 fun x hx y hy => hinj x (List.mem_cons_of_mem _ hx) y (List.mem_cons_of_mem _ hy)⟩
    have h5 := h1 b hb
    rcases Int.lt_or_eq_of_le h5 with h6 | h6
    · exact h6
    · have := hinj a List.mem_cons_self b (List.mem_cons_of_mem _ hb) h6
      subst this
      exact absurd hb h3
end
end Go.Proofs.YtmbbcmebdefggaaGreatDoor
