/- Plain: tables of counts by grades. Walks: the program's counts by grades. -/
import Derived.Test.YthijakignhjmgaaHR
import Derived.Test.YthijakignhjmgaaUE
import Derived.Sort.Statements
import Derived.Test.YthijakignhjmgaaRK
import Derived.Test.YthijakignhjmgaaST
namespace Go.Proofs.Ythijakignhjmgaa
open Go Go.RowKit SL
def ltGr (p q : GrB) : Prop := p.1 < q.1 ∨ p.1 = q.1 ∧ p.2 < q.2
theorem ltGr.irr (p : GrB) : ¬ ltGr p p := fun h => by unfold ltGr at h; omega
theorem ltGr.trans {p q r : GrB} (h : ltGr p q) (k : ltGr q r) : ltGr p r := by unfold ltGr at *; omega
theorem ltGr.tri {p q : GrB} (h : ¬ ltGr q p) : p = q ∨ ltGr p q := by
  unfold ltGr at *
  by_cases h1 : p.1 = q.1 ∧ p.2 = q.2
  · exact .inl (Prod.ext h1.1 h1.2)
  · right; omega
theorem pw_ext {α : Type} {r : α → α → Prop} (irr : ∀ x, ¬ r x x) (asymm : ∀ x y, r x y → ¬ r y x) : ∀ {A C : List α}, A.Pairwise r → C.Pairwise r → (∀ x, x ∈ A ↔ x ∈ C) → A = C
  | [], [], _, _, _ => rfl
  | [], y :: C, _, _, h => absurd ((h y).2 List.mem_cons_self) List.not_mem_nil
  | x :: A, [], _, _, h => absurd ((h x).1 List.mem_cons_self) List.not_mem_nil
  | x :: A, y :: C, hA, hC, h => by
    rw [List.pairwise_cons] at hA hC
    have hxy : x = y := by
      rcases List.mem_cons.1 ((h x).1 List.mem_cons_self) with e | e
      · exact e
      · rcases List.mem_cons.1 ((h y).2 List.mem_cons_self) with e' | e'
        · exact e'.symm
        · exact absurd (hC.1 x e) (asymm _ _ (hA.1 y e'))
    subst hxy
    have hx1 : x ∉ A := fun hm => irr x (hA.1 x hm)
    have hx2 : x ∉ C := fun hm => irr x (hC.1 x hm)
    rw [pw_ext irr asymm hA.2 hC.2 fun z => ?_]
    constructor
    · intro hz
      rcases List.mem_cons.1 ((h z).1 (List.mem_cons_of_mem _ hz)) with e | e
      · subst e; exact absurd hz hx1
      · exact e
    · intro hz
      rcases List.mem_cons.1 ((h z).2 (List.mem_cons_of_mem _ hz)) with e | e
      · subst e; exact absurd hz hx2
      · exact e
/-- How many states of a list have a grade. -/
def cntG (g : StB → GrB) (L : List StB) (k : GrB) : Nat := (L.filter fun x => decide (g x = k)).length
theorem cntG_snoc (g : StB → GrB) (L : List StB) (x : StB) (k : GrB) : cntG g (L ++ [x]) k = cntG g L k + if g x = k then 1 else 0 := by
  unfold cntG
  rw [filter_snoc, List.length_append]
  by_cases h : g x = k <;> simp [h]
theorem cntG_pos {g : StB → GrB} {L : List StB} {k : GrB} : 0 < cntG g L k ↔ ∃ x ∈ L, g x = k := by
  unfold cntG
  rw [List.length_pos_iff_exists_mem]
  constructor
  · rintro ⟨x, hx⟩
    rw [List.mem_filter, decide_eq_true_iff] at hx
    exact ⟨x, hx⟩
  · rintro ⟨x, hx, e⟩
    exact ⟨x, List.mem_filter.2 ⟨hx, decide_eq_true e⟩⟩
theorem cntG_le (g : StB → GrB) (L : List StB) (k : GrB) : cntG g L k ≤ L.length := List.length_filter_le _ _
/-- A table of counts. -/
def cntOK (g : StB → GrB) (L : List StB) (C : List (GrB × Nat)) : Prop := C.Pairwise (fun p q => ltGr p.1 q.1) ∧ ∀ k c, (k, c) ∈ C ↔ c = cntG g L k ∧ 0 < c
theorem cntOK.nil (g : StB → GrB) : cntOK g [] [] := ⟨.nil, fun k c => ⟨fun h => absurd h List.not_mem_nil, fun h => by
  have h1 := h.1
  have h2 := h.2
  unfold cntG at h1
  simp at h1
  omega⟩⟩
theorem cntOK.inc {g : StB → GrB} {L : List StB} {A D : List (GrB × Nat)} {k : GrB} {c : Nat} {x : StB} (h : cntOK g L (A ++ (k, c) :: D)) (hx : g x = k) : cntOK g (L ++ [x]) (A ++ (k, c + 1) :: D) := by
  obtain ⟨h1, h2⟩ := h
  rw [List.pairwise_append, List.pairwise_cons] at h1
  obtain ⟨p1, ⟨p2, p3⟩, p4⟩ := h1
  have hA : ∀ p ∈ A, p.1 ≠ k := fun p hp e => ltGr.irr k (by have := p4 p hp (k, c) List.mem_cons_self; rwa [e] at this)
  have hD : ∀ p ∈ D, p.1 ≠ k := fun p hp e => ltGr.irr k (by have := p2 p hp; rwa [e] at this)
  have hk := (h2 k c).1 (List.mem_append.2 (.inr List.mem_cons_self))
  refine ⟨?_, fun k' c' => ?_⟩
  · rw [List.pairwise_append, List.pairwise_cons]
    refine ⟨p1, ⟨p2, p3⟩, fun a ha b hb => ?_⟩
    rcases List.mem_cons.1 hb with rfl | hb
    · exact p4 a ha (k, c) List.mem_cons_self
    · exact p4 a ha b (List.mem_cons_of_mem _ hb)
  · rw [cntG_snoc]
    have hold := h2 k' c'
    rw [List.mem_append, List.mem_cons] at hold ⊢
    by_cases e : k' = k
    · subst e
      rw [if_pos hx, ← hk.1]
      constructor
      · rintro (hm | hm | hm)
        · exact absurd rfl (hA _ hm)
        · cases hm; exact ⟨rfl, by omega⟩
        · exact absurd rfl (hD _ hm)
      · rintro ⟨rfl, _⟩
        exact .inr (.inl rfl)
    · rw [if_neg fun h => e (h.symm.trans hx), Nat.add_zero]
      constructor
      · rintro (hm | hm | hm)
        · exact hold.1 (.inl hm)
        · cases hm; exact absurd rfl e
        · exact hold.1 (.inr (.inr hm))
      · intro hh
        rcases hold.2 hh with hm | hm | hm
        · exact .inl hm
        · cases hm; exact absurd rfl e
        · exact .inr (.inr hm)
theorem cntOK.ins {g : StB → GrB} {L : List StB} {A D : List (GrB × Nat)} {x : StB} (h : cntOK g L (A ++ D)) (hA : ∀ p ∈ A, ltGr p.1 (g x)) (hD : ∀ p ∈ D, ltGr (g x) p.1) : cntOK g (L ++ [x]) (A ++ (g x, 1) :: D) := by
  obtain ⟨h1, h2⟩ := h
  rw [List.pairwise_append] at h1
  obtain ⟨p1, p3, p4⟩ := h1
  have hno : ∀ p ∈ A ++ D, p.1 ≠ g x := fun p hp e => by
    rcases List.mem_append.1 hp with hp | hp
    · exact ltGr.irr _ (e ▸ hA p hp)
    · exact ltGr.irr _ (e ▸ hD p hp)
  have h0 : cntG g L (g x) = 0 := by
    rcases Nat.eq_zero_or_pos (cntG g L (g x)) with h | h
    · exact h
    · exact absurd rfl (hno _ ((h2 (g x) _).2 ⟨rfl, h⟩))
  refine ⟨?_, fun k' c' => ?_⟩
  · rw [List.pairwise_append, List.pairwise_cons]
    refine ⟨p1, ⟨fun b hb => hD b hb, p3⟩, fun a ha b hb => ?_⟩
    rcases List.mem_cons.1 hb with rfl | hb
    · exact hA a ha
    · exact p4 a ha b hb
  · rw [cntG_snoc]
    have hold := h2 k' c'
    rw [List.mem_append] at hold
    rw [List.mem_append, List.mem_cons]
    by_cases e : g x = k'
    · subst e
      rw [if_pos rfl, h0]
      constructor
      · rintro (hm | hm | hm)
        · exact absurd rfl (hno _ (List.mem_append.2 (.inl hm)))
        · cases hm; exact ⟨rfl, by omega⟩
        · exact absurd rfl (hno _ (List.mem_append.2 (.inr hm)))
      · rintro ⟨rfl, _⟩
        exact .inr (.inl rfl)
    · rw [if_neg e, Nat.add_zero]
      constructor
      · rintro (hm | hm | hm)
        · exact hold.1 (.inl hm)
        · cases hm; exact absurd rfl e
        · exact hold.1 (.inr hm)
      · intro hh
        rcases hold.2 hh with hm | hm
        · exact .inl hm
        · exact .inr (.inr hm)
/-- A line of the table. -/
def encC (p : GrB × Nat) : List Value := [.int .i64 p.1.1, .int .i64 p.1.2, .int .i64 (p.2 : Int)]
theorem encC_len (p : GrB × Nat) : (encC p).length = 3 := rfl
end Go.Proofs.Ythijakignhjmgaa
namespace Go.Proofs.Ythijakignhjmgaa
open Go Go.RowKit SL
theorem keys_le {g : StB → GrB} {L : List StB} {M : GM} (h : grOK g L M) : M.length ≤ L.length := by
  have h1 := List.Nodup.length_le_of_subset h.1 (l₂ := L.map g) fun k hk => by
    obtain ⟨e, he, rfl⟩ := List.mem_map.1 hk
    obtain ⟨h1, h2⟩ := h.2.1 e he
    obtain ⟨x, hx⟩ := List.exists_mem_of_ne_nil _ h2
    rw [h1, List.mem_filter, decide_eq_true_iff] at hx
    exact List.mem_map.2 ⟨x, hx.1, hx.2⟩
  rwa [List.length_map, List.length_map] at h1
theorem keys_pos {g : StB → GrB} {L : List StB} {M : GM} (h : grOK g L M) {x : StB} (hx : x ∈ L) : 0 < M.length := List.length_pos_iff.2 fun e => by
  have h3 := h.2.2 x hx
  rw [e] at h3
  exact absurd h3 List.not_mem_nil
theorem stB_ne {n : Nat} {X O : List Nat} (bX : isB X) (g : okG n X O) (h8 : n ≤ 8) : ∃ x, x ∈ stB n := by
  have h1 : X ∈ sts n := (sts_mem h8 X).2 ⟨by have := g.2.1; rwa [Int.toNat_natCast] at this, bX.1⟩
  rw [← stB_fst h8] at h1
  obtain ⟨x, hx, _⟩ := List.mem_map.1 h1
  exact ⟨x, hx⟩
end Go.Proofs.Ythijakignhjmgaa
