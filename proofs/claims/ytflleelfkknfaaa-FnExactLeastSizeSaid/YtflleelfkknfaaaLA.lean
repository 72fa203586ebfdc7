/- Plain: rounds of neighbours. -/
import Derived.Test.YtflleelfkknfaaaMQ
namespace Go.Proofs.Ytflleelfkknfaaa
open Go Go.RowKit SL
open Classical in
/-- The neighbours of a grid, in order. -/
noncomputable def nbL (p : GridB) : List GridB := if h : ∃ l, Asc rkG l ∧ ∀ y, y ∈ l ↔ nbP p y then h.choose else []
theorem nbL_eq {p : GridB} {l : List GridB} (ha : Asc rkG l) (hm : ∀ y, y ∈ l ↔ nbP p y) : l = nbL p := by
  have h : ∃ l, Asc rkG l ∧ ∀ y, y ∈ l ↔ nbP p y := ⟨l, ha, hm⟩
  unfold nbL
  rw [dif_pos h]
  exact Asc.ext ha h.choose_spec.1 fun y => (hm y).trans (h.choose_spec.2 y).symm
theorem nbL_ok {p : GridB} {y : GridB} (h : y ∈ nbL p) : nbP p y := by
  unfold nbL at h
  split at h
  · rename_i h2
    exact (h2.choose_spec.2 y).1 h
  · cases h
abbrev RSt := List GridB × List GridB
open Classical in
/-- One more grid: what has been reached, and what is new. -/
noncomputable def addG (st : Option RSt) (h : GridB) : Option RSt := st.bind fun p => if h ∈ p.1 then some p else if p.1.length < 300 then some (p.1 ++ [h], p.2 ++ [h]) else none
noncomputable def fld (st : Option RSt) (l : List GridB) : Option RSt := l.foldl addG st
theorem fld_none : ∀ (l : List GridB), fld none l = none
  | [] => rfl
  | _ :: l => fld_none l
theorem fld_app (st : Option RSt) (l l' : List GridB) : fld st (l ++ l') = fld (fld st l) l' := List.foldl_append
theorem fld_snoc (st : Option RSt) (l : List GridB) (x : GridB) : fld st (l ++ [x]) = addG (fld st l) x := by rw [fld_app]; rfl
theorem addG_old {S F : List GridB} {x : GridB} (h : x ∈ S) : addG (some (S, F)) x = some (S, F) := by
  simp only [addG, Option.bind_some, if_pos h]
theorem addG_new {S F : List GridB} {x : GridB} (h : x ∉ S) (hl : S.length < 300) : addG (some (S, F)) x = some (S ++ [x], F ++ [x]) := by
  simp only [addG, Option.bind_some, if_neg h, if_pos hl]
theorem addG_full {S F : List GridB} {x : GridB} (h : x ∉ S) (hl : ¬ S.length < 300) : addG (some (S, F)) x = none := by
  simp only [addG, Option.bind_some, if_neg h, if_neg hl]
/-- A round. -/
noncomputable def rnd (p : RSt) : Option RSt := fld (some (p.1, [])) (p.2.flatMap nbL)
/-- What may stand as reached and new. -/
structure RI (p : RSt) : Prop where
  nd : p.1.Nodup
  le : p.1.length ≤ 300
  ok : ∀ y ∈ p.1, okB y
  sub : ∀ y ∈ p.2, y ∈ p.1
  fl : p.2.length ≤ p.1.length
theorem RI.add {S F : List GridB} {x : GridB} (h : RI (S, F)) (hx : x ∉ S) (hl : S.length < 300) (ho : okB x) : RI (S ++ [x], F ++ [x]) := by
  obtain ⟨h1, h2, h3, h4, h5⟩ := h
  dsimp only at h1 h2 h3 h4 h5
  refine ⟨List.nodup_append.2 ⟨h1, by simp, fun a ha b hb => by simp at hb; subst hb; exact fun e => hx (e ▸ ha)⟩, by simp; omega, fun y hy => ?_, fun y hy => ?_, by simp; omega⟩
  · rcases List.mem_append.1 hy with hy | hy
    · exact h3 y hy
    · rw [List.mem_singleton] at hy; subst hy; exact ho
  · rcases List.mem_append.1 hy with hy | hy
    · exact List.mem_append.2 (.inl (h4 y hy))
    · exact List.mem_append.2 (.inr hy)
theorem RI.clear {S F : List GridB} (h : RI (S, F)) : RI (S, []) := ⟨h.nd, h.le, h.ok, fun _ h => (by cases h), Nat.zero_le _⟩
/-- The first i grids have been gone through. -/
theorem flat_next {fr : List GridB} {i : Nat} {g : GridB} (h : fr[i]? = some g) : (fr.take (i + 1)).flatMap nbL = (fr.take i).flatMap nbL ++ nbL g := by
  rw [List.take_add_one, h, List.flatMap_append]
  simp
theorem nbP_ok {p y : GridB} (hp : okB p) (h : nbP p y) : okB y := by
  obtain ⟨_, v, u, hv, hu, m, hm, rfl⟩ := h
  exact (canB_spec (resB_spec (rolB_spec hp hv hu).1 hm).1).1
theorem fld_RI {p : RSt} {l : List GridB} : ∀ {st : RSt}, RI st → (∀ y ∈ l, okB y) → fld (some st) l = some p → RI p := by
  induction l with
  | nil => intro st h _ e; cases e; exact h
  | cons x l ih =>
    rintro ⟨S, F⟩ h ho e
    have ho' : ∀ y ∈ l, okB y := fun y hy => ho y (List.mem_cons_of_mem _ hy)
    have e1 : fld (some (S, F)) (x :: l) = fld (addG (some (S, F)) x) l := rfl
    rw [e1] at e
    by_cases hx : x ∈ S
    · rw [addG_old hx] at e
      exact ih h ho' e
    · by_cases hl : S.length < 300
      · rw [addG_new hx hl] at e
        exact ih (h.add hx hl (ho x List.mem_cons_self)) ho' e
      · rw [addG_full hx hl, fld_none] at e
        cases e
theorem rnd_RI {p q : RSt} (h : RI p) (e : rnd p = some q) : RI q := by
  obtain ⟨S, F⟩ := p
  refine fld_RI (h.clear) (fun y hy => ?_) e
  obtain ⟨g, hg, hy⟩ := List.mem_flatMap.1 hy
  exact nbP_ok (h.ok g (h.sub g hg)) (nbL_ok hy)
theorem met_split {fr : List GridB} {i j : Nat} {g x : GridB} (hg : fr[i]? = some g) (hx : (nbL g)[j]? = some x) : fr.flatMap nbL = ((fr.take i).flatMap nbL ++ (nbL g).take j) ++ [x] ++ ((nbL g).drop (j + 1) ++ (fr.drop (i + 1)).flatMap nbL) := by
  have e1 : fr = fr.take i ++ g :: fr.drop (i + 1) := by
    obtain ⟨h, e⟩ := List.getElem?_eq_some_iff.1 hg
    rw [← e, List.getElem_cons_drop h, List.take_append_drop]
  have e2 : nbL g = (nbL g).take j ++ x :: (nbL g).drop (j + 1) := by
    obtain ⟨h, e⟩ := List.getElem?_eq_some_iff.1 hx
    rw [← e, List.getElem_cons_drop h, List.take_append_drop]
  conv => lhs; rw [e1, List.flatMap_append, List.flatMap_cons, e2]
  simp only [List.append_assoc, List.cons_append, List.nil_append]
/-- The rounds, one after the other. -/
noncomputable def rnds (p : GridB) : Nat → Option RSt
  | 0 => some ([p], [p])
  | k + 1 => (rnds p k).bind rnd
theorem RI.one {p : GridB} (h : okB p) : RI ([p], [p]) := ⟨by simp, by simp, fun y hy => by rw [List.mem_singleton] at hy; subst hy; exact h, fun _ h => h, Nat.le_refl _⟩
theorem rnds_RI {p : GridB} (h : okB p) : ∀ {k : Nat} {q : RSt}, rnds p k = some q → RI q
  | 0, q, e => by cases e; exact RI.one h
  | k + 1, q, e => by
    unfold rnds at e
    cases e1 : rnds p k with
    | none => rw [e1] at e; cases e
    | some r => rw [e1] at e; exact rnd_RI (rnds_RI h e1) e
theorem rnds_stop {p : GridB} {k j : Nat} {S : List GridB} (h : rnds p k = some (S, [])) (hj : k ≤ j) : rnds p j = some (S, []) := by
  induction j with
  | zero => obtain rfl : k = 0 := by omega
            exact h
  | succ j ih =>
    by_cases e : k = j + 1
    · subst e; exact h
    · show (rnds p j).bind rnd = _
      rw [ih (by omega)]
      rfl
end Go.Proofs.Ytflleelfkknfaaa
