/- Walks: the program's matrix of a grade. Walks: the program's GradeMatrix. Walks: the law on GradeMatrix. -/
import Derived.Test.YtmbbcmebdefggaaGreatDoorHO
import Derived.Test.YtmbbcmebdefggaaGreatDoorHH
import Derived.Test.YtmbbcmebdefggaaGreatDoorTK
namespace Go.Proofs.YtmbbcmebdefggaaGreatDoor
open Go Go.RowKit SL
end Go.Proofs.YtmbbcmebdefggaaGreatDoor
namespace Go.Proofs.YtmbbcmebdefggaaGreatDoor
open Go Go.RowKit SL
end Go.Proofs.YtmbbcmebdefggaaGreatDoor
namespace Go.Proofs.YtmbbcmebdefggaaGreatDoor
open Go Go.RowKit SL
theorem tot_bound {K : Nat} : ∀ {L : List (Value × List Value)}, (∀ p ∈ L, p.2.length ≤ K) → tot L ≤ L.length * K
  | [], _ => by simp [tot]
  | p :: L, h => by
    have h1 := h p List.mem_cons_self
    have h2 := tot_bound (L := L) fun q hq => h q (List.mem_cons_of_mem _ hq)
    rw [List.length_cons, Nat.add_one_mul]
    simp only [tot, List.map_cons, List.sum_cons] at h2 ⊢
    omega
theorem rows_fact {L : List (Value × List Value)} {M : List (List Value)} (h : L.map (·.2) = M) (hl : M.length ≤ 46656) (hM : ∀ r ∈ M, isNums r ∧ r.length ≤ 46656) : (∀ p ∈ L, isNums p.2 ∧ p.2.length < 1000000) ∧ L.length < 1000000 ∧ tot L ≤ 2176782336 := by
  subst h
  rw [List.length_map] at hl
  have hp : ∀ p ∈ L, isNums p.2 ∧ p.2.length ≤ 46656 := fun p hp => hM _ (List.mem_map.2 ⟨p, hp, rfl⟩)
  refine ⟨fun p h => ⟨(hp p h).1, by have := (hp p h).2; omega⟩, by omega, ?_⟩
  have h1 := tot_bound fun p h => (hp p h).2
  have h2 : L.length * 46656 ≤ 46656 * 46656 := Nat.mul_le_mul_right _ hl
  omega
theorem rows_lens {L : List (Value × List Value)} (h : ∀ p ∈ L, isNums p.2 ∧ p.2.length < 1000000) : ∀ p ∈ L, p.2.length < 1000000 := fun p hp => (h p hp).2
end Go.Proofs.YtmbbcmebdefggaaGreatDoor
