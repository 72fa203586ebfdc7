/- Plain: dividing tables of a knot. -/
import Derived.Test.YtmbbcmebdefggaaGreatDoorEN
import Derived.Test.YtmbbcmebdefggaaGreatDoorVN
namespace Go.Proofs.YtmbbcmebdefggaaGreatDoor
theorem vT_out {T : TB} {g : GrB} (h : g ∉ T.map (·.1)) : vT T g = 0 := by
  unfold vT
  cases hl : lkM T g with
  | none => rfl
  | some v => exact absurd ((lkM_isSome T g).1 (by rw [hl]; rfl)) h
theorem vT_in {T : TB} (hn : (T.map (·.1)).Nodup) (hz : ∀ e ∈ T, e.2 ≠ 0) {g : GrB} : vT T g ≠ 0 ↔ g ∈ T.map (·.1) := by
  constructor
  · intro h
    exact Classical.byContradiction fun k => h (vT_out k)
  · intro h
    obtain ⟨e, he, rfl⟩ := List.mem_map.1 h
    rw [vT_mem hn he]
    exact hz e he
/-! The numbers of a knot. -/
section
variable {n : Nat} {X O : List Nat}
end
end Go.Proofs.YtmbbcmebdefggaaGreatDoor
namespace Go.Proofs.YtmbbcmebdefggaaGreatDoor
/-! The homology of a knot is not 0. -/
end Go.Proofs.YtmbbcmebdefggaaGreatDoor
