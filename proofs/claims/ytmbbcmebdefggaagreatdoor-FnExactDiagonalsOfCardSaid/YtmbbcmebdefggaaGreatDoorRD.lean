/- Rows of the laws that read the table of math/bits: what the laid table gives. -/
import Derived.Test.YtmbbcmebdefggaaGreatDoorR
import Derived.Test.YtmbbcmebdefggaaGreatDoorED
import Derived.LaidMore
import Derived.OpenShut
import Derived.Stop.Joined
namespace Go.Proofs.YtmbbcmebdefggaaGreatDoor
open Go Go.RowKit Go.ChangeShapes Go.WideShapes Go.ChangeAt Go.WideElems SL
abbrev laidT : List (String × DataW Unit) := [("math/bits.deBruijn64tab", Rows.laid_math_bits_deBruijn64tab)]
theorem gTab : Tryz.prog.globalNamed "math/bits.deBruijn64tab" = some 0 := by kernel_rfl
theorem tTab : (Tryz.prog.globals[0]?).map (·.type) = some 213 := by kernel_rfl
theorem tab_data : (Rows.laid_math_bits_deBruijn64tab : DataW Unit) = .agg (Lib.deBruijn64tab.map fun (k : Nat) => .lit (.int .u8 (k : Int))) := rfl
theorem door_met (os : Os) (args : Array Value) : laidMetH Tryz.prog laidT ((World.doorLaid Tryz.prog 400 os).forCall (fun _ _ => 0) ⟨#[], args, []⟩).memory :=
  laidMetH_of_parts3 (fuel := 8) (laidMet_of_run' 8 (by kernel_rfl) (by kernel_rfl)) (by kernel_rfl) (by kernel_rfl)
theorem tab_cells {W : World} (h : laidMetH Tryz.prog laidT W) : ∀ i v, (u8s Lib.deBruijn64tab)[i]? = some v → W.cell? ⟨0, 0 + i, none⟩ = some v := by
  rw [MakeChecks.laidMetH_plain _ _ _ (by kernel_rfl)] at h
  obtain ⟨ps, ⟨g0, t0, cs0, f0, p0, q0, hg0, ht0, hv0, hd0, _, _⟩, _, _⟩ := h
  obtain rfl := Option.some.inj (gTab.symm.trans hg0)
  obtain rfl := Option.some.inj (tTab.symm.trans ht0)
  obtain ⟨xs, m1, rfl, hx1, hlen, hn3, hel⟩ := DataW.trod_array Tryz.underlying213 hd0
  intro i v hv
  have hl : Lib.deBruijn64tab.length = 64 := by decide
  have hi : i < 64 := by
    have := (List.getElem?_eq_some_iff.1 hv).1
    rwa [u8s_len, hl] at this
  have h0 := hel i hi
  have c1 : Tryz.prog.cellsOf 5 = 1 := by kernel_rfl
  have hxi : xs[i]? = some (xs[i]'(by omega)) := List.getElem?_eq_getElem _
  rw [c1, Nat.mul_one, hxi] at h0
  obtain ⟨k, e1, e2, _⟩ := DataW.trod_int Tryz.underlying5 h0
  rw [tab_data] at hx1
  simp only [Prod.mk.injEq, DataW.agg.injEq] at hx1
  have e3 := congrArg (·[i]?) hx1.1
  simp only [List.getElem?_map, hxi, Option.map_some, e2] at e3
  have e4 : (u8s Lib.deBruijn64tab)[i]? = some (.int .u8 k) := by
    unfold u8s
    rw [List.getElem?_map]
    cases ht : Lib.deBruijn64tab[i]? with
    | none => rw [ht] at e3; cases e3
    | some j =>
      rw [ht] at e3
      simp only [Option.map_some, Option.some.injEq, DataW.lit.injEq, Lit.int.injEq, true_and] at e3
      rw [← e3]; rfl
  rw [hv] at e4
  cases e4
  rw [Nat.zero_add, World.var?_cell gTab hv0 i]
  have e5 := congrArg (·[0]?) e1
  simp only [List.getElem?_take, List.getElem?_drop] at e5
  simpa using e5
theorem tab_holds {W : World} (h : laidMetH Tryz.prog laidT W) : Holds W.heap.size W [tabI] W := by
  have hc := tab_cells h
  refine Holds.start_rd ?_ hc
  have h0 := hc 0 (.int .u8 0) rfl
  apply Nat.lt_of_not_le
  intro hle
  unfold World.cell? at h0
  rw [Array.getElem?_eq_none hle] at h0
  cases h0
theorem true_endT {f : FuncId} {args : Array Value} {W : World} {R : Value → World → Prop} (hL : laidMetH Tryz.prog laidT W) (h : GivesE Tryz.prog f args W.heap.size W [tabI] (fun v' _ => v' = .bool true)) (k : ∀ W', Below W.heap.size W W' → R (.bool true) W') : Calls Tryz.prog f args W fun e W' => ∃ v, e = .returned v ∧ R v W' := by
  unfold GivesE at h
  refine (h W (tab_holds hL)).mono fun e W' => ?_
  rintro ⟨v, H', rfl, rfl, hH⟩
  exact ⟨_, rfl, k W' hH.below.lo⟩
end Go.Proofs.YtmbbcmebdefggaaGreatDoor
