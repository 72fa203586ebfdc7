/- FnExactDistanceTo returns true at every two grids, with no condition: the two distances agree. -/
import Derived.Test.YtflleelfkknfaaaR
import Derived.Test.YtflleelfkknfaaaLF
namespace Go.Proofs.Ytflleelfkknfaaa
open Go Go.RowKit Go.ChangeShapes Go.WideShapes Go.ChangeAt SL
set_option maxRecDepth 100000 in
theorem distanceTo_holds_lifted (os : Os) (started : os.Started) (H : Type) (enc : TypeId × Value → H) :
    ReturnsInHanded {} Try.checked os 3 .any (Rows.fnExactDistanceToSpec.pre6 enc Try.prog Try.f3 Rows.fnExactDistanceToRow.domain false) (Rows.fnExactDistanceToSpec.post enc Try.prog Try.f3 false true false false) := by
  refine returnsInHanded_of_change (C := Try.checked) own' started (by kernel_rfl) Try.func3
    (ChangeSpec.witness6 (enc := enc) (C := Try.checked) false ⟨#[], #[.agg (gv 0 Z8 Z8).toArray, .agg (gv 0 Z8 Z8).toArray], []⟩ 8 (by kernel_rfl) (by kernel_rfl) (by kernel_rfl) (by kernel_rfl)) ?_
  intro W base args ds gs before hval0 hW _ _
  have hval : ∀ (j : Nat) t v, Try.f3.params[j]? = some t → args[j]? = some v → Value.okWide Try.prog W .any base t v := hval0
  have hW' : DataW.Whole enc Try.prog Try.f3.params.toList Rows.fnExactDistanceToSpec.vars false W args.toList ds gs before := hW
  obtain ⟨rfl, hA⟩ := whole_args rfl hW'
  rw [Try.params3] at hA hval
  obtain ⟨v0, v1, d0, d1, p0, p1, rfl, rfl, _, _, _⟩ := trodAll_two hA
  obtain ⟨n0, X0, O0, rfl, bX0, bO0, bn0⟩ := open_grid (t := 24) (by kernel_rfl) (by kernel_rfl) (by kernel_rfl) (hval 0 _ _ rfl rfl)
  obtain ⟨n1, X1, O1, rfl, bX1, bO1, bn1⟩ := open_grid (t := 24) (by kernel_rfl) (by kernel_rfl) (by kernel_rfl) (hval 1 _ _ rfl rfl)
  exact true_end (lawDT_gives n0 n1 X0 O0 X1 O1 bX0 bO0 bX1 bO1 W) fun W' hB => post_true laidOut' (by kernel_rfl) rfl (t := 4) (by kernel_rfl) rfl hW' rfl hB
theorem distanceTo_holds : Rows.FnExactDistanceToSaid :=
  OpenClaim.holds_of_wide 3 Try.f3 rfl rfl rfl rfl rfl rfl rfl ⟨rfl, rfl, rfl, rfl, rfl⟩ rfl rfl rfl rfl rfl (by kernel_rfl) Try.func3 (by kernel_rfl)
    (of_decide_eq_true (by kernel_rfl)) (by unfold Func.isWrapper; (rw [if_neg (by decide +kernel)]; exact ⟨rfl, rfl⟩))
    (fun os started H enc _ => distanceTo_holds_lifted os started H enc)
end Go.Proofs.Ytflleelfkknfaaa
