/- FnExactAllGrids returns true at every number, with no condition: the two lists of all canonical grids of a size agree, in memory of their own. -/
import Derived.Test.YthijakignhjmgaaR
import Derived.Test.YthijakignhjmgaaSN
namespace Go.Proofs.Ythijakignhjmgaa
open Go Go.RowKit Go.ChangeShapes Go.WideShapes Go.ChangeAt SL
set_option maxRecDepth 100000 in
theorem allGrids_holds_lifted (os : Os) (started : os.Started) (H : Type) (enc : TypeId × Value → H) :
    ReturnsInHanded {} Try.checked os 5 .any (Rows.fnExactAllGridsSpec.pre6 enc Try.prog Try.f5 Rows.fnExactAllGridsRow.domain false) (Rows.fnExactAllGridsSpec.post enc Try.prog Try.f5 false true false false) := by
  refine returnsInHanded_of_change (C := Try.checked) own' started (by kernel_rfl) Try.func5
    (ChangeSpec.witness6 (enc := enc) (C := Try.checked) false ⟨#[], #[.int .i64 0], []⟩ 8 (by kernel_rfl) (by kernel_rfl) (by kernel_rfl) (by kernel_rfl)) ?_
  intro W base args ds gs before hval0 hW _ _
  have hval : ∀ (j : Nat) t v, Try.f5.params[j]? = some t → args[j]? = some v → Value.okWide Try.prog W .any base t v := hval0
  have hW' : DataW.Whole enc Try.prog Try.f5.params.toList Rows.fnExactAllGridsSpec.vars false W args.toList ds gs before := hW
  obtain ⟨rfl, hA⟩ := whole_args rfl hW'
  rw [Try.params5] at hA hval
  obtain ⟨v0, d0, rfl, rfl, _⟩ := trodAll_one hA
  obtain ⟨z0, rfl, bz0⟩ := open_i64 (t := 2) (by kernel_rfl) (hval 0 _ _ rfl rfl)
  exact true_end (lawAllGrids_gives z0 W) fun W' hB => post_true laidOut' (by kernel_rfl) rfl (t := 4) (by kernel_rfl) rfl hW' rfl hB
theorem allGrids_holds : Rows.FnExactAllGridsSaid :=
  OpenClaim.holds_of_wide 5 Try.f5 rfl rfl rfl rfl rfl rfl rfl ⟨rfl, rfl, rfl, rfl, rfl⟩ rfl rfl rfl rfl rfl (by kernel_rfl) Try.func5 (by kernel_rfl)
    (of_decide_eq_true (by kernel_rfl)) (by unfold Func.isWrapper; first | (rw [if_pos (by decide +kernel)]; kernel_rfl) | (rw [if_neg (by decide +kernel)]; exact ⟨rfl, rfl⟩))
    (fun os started H enc _ => allGrids_holds_lifted os started H enc)
end Go.Proofs.Ythijakignhjmgaa
