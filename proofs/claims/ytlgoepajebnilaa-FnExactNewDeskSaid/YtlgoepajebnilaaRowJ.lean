/- FnExactNewDesk returns true, with no condition: the two readings of the new desk agree. -/
import Derived.Test.YtlgoepajebnilaaR
import Derived.Test.YtlgoepajebnilaaWT
namespace Go.Proofs.Ytlgoepajebnilaa
open Go Go.RowKit Go.ChangeShapes Go.WideShapes Go.ChangeAt SL
set_option maxRecDepth 100000 in
theorem newDesk_holds_lifted (os : Os) (started : os.Started) (H : Type) (enc : TypeId × Value → H) :
    ReturnsInHanded {} Try.checked os 4 .any (Rows.fnExactNewDeskSpec.pre6 enc Try.prog Try.f4 Rows.fnExactNewDeskRow.domain false) (Rows.fnExactNewDeskSpec.post enc Try.prog Try.f4 false true false false) := by
  refine returnsInHanded_of_change (C := Try.checked) own' started (by kernel_rfl) Try.func4
    (ChangeSpec.witness6 (enc := enc) (C := Try.checked) false ⟨#[], #[], []⟩ 8 (by kernel_rfl) (by kernel_rfl) (by kernel_rfl) (by kernel_rfl)) ?_
  intro W base args ds gs before hval0 hW _ _
  have hval : ∀ (j : Nat) t v, Try.f4.params[j]? = some t → args[j]? = some v → Value.okWide Try.prog W .any base t v := hval0
  have hW' : DataW.Whole enc Try.prog Try.f4.params.toList Rows.fnExactNewDeskSpec.vars false W args.toList ds gs before := hW
  obtain ⟨rfl, hA⟩ := whole_args rfl hW'
  rw [Try.params4] at hA hval
  obtain ⟨hargs, rfl, _⟩ := trodAll_nil hA
  obtain rfl : args = #[] := by simpa using hargs
  
  exact true_end (lawNewDesk_gives W) fun W' hB => post_true laidOut' (by kernel_rfl) rfl (t := 4) (by kernel_rfl) rfl hW' rfl hB
theorem newDesk_holds : Rows.FnExactNewDeskSaid :=
  OpenClaim.holds_of_wide 4 Try.f4 rfl rfl rfl rfl rfl rfl rfl ⟨rfl, rfl, rfl, rfl, rfl⟩ rfl rfl rfl rfl rfl (by kernel_rfl) Try.func4 (by kernel_rfl)
    (of_decide_eq_true (by kernel_rfl)) (by unfold Func.isWrapper; first | (rw [if_pos (by decide +kernel)]; kernel_rfl) | (rw [if_neg (by decide +kernel)]; exact ⟨rfl, rfl⟩))
    (fun os started H enc _ => newDesk_holds_lifted os started H enc)
end Go.Proofs.Ytlgoepajebnilaa
