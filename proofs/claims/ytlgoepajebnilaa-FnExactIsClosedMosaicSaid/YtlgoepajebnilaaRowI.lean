/- FnExactIsClosedMosaic returns true at every mosaic, with no condition: the two readings of what is closed agree. -/
import Derived.Test.YtlgoepajebnilaaRM
import Derived.Test.YtlgoepajebnilaaWR
namespace Go.Proofs.Ytlgoepajebnilaa
open Go Go.RowKit Go.ChangeShapes Go.WideShapes Go.ChangeAt SL
set_option maxRecDepth 100000 in
theorem isClosedMosaic_holds_lifted (os : Os) (started : os.Started) (H : Type) (enc : TypeId × Value → H) :
    ReturnsInHanded {} Try.checked os 5 .any (Rows.fnExactIsClosedMosaicSpec.pre6 enc Try.prog Try.f5 Rows.fnExactIsClosedMosaicRow.domain false) (Rows.fnExactIsClosedMosaicSpec.post enc Try.prog Try.f5 false true false false) := by
  refine returnsInHanded_of_change (C := Try.checked) own' started (by kernel_rfl) Try.func5
    (ChangeSpec.witness6 (enc := enc) (C := Try.checked) false ⟨#[], #[.agg (mv 0 Z64).toArray], []⟩ 8 (by kernel_rfl) (by kernel_rfl) (by kernel_rfl) (by kernel_rfl)) ?_
  intro W base args ds gs before hval0 hW _ _
  have hval : ∀ (j : Nat) t v, Try.f5.params[j]? = some t → args[j]? = some v → Value.okWide Try.prog W .any base t v := hval0
  have hW' : DataW.Whole enc Try.prog Try.f5.params.toList Rows.fnExactIsClosedMosaicSpec.vars false W args.toList ds gs before := hW
  obtain ⟨rfl, hA⟩ := whole_args rfl hW'
  rw [Try.params5] at hA hval
  obtain ⟨v0, d0, rfl, rfl, _⟩ := trodAll_one hA
  obtain ⟨n0, T0, rfl, bT0, bn0⟩ := open_mosaic (t := 38) (by kernel_rfl) (by kernel_rfl) (by kernel_rfl) (hval 0 _ _ rfl rfl)
  exact true_end (lawClosed_gives n0 T0 bT0 W) fun W' hB => post_true laidOut' (by kernel_rfl) rfl (t := 4) (by kernel_rfl) rfl hW' rfl hB
theorem isClosedMosaic_holds : Rows.FnExactIsClosedMosaicSaid :=
  OpenClaim.holds_of_wide 5 Try.f5 rfl rfl rfl rfl rfl rfl rfl ⟨rfl, rfl, rfl, rfl, rfl⟩ rfl rfl rfl rfl rfl (by kernel_rfl) Try.func5 (by kernel_rfl)
    (of_decide_eq_true (by kernel_rfl)) (by unfold Func.isWrapper; first | (rw [if_pos (by decide +kernel)]; kernel_rfl) | (rw [if_neg (by decide +kernel)]; exact ⟨rfl, rfl⟩))
    (fun os started H enc _ => isClosedMosaic_holds_lifted os started H enc)
end Go.Proofs.Ytlgoepajebnilaa
