/- FnPromiseOfAll returns true at every grid, every two numbers and every list of rows, with no condition: shifts keep the number of components, the braid index, the gradings of states, and the self-linking numbers of knots. -/
import Derived.Test.YtlgoepajebnilaaRS
import Derived.Test.YtlgoepajebnilaaXE
import Derived.Carry
namespace Go.Proofs.Ytlgoepajebnilaa
open Go Go.RowKit Go.ChangeShapes Go.WideShapes Go.ChangeAt SL
set_option maxRecDepth 100000 in
theorem promiseOfAll_holds_lifted (os : Os) (started : os.Started) (H : Type) (enc : TypeId × Value → H) :
    ReturnsInHanded {} Try.checked os 14 .any (Rows.fnPromiseOfAllSpec.pre6 enc Try.prog Try.f14 Rows.fnPromiseOfAllRow.domain false) (Rows.fnPromiseOfAllSpec.post enc Try.prog Try.f14 false true false false) := by
  refine returnsInHanded_of_change (C := Try.checked) own' started (by kernel_rfl) Try.func14
    (ChangeSpec.witness6 (enc := enc) (C := Try.checked) false ⟨#[], #[.agg (gv 0 Z8 Z8).toArray, .int .i64 0, .int .i64 0, .agg (u8s Z8).toArray], []⟩ 8 (by kernel_rfl) (by kernel_rfl) (by kernel_rfl) (by kernel_rfl)) ?_
  intro W base args ds gs before hval0 hW _ _
  have hval : ∀ (j : Nat) t v, Try.f14.params[j]? = some t → args[j]? = some v → Value.okWide Try.prog W .any base t v := hval0
  have hW' : DataW.Whole enc Try.prog Try.f14.params.toList Rows.fnPromiseOfAllSpec.vars false W args.toList ds gs before := hW
  obtain ⟨rfl, hA⟩ := whole_args rfl hW'
  rw [Try.params14] at hA hval
  obtain ⟨v0, v1, v2, v3, d0, d1, d2, d3, p0, p1, p2, p3, rfl, rfl, _, _, _, _, _⟩ := trodAll_four hA
  obtain ⟨n0, X0, O0, rfl, bX0, bO0, bn0⟩ := open_grid (t := 28) (by kernel_rfl) (by kernel_rfl) (by kernel_rfl) (hval 0 _ _ rfl rfl)
  obtain ⟨z1, rfl, bz1⟩ := open_i64 (t := 2) (by kernel_rfl) (hval 1 _ _ rfl rfl)
  obtain ⟨z2, rfl, bz2⟩ := open_i64 (t := 2) (by kernel_rfl) (hval 2 _ _ rfl rfl)
  obtain ⟨x3, rfl, bx3⟩ := open_bytes8 (t := 63) (by kernel_rfl) (by kernel_rfl) (by kernel_rfl) (hval 3 _ _ rfl rfl)
  exact true_end (lawPromise_gives n0 X0 O0 z1 z2 x3 bX0 bO0 bx3 W) fun W' hB => post_true laidOut' (by kernel_rfl) rfl (t := 4) (by kernel_rfl) rfl hW' rfl hB
theorem promiseOfAll_holds : Rows.FnPromiseOfAllSaid :=
  OpenClaim.holds_of_wide 14 Try.f14 rfl rfl rfl rfl rfl rfl rfl ⟨rfl, rfl, rfl, rfl, rfl⟩ rfl rfl rfl rfl rfl (by kernel_rfl) Try.func14 (by kernel_rfl)
    (of_decide_eq_true (by kernel_rfl)) (by unfold Func.isWrapper; first | (rw [if_pos (by decide +kernel)]; kernel_rfl) | (rw [if_neg (by decide +kernel)]; exact ⟨rfl, rfl⟩))
    (fun os started H enc _ => promiseOfAll_holds_lifted os started H enc)
end Go.Proofs.Ytlgoepajebnilaa
