/- FnExactAddSums returns true at every grid and every two lists of states, with no condition: the two sums agree, in code and in states, in memory of their own, and leave what they were handed as it was. -/
import Derived.Test.YthijakignhjmgaaRU
import Derived.Test.YthijakignhjmgaaTL
namespace Go.Proofs.Ythijakignhjmgaa
open Go Go.RowKit Go.ChangeShapes Go.WideShapes Go.ChangeAt SL
set_option maxRecDepth 100000 in
theorem addSums_holds_lifted (os : Os) (started : os.Started) (H : Type) (enc : TypeId × Value → H) :
    ReturnsInHanded {} Try.checked os 6 .any (Rows.fnExactAddSumsSpec.pre6 enc Try.prog Try.f6 Rows.fnExactAddSumsRow.domain false) (Rows.fnExactAddSumsSpec.post enc Try.prog Try.f6 false true false false) := by
  refine returnsInHanded_of_change (C := Try.checked) own' started (by kernel_rfl) Try.func6
    (ChangeSpec.witness6 (enc := enc) (C := Try.checked) false ⟨#[], #[.agg (gv 0 Z8 Z8).toArray, .slice none 0 0, .slice none 0 0], []⟩ 8 (by kernel_rfl) (by kernel_rfl) (by kernel_rfl) (by kernel_rfl)) ?_
  intro W base args ds gs before hval0 hW _ _
  have hval : ∀ (j : Nat) t v, Try.f6.params[j]? = some t → args[j]? = some v → Value.okWide Try.prog W .any base t v := hval0
  have hW' : DataW.Whole enc Try.prog Try.f6.params.toList Rows.fnExactAddSumsSpec.vars false W args.toList ds gs before := hW
  obtain ⟨rfl, hA⟩ := whole_args rfl hW'
  rw [Try.params6] at hA hval
  obtain ⟨v0, v1, v2, d0, d1, d2, p0, p1, p2, rfl, rfl, _, hd0, hd1, hd2⟩ := trodAll_three hA
  obtain ⟨n0, X0, O0, rfl, bX0, bO0, bn0⟩ := open_grid (t := 59) (by kernel_rfl) (by kernel_rfl) (by kernel_rfl) (hval 0 _ _ rfl rfl)
  obtain ⟨L1, Hs1, hc1, hm1, ho1, hH1⟩ := open_stS (t := 60) (e := 25) (c := 5) (by kernel_rfl) (by kernel_rfl) (by kernel_rfl) (by kernel_rfl) (by kernel_rfl) (hval 1 _ _ rfl rfl) hd1
  obtain ⟨L2, Hs2, hc2, hm2, ho2, hH2⟩ := open_stS (t := 60) (e := 25) (c := 5) (by kernel_rfl) (by kernel_rfl) (by kernel_rfl) (by kernel_rfl) (by kernel_rfl) (hval 2 _ _ rfl rfl) hd2
  exact true_end (lawAddSums_gives n0 X0 O0 bX0 bO0 (hc1.sub fun x h => List.mem_append.2 (.inl h)) (hc2.sub fun x h => List.mem_append.2 (.inr h)) hm1 hm2 W (Holds_both hH1 hH2 ho1 ho2)) fun W' hB => post_true laidOut' (by kernel_rfl) rfl (t := 4) (by kernel_rfl) rfl hW' rfl hB
theorem addSums_holds : Rows.FnExactAddSumsSaid :=
  OpenClaim.holds_of_wide 6 Try.f6 rfl rfl rfl rfl rfl rfl rfl ⟨rfl, rfl, rfl, rfl, rfl⟩ rfl rfl rfl rfl rfl (by kernel_rfl) Try.func6 (by kernel_rfl)
    (of_decide_eq_true (by kernel_rfl)) (by unfold Func.isWrapper; first | (rw [if_pos (by decide +kernel)]; kernel_rfl) | (rw [if_neg (by decide +kernel)]; exact ⟨rfl, rfl⟩))
    (fun os started H enc _ => addSums_holds_lifted os started H enc)
end Go.Proofs.Ythijakignhjmgaa
