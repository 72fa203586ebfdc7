/- FnExactTotalRank returns true at every grid: the sums of all blocked ranks agree. The card. -/
import Derived.Test.YtmbbcmebdefggaaDoorRD
import Derived.Test.YtmbbcmebdefggaaDoorEN
import Derived.Test.YtmbbcmebdefggaaDoorCards
import Derived.Test.YtmbbcmebdefggaaDoorTie
import Derived.SevenTiedAt
namespace Go.Proofs.YtmbbcmebdefggaaDoor
open Go Go.RowKit Go.ChangeShapes Go.WideShapes Go.ChangeAt SL
set_option maxRecDepth 100000 in
theorem totalRank_holds_lifted (os : Os) (started : os.Started) (H : Type) (enc : TypeId × Value → H) :
    ReturnsInHanded {} Tryd.checked os 5 .any (fun w args => (Rows.fnExactTotalRankSpec.pre enc Tryd.prog Tryd.f5 Rows.fnExactTotalRankRow.domain false w args ∧ laidMetH Tryd.prog laidT w) ∧ sizedMet enc Tryd.prog Tryd.f5 (OpenSpec.ofChange Rows.fnExactTotalRankSpec) false w args) (Rows.fnExactTotalRankSpec.post enc Tryd.prog Tryd.f5 false true false false) := by
  refine returnsInHanded_of_change_and (C := Tryd.checked) (X := fun w _ => laidMetH Tryd.prog laidT w) (fun _ _ _ hh h => h.of_heap hh) own' started (by kernel_rfl) Tryd.func5
    (ChangeSpec.witness_shaped (enc := enc) (C := Tryd.checked) (os := os) (X := fun w _ => laidMetH Tryd.prog laidT w) false (World.doorLaid Tryd.prog 400 os) #[.agg (gv 0 Z8 Z8).toArray] 8 rfl (World.shaped_of_RefB (by kernel_rfl) (by kernel_rfl)) (by kernel_rfl) (by kernel_rfl) (by kernel_rfl) (door_met os _)) ?_
  intro W base args ds gs before hval0 hW _ _ hL _
  have hval : ∀ (j : Nat) t v, Tryd.f5.params[j]? = some t → args[j]? = some v → Value.okWide Tryd.prog W .any base t v := hval0
  have hW' : DataW.Whole enc Tryd.prog Tryd.f5.params.toList Rows.fnExactTotalRankSpec.vars false W args.toList ds gs before := hW
  obtain ⟨rfl, hA⟩ := whole_args rfl hW'
  rw [Tryd.params5] at hA hval
  obtain ⟨v0, d0, rfl, rfl, _⟩ := trodAll_one hA
  obtain ⟨n0, X0, O0, rfl, bX0, bO0, bn0⟩ := open_grid (t := 24) (by kernel_rfl) (by kernel_rfl) (by kernel_rfl) (hval 0 _ _ rfl rfl)
  exact true_endT hL (lawTot_gives List.mem_cons_self n0 X0 O0 bX0 bO0) fun W' hB => post_true laidOut' (by kernel_rfl) rfl (t := 4) (by kernel_rfl) rfl hW' rfl hB
theorem totalRank_holds_row : Rows.FnExactTotalRankSaid :=
  OpenClaim.holds_of_wide 5 Tryd.f5 rfl rfl rfl rfl rfl rfl rfl ⟨rfl, rfl, rfl, rfl, rfl⟩ rfl rfl rfl rfl rfl (by kernel_rfl) Tryd.func5 (by kernel_rfl)
    (of_decide_eq_true (by kernel_rfl)) (by unfold Func.isWrapper; (rw [if_neg (by decide +kernel)]; exact ⟨rfl, rfl⟩))
    (fun os started H enc _ => totalRank_holds_lifted os started H enc)
theorem totalRank_holds : Rows.FnExactTotalRankCardSaid :=
  Claim7.holds_tied_plain_at .later [] [.data] true (true, "e28d260a28346c84d6b6f529407132981111a6136b5fa541e183c46f84afd2a0") false
    totalRank_holds_row (fun _ h => by cases h) (by kernel_rfl) (fun _ h => by cases h) fnExactTotalRank_row_tie rfl ⟨rfl, rfl⟩ (by kernel_rfl) rfl
    (fun f fn hf hfn => by
      obtain rfl : f = 5 := Option.some.inj ((show Tryd.prog.funcNamed "loop.example/g01228/laws.FnExactTotalRank" = some 5 by kernel_rfl).symm.trans hf) |>.symm
      obtain rfl : fn = Tryd.f5 := (Option.some.inj (Tryd.func5.symm.trans hfn)).symm
      exact ⟨by kernel_rfl, fun j t ht => by
        rw [Tryd.params5] at ht
        have hm := Array.mem_of_getElem? ht
        have hall : (([24] : List TypeId).all fun u => !Tryd.prog.wantsStandIn u) = true := by kernel_rfl
        exact (show Tryd.prog.wantsStandIn t = false by simpa using List.all_eq_true.1 hall t (by simpa using hm))⟩)
    (by kernel_rfl)
end Go.Proofs.YtmbbcmebdefggaaDoor
