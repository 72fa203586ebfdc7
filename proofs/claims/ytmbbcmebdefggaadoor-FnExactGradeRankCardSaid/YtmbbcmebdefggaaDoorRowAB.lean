/- FnExactGradeRank returns true at every grid and every two numbers: the ranks agree. The card. -/
import Derived.Test.YtmbbcmebdefggaaDoorRD
import Derived.Test.YtmbbcmebdefggaaDoorEG
import Derived.Test.YtmbbcmebdefggaaDoorCards
import Derived.Test.YtmbbcmebdefggaaDoorTie
import Derived.SevenTiedAt
namespace Go.Proofs.YtmbbcmebdefggaaDoor
open Go Go.RowKit Go.ChangeShapes Go.WideShapes Go.ChangeAt SL
set_option maxRecDepth 100000 in
theorem gradeRank_holds_lifted (os : Os) (started : os.Started) (H : Type) (enc : TypeId × Value → H) :
    ReturnsInHanded {} Tryd.checked os 4 .any (fun w args => (Rows.fnExactGradeRankSpec.pre enc Tryd.prog Tryd.f4 Rows.fnExactGradeRankRow.domain false w args ∧ laidMetH Tryd.prog laidT w) ∧ sizedMet enc Tryd.prog Tryd.f4 (OpenSpec.ofChange Rows.fnExactGradeRankSpec) false w args) (Rows.fnExactGradeRankSpec.post enc Tryd.prog Tryd.f4 false true false false) := by
  refine returnsInHanded_of_change_and (C := Tryd.checked) (X := fun w _ => laidMetH Tryd.prog laidT w) (fun _ _ _ hh h => h.of_heap hh) own' started (by kernel_rfl) Tryd.func4
    (ChangeSpec.witness_shaped (enc := enc) (C := Tryd.checked) (os := os) (X := fun w _ => laidMetH Tryd.prog laidT w) false (World.doorLaid Tryd.prog 400 os) #[.agg (gv 0 Z8 Z8).toArray, .int .i64 0, .int .i64 0] 8 rfl (World.shaped_of_RefB (by kernel_rfl) (by kernel_rfl)) (by kernel_rfl) (by kernel_rfl) (by kernel_rfl) (door_met os _)) ?_
  intro W base args ds gs before hval0 hW _ _ hL _
  have hval : ∀ (j : Nat) t v, Tryd.f4.params[j]? = some t → args[j]? = some v → Value.okWide Tryd.prog W .any base t v := hval0
  have hW' : DataW.Whole enc Tryd.prog Tryd.f4.params.toList Rows.fnExactGradeRankSpec.vars false W args.toList ds gs before := hW
  obtain ⟨rfl, hA⟩ := whole_args rfl hW'
  rw [Tryd.params4] at hA hval
  obtain ⟨v0, v1, v2, d0, d1, d2, p0, p1, p2, rfl, rfl, _, _, _, _⟩ := trodAll_three hA
  obtain ⟨n0, X0, O0, rfl, bX0, bO0, bn0⟩ := open_grid (t := 24) (by kernel_rfl) (by kernel_rfl) (by kernel_rfl) (hval 0 _ _ rfl rfl)
  obtain ⟨z1, rfl, bz1⟩ := open_i64 (t := 2) (by kernel_rfl) (hval 1 _ _ rfl rfl)
  obtain ⟨z2, rfl, bz2⟩ := open_i64 (t := 2) (by kernel_rfl) (hval 2 _ _ rfl rfl)
  exact true_endT hL (lawGradeRank_gives List.mem_cons_self n0 X0 O0 bX0 bO0 z1 z2) fun W' hB => post_true laidOut' (by kernel_rfl) rfl (t := 4) (by kernel_rfl) rfl hW' rfl hB
theorem gradeRank_holds_row : Rows.FnExactGradeRankSaid :=
  OpenClaim.holds_of_wide 4 Tryd.f4 rfl rfl rfl rfl rfl rfl rfl ⟨rfl, rfl, rfl, rfl, rfl⟩ rfl rfl rfl rfl rfl (by kernel_rfl) Tryd.func4 (by kernel_rfl)
    (of_decide_eq_true (by kernel_rfl)) (by unfold Func.isWrapper; (rw [if_neg (by decide +kernel)]; exact ⟨rfl, rfl⟩))
    (fun os started H enc _ => gradeRank_holds_lifted os started H enc)
theorem gradeRank_holds : Rows.FnExactGradeRankCardSaid :=
  Claim7.holds_tied_plain_at .later [] [.data] true (true, "e28d260a28346c84d6b6f529407132981111a6136b5fa541e183c46f84afd2a0") false
    gradeRank_holds_row (fun _ h => by cases h) (by kernel_rfl) (fun _ h => by cases h) fnExactGradeRank_row_tie rfl ⟨rfl, rfl⟩ (by kernel_rfl) rfl
    (fun f fn hf hfn => by
      obtain rfl : f = 4 := Option.some.inj ((show Tryd.prog.funcNamed "loop.example/g01228/laws.FnExactGradeRank" = some 4 by kernel_rfl).symm.trans hf) |>.symm
      obtain rfl : fn = Tryd.f4 := (Option.some.inj (Tryd.func4.symm.trans hfn)).symm
      exact ⟨by kernel_rfl, fun j t ht => by
        rw [Tryd.params4] at ht
        have hm := Array.mem_of_getElem? ht
        have hall : (([24, 2, 2] : List TypeId).all fun u => !Tryd.prog.wantsStandIn u) = true := by kernel_rfl
        exact (show Tryd.prog.wantsStandIn t = false by simpa using List.all_eq_true.1 hall t (by simpa using hm))⟩)
    (by kernel_rfl)
end Go.Proofs.YtmbbcmebdefggaaDoor
