/- FnExactIsBoundarySum returns true at every grid and every list of states: the answers agree. The card. -/
import Derived.Test.YtmbbcmebdefggaaDoorRD
import Derived.Test.YtmbbcmebdefggaaDoorRU
import Derived.Test.YtmbbcmebdefggaaDoorEI
import Derived.Test.YtmbbcmebdefggaaDoorCards
import Derived.Test.YtmbbcmebdefggaaDoorTie
import Derived.SevenTiedAt
namespace Go.Proofs.YtmbbcmebdefggaaDoor
open Go Go.RowKit Go.ChangeShapes Go.WideShapes Go.ChangeAt SL
set_option maxRecDepth 100000 in
theorem isBoundarySum_holds_lifted (os : Os) (started : os.Started) (H : Type) (enc : TypeId × Value → H) :
    ReturnsInHanded {} Tryd.checked os 3 .any (fun w args => (Rows.fnExactIsBoundarySumSpec.pre enc Tryd.prog Tryd.f3 Rows.fnExactIsBoundarySumRow.domain false w args ∧ laidMetH Tryd.prog laidT w) ∧ sizedMet enc Tryd.prog Tryd.f3 (OpenSpec.ofChange Rows.fnExactIsBoundarySumSpec) false w args) (Rows.fnExactIsBoundarySumSpec.post enc Tryd.prog Tryd.f3 false true false false) := by
  refine returnsInHanded_of_change_and (C := Tryd.checked) (X := fun w _ => laidMetH Tryd.prog laidT w) (fun _ _ _ hh h => h.of_heap hh) own' started (by kernel_rfl) Tryd.func3
    (ChangeSpec.witness_shaped (enc := enc) (C := Tryd.checked) (os := os) (X := fun w _ => laidMetH Tryd.prog laidT w) false (World.doorLaid Tryd.prog 400 os) #[.agg (gv 0 Z8 Z8).toArray, .slice none 0 0] 8 rfl (World.shaped_of_RefB (by kernel_rfl) (by kernel_rfl)) (by kernel_rfl) (by kernel_rfl) (by kernel_rfl) (door_met os _)) ?_
  intro W base args ds gs before hval0 hW _ _ hL _
  have hval : ∀ (j : Nat) t v, Tryd.f3.params[j]? = some t → args[j]? = some v → Value.okWide Tryd.prog W .any base t v := hval0
  have hW' : DataW.Whole enc Tryd.prog Tryd.f3.params.toList Rows.fnExactIsBoundarySumSpec.vars false W args.toList ds gs before := hW
  obtain ⟨rfl, hA⟩ := whole_args rfl hW'
  rw [Tryd.params3] at hA hval
  obtain ⟨v0, v1, d0, d1, p0, p1, rfl, rfl, _, hd0, hd1⟩ := trodAll_two hA
  obtain ⟨n0, X0, O0, rfl, bX0, bO0, bn0⟩ := open_grid (t := 24) (by kernel_rfl) (by kernel_rfl) (by kernel_rfl) (hval 0 _ _ rfl rfl)
  obtain ⟨L1, Hs1, hc1, hm1, ho1, hH1⟩ := open_stS (t := 25) (e := 22) (c := 5) (by kernel_rfl) (by kernel_rfl) (by kernel_rfl) (by kernel_rfl) (by kernel_rfl) (hval 1 _ _ rfl rfl) hd1
  exact true_endTH hL hH1 (lawIsb_gives List.mem_cons_self n0 X0 O0 bX0 bO0 (hc1.sub fun x hx => List.mem_cons_of_mem _ hx) hm1) fun W' hB => post_true laidOut' (by kernel_rfl) rfl (t := 4) (by kernel_rfl) rfl hW' rfl hB
theorem isBoundarySum_holds_row : Rows.FnExactIsBoundarySumSaid :=
  OpenClaim.holds_of_wide 3 Tryd.f3 rfl rfl rfl rfl rfl rfl rfl ⟨rfl, rfl, rfl, rfl, rfl⟩ rfl rfl rfl rfl rfl (by kernel_rfl) Tryd.func3 (by kernel_rfl)
    (of_decide_eq_true (by kernel_rfl)) (by unfold Func.isWrapper; (rw [if_neg (by decide +kernel)]; exact ⟨rfl, rfl⟩))
    (fun os started H enc _ => isBoundarySum_holds_lifted os started H enc)
theorem isBoundarySum_holds : Rows.FnExactIsBoundarySumCardSaid :=
  Claim7.holds_tied_plain_at .later [] [.data] true (true, "e28d260a28346c84d6b6f529407132981111a6136b5fa541e183c46f84afd2a0") false
    isBoundarySum_holds_row (fun _ h => by cases h) (by kernel_rfl) (fun _ h => by cases h) fnExactIsBoundarySum_row_tie rfl ⟨rfl, rfl⟩ (by kernel_rfl) rfl
    (fun f fn hf hfn => by
      obtain rfl : f = 3 := Option.some.inj ((show Tryd.prog.funcNamed "loop.example/g01228/laws.FnExactIsBoundarySum" = some 3 by kernel_rfl).symm.trans hf) |>.symm
      obtain rfl : fn = Tryd.f3 := (Option.some.inj (Tryd.func3.symm.trans hfn)).symm
      exact ⟨by kernel_rfl, fun j t ht => by
        rw [Tryd.params3] at ht
        have hm := Array.mem_of_getElem? ht
        have hall : (([24, 25] : List TypeId).all fun u => !Tryd.prog.wantsStandIn u) = true := by kernel_rfl
        exact (show Tryd.prog.wantsStandIn t = false by simpa using List.all_eq_true.1 hall t (by simpa using hm))⟩)
    (by kernel_rfl)
end Go.Proofs.YtmbbcmebdefggaaDoor
