/- FnExactDiagonalsOf returns true at every grid: the diagonals agree, in code and in numbers, in memory of their own. The card. -/
import Derived.Test.YtmbbcmebdefggaaGreatDoorRD
import Derived.Test.YtmbbcmebdefggaaGreatDoorFG
import Derived.Test.YtmbbcmebdefggaaGreatDoorCards
import Derived.Test.YtmbbcmebdefggaaGreatDoorTie
import Derived.SevenTiedAt
namespace Go.Proofs.YtmbbcmebdefggaaGreatDoor
open Go Go.RowKit Go.ChangeShapes Go.WideShapes Go.ChangeAt SL
set_option maxRecDepth 100000 in
theorem diagonalsOf_holds_lifted (os : Os) (started : os.Started) (H : Type) (enc : TypeId × Value → H) :
    ReturnsInHanded {} Tryz.checked os 10 .any (fun w args => (Rows.fnExactDiagonalsOfSpec.pre enc Tryz.prog Tryz.f10 Rows.fnExactDiagonalsOfRow.domain false w args ∧ laidMetH Tryz.prog laidT w) ∧ sizedMet enc Tryz.prog Tryz.f10 (OpenSpec.ofChange Rows.fnExactDiagonalsOfSpec) false w args) (Rows.fnExactDiagonalsOfSpec.post enc Tryz.prog Tryz.f10 false true false false) := by
  refine returnsInHanded_of_change_and (C := Tryz.checked) (X := fun w _ => laidMetH Tryz.prog laidT w) (fun _ _ _ hh h => h.of_heap hh) own' started (by kernel_rfl) Tryz.func10
    (ChangeSpec.witness_shaped (enc := enc) (C := Tryz.checked) (os := os) (X := fun w _ => laidMetH Tryz.prog laidT w) false (World.doorLaid Tryz.prog 400 os) #[.agg (gv 0 Z8 Z8).toArray] 8 rfl (World.shaped_of_RefB (by kernel_rfl) (by kernel_rfl)) (by kernel_rfl) (by kernel_rfl) (by kernel_rfl) (door_met os _)) ?_
  intro W base args ds gs before hval0 hW _ _ hL _
  have hval : ∀ (j : Nat) t v, Tryz.f10.params[j]? = some t → args[j]? = some v → Value.okWide Tryz.prog W .any base t v := hval0
  have hW' : DataW.Whole enc Tryz.prog Tryz.f10.params.toList Rows.fnExactDiagonalsOfSpec.vars false W args.toList ds gs before := hW
  obtain ⟨rfl, hA⟩ := whole_args rfl hW'
  rw [Tryz.params10] at hA hval
  obtain ⟨v0, d0, rfl, rfl, _⟩ := trodAll_one hA
  obtain ⟨n0, X0, O0, rfl, bX0, bO0, bn0⟩ := open_grid (t := 24) (by kernel_rfl) (by kernel_rfl) (by kernel_rfl) (hval 0 _ _ rfl rfl)
  exact true_endT hL (lawDia_gives List.mem_cons_self n0 X0 O0 bX0 bO0) fun W' hB => post_true laidOut' (by kernel_rfl) rfl (t := 4) (by kernel_rfl) rfl hW' rfl hB
theorem diagonalsOf_holds_row : Rows.FnExactDiagonalsOfSaid :=
  OpenClaim.holds_of_wide 10 Tryz.f10 rfl rfl rfl rfl rfl rfl rfl ⟨rfl, rfl, rfl, rfl, rfl⟩ rfl rfl rfl rfl rfl (by kernel_rfl) Tryz.func10 (by kernel_rfl)
    (of_decide_eq_true (by kernel_rfl)) (by unfold Func.isWrapper; first | (rw [if_pos (by decide +kernel)]; kernel_rfl) | (rw [if_neg (by decide +kernel)]; exact ⟨rfl, rfl⟩))
    (fun os started H enc _ => diagonalsOf_holds_lifted os started H enc)
theorem diagonalsOf_holds : Rows.FnExactDiagonalsOfCardSaid :=
  Claim7.holds_tied_plain_at .later [] [.data] true (true, "bca8aa1f7a49b771289e0b1fe02e94b62c3f4cac8a6b31bef44cfad45aaf4d78") false
    diagonalsOf_holds_row (fun _ h => by cases h) (by kernel_rfl) (fun _ h => by cases h) fnExactDiagonalsOf_row_tie rfl ⟨rfl, rfl⟩ (by kernel_rfl) rfl
    (fun f fn hf hfn => by
      obtain rfl : f = 10 := Option.some.inj ((show Tryz.prog.funcNamed "loop.example/g01228/laws.FnExactDiagonalsOf" = some 10 by kernel_rfl).symm.trans hf) |>.symm
      obtain rfl : fn = Tryz.f10 := (Option.some.inj (Tryz.func10.symm.trans hfn)).symm
      exact ⟨by kernel_rfl, fun j t ht => by
        rw [Tryz.params10] at ht
        have hm := Array.mem_of_getElem? ht
        have hall : (([24] : List TypeId).all fun u => !Tryz.prog.wantsStandIn u) = true := by kernel_rfl
        exact (show Tryz.prog.wantsStandIn t = false by simpa using List.all_eq_true.1 hall t (by simpa using hm))⟩)
    (by kernel_rfl)
end Go.Proofs.YtmbbcmebdefggaaGreatDoor
