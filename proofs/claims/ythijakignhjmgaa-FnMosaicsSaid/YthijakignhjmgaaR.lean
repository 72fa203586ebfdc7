/- Rows: what a law's result and its arguments read behind the call; the shapes of the arguments that are rows of numbers. -/
import Derived.Test.YthijakignhjmgaaRows
import Derived.Test.YthijakignhjmgaaV
import Derived.ProofKit
import Derived.WalkKit
namespace Go.Proofs.Ythijakignhjmgaa
open Go Go.RowKit Go.ChangeShapes Go.WideShapes Go.ChangeAt SL
theorem own' : ownKnob Try.prog.godebug = none := by kernel_rfl
theorem laidOut' : laidOutB Try.prog = true := by kernel_rfl
theorem trodAll_stays {H : Type} {enc : TypeId × Value → H} {P : Program} (hl : laidOutB P = true) {W W' : World} {sp' : Nat → Bool} : ∀ {ts : List TypeId} {vs : List Value} {ds : List (DataW H)} {ps : List MemPlace},
    ts.all (fun t => P.readableRec t && decide (t < P.types.size)) = true → DataW.TrodAll enc P W 0 (fun _ => true) true ts vs ds ps → (∀ p ∈ ps, W.sameAt W' p) → (∀ p ∈ ps, sp' p.block = true) → DataW.TrodAll enc P W' 0 sp' true ts vs ds ps
  | [], _, _, _, _, h, _, _ => by
    obtain ⟨rfl, rfl, rfl⟩ := trodAll_nil h
    rfl
  | t :: ts, _, _, _, ht, h, hs, hp => by
    obtain ⟨v, vs', d, ds', p, q, rfl, rfl, rfl, h1, h2⟩ := trodAll_cons h
    simp only [List.all_cons, Bool.and_eq_true, decide_eq_true_eq] at ht
    exact ⟨p, q, WideElems.Trod_stays hl ht.1.1 ht.1.2 h1 (fun x hx => hs x (List.mem_append_left _ hx)) (fun x hx => hp x (List.mem_append_left _ hx)),
      trodAll_stays hl (by simpa using ht.2) h2 (fun x hx => hs x (List.mem_append_right _ hx)) (fun x hx => hp x (List.mem_append_right _ hx)), rfl⟩
theorem post_true {H : Type} {enc : TypeId × Value → H} {P : Program} (hl : laidOutB P = true) {f : Func} {s : ChangeSpec} {apart fresh handsOn : Bool} {t : TypeId} {W W' : World} {args : Array Value} {ds gs : List (DataW H)} {before : List MemPlace}
    (hts : f.params.toList.all (fun t => P.readableRec t && decide (t < P.types.size)) = true) (hr : f.resultTypes = #[t]) (ht : P.underlying t = some .bool) (hv : s.vars = [])
    (hW : DataW.Whole enc P f.params.toList s.vars apart W args.toList ds gs before) (hs : s.fn H (ds ++ gs) = { results := [.lit (.bool true)], args := ds }) (hB : Below W.heap.size W W') :
    s.post enc P f apart fresh handsOn false W args (.bool true) W' := by
  have hW0 := hW
  obtain ⟨p, q, hA, hV, rfl, hz, hn⟩ := hW
  rw [hv] at hV
  have hlt : ∀ x ∈ p, x.block < W.heap.size := fun x hx => by simpa using hW0.lt x (List.mem_append_left _ hx)
  obtain ⟨rfl, rfl⟩ := trodVars_none hV
  refine ⟨ds, [], p ++ [], [], p, [], hW0, ?_, ?_, ?_, Below.frame hB _, fun h => by cases h⟩
  · rw [hs, hr]
    exact trodAll_mk1 (shut_bool ht true)
  · rw [hs]
    exact trodAll_stays hl hts hA (fun x hx => hB.same (hlt x hx)) (fun x hx => decide_eq_true (hlt x hx))
  · rw [hs, hv]
    rfl
theorem whole_args {H : Type} {enc : TypeId × Value → H} {P : Program} {ts : List TypeId} {vars : List String} {apart : Bool} {W : World} {vs : List Value} {ds gs : List (DataW H)} {ps : List MemPlace} (hv : vars = []) (h : DataW.Whole enc P ts vars apart W vs ds gs ps) :
    gs = [] ∧ DataW.TrodAll enc P W 0 (fun _ => true) true ts vs ds ps := by
  obtain ⟨p, q, hA, hV, rfl, _, _⟩ := h
  rw [hv] at hV
  obtain ⟨rfl, rfl⟩ := trodVars_none hV
  exact ⟨rfl, by simpa using hA⟩
theorem gives_calls {P : Program} {f : FuncId} {args : Array Value} {v : Value} {w : World} (h : Gives P f args v w) : Calls P f args w fun e w' => e = .returned v ∧ Below w.heap.size w w' := by
  unfold Gives at h
  exact h.mono fun _ _ ⟨he, hb⟩ => ⟨he, hb.lo⟩
/-- The walk's end in the form that the row asks for. -/
theorem true_end {P : Program} {f : FuncId} {args : Array Value} {W : World} {R : Value → World → Prop} (h : Gives P f args (.bool true) W) (k : ∀ W', Below W.heap.size W W' → R (.bool true) W') : Calls P f args W fun e W' => ∃ v, e = .returned v ∧ R v W' :=
  (gives_calls h).mono fun _ W' ⟨he, hw⟩ => ⟨_, he, k W' hw⟩
/-! The cells of a row of numbers. -/
end Go.Proofs.Ythijakignhjmgaa
