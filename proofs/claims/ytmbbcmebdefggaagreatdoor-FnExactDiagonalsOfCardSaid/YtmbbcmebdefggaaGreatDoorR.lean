/- Rows: what a law's result and its arguments read behind the call; the shapes of the arguments that are rows of numbers. -/
import Derived.Test.YtmbbcmebdefggaaGreatDoorRows
import Derived.Test.YtmbbcmebdefggaaGreatDoorV
import Derived.ProofKit
import Derived.WalkKit
namespace Go.Proofs.YtmbbcmebdefggaaGreatDoor
open Go Go.RowKit Go.ChangeShapes Go.WideShapes Go.ChangeAt SL
theorem own' : ownKnob Tryz.prog.godebug = none := by kernel_rfl
theorem laidOut' : laidOutB Tryz.prog = true := by kernel_rfl
theorem trodAll_stays {H : Type} {enc : TypeId × Value → H} {P : Program} (hl : laidOutB P = true) {W W' : World} {sp' : Nat → Bool} : ∀ {ts : List TypeId} {vs : List Value} {ds : List (DataW H)} {ps : List MemPlace},
    ts.all (fun t => P.readableRec t && decide (t < P.types.size)) = true → DataW.TrodAll enc P W 0 (fun _ => true) true ts vs ds ps → (∀ p ∈ ps, W.sameAt W' p) → (∀ p ∈ ps, sp' p.block = true) → DataW.TrodAll enc P W' 0 sp' true ts vs ds ps
  | [], _, _, _, _, h, _, _ => by
    obtain ⟨rfl, rfl, rfl⟩ := trodAll_nil h
    rfl
  | t :: ts, _, _, _, ht, h, hs, hp => by
    obtain ⟨v, vs', d, ds', p, q, rfl, rfl, rfl, h1, h2⟩ := trodAll_cons h
    simp only [List.all_cons, Bool.and_eq_true, decide_eq_true_eq] at ht
    exact ⟨p, q, WideElems.Trod_stays hl ht.1.1 ht.1.2 h1 (fun x hx => hs x (List.mem_append_left _ hx)) (fun x hx => hp x (List.mem_append_left _ hx)),
      trodAll_stays hl (by simpa using ht.2) h2 (fun x hx => hs x (List.mem_append_right _ hx)) (fun x hx => hp x (List.mem_append_right _ hx)), rfl⟩
theorem post_true {H : Type} {enc : TypeId × Value → H} {P : Program} (hl : laidOutB P = true) {f : Func} {s : ChangeSpec} {apart fresh handsOn : Bool} {t : TypeId} {W W' : World} {args : Array Value} {ds gs : List (DataW H)} {before : List MemPlace}
    (hts : f.params.toList.all (fun t => P.readableRec t && decide (t < P.types.size)) = true) (hr : f.resultTypes = #[t]) (ht : P.underlying t = some .bool) (hv : s.vars = [])
    (hW : DataW.Whole enc P f.params.toList s.vars apart W args.toList ds gs before) (hs : s.fn H (ds ++ gs) = { results := [.lit (.bool true)], args := ds }) (hB : Below W.heap.size W W') :
    s.post enc P f apart fresh handsOn false W args (.bool true) W' := by
  have hW0 := hW
  obtain ⟨p, q, hA, hV, rfl, hz, hn⟩ := hW
  rw [hv] at hV
  have hlt : ∀ x ∈ p, x.block < W.heap.size := fun x hx => by simpa using hW0.lt x (List.mem_append_left _ hx)
  obtain ⟨rfl, rfl⟩ := trodVars_none hV
  refine ⟨ds, [], p ++ [], [], p, [], hW0, ?_, ?_, ?_, Below.frame hB _, fun h => by cases h⟩
  · rw [hs, hr]
    exact trodAll_mk1 (shut_bool ht true)
  · rw [hs]
    exact trodAll_stays hl hts hA (fun x hx => hB.same (hlt x hx)) (fun x hx => decide_eq_true (hlt x hx))
  · rw [hs, hv]
    rfl
theorem whole_args {H : Type} {enc : TypeId × Value → H} {P : Program} {ts : List TypeId} {vars : List String} {apart : Bool} {W : World} {vs : List Value} {ds gs : List (DataW H)} {ps : List MemPlace} (hv : vars = []) (h : DataW.Whole enc P ts vars apart W vs ds gs ps) :
    gs = [] ∧ DataW.TrodAll enc P W 0 (fun _ => true) true ts vs ds ps := by
  obtain ⟨p, q, hA, hV, rfl, _, _⟩ := h
  rw [hv] at hV
  obtain ⟨rfl, rfl⟩ := trodVars_none hV
  exact ⟨rfl, by simpa using hA⟩
/-! The cells of a row of numbers. -/
def kindsOf (P : Program) (t : TypeId) : List (Option IntKind) := match P.cellTypes P.depth t with
  | some ts => ts.map fun u => match P.underlying u with
    | some (.int k) => some k
    | _ => none
  | none => []
theorem cells_int {P : Program} {W : World} {base : Nat} {t : TypeId} {cs : Array Value} {ks : List IntKind} (hk : kindsOf P t = ks.map some) (hn : cs.size = ks.length) (h : Row.okWide P W .any base t cs) :
    ∀ i, (hi : i < ks.length) → ∃ z, cs[i]? = some (.int ks[i] z) ∧ ks[i].has z := by
  intro i hi
  obtain ⟨ts, hts, _, hall⟩ := h
  have hlen : ts.length = ks.length := by
    have := congrArg List.length hk
    simpa [kindsOf, hts] using this
  have hci : cs[i]? = some (cs[i]'(by omega)) := Array.getElem?_eq_getElem _
  obtain ⟨u, hu, hok⟩ := hall i _ hci
  rw [Nat.mod_eq_of_lt (by omega)] at hu
  have hui : P.underlying u = some (.int ks[i]) := by
    have h2 := congrArg (·[i]?) hk
    simp only [kindsOf, hts, List.getElem?_map, hu, Option.map_some, List.getElem?_eq_getElem hi] at h2
    revert h2
    generalize P.underlying u = o
    intro h2
    split at h2 <;> simp_all
  generalize hcv : cs[i]'(by omega) = v at hci hok
  rw [hci]
  simp only [Cell.okWide, hui] at hok
  cases v <;> simp [Cell.ok, hui] at hok
  exact ⟨_, by rw [hok.1], hok.2⟩
theorem list_u8 : ∀ (m : Nat) {l : List Value}, l.length = m → (∀ i, i < m → ∃ z, l[i]? = some (.int .u8 z) ∧ IntKind.u8.has z) → ∃ X : List Nat, l = u8s X ∧ X.length = m ∧ ∀ i, X.getD i 0 < 256
  | 0, l, hl, _ => ⟨[], by rw [List.eq_nil_of_length_eq_zero hl]; rfl, rfl, fun i => by simp⟩
  | m + 1, [], hl, _ => by simp at hl
  | m + 1, v :: l, hl, h => by
    obtain ⟨z, hz, hh⟩ := h 0 (by omega)
    obtain ⟨X, rfl, hX, hB⟩ := list_u8 m (l := l) (by simpa using hl) (fun i hi => by simpa using h (i + 1) (by omega))
    simp only [List.getElem?_cons_zero, Option.some.injEq] at hz
    have h2 : 0 ≤ z ∧ z ≤ 255 := hh
    refine ⟨z.toNat :: X, ?_, by simp [hX], fun i => ?_⟩
    · rw [hz, show z = ((z.toNat : Nat) : Int) by omega]
      simp [u8s]
    · cases i with
      | zero => simp; omega
      | succ i => simpa using hB i
theorem grid_cells {l : List Value} (hl : l.length = 17) (h0 : ∃ z, l[0]? = some (.int .i64 z) ∧ IntKind.i64.has z) (h : ∀ i, i < 16 → ∃ z, l[1 + i]? = some (.int .u8 z) ∧ IntKind.u8.has z) :
    ∃ n X O, l = gv n X O ∧ isB X ∧ isB O ∧ IntKind.i64.has n := by
  obtain ⟨z, hz, hh⟩ := h0
  match l, hl with
  | v :: r, hl =>
    simp only [List.getElem?_cons_zero, Option.some.injEq] at hz
    obtain ⟨X, hX, lX, bX⟩ := list_u8 8 (l := r.take 8) (by simp at hl ⊢; omega) (fun i hi => by
      have := h i (by omega)
      rw [show 1 + i = i + 1 by omega, List.getElem?_cons_succ] at this
      rwa [List.getElem?_take_of_lt hi])
    obtain ⟨O, hO, lO, bO⟩ := list_u8 8 (l := r.drop 8) (by simp at hl ⊢; omega) (fun i hi => by
      have := h (8 + i) (by omega)
      rw [show 1 + (8 + i) = (8 + i) + 1 by omega, List.getElem?_cons_succ] at this
      rwa [List.getElem?_drop])
    exact ⟨z, X, O, by rw [hz, gv, ← hX, ← hO, List.take_append_drop], ⟨lX, bX⟩, ⟨lO, bO⟩, hh⟩
theorem okWide_row {P : Program} {W : World} {base : Nat} {t : TypeId} {v : Value} (ht : (P.underlying t).any TypeDesc.isRow = true) (h : Value.okWide P W .any base t v) : ∃ cs, v = .agg cs ∧ cs.size = P.cellsOf t ∧ Row.okWide P W .any base t cs := by
  unfold Value.okWide at h
  generalize P.underlying t = o at ht h
  rcases o with _ | d
  · simp at ht
  · cases d <;> simp [TypeDesc.isRow] at ht <;> exact h
def gridKinds : List IntKind := .i64 :: List.replicate 16 .u8
theorem open_grid {P : Program} {W : World} {base : Nat} {t : TypeId} {v : Value} (ht : (P.underlying t).any TypeDesc.isRow = true) (hc : P.cellsOf t = 17) (hk : kindsOf P t = gridKinds.map some) (h : Value.okWide P W .any base t v) :
    ∃ n X O, v = .agg (gv n X O).toArray ∧ isB X ∧ isB O ∧ IntKind.i64.has n := by
  obtain ⟨cs, rfl, hn, hr⟩ := okWide_row ht h
  have hn' : cs.size = 17 := hn.trans hc
  have hi := cells_int hk (by rw [hn']; rfl) hr
  obtain ⟨n, X, O, e, b1, b2, b3⟩ := grid_cells (l := cs.toList) (by simpa using hn') (by simpa [gridKinds] using hi 0 (by decide)) (fun i h => by
    have := hi (1 + i) (by simp [gridKinds]; omega)
    have e : gridKinds[1 + i]'(by simp [gridKinds]; omega) = .u8 := by
      have hall : ∀ j : Fin 17, j.1 ≠ 0 → gridKinds[j.1]'(by simp [gridKinds]) = .u8 := by decide
      exact hall ⟨1 + i, by omega⟩ (by show 1 + i ≠ 0; omega)
    rw [e] at this
    simpa using this)
  exact ⟨n, X, O, by rw [← e], b1, b2, b3⟩
end Go.Proofs.YtmbbcmebdefggaaGreatDoor
