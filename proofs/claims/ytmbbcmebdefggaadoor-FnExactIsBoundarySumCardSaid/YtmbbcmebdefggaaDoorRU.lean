/- Rows: the shape of slices of arrays of eight bytes. -/
import Derived.Test.YtmbbcmebdefggaaDoorR
import Derived.Test.YtmbbcmebdefggaaDoorGE
import Derived.Test.YtmbbcmebdefggaaDoorTF
import Derived.ChangeSlices
import Derived.OpenShut
namespace Go.Proofs.YtmbbcmebdefggaaDoor
open Go Go.RowKit Go.ChangeShapes Go.WideShapes Go.ChangeAt SL
theorem trod_bytes8 {H : Type} {enc : TypeId × Value → H} {P : Program} {W : World} {base fuel : Nat} {sp : Nat → Bool} {held : Bool} {t e : TypeId} {cs : List Value} {x : DataW H × List MemPlace} (ht : P.underlying t = some (.array 8 e)) (he : P.underlying e = some (.int .u8)) (hc : P.cellsOf e = 1) (h8 : P.cellsOf t = 8)
    (h : DataW.trod enc P W base sp held fuel t cs = some x) : ∃ X : StB, cs = encS X := by
  obtain ⟨xs, m, _, _, hlen, hxs, hall⟩ := DataW.trod_array ht h
  rw [h8] at hlen
  obtain ⟨X, h1, h2, h3⟩ := list_u8 8 hlen fun i hi => by
    have h0 := hall i hi
    have e1 : xs[i]? = some (xs[i]'(by omega)) := List.getElem?_eq_getElem _
    rw [e1, hc, Nat.mul_one] at h0
    obtain ⟨n, hn, _, hw⟩ := DataW.trod_int he h0
    refine ⟨n, ?_, ?_⟩
    · have := congrArg (·[0]?) hn
      simpa using this
    · simp only [Lit.wf, Bool.and_eq_true, decide_eq_true_eq] at hw
      exact hw
  exact ⟨⟨X, h2, h3⟩, h1⟩
theorem list_all {α : Type} [Inhabited α] {p : Nat → α → Prop} : ∀ (n : Nat), (∀ i, i < n → ∃ x, p i x) → ∃ L : List α, L.length = n ∧ ∀ (i : Nat) x, L[i]? = some x → p i x
  | 0, _ => ⟨[], rfl, fun i x h => by simp at h⟩
  | n + 1, h => by
    obtain ⟨L, hl, hp⟩ := list_all n fun i hi => h i (by omega)
    obtain ⟨x, hx⟩ := h n (by omega)
    refine ⟨L ++ [x], by simp [hl], fun i y hy => ?_⟩
    by_cases hi : i < L.length
    · rw [List.getElem?_append_left hi] at hy
      exact hp i y hy
    · have := (List.getElem?_eq_some_iff.1 hy).1
      simp only [List.length_append, List.length_cons, List.length_nil] at this
      obtain rfl : i = L.length := by omega
      rw [List.getElem?_append_right (Nat.le_refl _)] at hy
      simp at hy
      subst hy
      rw [hl]
      exact hx
theorem flat_cell {L : List StB} {k : Nat} {v : Value} (h : (L.flatMap encS)[k]? = some v) : ∃ x, L[k / 8]? = some x ∧ (encS x)[k % 8]? = some v := by
  have hlt := (List.getElem?_eq_some_iff.1 h).1
  rw [fl_len encS_len] at hlt
  have e1 : L[k / 8]? = some (L[k / 8]'(by omega)) := List.getElem?_eq_getElem _
  refine ⟨_, e1, ?_⟩
  have e2 : (encS (L[k / 8]'(by omega)))[k % 8]? = some ((encS (L[k / 8]'(by omega)))[k % 8]'(by rw [encS_len]; omega)) := List.getElem?_eq_getElem _
  have e3 := fl_cell encS_len e1 e2
  have e4 : k / 8 * 8 + k % 8 = k := by omega
  rw [e4, h] at e3
  rw [e2, e3]
theorem open_stS {H : Type} {enc : TypeId × Value → H} {P : Program} {W : World} {base : Nat} {sp : Nat → Bool} {held : Bool} {t e c : TypeId} {v : Value} {d : DataW H} {ps : List MemPlace} (ht : P.underlying t = some (.slice e)) (he : P.underlying e = some (.array 8 c)) (hu : P.underlying c = some (.int .u8)) (hc : P.cellsOf c = 1) (h8 : P.cellsOf e = 8)
    (hval : Value.okWide P W .any base t v) (hd : DataW.Trod enc P W 0 sp held t v d ps) : ∃ L Hs, RdS v L Hs ∧ L.length ≤ maxLen ∧ owned Hs = [] ∧ Holds W.heap.size W Hs W := by
  obtain ⟨a0, l0, c0, rfl⟩ := okWide_slice ht hval
  obtain ⟨fuel, hf⟩ := hd
  rcases DataW.trod_slice ht hf with ⟨hcs, _⟩ | ⟨a, len, cap, elems, rest, n, _, hcs, _, _, hl, hm, hlen, hel, _, _⟩
  · simp only [Value.cells, List.cons.injEq, and_true, Value.slice.injEq] at hcs
    obtain ⟨rfl, rfl, rfl⟩ := hcs
    exact ⟨[], [], ⟨none, 0, rfl, fun h => absurd rfl h⟩, Nat.zero_le _, rfl, Holds.start W⟩
  · simp only [Value.cells, List.cons.injEq, and_true, Value.slice.injEq] at hcs
    obtain ⟨rfl, rfl, rfl⟩ := hcs
    have each : ∀ i, i < l0 → ∃ x : StB, ∀ j, j < 8 → W.cell? ((a.add (i * 8)).add j) = (encS x)[j]? := fun i hi => by
      have h1 := hel i hi
      have e1 : elems[i]? = some (elems[i]'(by omega)) := List.getElem?_eq_getElem _
      rw [e1, h8, Option.bind_eq_some_iff] at h1
      obtain ⟨cs', hcs, hy⟩ := h1
      obtain ⟨x, rfl⟩ := trod_bytes8 he hu hc h8 hy
      exact ⟨x, (World.cells?_some hcs).2.2⟩
    obtain ⟨L, hL, hp⟩ := list_all l0 each
    subst hL
    by_cases h0 : L = []
    · subst h0
      exact ⟨[], [], ⟨some a, c0, rfl, fun h => absurd rfl h⟩, Nat.zero_le _, rfl, Holds.start W⟩
    · obtain ⟨b, off, spot⟩ := a
      have hpos : 0 < L.length := List.length_pos_iff.2 h0
      obtain ⟨x0, hx0⟩ : ∃ x, L[0]? = some x := ⟨_, List.getElem?_eq_getElem hpos⟩
      have g0 := hp 0 x0 hx0 0 (by omega)
      rw [List.getElem?_eq_getElem (by rw [encS_len]; omega)] at g0
      have hspot : spot = none := by simpa [Addr.add] using World.cell?_spot g0
      subst hspot
      have hlt : b < W.heap.size := by
        rcases Nat.lt_or_ge b W.heap.size with h | h
        · exact h
        · simp [World.cell?, Addr.add, Array.getElem?_eq_none h] at g0
      refine ⟨L, [.rd b off (L.flatMap encS)], ⟨_, c0, rfl, fun _ => ⟨b, off, rfl, m0⟩⟩, Nat.le_trans hl hm, rfl, Holds.start_rd hlt fun k v hv => ?_⟩
      obtain ⟨x, hx, hc⟩ := flat_cell hv
      have h1 := hp _ x hx (k % 8) (by omega)
      rw [Go.WideShapes.add_plain, Go.WideShapes.add_plain, hc] at h1
      rw [← h1]
      congr 2
      omega
theorem RdS.sub {c : Value} {L : List StB} {H H' : SL.Hp} (h : RdS c L H) (hs : ∀ x, x ∈ H → x ∈ H') : RdS c L H' := by
  obtain ⟨a, cap, h1, h4⟩ := h
  refine ⟨a, cap, h1, fun hL => ?_⟩
  obtain ⟨b, off, h5, h6⟩ := h4 hL
  exact ⟨b, off, h5, hs _ h6⟩
end Go.Proofs.YtmbbcmebdefggaaDoor
