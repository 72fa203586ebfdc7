/- Rows: the shape of slices of bytes. -/
import Derived.Test.YthijakignhjmgaaR
import Derived.Test.YthijakignhjmgaaGE
import Derived.ChangeSlices
namespace Go.Proofs.Ythijakignhjmgaa
open Go Go.RowKit Go.ChangeShapes Go.WideShapes Go.ChangeAt SL
theorem open_code {H : Type} {enc : TypeId × Value → H} {P : Program} {W : World} {base : Nat} {sp : Nat → Bool} {held : Bool} {t e : TypeId} {v : Value} {d : DataW H} {ps : List MemPlace} (ht : P.underlying t = some (.slice e)) (he : P.underlying e = some (.int .u8)) (hc : P.cellsOf e = 1)
    (hval : Value.okWide P W .any base t v) (hd : DataW.Trod enc P W 0 sp held t v d ps) : ∃ L Hs, CodeIn v L Hs ∧ Holds W.heap.size W Hs W := by
  obtain ⟨a0, l0, c0, rfl⟩ := okWide_slice ht hval
  obtain ⟨fuel, hf⟩ := hd
  rcases Go.ChangeShapes.open_ints ht he hc hf with ⟨hcs, _⟩ | ⟨a, len, cap, zs, hcs, _, hle, hm, hlen, _, hcell, hwf⟩
  · simp only [Value.cells, List.cons.injEq, and_true, Value.slice.injEq] at hcs
    obtain ⟨rfl, rfl, rfl⟩ := hcs
    exact ⟨[], [], ⟨none, 0, rfl, by simp, by simp, by simp⟩, Holds.start W⟩
  · simp only [Value.cells, List.cons.injEq, and_true, Value.slice.injEq] at hcs
    obtain ⟨rfl, rfl, rfl⟩ := hcs
    have hlz : l0 ≤ zs.length := by rw [hlen]; split <;> omega
    have hz : ∀ z ∈ zs, 0 ≤ z ∧ z ≤ 255 := fun z hz => by
      have := hwf z hz
      simp only [Lit.wf, Bool.and_eq_true, decide_eq_true_eq] at this
      exact this
    have hL : ((zs.take l0).map Int.toNat).length = l0 := by rw [List.length_map, List.length_take]; omega
    have hg : ∀ i, i < l0 → ((zs.take l0).map Int.toNat).getD i 0 = (zs.getD i 0).toNat ∧ 0 ≤ zs.getD i 0 ∧ zs.getD i 0 ≤ 255 := fun i hi => by
      have e1 : zs[i]? = some (zs[i]'(by omega)) := List.getElem?_eq_getElem _
      have e2 := hz _ (List.getElem_mem (h := (by omega : i < zs.length)))
      rw [List.getD_eq_getElem?_getD, List.getD_eq_getElem?_getD, List.getElem?_map, List.getElem?_take_of_lt hi, e1]
      exact ⟨rfl, e2⟩
    have hb : ∀ i, ((zs.take l0).map Int.toNat).getD i 0 < 256 := fun i => by
      by_cases hi : i < l0
      · have := hg i hi
        omega
      · rw [List.getD_eq_getElem?_getD, List.getElem?_eq_none (by omega)]; decide
    by_cases h0 : l0 = 0
    · subst h0
      exact ⟨[], [], ⟨some a, c0, rfl, by simp, by simp, by simp⟩, Holds.start W⟩
    · obtain ⟨b, off, spot⟩ := a
      have g0 := hcell 0 (by omega)
      have hspot : spot = none := by simpa [Addr.add] using World.cell?_spot g0
      subst hspot
      have hlt : b < W.heap.size := by
        rcases Nat.lt_or_ge b W.heap.size with h | h
        · exact h
        · simp [World.cell?, Addr.add, Array.getElem?_eq_none h] at g0
      refine ⟨(zs.take l0).map Int.toNat, [.rd b off (u8s ((zs.take l0).map Int.toNat))], ⟨_, c0, by rw [hL], by rw [hL]; exact Nat.le_trans (Nat.le_trans hle hm) (by decide), hb, fun _ => ⟨b, off, rfl, m0⟩⟩, Holds.start_rd hlt fun i v hv => ?_⟩
      have hi : i < l0 := by
        have := (List.getElem?_eq_some_iff.1 hv).1
        rw [u8s_len, hL] at this
        exact this
      have h1 := hg i hi
      have h2 := hcell i (by omega)
      rw [Go.WideShapes.add_plain] at h2
      rw [h2]
      rw [u8s_get (by omega)] at hv
      cases hv
      rw [h1.1]
      congr 2
      omega
end Go.Proofs.Ythijakignhjmgaa
