/- Rows: the shape of mosaics. -/
import Derived.Test.YthijakignhjmgaaR
import Derived.Test.YthijakignhjmgaaWQ
namespace Go.Proofs.Ythijakignhjmgaa
open Go Go.RowKit Go.ChangeShapes Go.WideShapes Go.ChangeAt SL
def mosKinds : List IntKind := .i64 :: List.replicate 64 .u8
theorem open_mosaic {P : Program} {W : World} {base : Nat} {t : TypeId} {v : Value} (ht : (P.underlying t).any TypeDesc.isRow = true) (hc : P.cellsOf t = 65) (hk : kindsOf P t = mosKinds.map some) (h : Value.okWide P W .any base t v) :
    ∃ n T, v = .agg (mv n T).toArray ∧ isB64 T ∧ IntKind.i64.has n := by
  obtain ⟨cs, rfl, hn, hr⟩ := okWide_row ht h
  have hn' : cs.size = 65 := hn.trans hc
  have hi := cells_int hk (by rw [hn']; rfl) hr
  have hl : cs.toList.length = 65 := by simpa using hn'
  obtain ⟨z, hz, hh⟩ := hi 0 (by decide)
  have hz' : cs.toList[0]? = some (.int .i64 z) := by simpa [mosKinds] using hz
  have hu : ∀ i, i < 64 → ∃ z, cs.toList[1 + i]? = some (.int .u8 z) ∧ IntKind.u8.has z := fun i h => by
    have := hi (1 + i) (by simp [mosKinds]; omega)
    have e : mosKinds[1 + i]'(by simp [mosKinds]; omega) = .u8 := by
      have hall : ∀ j : Fin 65, j.1 ≠ 0 → mosKinds[j.1]'(by simp [mosKinds]) = .u8 := by decide
      exact hall ⟨1 + i, by omega⟩ (by show 1 + i ≠ 0; omega)
    rw [e] at this
    simpa using this
  have e0 : cs = cs.toList.toArray := by simp
  generalize cs.toList = l at *
  subst e0
  match l, hl with
  | v :: r, hl =>
    simp only [List.getElem?_cons_zero, Option.some.injEq] at hz'
    obtain ⟨T, hT, lT, bT⟩ := list_u8 64 (l := r) (by simpa using hl) (fun i hi => by
      have := hu i hi
      rwa [show 1 + i = i + 1 by omega, List.getElem?_cons_succ] at this)
    exact ⟨z, T, by rw [hz', mv, ← hT], ⟨lT, bT⟩, hh⟩
end Go.Proofs.Ythijakignhjmgaa
