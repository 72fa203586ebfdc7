/- Rows: the shape of states. -/
import Derived.Test.YtlgoepajebnilaaR
namespace Go.Proofs.Ytlgoepajebnilaa
open Go Go.RowKit Go.ChangeShapes Go.WideShapes Go.ChangeAt SL
def byteKinds : List IntKind := List.replicate 8 .u8
theorem open_bytes8 {P : Program} {W : World} {base : Nat} {t : TypeId} {v : Value} (ht : (P.underlying t).any TypeDesc.isRow = true) (hc : P.cellsOf t = 8) (hk : kindsOf P t = byteKinds.map some) (h : Value.okWide P W .any base t v) :
    ∃ x, v = .agg (u8s x).toArray ∧ isB x := by
  obtain ⟨cs, rfl, hn, hr⟩ := okWide_row ht h
  have hn' : cs.size = 8 := hn.trans hc
  have hi := cells_int hk (by rw [hn']; rfl) hr
  obtain ⟨T, hT, lT, bT⟩ := list_u8 8 (l := cs.toList) (by simpa using hn') (fun i h => by
    have := hi i (by simp [byteKinds]; omega)
    have e : byteKinds[i]'(by simp [byteKinds]; omega) = .u8 := by
      have hall : ∀ j : Fin 8, byteKinds[j.1]'(by simp [byteKinds]) = .u8 := by decide
      exact hall ⟨i, h⟩
    rw [e] at this
    simpa using this)
  exact ⟨T, by rw [← hT], lT, bT⟩
end Go.Proofs.Ytlgoepajebnilaa
