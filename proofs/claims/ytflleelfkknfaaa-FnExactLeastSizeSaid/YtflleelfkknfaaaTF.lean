/- Walks: the reading of lists of states: out of arguments, equal, marked, held. -/
import Derived.Test.YtflleelfkknfaaaFL
import Derived.Test.YtflleelfkknfaaaAP
import Derived.Test.YtflleelfkknfaaaWB
namespace Go.Proofs.Ytflleelfkknfaaa
open Go Go.RowKit SL
namespace SL
section
variable {P : Program} {B : Nat} {w0 : World} {n : Nat} {Q : Po} {F : Fr} {H H1 H2 : Hp} {ops : Array Oper} {l : List Oper} {ty : TypeId} {pos : String} {af : Array Edge} {d : Nat} {dst : Option Tmp} {g : Option (Nat × Bool)}
/-- A store of some cells into a row. -/
theorem J_sRA {T e : TypeId} {x y : Operand} {o s sz : Nat} {xs xs' ds : List Value} {v : Value} {H' : Value → List Value → Hp} [hT : IsAg P T s] (hx : ev F x = some (.pointer (some ⟨gb v, o, none⟩))) (hy : ev F y = some (.agg ds.toArray)) (hu : RF v H e sz xs H') (hc : ds.length = s) (h1 : ∀ u ∈ ds, u.oneCell' = true)
    (hs : 0 < s) (hl : o + s ≤ xs.length) (hcs : xs.take o ++ ds ++ xs.drop (o + s) = xs') (k : J false P B w0 n ops Q l F (H' v xs')) : J false P B w0 n ops Q (⟨none, .store T x y, ty, pos, af, none⟩ :: l) F H := by
  obtain ⟨H1, H2, rfl, h2⟩ := hu.out
  clear hu
  refine J_doS fun a w ha hw => ?_
  obtain ⟨m, hown⟩ := hw.row_slice (v := v) (e := e) (sz := sz) (xs := xs) (by simp)
  rcases hown.2 with ⟨rfl, h0⟩ | ⟨gg, cap, cur, rfl, hB, hg, hnc, hcm, hsz, htake⟩
  · have := hown.1
    subst h0
    rw [Nat.zero_mul] at this
    omega
  · have hxl : xs.length ≤ cur.size := by rw [hown.1, hsz]; exact Nat.mul_le_mul_right _ hnc
    have hx' := ha.ev hx
    have hgb : gb (.slice (some ⟨gg, 0, none⟩) m cap) = gg := rfl
    rw [hgb] at hx'
    have hr := storeRun (P := P) (w := w) (b := gg) (o := o) (v := .agg ds.toArray) (E := e) (cur := cur) (sizeOf_run hT.out.1) (by simpa [Value.cells] using hc) (by simpa [Value.cells] using h1) hg (by omega)
    have k' : J false P B w0 n ops Q l F (H1 ++ .row (.slice (some ⟨gg, 0, none⟩) m cap) e sz xs' :: H2) := by rw [← h2]; exact k
    refine ⟨w.setRow gg (cur.toList.take o ++ (Value.agg ds.toArray).cells.toList ++ cur.toList.drop (o + s)).toArray, H1 ++ .row (.slice (some ⟨gg, 0, none⟩) m cap) e sz xs' :: H2, ?_, ?_, k'⟩
    · simp only [execOp, hx', ha.ev hy]
      rw [Sem.run_bind, hr]; rfl
    · refine hw.swap rfl rfl rfl (by simp) (Nat.le_refl _) (fun k _ hk => setRow_other w gg k _ (fun e' => hk (by rw [e']; rfl))) ⟨m, ?_, .inr ⟨gg, cap, _, rfl, hB, setRow_heap w gg _ _ e _ hg, hnc, hcm, ?_, ?_⟩⟩ (fun k hk => .inl hk)
      · rw [← hcs]
        simp only [List.length_append, List.length_take, List.length_drop, hc]
        rw [← hown.1]; omega
      · simp only [Value.cells, List.size_toArray, List.length_append, List.length_take, List.length_drop, Array.length_toList, hc]
        rw [← hsz]; omega
      · rw [← hcs]
        simp only [Value.cells]
        have e1 : xs.take o = cur.toList.take o := by rw [← htake, List.take_take, Nat.min_eq_left (by rw [← hown.1]; omega)]
        have e2 : xs.drop (o + s) = (cur.toList.drop (o + s)).take (m * sz - (o + s)) := by rw [← htake, List.drop_take]
        rw [e1, e2, List.append_assoc, List.append_assoc, List.take_append, List.take_append]
        have h3 : (cur.toList.take o).length = o := by rw [List.length_take, Array.length_toList]; omega
        have hms : o + s ≤ m * sz := by rw [← hown.1]; exact hl
        rw [h3, List.take_take, Nat.min_eq_right (by omega), List.take_of_length_le (l := ds) (by omega), hc]
        congr 3
        omega
end
end SL
end Go.Proofs.Ytflleelfkknfaaa
