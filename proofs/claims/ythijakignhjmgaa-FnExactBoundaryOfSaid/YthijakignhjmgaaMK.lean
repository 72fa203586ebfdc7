/- Plain: marks laid into a row, cell by cell. -/
import Derived.Test.YthijakignhjmgaaAP
namespace Go.Proofs.Ythijakignhjmgaa
open Go
/-- The first t marks. -/
def mkL (f : Nat → Value) (t : Nat) : List Value := (List.range t).map f
theorem mkL_len (f : Nat → Value) (t : Nat) : (mkL f t).length = t := by simp [mkL]
theorem mkL_get {f : Nat → Value} {t o : Nat} {v : Value} (h : o < t) (hv : f o = v) : (mkL f t)[o]? = some v := by
  subst hv
  simp [mkL, h]
theorem mkL_rest {f : Nat → Value} {xs : List Value} {t : Nat} (ht : t ≤ xs.length) : (mkL f t ++ xs.drop t).length = xs.length := by
  rw [List.length_append, mkL_len, List.length_drop]; omega
theorem mkL_set {f : Nat → Value} {xs : List Value} {t o : Nat} {u : Value} (ho : o = t) (hu : f t = u) (ht : t < xs.length) : (mkL f t ++ xs.drop t).set o u = mkL f (t + 1) ++ xs.drop (t + 1) := by
  subst ho hu
  have e : xs.drop o = xs[o] :: xs.drop (o + 1) := List.drop_eq_getElem_cons ht
  rw [List.set_append_right _ _ (by rw [mkL_len]; exact Nat.le_refl _), mkL_len, Nat.sub_self, e, List.set_cons_zero, mkL, mkL, List.range_succ, List.map_append, List.append_assoc]
  rfl
theorem mkL_all {f : Nat → Value} {xs : List Value} {t : Nat} (ht : t = xs.length) : mkL f t ++ xs.drop t = mkL f t := by
  subst ht
  rw [List.drop_length, List.append_nil]
theorem wrap8m (a : Nat) : IntKind.u8.wrap (a : Int) = ((a % 256 : Nat) : Int) := by
  simp only [IntKind.wrap, IntKind.bits, IntKind.signed, Bool.false_and, Bool.false_eq_true, if_false]
  omega
end Go.Proofs.Ythijakignhjmgaa
