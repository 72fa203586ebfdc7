/- Grids of bytes: their cells, one after the other; their order, by a number. -/
import Derived.Test.YtflleelfkknfaaaPK
import Derived.Test.YtflleelfkknfaaaPO
namespace Go.Proofs.Ytflleelfkknfaaa
open Go Go.RowKit SL
/-- Grids of bytes. -/
abbrev GridB : Type := { p : Int × List Nat × List Nat // isB p.2.1 ∧ isB p.2.2 }
theorem isB8 : isB Z8 := ⟨rfl, fun i => by
  rw [List.getD_eq_getElem?_getD, List.getElem?_replicate]
  split <;> simp⟩
instance : Inhabited GridB := ⟨⟨(0, Z8, Z8), isB8, isB8⟩⟩
def encG (p : GridB) : List Value := gv p.1.1 p.1.2.1 p.1.2.2
theorem encG_len (x : GridB) : (encG x).length = 17 := gv_len x.2.1.1 x.2.2.1
theorem flat_len (l : List GridB) : (l.flatMap encG).length = l.length * 17 := by
  induction l with
  | nil => rfl
  | cons x l ih => rw [List.flatMap_cons, List.length_append, ih, encG_len, List.length_cons]; omega
theorem flat_get : ∀ (l : List GridB) (t : Nat), t < l.length * 17 → (l.flatMap encG)[t]? = (encG (l.getD (t / 17) default))[t % 17]?
  | [], t, h => by simp at h
  | x :: l, t, h => by
    rw [List.flatMap_cons]
    by_cases ht : t < 17
    · rw [List.getElem?_append_left (by rw [encG_len]; exact ht), Nat.div_eq_of_lt ht, Nat.mod_eq_of_lt ht]; rfl
    · rw [List.getElem?_append_right (by rw [encG_len]; omega), encG_len, flat_get l (t - 17) (by rw [List.length_cons] at h; omega)]
      have e1 : t / 17 = (t - 17) / 17 + 1 := by omega
      have e2 : (t - 17) % 17 = t % 17 := by omega
      rw [e1, e2]; rfl
theorem encG_one (x : GridB) : ∀ u ∈ encG x, u.oneCell' = true := gv_one _ _ _
theorem flat_one (l : List GridB) : ∀ u ∈ l.flatMap encG, u.oneCell' = true := fun u hu => by
  obtain ⟨x, _, h⟩ := List.mem_flatMap.1 hu
  exact gv_one _ _ _ u h
theorem flat_at : ∀ {l : List GridB} {j : Nat} {x : GridB}, l[j]? = some x → ((l.flatMap encG).drop (j * 17)).take 17 = encG x
  | [], _, _, h => by simp at h
  | y :: l, 0, x, h => by
    have : y = x := by simpa using h
    subst this
    rw [List.flatMap_cons, Nat.zero_mul, List.drop_zero, List.take_left' (encG_len y)]
  | y :: l, j + 1, x, h => by
    have ih := flat_at (l := l) (j := j) (x := x) (by simpa using h)
    rw [List.flatMap_cons, show (j + 1) * 17 = (encG y).length + j * 17 by rw [encG_len]; omega, List.drop_append, List.drop_eq_nil_of_le (by omega), List.nil_append, Nat.add_sub_cancel_left]
    exact ih
theorem flat_drop : ∀ (l : List GridB) (i : Nat), (l.flatMap encG).drop (i * 17) = (l.drop i).flatMap encG
  | l, 0 => by rw [Nat.zero_mul]; rfl
  | [], i + 1 => by simp
  | y :: l, i + 1 => by
    rw [List.flatMap_cons, show (i + 1) * 17 = (encG y).length + i * 17 by rw [encG_len]; omega, List.drop_append, List.drop_eq_nil_of_le (by omega), List.nil_append, Nat.add_sub_cancel_left, List.drop_succ_cons]
    exact flat_drop l i
theorem flat_take : ∀ (l : List GridB) (i : Nat), (l.flatMap encG).take (i * 17) = (l.take i).flatMap encG
  | l, 0 => by rw [Nat.zero_mul]; simp
  | [], i + 1 => by simp
  | y :: l, i + 1 => by
    rw [List.flatMap_cons, show (i + 1) * 17 = (encG y).length + i * 17 by rw [encG_len]; omega, List.take_length_add_append, List.take_succ_cons, List.flatMap_cons, flat_take l i]
/-- The number by which grids are in order. -/
def rkG (p : GridB) : Int := p.1.1 * 340282366920938463463374607431768211456 + (keyG p.1.2.1 p.1.2.2 : Nat)
theorem keyG_bd {X O : List Nat} (bX : isB X) (bO : isB O) : keyG X O < 340282366920938463463374607431768211456 := by
  rw [keyG_eq bO.1]
  have h1 := key_bd bX
  have h2 := key_bd bO
  omega
theorem rkG_inj {p q : GridB} (h : rkG p = rkG q) : p = q := by
  obtain ⟨⟨n, X, O⟩, bX, bO⟩ := p
  obtain ⟨⟨m, Y, U⟩, bY, bU⟩ := q
  have h1 := keyG_bd bX bO
  have h2 := keyG_bd bY bU
  unfold rkG at h
  dsimp only at h h1 h2 bX bO bY bU
  have e1 : n = m := by omega
  have e2 : keyG X O = keyG Y U := by omega
  obtain ⟨rfl, rfl⟩ := keyG_inj bX bO bY bU e2
  subst e1
  rfl
theorem rkG_lt (p q : GridB) : rkG p < rkG q ↔ p.1.1 < q.1.1 ∨ p.1.1 = q.1.1 ∧ keyG p.1.2.1 p.1.2.2 < keyG q.1.2.1 q.1.2.2 := by
  have h1 := keyG_bd p.2.1 p.2.2
  have h2 := keyG_bd q.2.1 q.2.2
  unfold rkG
  omega
end Go.Proofs.Ytflleelfkknfaaa
