/- Plain laws: writhe and cusps of a grid are told by Maslov gradings of its marks. -/
import Derived.Test.YthijakignhjmgaaPG
namespace Go.Proofs.Ythijakignhjmgaa
theorem ind_and {p q : Prop} [Decidable p] [Decidable q] : ind (p ∧ q) = ind p * ind q := by
  unfold ind
  by_cases hp : p <;> by_cases hq : q <;> simp [hp, hq]
theorem sm_neg (f : Nat → Int) : ∀ n, sm (fun i => - f i) n = - sm f n
  | 0 => rfl
  | n + 1 => by rw [sm, sm, sm_neg f n]; omega
/-- Marks, their places, no column with both in one row. -/
structure mk2 (n : Nat) (x xi o oi : Nat → Nat) : Prop where
  hx : invF x xi n
  ho : invF o oi n
  ne : ∀ i, i < n → x i ≠ o i
section
variable {n : Nat} {x xi o oi : Nat → Nat}
theorem mk2.swap (h : mk2 n x xi o oi) : mk2 n o oi x xi := ⟨h.ho, h.hx, fun i hi e => h.ne i hi e.symm⟩
theorem mk2.ne1 (h : mk2 n x xi o oi) {i : Nat} (hi : i < n) : oi (x i) ≠ i := fun e => by
  have := h.ho.left (x i) (h.hx.perm.1 i hi)
  rw [e] at this
  exact h.ne i hi this.symm
theorem mk2.ne2 (h : mk2 n x xi o oi) {r : Nat} (hr : r < n) : xi r ≠ oi r := fun e => by
  have a := h.hx.left r hr
  have b := h.ho.left r hr
  rw [← e] at b
  exact h.ne (xi r) (h.hx.iperm.1 r hr) (a.trans b.symm)
/-! Numbers of corners. -/
def cP (n : Nat) (x o : Nat → Nat) : Int := sm (fun i => ind (x i < o i)) n
def cQ (n : Nat) (x oi : Nat → Nat) : Int := sm (fun i => ind (i < oi (x i))) n
def cXSW (n : Nat) (x o oi : Nat → Nat) : Int := sm (fun i => ind (x i < o i ∧ i < oi (x i))) n
def cXNE (n : Nat) (x o oi : Nat → Nat) : Int := sm (fun i => ind (o i < x i ∧ oi (x i) < i)) n
theorem XNE_eq (h : mk2 n x xi o oi) : cXNE n x o oi = n - cP n x o - cQ n x oi + cXSW n x o oi := by
  unfold cXNE cP cQ cXSW
  have e : sm (fun i => ind (o i < x i ∧ oi (x i) < i)) n = sm (fun i => (1 - ind (x i < o i)) - ind (i < oi (x i)) + ind (x i < o i ∧ i < oi (x i))) n := sm_congr fun i hi => by
    have a := h.ne i hi
    have b := h.ne1 hi
    unfold ind
    by_cases c : x i < o i <;> by_cases d : i < oi (x i)
    · rw [if_neg (by omega), if_pos c, if_pos d, if_pos ⟨c, d⟩]; rfl
    · rw [if_neg (by omega), if_pos c, if_neg d, if_neg (by omega)]; rfl
    · rw [if_neg (by omega), if_neg c, if_pos d, if_neg (by omega)]; rfl
    · rw [if_pos (by omega), if_neg c, if_neg d, if_neg (by omega)]; rfl
  rw [e, sm_add, sm_sub, sm_sub, sm_const]
  omega
theorem cQ_swap (h : mk2 n x xi o oi) : sm (fun i => ind (xi (o i) < i)) n = cQ n x oi := by
  unfold cQ
  have e1 : sm (fun i => ind (xi (o i) < i)) n = sm (fun r => ind (xi r < oi r)) n := by
    rw [← sm_perm h.ho.perm (fun r => ind (xi r < oi r))]
    exact sm_congr fun i hi => ind_iff (by rw [h.ho.right i hi])
  have e2 : sm (fun i => ind (i < oi (x i))) n = sm (fun r => ind (xi r < oi r)) n := by
    rw [← sm_perm h.hx.perm (fun r => ind (xi r < oi r))]
    exact sm_congr fun i hi => ind_iff (by rw [h.hx.right i hi])
  rw [e1, e2]
theorem cP_swap (h : mk2 n x xi o oi) : cP n o x = n - cP n x o := by
  unfold cP
  exact sm_not n fun i hi => by have := h.ne i hi; omega
theorem cQ_other (h : mk2 n x xi o oi) : cQ n o xi = n - cQ n x oi := by
  rw [← cQ_swap h]
  unfold cQ
  exact sm_not n fun i hi => by have := h.swap.ne1 hi; omega
theorem E1_eq (h : mk2 n x xi o oi) : sm (fun i => ind (oi (x i) < i)) n = n - cQ n x oi := by
  unfold cQ
  exact sm_not n fun i hi => by have := h.ne1 hi; omega
/-! Pairs of equal rows. -/
theorem eq_pairs (hx : invF x xi n) (ho : invF o oi n) : sm (fun i => sm (fun k => ind (i < k ∧ x i = o k)) n) n = sm (fun i => ind (i < oi (x i))) n := by
  refine sm_congr fun i hi => ?_
  have hr := hx.perm.1 i hi
  rw [sm_single (c := oi (x i)) (ho.iperm.1 _ hr) fun k hk hne => ind_no fun e => hne (by rw [e.2, ho.right k hk])]
  exact ind_iff (by rw [ho.left _ hr]; exact ⟨fun e => e.1, fun e => ⟨e, rfl⟩⟩)
theorem jLE_eq (h : mk2 n x xi o oi) : jLE n x o = jLT n x o + cQ n x oi + cP n x o := by
  unfold jLE jLT cP
  have e : cQ n x oi = sm (fun i => sm (fun k => ind (i < k ∧ x i = o k)) n) n := (eq_pairs h.hx h.ho).symm
  rw [e, ← sm_add, ← sm_add]
  refine sm_congr fun i hi => ?_
  have e2 : ind (x i < o i) = sm (fun k => ind (k = i ∧ x i < o i)) n := by
    rw [sm_single (c := i) hi fun k hk hne => ind_no fun e => hne e.1]
    exact ind_iff (by simp)
  rw [e2, ← sm_add, ← sm_add]
  refine sm_congr fun k hk => ?_
  have a := h.ne i hi
  unfold ind
  by_cases c : k = i
  · subst c
    by_cases d : x k < o k
    · rw [if_pos (by omega), if_neg (by omega), if_neg (by omega), if_pos ⟨rfl, d⟩]; rfl
    · rw [if_neg (by omega), if_neg (by omega), if_neg (by omega), if_neg (fun e => d e.2)]; rfl
  · by_cases d : i < k
    · rcases Nat.lt_trichotomy (x i) (o k) with t | t | t
      · rw [if_pos (by omega), if_pos (by omega), if_neg (by omega), if_neg (by omega)]; rfl
      · rw [if_pos (by omega), if_neg (by omega), if_pos (by omega), if_neg (by omega)]; rfl
      · rw [if_neg (by omega), if_neg (by omega), if_neg (by omega), if_neg (by omega)]; rfl
    · rw [if_neg (by omega), if_neg (by omega), if_neg (by omega), if_neg (by omega)]; rfl
/-- Pairs the other way. -/
def gG (n : Nat) (f h : Nat → Nat) : Int := sm (fun i => sm (fun k => ind (f i < h k ∧ k < i)) n) n
def tT (n : Nat) : Int := sm (fun k => sm (fun i => ind (k < i)) n) n
theorem gG_eq {f h : Nat → Nat} : gG n f h + jLT n h f + sm (fun k => sm (fun i => ind (k < i ∧ h k = f i)) n) n = tT n := by
  unfold gG jLT tT
  rw [sm_comm, ← sm_add, ← sm_add]
  refine sm_congr fun k hk => ?_
  rw [← sm_add, ← sm_add]
  refine sm_congr fun i hi => ?_
  unfold ind
  by_cases d : k < i
  · rcases Nat.lt_trichotomy (h k) (f i) with t | t | t
    · rw [if_neg (by omega), if_pos (by omega), if_neg (by omega), if_pos d]; rfl
    · rw [if_neg (by omega), if_neg (by omega), if_pos (by omega), if_pos d]; rfl
    · rw [if_pos (by omega), if_neg (by omega), if_neg (by omega), if_pos d]; rfl
  · rw [if_neg (by omega), if_neg (by omega), if_neg (by omega), if_neg d]; rfl
theorem same_pairs (hx : invF x xi n) : sm (fun k => sm (fun i => ind (k < i ∧ x k = x i)) n) n = 0 :=
  sm_nil fun k hk => sm_nil fun i hi => ind_no fun e => by have := hx.perm.2 k i hk hi e.2; omega
/-- The main part of the writhe. -/
theorem AB_eq (h : mk2 n x xi o oi) : gG n x o - gG n x x - gG n o o + gG n o x = jLT n x x + jLT n o o - jLT n o x - jLT n x o - n := by
  have a := gG_eq (n := n) (f := x) (h := o)
  have b := gG_eq (n := n) (f := x) (h := x)
  have c := gG_eq (n := n) (f := o) (h := o)
  have d := gG_eq (n := n) (f := o) (h := x)
  rw [same_pairs h.hx] at b
  rw [same_pairs h.ho] at c
  rw [eq_pairs h.ho h.hx] at a
  rw [eq_pairs h.hx h.ho] at d
  have e1 : sm (fun i => ind (i < xi (o i))) n = n - cQ n x oi := by
    have := cQ_other h
    unfold cQ at this ⊢
    exact this
  have e2 : sm (fun i => ind (i < oi (x i))) n = cQ n x oi := rfl
  omega
/-! The writhe. -/
def sgn (x xi o oi : Nat → Nat) (i r : Nat) : Int := (ind (x i < r ∧ r < o i) - ind (o i < r ∧ r < x i)) * (ind (xi r < i ∧ i < oi r) - ind (oi r < i ∧ i < xi r))
def wr (n : Nat) (x xi o oi : Nat → Nat) : Int := sm (fun i => sm (fun r => sgn x xi o oi i r) n) n
def fA (x o : Nat → Nat) (i r : Nat) : Int := ind (x i < r) - ind (o i < r)
def fa (x o : Nat → Nat) (i r : Nat) : Int := ind (r = x i ∧ o i < x i) - ind (r = o i ∧ x i < o i)
def fB (xi oi : Nat → Nat) (i r : Nat) : Int := ind (oi r < i) - ind (xi r < i)
def fb (xi oi : Nat → Nat) (i r : Nat) : Int := ind (i = oi r ∧ xi r < oi r) - ind (i = xi r ∧ oi r < xi r)
theorem s_split {a b r : Nat} (h : a ≠ b) : ind (a < r ∧ r < b) - ind (b < r ∧ r < a) = (ind (a < r) - ind (b < r)) + (ind (r = a ∧ b < a) - ind (r = b ∧ a < b)) := by
  unfold ind
  rcases Nat.lt_trichotomy a b with c | c | c
  · rcases Nat.lt_trichotomy r a with d | d | d
    · rw [if_neg (by omega), if_neg (by omega), if_neg (by omega), if_neg (by omega), if_neg (by omega), if_neg (by omega)]; rfl
    · rw [if_neg (by omega), if_neg (by omega), if_neg (by omega), if_neg (by omega), if_neg (by omega), if_neg (by omega)]; rfl
    · rcases Nat.lt_trichotomy r b with e | e | e
      · rw [if_pos (by omega), if_neg (by omega), if_pos (by omega), if_neg (by omega), if_neg (by omega), if_neg (by omega)]; rfl
      · rw [if_neg (by omega), if_neg (by omega), if_pos (by omega), if_neg (by omega), if_neg (by omega), if_pos (by omega)]; rfl
      · rw [if_neg (by omega), if_neg (by omega), if_pos (by omega), if_pos (by omega), if_neg (by omega), if_neg (by omega)]; rfl
  · exact absurd c h
  · rcases Nat.lt_trichotomy r b with d | d | d
    · rw [if_neg (by omega), if_neg (by omega), if_neg (by omega), if_neg (by omega), if_neg (by omega), if_neg (by omega)]; rfl
    · rw [if_neg (by omega), if_neg (by omega), if_neg (by omega), if_neg (by omega), if_neg (by omega), if_neg (by omega)]; rfl
    · rcases Nat.lt_trichotomy r a with e | e | e
      · rw [if_neg (by omega), if_pos (by omega), if_neg (by omega), if_pos (by omega), if_neg (by omega), if_neg (by omega)]; rfl
      · rw [if_neg (by omega), if_neg (by omega), if_neg (by omega), if_pos (by omega), if_pos (by omega), if_neg (by omega)]; rfl
      · rw [if_neg (by omega), if_neg (by omega), if_pos (by omega), if_pos (by omega), if_neg (by omega), if_neg (by omega)]; rfl
theorem sgn_split (h : mk2 n x xi o oi) {i r : Nat} (hi : i < n) (hr : r < n) : sgn x xi o oi i r = - (fA x o i r * fB xi oi i r) - fa x o i r * fB xi oi i r - fA x o i r * fb xi oi i r - fa x o i r * fb xi oi i r := by
  have e1 := s_split (r := r) (h.ne i hi)
  have e2 := s_split (r := i) (h.ne2 hr)
  unfold sgn
  rw [e1, e2]
  have e3 : (ind (xi r < i) - ind (oi r < i)) + (ind (i = xi r ∧ oi r < xi r) - ind (i = oi r ∧ xi r < oi r)) = - (fB xi oi i r + fb xi oi i r) := by unfold fB fb; omega
  rw [e3]
  show (fA x o i r + fa x o i r) * -(fB xi oi i r + fb xi oi i r) = _
  rw [Int.mul_neg, Int.add_mul, Int.mul_add, Int.mul_add]
  omega
theorem sm_pick {F : Nat → Int} {c : Nat} {p : Prop} [Decidable p] (hc : c < n) : sm (fun r => ind (r = c ∧ p) * F r) n = ind p * F c := by
  rw [sm_single (c := c) hc fun r hr hne => by rw [ind_no (fun e => hne e.1), Int.zero_mul]]
  congr 1
  exact ind_iff (by simp)
theorem aB_eq (h : mk2 n x xi o oi) : sm (fun i => sm (fun r => fa x o i r * fB xi oi i r) n) n = cXNE n x o oi + cXNE n o x xi := by
  unfold cXNE
  rw [← sm_add]
  refine sm_congr fun i hi => ?_
  have hx := h.hx.perm.1 i hi
  have ho := h.ho.perm.1 i hi
  rw [sm_congr (g := fun r => ind (r = x i ∧ o i < x i) * fB xi oi i r - ind (r = o i ∧ x i < o i) * fB xi oi i r) fun r _ => by rw [← Int.sub_mul]; rfl, sm_sub, sm_pick hx, sm_pick ho]
  unfold fB
  rw [h.hx.right i hi, h.ho.right i hi, show ind (i < i) = 0 from ind_no (by omega), ind_and, ind_and, Int.sub_zero, Int.zero_sub, Int.mul_neg]
  omega
theorem Ab_eq (h : mk2 n x xi o oi) : sm (fun i => sm (fun r => fA x o i r * fb xi oi i r) n) n = cXNE n x o oi + cXNE n o x xi := by
  rw [sm_comm]
  have e : sm (fun r => sm (fun i => fA x o i r * fb xi oi i r) n) n = sm (fun r => ind (xi r < oi r) * ind (x (oi r) < r)) n + sm (fun r => ind (oi r < xi r) * ind (o (xi r) < r)) n := by
    rw [← sm_add]
    refine sm_congr fun r hr => ?_
    have hx := h.hx.iperm.1 r hr
    have ho := h.ho.iperm.1 r hr
    rw [sm_congr (g := fun i => ind (i = oi r ∧ xi r < oi r) * fA x o i r - ind (i = xi r ∧ oi r < xi r) * fA x o i r) fun i _ => by rw [← Int.sub_mul, Int.mul_comm]; rfl, sm_sub, sm_pick ho, sm_pick hx]
    unfold fA
    rw [h.hx.left r hr, h.ho.left r hr, show ind (r < r) = 0 from ind_no (by omega), Int.sub_zero, Int.zero_sub, Int.mul_neg]
    omega
  rw [e]
  unfold cXNE
  have e1 : sm (fun r => ind (xi r < oi r) * ind (x (oi r) < r)) n = sm (fun i => ind (x i < o i ∧ xi (o i) < i)) n := by
    rw [← sm_perm h.ho.perm (fun r => ind (xi r < oi r) * ind (x (oi r) < r))]
    exact sm_congr fun i hi => by rw [h.ho.right i hi, ind_and, Int.mul_comm]
  have e2 : sm (fun r => ind (oi r < xi r) * ind (o (xi r) < r)) n = sm (fun i => ind (o i < x i ∧ oi (x i) < i)) n := by
    rw [← sm_perm h.hx.perm (fun r => ind (oi r < xi r) * ind (o (xi r) < r))]
    exact sm_congr fun i hi => by rw [h.hx.right i hi, ind_and, Int.mul_comm]
  rw [e1, e2]
  omega
theorem ab_eq (h : mk2 n x xi o oi) : sm (fun i => sm (fun r => fa x o i r * fb xi oi i r) n) n = - (cXNE n x o oi + cXNE n o x xi) := by
  unfold cXNE
  rw [← sm_add, ← sm_neg]
  refine sm_congr fun i hi => ?_
  have hx := h.hx.perm.1 i hi
  have ho := h.ho.perm.1 i hi
  rw [sm_congr (g := fun r => ind (r = x i ∧ o i < x i) * fb xi oi i r - ind (r = o i ∧ x i < o i) * fb xi oi i r) fun r _ => by rw [← Int.sub_mul]; rfl, sm_sub, sm_pick hx, sm_pick ho]
  unfold fb
  have a := h.ne1 hi
  have b := h.swap.ne1 hi
  rw [h.hx.right i hi, h.ho.right i hi, show ind (i = oi (x i) ∧ i < oi (x i)) = 0 from ind_no (by omega), show ind (i = xi (o i) ∧ i < xi (o i)) = 0 from ind_no (by omega),
    show ind (i = i ∧ oi (x i) < i) = ind (oi (x i) < i) from ind_iff (by simp), show ind (i = i ∧ xi (o i) < i) = ind (xi (o i) < i) from ind_iff (by simp), ind_and, ind_and, Int.sub_zero, Int.zero_sub, Int.mul_neg]
  omega
theorem AB_sum (h : mk2 n x xi o oi) : sm (fun i => sm (fun r => fA x o i r * fB xi oi i r) n) n = gG n x o - gG n x x - gG n o o + gG n o x := by
  unfold gG
  rw [← sm_sub, ← sm_sub, ← sm_add]
  refine sm_congr fun i hi => ?_
  have e1 : sm (fun k => ind (x i < o k ∧ k < i)) n = sm (fun r => ind (x i < r) * ind (oi r < i)) n := by
    rw [← sm_perm h.ho.perm (fun r => ind (x i < r) * ind (oi r < i))]
    exact sm_congr fun k hk => by rw [h.ho.right k hk, ind_and]
  have e2 : sm (fun k => ind (x i < x k ∧ k < i)) n = sm (fun r => ind (x i < r) * ind (xi r < i)) n := by
    rw [← sm_perm h.hx.perm (fun r => ind (x i < r) * ind (xi r < i))]
    exact sm_congr fun k hk => by rw [h.hx.right k hk, ind_and]
  have e3 : sm (fun k => ind (o i < o k ∧ k < i)) n = sm (fun r => ind (o i < r) * ind (oi r < i)) n := by
    rw [← sm_perm h.ho.perm (fun r => ind (o i < r) * ind (oi r < i))]
    exact sm_congr fun k hk => by rw [h.ho.right k hk, ind_and]
  have e4 : sm (fun k => ind (o i < x k ∧ k < i)) n = sm (fun r => ind (o i < r) * ind (xi r < i)) n := by
    rw [← sm_perm h.hx.perm (fun r => ind (o i < r) * ind (xi r < i))]
    exact sm_congr fun k hk => by rw [h.hx.right k hk, ind_and]
  rw [e1, e2, e3, e4, ← sm_sub, ← sm_sub, ← sm_add]
  refine sm_congr fun r _ => ?_
  unfold fA fB
  rw [Int.sub_mul, Int.mul_sub, Int.mul_sub]
  omega
theorem wr_eq (h : mk2 n x xi o oi) : wr n x xi o oi = - (gG n x o - gG n x x - gG n o o + gG n o x) - cXNE n x o oi - cXNE n o x xi := by
  have e : wr n x xi o oi = - sm (fun i => sm (fun r => fA x o i r * fB xi oi i r) n) n - sm (fun i => sm (fun r => fa x o i r * fB xi oi i r) n) n - sm (fun i => sm (fun r => fA x o i r * fb xi oi i r) n) n - sm (fun i => sm (fun r => fa x o i r * fb xi oi i r) n) n := by
    unfold wr
    rw [← sm_neg, ← sm_sub, ← sm_sub, ← sm_sub]
    refine sm_congr fun i hi => ?_
    rw [← sm_neg, ← sm_sub, ← sm_sub, ← sm_sub]
    exact sm_congr fun r hr => sgn_split h hi hr
  rw [e, AB_sum h, aB_eq h, Ab_eq h, ab_eq h]
  omega
/-- Letters: those that are told with u, and with d. -/
def cU (n : Nat) (x xi o oi : Nat → Nat) : Int := cXSW n x o oi + cXNE n o x xi
def cD (n : Nat) (x xi o oi : Nat → Nat) : Int := cXNE n x o oi + cXSW n o x xi
theorem wu_eq (h : mk2 n x xi o oi) : - wr n x xi o oi - cU n x xi o oi = mas n x o - 1 := by
  have a := wr_eq h
  have b := AB_eq h
  have c := jLE_eq h
  have d := XNE_eq h
  unfold mas cU
  omega
theorem wd_eq (h : mk2 n x xi o oi) : - wr n x xi o oi - cD n x xi o oi = mas n o x - 1 := by
  have a := wr_eq h
  have b := AB_eq h
  have c := jLE_eq h.swap
  have d := XNE_eq h.swap
  have e := cP_swap h
  have f := cQ_other h
  unfold mas cD
  omega
theorem even_eq (h : mk2 n x xi o oi) : ∃ k : Int, cU n x xi o oi + cD n x xi o oi = 2 * k := by
  have d := XNE_eq h
  have d' := XNE_eq h.swap
  have e := cP_swap h
  have f := cQ_other h
  refine ⟨cXSW n x o oi + cXNE n o x xi + (n - cP n x o - cQ n x oi), ?_⟩
  unfold cU cD
  omega
end
end Go.Proofs.Ythijakignhjmgaa
