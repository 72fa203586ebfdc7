/- Plain: operations on states that count empty rectangles with given marks inside, and how they commute. Plain: the marks of a grid; what the operations do to grades; a knot's operations undo each other. Plain: the operations on states of a knot split its homology. Plain: the boundary as an operation; ranks by leading places are dimensions of boundaries. Plain: a knot has an odd number of states with some Alexander number. Plain: Alexander numbers as sums; a knot has an odd number of states of some Alexander number. -/
import Derived.Test.YtmbbcmebdefggaaGreatDoorVH
import Derived.Test.YtmbbcmebdefggaaGreatDoorCO
import Derived.Test.YtmbbcmebdefggaaGreatDoorVA
namespace Go.Proofs.YtmbbcmebdefggaaGreatDoor
/-! What two rectangles see together. -/
/-- Of the marks just those of T are covered. -/
def has (Mk : List (Nat × Nat)) (c : Nat × Nat → Bool) (T : List (Nat × Nat)) : Bool := Mk.all fun p => c p == T.elem p
def totIs (Mk : List (Nat × Nat)) (c1 c2 : Nat × Nat → Bool) (T : List (Nat × Nat)) : Bool := Mk.all fun p => (c1 p).toNat + (c2 p).toNat == T.count p
def offB (Mk : List (Nat × Nat)) (c : Nat × Nat → Bool) (p q : Nat × Nat) : Bool := Mk.all fun r => (r == p || r == q) || !(c r)
section
variable {Mk : List (Nat × Nat)} {p q : Nat × Nat}
theorem has_eq (hp : p ∈ Mk) (hq : q ∈ Mk) (c : Nat × Nat → Bool) {T : List (Nat × Nat)} (hT : ∀ r ∈ T, r = p ∨ r = q) : has Mk c T = (offB Mk c p q && ((c p == T.elem p) && (c q == T.elem q))) := by
  rw [Bool.eq_iff_iff]
  unfold has offB
  simp only [List.all_eq_true, Bool.and_eq_true, Bool.or_eq_true, beq_iff_eq, Bool.not_eq_true']
  constructor
  · intro h
    refine ⟨fun r hr => ?_, h p hp, h q hq⟩
    have h1 := h r hr
    by_cases e : r ∈ T
    · exact .inl (hT r e)
    · exact .inr (by rw [h1]; simpa using e)
  · rintro ⟨h1, h2, h3⟩ r hr
    rcases h1 r hr with (rfl | rfl) | h
    · exact h2
    · exact h3
    · by_cases e : r ∈ T
      · rcases hT r e with rfl | rfl
        · exact h2
        · exact h3
      · rw [h]
        simpa using e
theorem tot_eq (hp : p ∈ Mk) (hq : q ∈ Mk) (c1 c2 : Nat × Nat → Bool) {T : List (Nat × Nat)} (hT : ∀ r ∈ T, r = p ∨ r = q) : totIs Mk c1 c2 T = ((offB Mk c1 p q && offB Mk c2 p q) && (((c1 p).toNat + (c2 p).toNat == T.count p) && ((c1 q).toNat + (c2 q).toNat == T.count q))) := by
  rw [Bool.eq_iff_iff]
  unfold totIs offB
  simp only [List.all_eq_true, Bool.and_eq_true, Bool.or_eq_true, beq_iff_eq, Bool.not_eq_true']
  constructor
  · intro h
    have k : ∀ r ∈ Mk, (r = p ∨ r = q) ∨ (c1 r = false ∧ c2 r = false) := fun r hr => by
      have h1 := h r hr
      by_cases e : r ∈ T
      · exact .inl (hT r e)
      · rw [List.count_eq_zero.2 e] at h1
        cases e1 : c1 r <;> cases e2 : c2 r <;> rw [e1, e2] at h1 <;> first | exact .inr ⟨rfl, rfl⟩ | cases h1
    exact ⟨⟨fun r hr => (k r hr).imp id fun h => h.1, fun r hr => (k r hr).imp id fun h => h.2⟩, h p hp, h q hq⟩
  · rintro ⟨⟨h1, h2⟩, h3, h4⟩ r hr
    by_cases e : r = p ∨ r = q
    · rcases e with rfl | rfl
      · exact h3
      · exact h4
    · rw [(h1 r hr).resolve_left e, (h2 r hr).resolve_left e, List.count_eq_zero.2 fun k => e (hT r k)]
      rfl
/-- Nothing. -/
theorem tot0 (hp : p ∈ Mk) (c1 c2 : Nat × Nat → Bool) : totIs Mk c1 c2 [] = (has Mk c1 [] && has Mk c2 []) := by
  rw [tot_eq hp hp c1 c2 (fun r h => by cases h), has_eq hp hp c1 (fun r h => by cases h), has_eq hp hp c2 (fun r h => by cases h)]
  simp only [List.elem_nil, List.count_nil]
  generalize offB Mk c1 p p = z1
  generalize offB Mk c2 p p = z2
  generalize c1 p = a
  generalize c2 p = b
  revert z1 z2 a b
  decide
theorem elem_self (r : Nat × Nat) : List.elem r [r] = true := by simp
/-- One mark. -/
theorem tot1 (hp : p ∈ Mk) (c1 c2 : Nat × Nat → Bool) : totIs Mk c1 c2 [p] = ((has Mk c1 [p] && has Mk c2 []) ^^ (has Mk c1 [] && has Mk c2 [p])) := by
  have h1 : ∀ r ∈ [p], r = p ∨ r = p := fun r h => .inl (List.mem_singleton.1 h)
  rw [tot_eq hp hp c1 c2 h1, has_eq hp hp c1 h1, has_eq hp hp c2 h1, has_eq hp hp c1 (fun r h => by cases h), has_eq hp hp c2 (fun r h => by cases h)]
  rw [elem_self, show [p].count p = 1 by simp]
  simp only [List.elem_nil]
  generalize offB Mk c1 p p = z1
  generalize offB Mk c2 p p = z2
  generalize c1 p = a
  generalize c2 p = b
  revert z1 z2 a b
  decide
/-- One mark twice. -/
theorem tot11 (hp : p ∈ Mk) (c1 c2 : Nat × Nat → Bool) : totIs Mk c1 c2 [p, p] = (has Mk c1 [p] && has Mk c2 [p]) := by
  have h1 : ∀ r ∈ [p], r = p ∨ r = p := fun r h => .inl (List.mem_singleton.1 h)
  rw [tot_eq hp hp c1 c2 (T := [p, p]) (fun r h => by simp at h; exact .inl h), has_eq hp hp c1 h1, has_eq hp hp c2 h1]
  rw [elem_self, show [p, p].count p = 2 by simp]
  generalize offB Mk c1 p p = z1
  generalize offB Mk c2 p p = z2
  generalize c1 p = a
  generalize c2 p = b
  revert z1 z2 a b
  decide
/-- Two marks. -/
theorem tot2 (hp : p ∈ Mk) (hq : q ∈ Mk) (hpq : p ≠ q) (c1 c2 : Nat × Nat → Bool) : totIs Mk c1 c2 [p, q] = (((has Mk c1 [p] && has Mk c2 [q]) ^^ (has Mk c1 [q] && has Mk c2 [p])) ^^ ((has Mk c1 [p, q] && has Mk c2 []) ^^ (has Mk c1 [] && has Mk c2 [p, q]))) := by
  have h1 : ∀ r ∈ [p], r = p ∨ r = q := fun r h => .inl (List.mem_singleton.1 h)
  have h2 : ∀ r ∈ [q], r = p ∨ r = q := fun r h => .inr (List.mem_singleton.1 h)
  have h3 : ∀ r ∈ [p, q], r = p ∨ r = q := fun r h => by simp at h; exact h
  have h0 : ∀ r ∈ ([] : List (Nat × Nat)), r = p ∨ r = q := fun r h => by cases h
  rw [tot_eq hp hq c1 c2 h3, has_eq hp hq c1 h1, has_eq hp hq c2 h1, has_eq hp hq c1 h2, has_eq hp hq c2 h2, has_eq hp hq c1 h3, has_eq hp hq c2 h3, has_eq hp hq c1 h0, has_eq hp hq c2 h0]
  rw [elem_self, elem_self, show [p, q].count p = 1 by simp [hpq.symm], show [p, q].count q = 1 by simp [hpq], show List.elem p [q] = false by simp [hpq], show List.elem q [p] = false by simp [hpq.symm], show List.elem p [p, q] = true by simp, show List.elem q [p, q] = true by simp]
  simp only [List.elem_nil]
  generalize offB Mk c1 p q = z1
  generalize offB Mk c2 p q = z2
  generalize c1 p = a
  generalize c2 p = b
  generalize c1 q = c
  generalize c2 q = e
  revert z1 z2 a b c e
  decide
end
/-! The operations. -/
def fx (x : StB) : Nat → Nat := fun i => x.1.getD i 0
def swB (x : StB) (a b : Nat) : StB := ⟨(x.1.set a (x.1.getD b 0)).set b (x.1.getD a 0), isB_set (isB_set x.2 (x.2.2 _)) (x.2.2 _)⟩
theorem fx_swB {x : StB} {a b : Nat} (ha : a < 8) (hb : b < 8) : fx (swB x a b) = sw (fx x) a b := funext fun i => by
  unfold fx swB sw
  dsimp only
  rw [getD_set8' ((List.length_set ..).trans x.2.1) hb, getD_set8' x.2.1 ha]
  simp only [eq_comm]
/-- All states. -/
structure AllSt (n : Nat) (L : List StB) : Prop where
  nd : L.Nodup
  mem : ∀ x, x ∈ L ↔ isPerm x.1 n
theorem fx_perm {n : Nat} {x : StB} (h : isPerm x.1 n) : permF (fx x) n := h.permF
theorem stB_ext {n : Nat} {x y : StB} (hx : isPerm x.1 n) (hy : isPerm y.1 n) (h : ∀ i, i < n → fx x i = fx y i) : x = y := by
  refine Subtype.ext (List.ext_getElem (x.2.1.trans y.2.1.symm) fun i h1 h2 => ?_)
  have k : x.1.getD i 0 = y.1.getD i 0 := by
    by_cases hi : i < n
    · exact h i hi
    · rw [hx.2.2 i (by omega), hy.2.2 i (by omega)]
  rw [List.getD_eq_getElem?_getD, List.getD_eq_getElem?_getD, List.getElem?_eq_getElem h1, List.getElem?_eq_getElem h2] at k
  exact k
theorem swB_perm {n : Nat} (h8 : n ≤ 8) {x : StB} (h : isPerm x.1 n) {a b : Nat} (ha : a < n) (hb : b < n) : isPerm (swB x a b).1 n := perm_swap h x.2.1 h8 ha hb
def recB (n : Nat) (Mk T : List (Nat × Nat)) (x : StB) (a b : Nat) : Bool := !(a == b) && (emB n (fx x) a b && has Mk (fun p => cvB n (fx x) a b p.1 p.2) T)
def opM (n : Nat) (Mk T : List (Nat × Nat)) (x z : StB) : Bool := xl (fun a => xl (fun b => recB n Mk T x a b && decide (z = swB x a b)) (List.range n)) (List.range n)
/-- One after the other. -/
def cmpM (n : Nat) (Mk : List (Nat × Nat)) (L : List StB) (T1 T2 : List (Nat × Nat)) (x y : StB) : Bool := xl (fun z => opM n Mk T1 x z && opM n Mk T2 z y) L
section
variable {n : Nat} {L : List StB} {Mk : List (Nat × Nat)}
theorem opM_in (h8 : n ≤ 8) (hL : AllSt n L) {T : List (Nat × Nat)} {x z : StB} (hx : x ∈ L) (hz : z ∉ L) : opM n Mk T x z = false :=
  xl_false fun a ha => xl_false fun b hb => by
    rw [decide_eq_false fun e => hz (by rw [e]; exact (hL.mem _).2 (swB_perm h8 ((hL.mem x).1 hx) (List.mem_range.1 ha) (List.mem_range.1 hb))), Bool.and_false]
theorem cmpM_quads (h8 : n ≤ 8) (hL : AllSt n L) {T1 T2 : List (Nat × Nat)} {x y : StB} (hx : x ∈ L) (hy : y ∈ L) :
    cmpM n Mk L T1 T2 x y = xl (fun q => okQ n (fx x) (fx y) q.1 q.2.1 q.2.2.1 q.2.2.2 && (has Mk (fun p => cvB n (fx x) q.1 q.2.1 p.1 p.2) T1 && has Mk (fun p => cvB n (sw (fx x) q.1 q.2.1) q.2.2.1 q.2.2.2 p.1 p.2) T2)) (quads n) := by
  rw [quads_xl n fun a b c e => okQ n (fx x) (fx y) a b c e && (has Mk (fun p => cvB n (fx x) a b p.1 p.2) T1 && has Mk (fun p => cvB n (sw (fx x) a b) c e p.1 p.2) T2)]
  have px := (hL.mem x).1 hx
  have py := (hL.mem y).1 hy
  have e1 : cmpM n Mk L T1 T2 x y = xl (fun z => xl (fun a => xl (fun b => (recB n Mk T1 x a b && decide (z = swB x a b)) && opM n Mk T2 z y) (List.range n)) (List.range n)) L := by
    unfold cmpM
    refine xl_congr fun z _ => ?_
    show (opM n Mk T1 x z && _) = _
    unfold opM
    rw [← xl_and']
    refine xl_congr fun a _ => ?_
    rw [← xl_and']
  rw [e1, xl_comm]
  refine xl_congr fun a ha => ?_
  have ha' := List.mem_range.1 ha
  rw [xl_comm]
  refine xl_congr fun b hb => ?_
  have hb' := List.mem_range.1 hb
  have pz := swB_perm h8 px ha' hb'
  rw [xl_one hL.nd ((hL.mem _).2 pz) fun z _ hne => by rw [decide_eq_false hne, Bool.and_false, Bool.false_and]]
  rw [decide_eq_true rfl, Bool.and_true]
  unfold opM
  rw [← xl_and]
  refine xl_congr fun c hc => ?_
  have hc' := List.mem_range.1 hc
  rw [← xl_and]
  refine xl_congr fun e he => ?_
  have he' := List.mem_range.1 he
  have f1 := fx_swB (x := x) (a := a) (b := b) (by omega) (by omega)
  have f2 := fx_swB (x := swB x a b) (a := c) (b := e) (by omega) (by omega)
  rw [f1] at f2
  have hd : decide (y = swB (swB x a b) c e) = (List.range n).all (fun i => fx y i == sw (sw (fx x) a b) c e i) := by
    rw [Bool.eq_iff_iff, decide_eq_true_eq, List.all_eq_true]
    constructor
    · intro k i _
      rw [← f2, ← k]
      exact beq_self_eq_true _
    · intro k
      refine stB_ext py (swB_perm h8 pz hc' he') fun i hi => ?_
      rw [f2]
      exact beq_iff_eq.1 (k i (List.mem_range.2 hi))
  unfold recB okQ
  rw [f1, hd]
  generalize (a == b) = t1
  generalize (c == e) = t2
  generalize emB n (fx x) a b = t3
  generalize emB n (sw (fx x) a b) c e = t4
  generalize has Mk (fun p => cvB n (fx x) a b p.1 p.2) T1 = t5
  generalize has Mk (fun p => cvB n (sw (fx x) a b) c e p.1 p.2) T2 = t6
  generalize (List.range n).all (fun i => fx y i == sw (sw (fx x) a b) c e i) = t7
  revert t1 t2 t3 t4 t5 t6 t7
  decide
/-- Asked for totals. -/
def askT (Mk T : List (Nat × Nat)) (l : List Nat) : Bool := l == Mk.map fun p => T.count p
theorem askT_seen {x : Nat → Nat} {T : List (Nat × Nat)} {a b c e : Nat} : askT Mk T (seen n x Mk a b c e) = totIs Mk (fun p => cvB n x a b p.1 p.2) (fun p => cvB n (sw x a b) c e p.1 p.2) T := by
  unfold askT seen totIs totB
  rw [Bool.eq_iff_iff, beq_iff_eq, List.map_inj_left, List.all_eq_true]
  exact ⟨fun h p hp => beq_iff_eq.2 (h p hp), fun h p hp => beq_iff_eq.1 (h p hp)⟩
/-- The rows and columns with just these marks. -/
def annB (n : Nat) (Mk T : List (Nat × Nat)) : Bool := xl (fun a => askT Mk T (colA Mk a)) (List.range n) ^^ xl (fun r => askT Mk T (rowA Mk r)) (List.range n)
theorem master (h2 : 2 ≤ n) (h8 : n ≤ 8) (hL : AllSt n L) (hMk : ∀ p ∈ Mk, p.1 < n ∧ p.2 < n) (T : List (Nat × Nat)) {x y : StB} (hx : x ∈ L) (hy : y ∈ L) :
    xl (fun q => okQ n (fx x) (fx y) q.1 q.2.1 q.2.2.1 q.2.2.2 && totIs Mk (fun p => cvB n (fx x) q.1 q.2.1 p.1 p.2) (fun p => cvB n (sw (fx x) q.1 q.2.1) q.2.2.1 q.2.2.2 p.1 p.2) T) (quads n) = (decide (y = x) && annB n Mk T) := by
  have px := fx_perm ((hL.mem x).1 hx)
  have py := fx_perm ((hL.mem y).1 hy)
  rw [xl_congr fun q _ => by rw [← askT_seen]]
  by_cases e : y = x
  · subst e
    rw [master_eq h2 px hMk (askT Mk T), decide_eq_true rfl, Bool.true_and]
    rfl
  · rw [decide_eq_false e, Bool.false_and]
    refine master_ne px py ?_ hMk (askT Mk T)
    refine Classical.byContradiction fun k => e (stB_ext ((hL.mem y).1 hy) ((hL.mem x).1 hx) fun i hi => Classical.byContradiction fun k2 => k ⟨i, hi, fun k3 => k2 k3.symm⟩)
/-- On vectors. -/
def op (n : Nat) (Mk : List (Nat × Nat)) (L : List StB) (T : List (Nat × Nat)) (v : StB → Bool) : StB → Bool := fun y => xl (fun x => v x && opM n Mk T x y) L
theorem op_add (T : List (Nat × Nat)) (u v : StB → Bool) : op n Mk L T (va u v) = va (op n Mk L T u) (op n Mk L T v) := funext fun y => by
  unfold op
  show _ = (_ ^^ _)
  rw [← xl_xor]
  refine xl_congr fun x _ => ?_
  unfold va
  cases u x <;> cases v x <;> cases opM n Mk T x y <;> rfl
theorem op_op (T1 T2 : List (Nat × Nat)) (v : StB → Bool) (y : StB) : op n Mk L T2 (op n Mk L T1 v) y = xl (fun x => v x && cmpM n Mk L T1 T2 x y) L := by
  unfold op cmpM
  rw [xl_congr fun z _ => (xl_and' (opM n Mk T2 z y) (fun x => v x && opM n Mk T1 x z) L).symm]
  rw [xl_comm]
  refine xl_congr fun x _ => ?_
  rw [← xl_and]
  refine xl_congr fun z _ => ?_
  rw [Bool.and_assoc]
theorem op_out (h8 : n ≤ 8) (hL : AllSt n L) (T : List (Nat × Nat)) (v : StB → Bool) {y : StB} (hy : y ∉ L) : op n Mk L T v y = false := xl_false fun x hx => by rw [opM_in h8 hL hx hy, Bool.and_false]
theorem xl_self (hL : AllSt n L) {v : StB → Bool} {y : StB} (hy : y ∈ L) (b : Bool) : xl (fun x => v x && (decide (y = x) && b)) L = (v y && b) := by
  rw [xl_one hL.nd hy fun x _ hne => by rw [decide_eq_false fun k => hne k.symm, Bool.false_and, Bool.and_false], decide_eq_true rfl, Bool.true_and]
/-- The rules. -/
theorem op_00 (h2 : 2 ≤ n) (h8 : n ≤ 8) (hL : AllSt n L) (hMk : ∀ p ∈ Mk, p.1 < n ∧ p.2 < n) {p : Nat × Nat} (hp : p ∈ Mk) (ha : annB n Mk [] = false) (v : StB → Bool) : op n Mk L [] (op n Mk L [] v) = v0 := funext fun y => by
  by_cases hy : y ∈ L
  · rw [op_op, xl_congr fun x hx => by rw [cmpM_quads h8 hL hx hy, xl_congr fun q _ => by rw [← tot0 hp], master h2 h8 hL hMk [] hx hy, ha]]
    rw [xl_self hL hy, Bool.and_false]
    rfl
  · exact op_out h8 hL _ _ hy
theorem op_01 (h2 : 2 ≤ n) (h8 : n ≤ 8) (hL : AllSt n L) (hMk : ∀ p ∈ Mk, p.1 < n ∧ p.2 < n) {p : Nat × Nat} (hp : p ∈ Mk) (ha : annB n Mk [p] = false) (v : StB → Bool) : op n Mk L [] (op n Mk L [p] v) = op n Mk L [p] (op n Mk L [] v) := by
  refine va_eq (funext fun y => ?_)
  by_cases hy : y ∈ L
  · show (_ ^^ _) = false
    rw [op_op, op_op, ← xl_xor]
    rw [xl_congr (g := fun x => v x && (decide (y = x) && false)) fun x hx => by
      rw [cmpM_quads h8 hL hx hy, cmpM_quads h8 hL hx hy, ← ha, ← master h2 h8 hL hMk [p] hx hy, ← Bool.and_xor_distrib_left, ← xl_xor]
      congr 1
      refine xl_congr fun q _ => ?_
      rw [← Bool.and_xor_distrib_left, tot1 hp]]
    rw [xl_self hL hy, Bool.and_false]
  · show (_ ^^ _) = false
    rw [op_out h8 hL _ _ hy, op_out h8 hL _ _ hy]; rfl
theorem op_11 (h2 : 2 ≤ n) (h8 : n ≤ 8) (hL : AllSt n L) (hMk : ∀ p ∈ Mk, p.1 < n ∧ p.2 < n) {p : Nat × Nat} (hp : p ∈ Mk) (ha : annB n Mk [p, p] = false) (v : StB → Bool) : op n Mk L [p] (op n Mk L [p] v) = v0 := funext fun y => by
  by_cases hy : y ∈ L
  · rw [op_op, xl_congr fun x hx => by rw [cmpM_quads h8 hL hx hy, xl_congr fun q _ => by rw [← tot11 hp], master h2 h8 hL hMk [p, p] hx hy, ha]]
    rw [xl_self hL hy, Bool.and_false]
    rfl
  · exact op_out h8 hL _ _ hy
theorem op_pq (h2 : 2 ≤ n) (h8 : n ≤ 8) (hL : AllSt n L) (hMk : ∀ p ∈ Mk, p.1 < n ∧ p.2 < n) {p q : Nat × Nat} (hp : p ∈ Mk) (hq : q ∈ Mk) (hpq : p ≠ q) {v : StB → Bool} (hv : Spp L v) :
    va (va (op n Mk L [q] (op n Mk L [p] v)) (op n Mk L [p] (op n Mk L [q] v))) (va (op n Mk L [] (op n Mk L [p, q] v)) (op n Mk L [p, q] (op n Mk L [] v))) = fun y => v y && annB n Mk [p, q] := funext fun y => by
  by_cases hy : y ∈ L
  · show ((_ ^^ _) ^^ (_ ^^ _)) = _
    rw [op_op, op_op, op_op, op_op, ← xl_xor, ← xl_xor, ← xl_xor, ← xl_self hL hy]
    refine xl_congr fun x hx => ?_
    rw [cmpM_quads h8 hL hx hy, cmpM_quads h8 hL hx hy, cmpM_quads h8 hL hx hy, cmpM_quads h8 hL hx hy, ← master h2 h8 hL hMk [p, q] hx hy]
    rw [← Bool.and_xor_distrib_left, ← Bool.and_xor_distrib_left, ← Bool.and_xor_distrib_left, ← xl_xor, ← xl_xor, ← xl_xor]
    congr 1
    refine xl_congr fun r _ => ?_
    rw [← Bool.and_xor_distrib_left, ← Bool.and_xor_distrib_left, ← Bool.and_xor_distrib_left, tot2 hp hq hpq]
  · show ((_ ^^ _) ^^ (_ ^^ _)) = _
    rw [op_out h8 hL _ _ hy, op_out h8 hL _ _ hy, op_out h8 hL _ _ hy, op_out h8 hL _ _ hy]
    cases e : v y
    · rfl
    · exact absurd (hv y e) hy
end
end Go.Proofs.YtmbbcmebdefggaaGreatDoor
namespace Go.Proofs.YtmbbcmebdefggaaGreatDoor
/-! The marks. -/
def mrk (Y : List Nat) (s : Nat) : Nat × Nat := (s, Y.getD s 0)
def marks (n : Nat) (X O : List Nat) : List (Nat × Nat) := (List.range n).map (mrk X) ++ (List.range n).map (mrk O)
section
variable {n : Nat} {X O : List Nat}
theorem mem_marks {p : Nat × Nat} : p ∈ marks n X O ↔ ∃ s, s < n ∧ (p = mrk X s ∨ p = mrk O s) := by
  unfold marks
  rw [List.mem_append, List.mem_map, List.mem_map]
  constructor
  · rintro (⟨s, hs, rfl⟩ | ⟨s, hs, rfl⟩)
    · exact ⟨s, List.mem_range.1 hs, .inl rfl⟩
    · exact ⟨s, List.mem_range.1 hs, .inr rfl⟩
  · rintro ⟨s, hs, rfl | rfl⟩
    · exact .inl ⟨s, List.mem_range.2 hs, rfl⟩
    · exact .inr ⟨s, List.mem_range.2 hs, rfl⟩
/-- A grid: both are orders, and differ everywhere. -/
structure Grd (n : Nat) (X O : List Nat) : Prop where
  h2 : 2 ≤ n
  h8 : n ≤ 8
  pX : isPerm X n
  pO : isPerm O n
  ne : ∀ i, i < n → X.getD i 0 ≠ O.getD i 0
theorem okG.grd (g : okG (n : Int) X O) : Grd n X O := by
  obtain ⟨h1, h2, h3, h4⟩ := g
  simp only [Int.toNat_natCast] at h2 h3 h4
  exact ⟨by omega, by omega, h2, h3, h4⟩
theorem Grd.lt (g : Grd n X O) : ∀ p ∈ marks n X O, p.1 < n ∧ p.2 < n := fun p hp => by
  obtain ⟨s, hs, rfl | rfl⟩ := mem_marks.1 hp
  · exact ⟨hs, g.pX.1 s hs⟩
  · exact ⟨hs, g.pO.1 s hs⟩
theorem Grd.row (g : Grd n X O) {r : Nat} (hr : r < n) : ∃ s t, s < n ∧ t < n ∧ (mrk X s).2 = r ∧ (mrk O t).2 = r ∧ mrk X s ≠ mrk O t := by
  obtain ⟨s, hs, e1⟩ := surj_of_inj g.pX.permF.1 g.pX.permF.2 r hr
  obtain ⟨t, ht, e2⟩ := surj_of_inj g.pO.permF.1 g.pO.permF.2 r hr
  refine ⟨s, t, hs, ht, e1, e2, fun e => ?_⟩
  obtain ⟨e3, e4⟩ := Prod.mk.inj e
  subst e3
  exact g.ne s hs e4
theorem askT_iff {Mk T : List (Nat × Nat)} {f : Nat × Nat → Nat} : askT Mk T (Mk.map f) = true ↔ ∀ p ∈ Mk, f p = T.count p := by
  unfold askT
  rw [beq_iff_eq, List.map_inj_left]
/-- Two different marks in a column, and in a row. -/
theorem Grd.two (g : Grd n X O) {T : List (Nat × Nat)} (hT : ∀ p q, p ∈ marks n X O → q ∈ marks n X O → p ≠ q → (p.1 = q.1 ∨ p.2 = q.2) → ¬ (T.count p = 1 ∧ T.count q = 1)) : annB n (marks n X O) T = false := by
  unfold annB
  rw [xl_false, xl_false]
  · rfl
  · intro r hr
    have hr' := List.mem_range.1 hr
    obtain ⟨s, t, hs, ht, e1, e2, hne⟩ := g.row hr'
    rw [Bool.eq_false_iff]
    intro k
    have k2 := askT_iff.1 k
    have a := k2 _ (mem_marks.2 ⟨s, hs, .inl rfl⟩)
    have b := k2 _ (mem_marks.2 ⟨t, ht, .inr rfl⟩)
    rw [if_pos e1] at a
    rw [if_pos e2] at b
    exact hT _ _ (mem_marks.2 ⟨s, hs, .inl rfl⟩) (mem_marks.2 ⟨t, ht, .inr rfl⟩) hne (.inr (by rw [e1, e2])) ⟨a.symm, b.symm⟩
  · intro c hc
    have hc' := List.mem_range.1 hc
    rw [Bool.eq_false_iff]
    intro k
    have k2 := askT_iff.1 k
    have a := k2 _ (mem_marks.2 ⟨c, hc', .inl rfl⟩)
    have b := k2 _ (mem_marks.2 ⟨c, hc', .inr rfl⟩)
    rw [if_pos (show (mrk X c).1 = c from rfl)] at a
    rw [if_pos (show (mrk O c).1 = c from rfl)] at b
    exact hT _ _ (mem_marks.2 ⟨c, hc', .inl rfl⟩) (mem_marks.2 ⟨c, hc', .inr rfl⟩) (fun e => g.ne c hc' (Prod.mk.inj e).2) (.inl rfl) ⟨a.symm, b.symm⟩
theorem Grd.ann0 (g : Grd n X O) : annB n (marks n X O) [] = false := g.two fun p q _ _ _ _ k => by have := k.1; rw [List.count_nil] at this; omega
theorem Grd.ann1 (g : Grd n X O) (p : Nat × Nat) : annB n (marks n X O) [p] = false := g.two fun a b _ _ hne _ k => by
  have h1 := List.count_pos_iff.1 (show 0 < [p].count a by rw [k.1]; omega)
  have h2 := List.count_pos_iff.1 (show 0 < [p].count b by rw [k.2]; omega)
  exact hne ((List.mem_singleton.1 h1).trans (List.mem_singleton.1 h2).symm)
theorem Grd.ann11 (g : Grd n X O) (p : Nat × Nat) : annB n (marks n X O) [p, p] = false := g.two fun a b _ _ hne _ k => by
  have h1 := List.count_pos_iff.1 (show 0 < [p, p].count a by rw [k.1]; omega)
  have h2 := List.count_pos_iff.1 (show 0 < [p, p].count b by rw [k.2]; omega)
  simp only [List.mem_cons, List.not_mem_nil, or_false, or_self] at h1 h2
  exact hne (h1.trans h2.symm)
/-- Two marks: in one column, in one row. -/
theorem Grd.ann2 (g : Grd n X O) {p q : Nat × Nat} (hp : p ∈ marks n X O) (hq : q ∈ marks n X O) (hpq : p ≠ q) : annB n (marks n X O) [p, q] = (decide (p.1 = q.1) ^^ decide (p.2 = q.2)) := by
  have lt1 := g.lt p hp
  have c1 : [p, q].count p = 1 := by simp [hpq.symm]
  have c2 : [p, q].count q = 1 := by simp [hpq]
  have c0 : ∀ r, r ≠ p → r ≠ q → [p, q].count r = 0 := fun r h1 h2 => List.count_eq_zero.2 fun k => by
    simp only [List.mem_cons, List.not_mem_nil, or_false] at k
    exact k.elim h1 h2
  -- at most two marks in a line
  have col : ∀ r, r ∈ marks n X O → p.1 = q.1 → r.1 = p.1 → r = p ∨ r = q := fun r hr e1 e2 => by
    obtain ⟨s, _, rfl | rfl⟩ := mem_marks.1 hr <;> obtain ⟨t, _, rfl | rfl⟩ := mem_marks.1 hp <;> obtain ⟨u, _, rfl | rfl⟩ := mem_marks.1 hq <;> (simp only [mrk] at e1 e2 hpq ⊢; subst e2; subst e1) <;> first | exact .inl rfl | exact .inr rfl | exact absurd rfl hpq
  have row : ∀ r, r ∈ marks n X O → p.2 = q.2 → r.2 = p.2 → r = p ∨ r = q := fun r hr e1 e2 => by
    have iX : ∀ {s t : Nat}, s < n → t < n → X.getD s 0 = X.getD t 0 → s = t := fun {s t} hs ht e => g.pX.2.1 s t hs ht e
    have iO : ∀ {s t : Nat}, s < n → t < n → O.getD s 0 = O.getD t 0 → s = t := fun {s t} hs ht e => g.pO.2.1 s t hs ht e
    obtain ⟨s, hs, rfl | rfl⟩ := mem_marks.1 hr <;> obtain ⟨t, ht, rfl | rfl⟩ := mem_marks.1 hp <;> obtain ⟨u, hu, rfl | rfl⟩ := mem_marks.1 hq <;> simp only [mrk] at e1 e2 <;>
      first
        | (have := iX hs ht e2; subst this; exact .inl rfl)
        | (have := iO hs ht e2; subst this; exact .inl rfl)
        | (have := iX hs hu (e2.trans e1); subst this; exact .inr rfl)
        | (have := iO hs hu (e2.trans e1); subst this; exact .inr rfl)
        | (have := iX ht hu e1; subst this; exact absurd rfl hpq)
        | (have := iO ht hu e1; subst this; exact absurd rfl hpq)
  unfold annB
  congr 1
  · rw [xl_one List.nodup_range (List.mem_range.2 lt1.1) fun a _ hne => by
      rw [Bool.eq_false_iff]
      intro k
      have := askT_iff.1 k p hp
      rw [c1] at this
      split at this
      · rename_i h; exact hne h.symm
      · cases this]
    rw [Bool.eq_iff_iff, decide_eq_true_eq]
    refine askT_iff.trans ⟨fun k => ?_, fun e r hr => ?_⟩
    · have := k q hq
      rw [c2] at this
      split at this
      · rename_i h; exact h.symm
      · cases this
    · by_cases h : r.1 = p.1
      · rw [if_pos h]
        rcases col r hr e h with rfl | rfl
        · exact c1.symm
        · exact c2.symm
      · rw [if_neg h, c0 r (fun k => h (by rw [k])) fun k => h (by rw [k, e])]
  · rw [xl_one List.nodup_range (List.mem_range.2 lt1.2) fun a _ hne => by
      rw [Bool.eq_false_iff]
      intro k
      have := askT_iff.1 k p hp
      rw [c1] at this
      split at this
      · rename_i h; exact hne h.symm
      · cases this]
    rw [Bool.eq_iff_iff, decide_eq_true_eq]
    refine askT_iff.trans ⟨fun k => ?_, fun e r hr => ?_⟩
    · have := k q hq
      rw [c2] at this
      split at this
      · rename_i h; exact h.symm
      · cases this
    · by_cases h : r.2 = p.2
      · rw [if_pos h]
        rcases row r hr e h with rfl | rfl
        · exact c1.symm
        · exact c2.symm
      · rw [if_neg h, c0 r (fun k => h (by rw [k])) fun k => h (by rw [k, e])]
/-! Grades. -/
theorem dd_mod {a b : Nat} (ha : a < n) (hb : b < n) : (b + n - a) % n = dd n a b := by
  unfold dd
  split
  · rw [show b + n - a = (b - a) + n by omega, Nat.add_mod_right, Nat.mod_eq_of_lt (by omega)]
  · rw [Nat.mod_eq_of_lt (by omega)]
theorem dd_add {a k : Nat} (ha : a < n) (hk : k < n) : dd n a ((a + k) % n) = k := by
  rcases Nat.lt_or_ge (a + k) n with h | h
  · rw [Nat.mod_eq_of_lt h]; unfold dd; split <;> omega
  · rw [Nat.mod_eq_sub_mod h, Nat.mod_eq_of_lt (by omega)]; unfold dd; split <;> omega
theorem add_dd {a b : Nat} (ha : a < n) (hb : b < n) : (a + dd n a b) % n = b := by
  unfold dd
  split
  · rw [show a + (b - a) = b by omega, Nat.mod_eq_of_lt hb]
  · rw [show a + (b + n - a) = b + n by omega, Nat.add_mod_right, Nat.mod_eq_of_lt hb]
theorem upR_dd {Y : List Nat} (pY : isPerm Y n) {a b k : Nat} (hn : 0 < n) (hb : b < n) : upR n Y a b k = dd n b (Y.getD ((a + k) % n) 0) := by
  unfold upR
  exact dd_mod hb (pY.1 _ (Nat.mod_lt _ hn))
theorem emp_iff (x : List Nat) (l b h : Nat) : ∀ w, emp n x l b h w = true ↔ ∀ k, 0 < k → k < w → ¬ upR n x l b k < h
  | 0 => by simp [emp]
  | w + 1 => by
    rw [emp]
    constructor
    · intro k j h0 hj
      split at k
      · cases k
      · rename_i hn
        by_cases e : j = w
        · subst e
          exact fun h1 => hn ⟨h0, h1⟩
        · exact (emp_iff x l b h w).1 k j h0 (by omega)
    · intro k
      rw [if_neg fun h1 => k w h1.1 (Nat.lt_succ_self w) h1.2]
      exact (emp_iff x l b h w).2 fun j h0 hj => k j h0 (by omega)
/-- Of a list of marks those of one kind. -/
def cMk (n : Nat) (Y : List Nat) (T : List (Nat × Nat)) : Int := ct (fun s => mrk Y s ∈ T) n
theorem cnt_nil (Y : List Nat) : cMk n Y [] = 0 := ct_none fun s _ h => by cases h
theorem cnt_cons {Y : List Nat} {T : List (Nat × Nat)} {p : Nat × Nat} (hp : p.1 < n) (hT : p ∉ T) : cMk n Y (p :: T) = (if Y.getD p.1 0 = p.2 then 1 else 0) + cMk n Y T := by
  unfold cMk
  have h1 : ct (fun s => mrk Y s ∈ p :: T) n = ct (fun s => mrk Y s = p) n + ct (fun s => mrk Y s ∈ T) n := ct_split fun s _ => by
    rw [List.mem_cons]
    exact ⟨Iff.rfl, fun h => hT (h.1 ▸ h.2)⟩
  rw [h1]
  congr 1
  unfold ct
  rw [sm_single hp fun i _ hne => ind_no fun e => hne (by rw [← e]; rfl)]
  unfold ind
  by_cases e : Y.getD p.1 0 = p.2
  · rw [if_pos e, if_pos (show mrk Y p.1 = p from Prod.ext rfl e)]
  · rw [if_neg e, if_neg fun k : mrk Y p.1 = p => e (by rw [← k]; rfl)]
theorem mX_sw (g : Grd n X O) {Mk T : List (Nat × Nat)} {x : StB} (p : isPerm x.1 n) {a b : Nat} (ha : a < n) (hb : b < n) (hr : recB n Mk T x a b = true) {Y : List Nat} (pY : isPerm Y n) (hY : ∀ s, s < n → mrk Y s ∈ Mk) :
    mX n x.1 Y - mX n (swB x a b).1 Y = 1 - 2 * cMk n Y T := by
  unfold recB at hr
  simp only [Bool.and_eq_true, Bool.not_eq_true', beq_eq_false_iff_ne, ne_eq] at hr
  obtain ⟨hab, hem, hh⟩ := hr
  have h8 := g.h8
  have hn : 0 < n := by have := g.h2; omega
  have w0 : 0 < dd n a b := by
    rcases Nat.eq_zero_or_pos (dd n a b) with e | e
    · exact absurd ((dd_zero ha hb).1 e) hab
    · exact e
  have wn := dd_lt ha hb
  have e1 := add_dd ha hb
  have k := mX_led h8 (X := X) (O := O) p pY ha w0 wn
  have hled : led n x (recT n X O x.1 a (dd n a b)) = swB x a b := by
    unfold led swB
    refine Subtype.ext ?_
    show (x.1.set a (x.1.getD ((a + dd n a b) % n) 0)).set ((a + dd n a b) % n) (x.1.getD a 0) = _
    rw [e1]
  rw [hled] at k
  have xa := p.1 a ha
  have hin : ins n x.1 a (x.1.getD a 0) (upR n x.1 a (x.1.getD a 0) (dd n a b)) (dd n a b - 1) = 0 := by
    refine (ins_emp (fun j h0 hj => up_pos p ha h0 hj) (dd n a b - 1) (by omega)).2 ?_
    rw [show dd n a b - 1 + 1 = dd n a b by omega]
    refine (emp_iff x.1 a _ _ _).2 fun j h0 hj hlt => ?_
    rw [upR_dd p hn xa, upR_dd p hn xa, e1] at hlt
    have hj2 : (a + j) % n < n := Nat.mod_lt _ hn
    refine emB_iff.1 hem _ hj2 ⟨?_, ?_, hlt⟩
    · rw [dd_add ha (by omega)]; exact h0
    · rw [dd_add ha (by omega)]; exact hj
  have hmk : (mks n Y a (x.1.getD a 0) (upR n x.1 a (x.1.getD a 0) (dd n a b)) (dd n a b) : Int) = cMk n Y T := by
    rw [mks_ct, ← ct_cut (n := n) (Nat.le_of_lt wn)]
    unfold cMk
    have hperm : permF (fun i => (a + i) % n) n := ⟨fun i _ => Nat.mod_lt _ hn, fun i j hi hj e => by
      have h1 := dd_add ha hi
      have h2 := dd_add ha hj
      rw [show (a + i) % n = (a + j) % n from e] at h1
      exact h1.symm.trans h2⟩
    unfold ct
    rw [← sm_perm hperm fun s => ind (mrk Y s ∈ T)]
    refine sm_congr fun j hj => ind_iff ?_
    have hj2 : (a + j) % n < n := Nat.mod_lt _ hn
    have hc := List.all_eq_true.1 hh _ (hY _ hj2)
    rw [beq_iff_eq] at hc
    have hc : cvB n (fx x) a b (mrk Y ((a + j) % n)).1 (mrk Y ((a + j) % n)).2 = T.elem (mrk Y ((a + j) % n)) := hc
    have hc2 : cvB n (fx x) a b (mrk Y ((a + j) % n)).1 (mrk Y ((a + j) % n)).2 = true ↔ mrk Y ((a + j) % n) ∈ T := by
      rw [hc]; simp
    rw [← hc2, cvB_iff]
    show (j < dd n a b ∧ upR n Y a (x.1.getD a 0) j < upR n x.1 a (x.1.getD a 0) (dd n a b)) ↔ dd n a ((a + j) % n) < dd n a b ∧ dd n (x.1.getD a 0) (Y.getD ((a + j) % n) 0) < dd n (x.1.getD a 0) (x.1.getD b 0)
    rw [dd_add ha hj, upR_dd pY hn xa, upR_dd p hn xa, e1]
  rw [hin, hmk] at k
  omega
theorem opM_true {Mk T : List (Nat × Nat)} {x z : StB} (h : opM n Mk T x z = true) : ∃ a b, a < n ∧ b < n ∧ recB n Mk T x a b = true ∧ z = swB x a b := by
  refine Classical.byContradiction fun k => ?_
  have : opM n Mk T x z = false := xl_false fun a ha => xl_false fun b hb => by
    rw [Bool.and_eq_false_imp]
    intro h1
    rw [decide_eq_false_iff_not]
    exact fun h2 => k ⟨a, b, List.mem_range.1 ha, List.mem_range.1 hb, h1, h2⟩
  rw [this] at h
  cases h
end
end Go.Proofs.YtmbbcmebdefggaaGreatDoor
namespace Go.Proofs.YtmbbcmebdefggaaGreatDoor
theorem xl_ex {α : Type} {f : α → Bool} : ∀ {l : List α}, xl f l = true → ∃ x ∈ l, f x = true
  | [], h => by cases h
  | x :: l, h => by
    cases e : f x
    · rw [xl, e, Bool.false_xor] at h
      obtain ⟨y, hy, k⟩ := xl_ex h
      exact ⟨y, List.mem_cons_of_mem _ hy, k⟩
    · exact ⟨x, List.mem_cons_self, e⟩
/-- A state's grade. -/
def grP (n : Nat) (X O : List Nat) (x : StB) : Int × Int := (mX n x.1 O - mX n x.1 X - n + 1, mX n x.1 O)
section
variable {n : Nat} {X O : List Nat} {L : List StB}
theorem op_lin (g : Grd n X O) (hL : AllSt n L) (T : List (Nat × Nat)) : Lin L (grP n X O) (2 * (cMk n O T - cMk n X T)) (2 * cMk n O T - 1) (op n (marks n X O) L T) := by
  refine ⟨op_add T, fun gg v hv y hy => ?_⟩
  by_cases hyL : y ∈ L
  rotate_left
  · rw [op_out g.h8 hL T v hyL] at hy; cases hy
  refine ⟨hyL, ?_⟩
  obtain ⟨x, hx, k⟩ := xl_ex hy
  rw [Bool.and_eq_true] at k
  obtain ⟨a, b, ha, hb, hr, rfl⟩ := opM_true k.2
  have p := (hL.mem x).1 hx
  have k1 := mX_sw g p ha hb hr g.pO fun s hs => mem_marks.2 ⟨s, hs, .inr rfl⟩
  have k2 := mX_sw g p ha hb hr g.pX fun s hs => mem_marks.2 ⟨s, hs, .inl rfl⟩
  rw [← (hv x k.1).2]
  unfold grP sh
  refine Prod.ext ?_ ?_ <;> dsimp only <;> omega
theorem cnt_mrk {Y Z : List Nat} {T : List (Nat × Nat)} {c : Nat} (hc : c < n) (hT : mrk Z c ∉ T) : cMk n Y (mrk Z c :: T) = (if Y.getD c 0 = Z.getD c 0 then 1 else 0) + cMk n Y T := cnt_cons hc hT
theorem cnt_O (g : Grd n X O) {c : Nat} (hc : c < n) : cMk n O [mrk O c] = 1 ∧ cMk n X [mrk O c] = 0 := by
  rw [cnt_mrk hc List.not_mem_nil, cnt_mrk hc List.not_mem_nil, cnt_nil, cnt_nil, if_pos rfl, if_neg (g.ne c hc)]
  exact ⟨rfl, rfl⟩
theorem cnt_X (g : Grd n X O) {c : Nat} (hc : c < n) : cMk n O [mrk X c] = 0 ∧ cMk n X [mrk X c] = 1 := by
  rw [cnt_mrk hc List.not_mem_nil, cnt_mrk hc List.not_mem_nil, cnt_nil, cnt_nil, if_pos rfl, if_neg fun e => g.ne c hc e.symm]
  exact ⟨rfl, rfl⟩
theorem mkOX (g : Grd n X O) {c e : Nat} (hc : c < n) : mrk O c ≠ mrk X e := fun k => by
  obtain ⟨k1, k2⟩ := Prod.mk.inj k
  subst k1
  exact g.ne c hc k2.symm
theorem lin0 (g : Grd n X O) (hL : AllSt n L) : Lin L (grP n X O) 0 (-1) (op n (marks n X O) L []) := by
  have := op_lin g hL []
  rwa [cnt_nil, cnt_nil] at this
theorem linO (g : Grd n X O) (hL : AllSt n L) {c : Nat} (hc : c < n) : Lin L (grP n X O) 2 1 (op n (marks n X O) L [mrk O c]) := by
  have := op_lin g hL [mrk O c]
  rwa [(cnt_O g hc).1, (cnt_O g hc).2] at this
theorem linX (g : Grd n X O) (hL : AllSt n L) {c : Nat} (hc : c < n) : Lin L (grP n X O) (-2) (-1) (op n (marks n X O) L [mrk X c]) := by
  have := op_lin g hL [mrk X c]
  rwa [(cnt_X g hc).1, (cnt_X g hc).2] at this
theorem linOO (g : Grd n X O) (hL : AllSt n L) {c e : Nat} (hc : c < n) (he : e < n) (hce : c ≠ e) : Lin L (grP n X O) 4 3 (op n (marks n X O) L [mrk O c, mrk O e]) := by
  have := op_lin g hL [mrk O c, mrk O e]
  have hne : mrk O c ∉ [mrk O e] := fun k => hce (Prod.mk.inj (List.mem_singleton.1 k)).1
  rwa [cnt_mrk hc hne, cnt_mrk hc hne, (cnt_O g he).1, (cnt_O g he).2, if_pos rfl, if_neg (g.ne c hc)] at this
theorem linOX (g : Grd n X O) (hL : AllSt n L) {c e : Nat} (hc : c < n) (he : e < n) : Lin L (grP n X O) 0 1 (op n (marks n X O) L [mrk O c, mrk X e]) := by
  have := op_lin g hL [mrk O c, mrk X e]
  have hne : mrk O c ∉ [mrk X e] := fun k => mkOX g hc (List.mem_singleton.1 k)
  rwa [cnt_mrk hc hne, cnt_mrk hc hne, (cnt_X g he).1, (cnt_X g he).2, if_pos rfl, if_neg (g.ne c hc)] at this
/-! Sums of operations. -/
theorem op_zero {Mk : List (Nat × Nat)} (T : List (Nat × Nat)) : op n Mk L T v0 = v0 := funext fun y => xl_false fun x _ => Bool.false_and _
theorem op_xl {Mk : List (Nat × Nat)} (T : List (Nat × Nat)) {ι : Type} (u : ι → StB → Bool) : ∀ l : List ι, op n Mk L T (fun y => xl (fun t => u t y) l) = fun y => xl (fun t => op n Mk L T (u t) y) l
  | [] => op_zero T
  | t :: l => by
    have h := op_xl (Mk := Mk) T u l
    have e : (fun y => xl (fun t => u t y) (t :: l)) = va (u t) (fun y => xl (fun t => u t y) l) := rfl
    rw [e, op_add, h]
    rfl
/-- The Xs behind the j-th. -/
def aft (n j : Nat) : List Nat := (List.range n).filter fun t => decide (j < t)
def opF (n : Nat) (X O : List Nat) (L : List StB) (c : Nat → Nat) (j : Nat) (v : StB → Bool) : StB → Bool := fun y => xl (fun t => op n (marks n X O) L [mrk X (c t)] v y) (aft n j)
theorem mem_aft {j t : Nat} : t ∈ aft n j ↔ t < n ∧ j < t := by unfold aft; rw [List.mem_filter, List.mem_range, decide_eq_true_eq]
/-- The columns of a knot, one behind the other. -/
structure Cyc (n : Nat) (X O : List Nat) (c : Nat → Nat) : Prop where
  lt : ∀ i, i < n → c i < n
  inj : ∀ i j, i < n → j < n → c i = c j → i = j
  nx : ∀ i, i + 1 < n → O.getD (c i) 0 = X.getD (c (i + 1)) 0
theorem Cyc.ann (g : Grd n X O) {c : Nat → Nat} (hc : Cyc n X O c) {i t : Nat} (hi : i + 1 < n) (ht : t < n) : annB n (marks n X O) [mrk O (c i), mrk X (c t)] = (decide (i = t) ^^ decide (i + 1 = t)) := by
  have ci := hc.lt i (by omega)
  have ct := hc.lt t ht
  rw [g.ann2 (mem_marks.2 ⟨_, ci, .inr rfl⟩) (mem_marks.2 ⟨_, ct, .inl rfl⟩) (mkOX g ci)]
  congr 1
  · exact decide_eq_decide.2 ⟨fun e => hc.inj i t (by omega) ht e, fun e => by subst e; rfl⟩
  · refine decide_eq_decide.2 ⟨fun e => ?_, fun e => by subst e; exact hc.nx i hi⟩
    have e2 : X.getD (c (i + 1)) 0 = X.getD (c t) 0 := (hc.nx i hi).symm.trans e
    exact hc.inj _ _ hi ht (g.pX.2.1 _ _ (hc.lt _ hi) ct e2)
theorem aft_sum {i j : Nat} (hi : i + 1 < n) (hj : j + 1 < n) : xl (fun t => decide (i = t) ^^ decide (i + 1 = t)) (aft n j) = decide (i = j) := by
  have h1 : ∀ k, k < n → xl (fun t => decide (k = t)) (aft n j) = decide (j < k) := fun k hk => by
    by_cases h : j < k
    · have nd : (aft n j).Nodup := List.nodup_range.filter _
      rw [xl_one (f := fun t => decide (k = t)) nd (mem_aft.2 ⟨hk, h⟩) fun t _ hne => decide_eq_false fun e => hne e.symm, decide_eq_true rfl, decide_eq_true h]
    · rw [xl_false fun t ht => decide_eq_false fun e => h (by rw [e]; exact (mem_aft.1 ht).2), decide_eq_false h]
  rw [xl_xor, h1 i (by omega), h1 (i + 1) hi]
  by_cases e : i = j
  · subst e
    rw [decide_eq_false (by omega), decide_eq_true (by omega), decide_eq_true rfl]; rfl
  · by_cases h : j < i
    · rw [decide_eq_true h, decide_eq_true (by omega), decide_eq_false e]; rfl
    · rw [decide_eq_false h, decide_eq_false (by omega), decide_eq_false e]; rfl
theorem sumDF (g : Grd n X O) (hL : AllSt n L) {c : Nat → Nat} (hc : Cyc n X O c) {i : Nat} (hi : i + 1 < n) {gg : Int × Int} {z : StB → Bool} (hz : Zg L (grP n X O) (op n (marks n X O) L []) gg z) : ∀ {l : List Nat}, (∀ t ∈ l, t < n) →
    ∃ b, Cg L (grP n X O) (sh gg 0 1) b ∧ va (op n (marks n X O) L [mrk O (c i)] (fun y => xl (fun t => op n (marks n X O) L [mrk X (c t)] z y) l)) (fun y => xl (fun t => op n (marks n X O) L [mrk X (c t)] (op n (marks n X O) L [mrk O (c i)] z) y) l) = va (op n (marks n X O) L [] b) (fun y => z y && xl (fun t => decide (i = t) ^^ decide (i + 1 = t)) l)
  | [], _ => ⟨v0, (Cg.spc L _ _).z, by
      rw [op_xl, op_zero]
      exact funext fun y => by
        show (false ^^ false) = (false ^^ (z y && false))
        rw [Bool.and_false]⟩
  | t :: l, hl => by
    obtain ⟨b, hb, e⟩ := sumDF g hL hc hi hz fun s hs => hl s (List.mem_cons_of_mem _ hs)
    have ht := hl t List.mem_cons_self
    have ci := hc.lt i (by omega)
    have cti := hc.lt t ht
    have k := op_pq g.h2 g.h8 hL g.lt (mem_marks.2 ⟨_, ci, .inr rfl⟩) (mem_marks.2 ⟨_, cti, .inl rfl⟩) (mkOX g ci) hz.1.spp
    rw [hz.2, op_zero, va_zero, hc.ann g hi ht] at k
    refine ⟨va (op n (marks n X O) L [mrk O (c i), mrk X (c t)] z) b, (Cg.spc L _ _).add _ _ ((linOX g hL ci cti).to _ _ hz.1) hb, ?_⟩
    rw [op_xl] at e ⊢
    rw [op_add]
    refine funext fun y => ?_
    have e' := congrFun e y
    have k' := congrFun k y
    clear e k
    simp only [va, xl_cons] at e' k' ⊢
    generalize xl (fun t => op n (marks n X O) L [mrk O (c i)] (op n (marks n X O) L [mrk X (c t)] z) y) l = s1 at *
    generalize xl (fun t => op n (marks n X O) L [mrk X (c t)] (op n (marks n X O) L [mrk O (c i)] z) y) l = s2 at *
    generalize xl (fun t => decide (i = t) ^^ decide (i + 1 = t)) l = s3 at *
    generalize op n (marks n X O) L [] b y = s4 at *
    generalize op n (marks n X O) L [mrk O (c i)] (op n (marks n X O) L [mrk X (c t)] z) y = s5 at *
    generalize op n (marks n X O) L [mrk X (c t)] (op n (marks n X O) L [mrk O (c i)] z) y = s6 at *
    generalize op n (marks n X O) L [] (op n (marks n X O) L [mrk O (c i), mrk X (c t)] z) y = s7 at *
    generalize (decide (i = t) ^^ decide (i + 1 = t)) = s8 at *
    generalize z y = s9 at *
    revert s1 s2 s3 s4 s5 s6 s7 s8 s9
    decide
/-- A knot's operations. -/
theorem knotK (g : Grd n X O) (hL : AllSt n L) {c : Nat → Nat} (hc : Cyc n X O c) : Ksz L (grP n X O) (op n (marks n X O) L []) (n - 1) (fun i => op n (marks n X O) L [mrk O (c i)]) (opF n X O L c) := by
  have h2 := g.h2
  have h8 := g.h8
  have mO : ∀ i, i < n → mrk O (c i) ∈ marks n X O := fun i hi => mem_marks.2 ⟨_, hc.lt i hi, .inr rfl⟩
  have mX' : ∀ i, i < n → mrk X (c i) ∈ marks n X O := fun i hi => mem_marks.2 ⟨_, hc.lt i hi, .inl rfl⟩
  refine ⟨lin0 g hL, fun i hi => linO g hL (hc.lt i (by omega)), fun j hj => ⟨fun u v => ?_, fun gg v hv y hy => ?_⟩, fun gg v _ => op_00 h2 h8 hL g.lt (mO 0 (by omega)) g.ann0 v, fun i hi gg v _ => op_01 h2 h8 hL g.lt (mO i (by omega)) (g.ann1 _) v, fun j hj gg v _ => ?_, fun i j hi hj hij gg v hv => ?_, fun i hi gg v _ => op_11 h2 h8 hL g.lt (mO i (by omega)) (g.ann11 _) v, fun i j hi hj hij gg v hv => ?_, fun i hi gg v hv => ?_⟩
  · unfold opF
    refine funext fun y => ?_
    show _ = (_ ^^ _)
    rw [← xl_xor]
    refine xl_congr fun t _ => ?_
    rw [op_add]; rfl
  · obtain ⟨t, ht, k⟩ := xl_ex hy
    exact (linX g hL (hc.lt t (mem_aft.1 ht).1)).to gg v hv y k
  · unfold opF
    rw [op_xl]
    refine funext fun y => xl_congr fun t ht => ?_
    exact congrFun (op_01 h2 h8 hL g.lt (mX' t (mem_aft.1 ht).1) (g.ann1 _) v) y
  · have hne : c i ≠ c j := fun e => hij (hc.inj i j (by omega) (by omega) e)
    have hne2 : mrk O (c i) ≠ mrk O (c j) := fun e => hne (Prod.mk.inj e).1
    have k := op_pq h2 h8 hL g.lt (mO i (by omega)) (mO j (by omega)) hne2 hv.1.spp
    rw [hv.2, op_zero, va_zero, g.ann2 (mO i (by omega)) (mO j (by omega)) hne2] at k
    have a1 : decide ((mrk O (c i)).1 = (mrk O (c j)).1) = false := decide_eq_false hne
    have a2 : decide ((mrk O (c i)).2 = (mrk O (c j)).2) = false := decide_eq_false fun e => hne (g.pO.2.1 _ _ (hc.lt i (by omega)) (hc.lt j (by omega)) e)
    rw [a1, a2] at k
    refine ⟨op n (marks n X O) L [mrk O (c i), mrk O (c j)] v, ?_, ?_⟩
    · have := (linOO g hL (hc.lt i (by omega)) (hc.lt j (by omega)) hne).to gg v hv.1
      rw [sh_sh]
      exact this
    · refine funext fun y => ?_
      have k' := congrFun k y
      clear k
      simp only [va, Bool.xor_false, Bool.and_false] at k' ⊢
      generalize op n (marks n X O) L [mrk O (c j)] (op n (marks n X O) L [mrk O (c i)] v) y = s1 at *
      generalize op n (marks n X O) L [mrk O (c i)] (op n (marks n X O) L [mrk O (c j)] v) y = s2 at *
      generalize op n (marks n X O) L [] (op n (marks n X O) L [mrk O (c i), mrk O (c j)] v) y = s3 at *
      revert s1 s2 s3
      decide
  · obtain ⟨b, hb, e⟩ := sumDF g hL hc (show i + 1 < n by omega) hv (l := aft n j) fun t ht => (mem_aft.1 ht).1
    rw [aft_sum (by omega) (by omega), decide_eq_false hij] at e
    refine ⟨b, hb, ?_⟩
    have e0 : (fun y => v y && false) = (v0 : StB → Bool) := funext fun y => Bool.and_false _
    rw [e0, va_zero] at e
    exact e
  · obtain ⟨b, hb, e⟩ := sumDF g hL hc (show i + 1 < n by omega) hv (l := aft n i) fun t ht => (mem_aft.1 ht).1
    rw [aft_sum (by omega) (by omega), decide_eq_true rfl] at e
    refine ⟨b, hb, ?_⟩
    have e0 : (fun y => v y && true) = v := funext fun y => Bool.and_true _
    rw [e0] at e
    have e2 : va (op n (marks n X O) L [mrk O (c i)] (opF n X O L c i v)) (opF n X O L c i (op n (marks n X O) L [mrk O (c i)] v)) = va (op n (marks n X O) L [] b) v := e
    rw [e2, va_comm v, va_assoc, va_self, va_zero]
/-- The columns of a knot. -/
theorem knot_cyc (g0 : okG (n : Int) X O) (h1 : comps n X O = 1) : ∃ c, Cyc n X O c := by
  have g := okG.grd g0
  have hp := nxt_perm g0
  have hn : 0 < n := by have := g.h2; omega
  have h0 : isRep (nxt n X O) 0 := fun t => Nat.zero_le _
  -- every column is met from the column 0
  have meet : ∀ i, i < n → rch (nxt n X O) 0 i := fun i hi => by
    obtain ⟨m, hm, hr, hrep⟩ := least_in hp hi
    have e : m = 0 := by
      have k : (repsU (nxt n X O) n).length = 1 := h1
      obtain ⟨a, ha⟩ := List.length_eq_one_iff.1 k
      have m1 : m ∈ repsU (nxt n X O) n := mem_reps.2 ⟨hm, hrep⟩
      have m2 : 0 ∈ repsU (nxt n X O) n := mem_reps.2 ⟨hn, h0⟩
      rw [ha, List.mem_singleton] at m1 m2
      rw [m1, ← m2]
    subst e
    exact rch_symm hp hi hr
  refine ⟨fun t => it (nxt n X O) t 0, fun i _ => it_lt hp hn i, ?_, fun i _ => ?_⟩
  · have key : ∀ s t, s < t → t < n → it (nxt n X O) s 0 ≠ it (nxt n X O) t 0 := fun s t hst ht e => by
      have e1 : it (nxt n X O) t 0 = it (nxt n X O) s (it (nxt n X O) (t - s) 0) := by rw [← it_add]; congr 1; omega
      rw [e1] at e
      have e2 := (it_inj hp hn (it_lt hp hn _) s e).symm
      have hle := List.Nodup.length_le_of_subset (List.nodup_range (n := n)) (l₂ := (List.range (t - s)).map fun u => it (nxt n X O) u 0) fun i hi => by
        obtain ⟨u, rfl⟩ := meet i (List.mem_range.1 hi)
        refine List.mem_map.2 ⟨u % (t - s), List.mem_range.2 (Nat.mod_lt _ (by omega)), ?_⟩
        have e3 : it (nxt n X O) u 0 = it (nxt n X O) (u % (t - s)) (it (nxt n X O) ((t - s) * (u / (t - s))) 0) := by rw [← it_add, Nat.mod_add_div]
        rw [e3, it_mul e2]
      simp at hle
      omega
    intro i j hi hj e
    rcases Nat.lt_trichotomy i j with h | h | h
    · exact absurd e (key i j h hj)
    · exact h
    · exact absurd e.symm (key j i h hi)
  · have := (nxt_next g0).2 (it (nxt n X O) i 0) (it_lt hp hn i)
    exact this.symm
end
end Go.Proofs.YtmbbcmebdefggaaGreatDoor
namespace Go.Proofs.YtmbbcmebdefggaaGreatDoor
/-- A list as a vector. -/
def vc (l : List StB) : StB → Bool := fun x => decide (x ∈ l)
theorem vc_nil : vc [] = v0 := funext fun x => by unfold vc; simp [v0]
theorem vc_sd {a b : List StB} (ha : Asc rkT a) (hb : Asc rkT b) : vc (sd rkT a b) = va (vc a) (vc b) := funext fun x => by
  unfold vc va
  have := sd_mem rkT_inj a b ha hb x
  by_cases h1 : x ∈ a <;> by_cases h2 : x ∈ b <;> simp [this, h1, h2]
theorem vc_inj {a b : List StB} (ha : Asc rkT a) (hb : Asc rkT b) (h : vc a = vc b) : a = b := Asc.ext ha hb fun x => by
  have := congrFun h x
  unfold vc at this
  exact decide_eq_decide.1 this
theorem vc_sm : ∀ {S : List (List StB)}, AscL rkT S → ∀ y, vc (smL rkT S) y = xl (fun l => vc l y) S
  | [], _, y => by
    show vc [] y = false
    rw [vc_nil]; rfl
  | s :: S, h, y => by
    have h' : AscL rkT S := fun g hg => h g (List.mem_cons_of_mem _ hg)
    rw [smL_cons, vc_sd (h s List.mem_cons_self) (smL_asc h'), xl_cons, ← vc_sm h' y]
    rfl
/-! The rectangles as they are listed. -/
theorem xl_snoc {α : Type} (f : α → Bool) (l : List α) (x : α) : xl f (l ++ [x]) = (xl f l ^^ f x) := by
  rw [xl_app, xl, xl, Bool.xor_false]
theorem xl_rin (n : Nat) (X O x : List Nat) (l : Nat) (f : Rec → Bool) : ∀ m, xl f (rin n X O x l m) = xl (fun w => f (recT n X O x l (w + 1))) (List.range m)
  | 0 => rfl
  | m + 1 => by rw [rin, xl_snoc, xl_rin n X O x l f m, List.range_succ, xl_snoc]
theorem xl_rout (n : Nat) (X O x : List Nat) (f : Rec → Bool) : ∀ k, xl f (rout n X O x k) = xl (fun l => xl f (rin n X O x l (n - 1))) (List.range k)
  | 0 => rfl
  | k + 1 => by rw [rout, xl_app, xl_rout n X O x f k, List.range_succ, xl_snoc]
theorem xl_count (z : StB) : ∀ l : List StB, xl (fun y => decide (z = y)) l = decide (l.count z % 2 = 1)
  | [] => rfl
  | x :: l => by
    rw [xl, xl_count z l, List.count_cons]
    by_cases e : z = x
    · subst e
      rw [decide_eq_true rfl, Bool.true_xor, if_pos (by simp)]
      by_cases h : l.count z % 2 = 1
      · rw [decide_eq_true h, decide_eq_false (by omega)]; rfl
      · rw [decide_eq_false h, decide_eq_true (by omega)]; rfl
    · rw [decide_eq_false e, Bool.false_xor, if_neg (fun k => e (eq_of_beq k).symm), Nat.add_zero]
theorem mks_zero (n : Nat) (Y : List Nat) (l b h : Nat) : ∀ w, mks n Y l b h w = 0 ↔ ∀ k, k < w → ¬ upR n Y l b k < h
  | 0 => by simp [mks]
  | w + 1 => by
    rw [mks]
    constructor
    · intro k j hj
      by_cases e : j = w
      · subst e
        intro h1
        rw [if_pos h1] at k
        omega
      · exact (mks_zero n Y l b h w).1 (by omega) j (by omega)
    · intro k
      rw [if_neg (k w (Nat.lt_succ_self w)), (mks_zero n Y l b h w).2 fun j hj => k j (by omega)]
section
variable {n : Nat} {X O : List Nat} {L : List StB}
theorem rec_same (g : Grd n X O) {x : StB} (p : isPerm x.1 n) {a w : Nat} (ha : a < n) (w0 : 0 < w) (wn : w < n) : (isEmp n x.1 (recT n X O x.1 a w) && freeR (recT n X O x.1 a w)) = recB n (marks n X O) [] x a ((a + w) % n) := by
  have hn : 0 < n := by omega
  have hb : (a + w) % n < n := Nat.mod_lt _ hn
  have xa := p.1 a ha
  have hd := dd_add ha wn
  have hne : ¬ a = (a + w) % n := fun e => mod_ne ha w0 wn e.symm
  have cv : ∀ {Y : List Nat}, isPerm Y n → (mks n Y a (x.1.getD a 0) (upR n x.1 a (x.1.getD a 0) w) w = 0 ↔ ∀ s, s < n → cvB n (fx x) a ((a + w) % n) s (Y.getD s 0) = false) := fun {Y} pY => by
    rw [mks_zero]
    constructor
    · intro k s hs
      rw [Bool.eq_false_iff]
      intro k2
      obtain ⟨k3, k4⟩ := cvB_iff.1 k2
      rw [hd] at k3
      refine k (dd n a s) k3 ?_
      rw [upR_dd pY hn xa, upR_dd p hn xa, add_dd ha hs]
      exact k4
    · intro k j hj hlt
      have hj2 : (a + j) % n < n := Nat.mod_lt _ hn
      have := k _ hj2
      rw [Bool.eq_false_iff] at this
      refine this (cvB_iff.2 ⟨?_, ?_⟩)
      · rw [dd_add ha (by omega), hd]; exact hj
      · rw [upR_dd pY hn xa, upR_dd p hn xa] at hlt
        exact hlt
  rw [Bool.eq_iff_iff]
  unfold recB freeR isEmp recT
  dsimp only
  simp only [Bool.and_eq_true, Bool.not_eq_true', beq_eq_false_iff_ne, ne_eq, beq_iff_eq, cv g.pX, cv g.pO]
  rw [emp_iff, emB_iff]
  have he : (∀ k, 0 < k → k < w → ¬ upR n x.1 a (x.1.getD a 0) k < upR n x.1 a (x.1.getD a 0) w) ↔ ∀ s, s < n → ¬ (0 < dd n a s ∧ dd n a s < dd n a ((a + w) % n) ∧ dd n (fx x a) (fx x s) < dd n (fx x a) (fx x ((a + w) % n))) := by
    constructor
    · rintro k s hs ⟨k1, k2, k3⟩
      rw [hd] at k2
      refine k _ k1 k2 ?_
      rw [upR_dd p hn xa, upR_dd p hn xa, add_dd ha hs]
      exact k3
    · intro k j j0 hj hlt
      have hj2 : (a + j) % n < n := Nat.mod_lt _ hn
      refine k _ hj2 ⟨?_, ?_, ?_⟩
      · rw [dd_add ha (by omega)]; exact j0
      · rw [dd_add ha (by omega), hd]; exact hj
      · rw [upR_dd p hn xa, upR_dd p hn xa] at hlt
        exact hlt
  rw [he]
  have hh : has (marks n X O) (fun q => cvB n (fx x) a ((a + w) % n) q.1 q.2) [] = true ↔ (∀ s, s < n → cvB n (fx x) a ((a + w) % n) s (X.getD s 0) = false) ∧ ∀ s, s < n → cvB n (fx x) a ((a + w) % n) s (O.getD s 0) = false := by
    unfold has
    rw [List.all_eq_true]
    simp only [List.elem_nil, beq_false, Bool.not_eq_true']
    constructor
    · intro k
      exact ⟨fun s hs => k _ (mem_marks.2 ⟨s, hs, .inl rfl⟩), fun s hs => k _ (mem_marks.2 ⟨s, hs, .inr rfl⟩)⟩
    · rintro ⟨k1, k2⟩ q hq
      obtain ⟨s, hs, rfl | rfl⟩ := mem_marks.1 hq
      · exact k1 s hs
      · exact k2 s hs
  rw [hh]
  constructor
  · rintro ⟨k1, k2, k3⟩
    exact ⟨hne, k1, k2, k3⟩
  · rintro ⟨_, k1, k2, k3⟩
    exact ⟨k1, k2, k3⟩
/-- What follows a state, as the operation. -/
theorem opM_fol (g : Grd n X O) {x : StB} (p : isPerm x.1 n) (z : StB) : opM n (marks n X O) [] x z = vc (tfold (fol n X O x)) z := by
  have h1 : vc (tfold (fol n X O x)) z = xl (fun y => decide (z = y)) (fol n X O x) := by
    rw [xl_count]
    unfold vc
    exact decide_eq_decide.2 ((tfold_odd _).2.1 z)
  rw [h1]
  unfold fol
  rw [xl_map, xl_filter, eout_filter, xl_filter, xl_rout]
  unfold opM
  refine xl_congr fun a ha => ?_
  have ha' := List.mem_range.1 ha
  have h2 := g.h2
  rw [xl_rin]
  have hs := xl_sub (f := fun b => recB n (marks n X O) [] x a b && decide (z = swB x a b)) (g := fun w => (a + (w + 1)) % n) (l := List.range n) (m := List.range (n - 1)) List.nodup_range ?_ (fun w _ => List.mem_range.2 (Nat.mod_lt _ (by omega))) ?_
  · rw [hs]
    refine xl_congr fun w hw => ?_
    have hw' := List.mem_range.1 hw
    have := rec_same g p ha' (show 0 < w + 1 by omega) (show w + 1 < n by omega)
    rw [← this]
    have hl : led n x (recT n X O x.1 a (w + 1)) = swB x a ((a + (w + 1)) % n) := rfl
    rw [hl, Bool.and_assoc]
  · rw [List.nodup_iff_pairwise_ne, List.pairwise_map]
    refine List.Pairwise.imp_of_mem (fun {u v} hu hv hne e => hne ?_) (List.nodup_iff_pairwise_ne.1 List.nodup_range)
    have hu' := List.mem_range.1 hu
    have hv' := List.mem_range.1 hv
    have e1 := dd_add ha' (show u + 1 < n by omega)
    have e2 := dd_add ha' (show v + 1 < n by omega)
    rw [e] at e1
    omega
  · intro b hb hnb
    have hb' := List.mem_range.1 hb
    have e : a = b := by
      refine Classical.byContradiction fun hab => hnb (List.mem_map.2 ⟨dd n a b - 1, List.mem_range.2 ?_, ?_⟩)
      · have := dd_lt ha' hb'
        have := fun k => hab ((dd_zero ha' hb').1 k)
        omega
      · have h0 : dd n a b ≠ 0 := fun k => hab ((dd_zero ha' hb').1 k)
        rw [show dd n a b - 1 + 1 = dd n a b by omega, add_dd ha' hb']
    subst e
    unfold recB
    rw [beq_self_eq_true]
    rfl
/-- The images of some states. -/
def imgs (n : Nat) (X O : List Nat) (S : List StB) : List (List StB) := S.map fun x => tfold (fol n X O x)
theorem imgs_asc (S : List StB) : AscL rkT (imgs n X O S) := fun l hl => by
  obtain ⟨x, _, rfl⟩ := List.mem_map.1 hl
  exact (tfold_odd _).1
theorem op_vec (g : Grd n X O) (hL : AllSt n L) (b : StB → Bool) : op n (marks n X O) L [] b = vc (smL rkT (imgs n X O (L.filter b))) := funext fun y => by
  rw [vc_sm (imgs_asc _)]
  unfold imgs op
  rw [xl_map, xl_filter]
  refine xl_congr fun x hx => ?_
  rw [opM_fol g ((hL.mem x).1 hx)]
/-- Boundaries are what the images span. -/
theorem Bg_spn (g : Grd n X O) (hL : AllSt n L) {gg : Int × Int} {S : List StB} (hS : ∀ x, x ∈ S ↔ x ∈ L ∧ grP n X O x = sh gg 0 1) (v : StB → Bool) : Bg L (grP n X O) (op n (marks n X O) L []) gg v ↔ ∃ l, Spn rkT (imgs n X O S) l ∧ v = vc l := by
  constructor
  · rintro ⟨b, hb, rfl⟩
    refine ⟨_, ⟨imgs n X O (L.filter b), fun l hl => ?_, rfl⟩, op_vec g hL b⟩
    obtain ⟨x, hx, rfl⟩ := List.mem_map.1 hl
    obtain ⟨h1, h2⟩ := List.mem_filter.1 hx
    exact List.mem_map.2 ⟨x, (hS x).2 (hb x h2), rfl⟩
  · rintro ⟨l, ⟨T, hT, rfl⟩, rfl⟩
    induction T with
    | nil =>
      refine ⟨v0, (Cg.spc L _ _).z, ?_⟩
      rw [op_zero]
      exact vc_nil
    | cons t T ih =>
      obtain ⟨b, hb, e⟩ := ih fun s hs => hT s (List.mem_cons_of_mem _ hs)
      obtain ⟨x, hx, rfl⟩ := List.mem_map.1 (hT t List.mem_cons_self)
      have ha : AscL rkT T := fun s hs => imgs_asc S s (hT s (List.mem_cons_of_mem _ hs))
      have hxL := ((hS x).1 hx).1
      refine ⟨va (fun y => decide (y = x)) b, (Cg.spc L _ _).add _ _ (fun y hy => ?_) hb, ?_⟩
      · rw [decide_eq_true_eq] at hy
        subst hy
        exact (hS y).1 hx
      · rw [smL_cons, vc_sd (tfold_odd _).1 (smL_asc ha), e, op_add]
        congr 1
        refine funext fun y => ?_
        unfold op
        rw [xl_one hL.nd hxL fun z _ hne => by show (decide (z = x) && _) = false; rw [decide_eq_false hne, Bool.false_and]]
        show _ = (decide (x = x) && opM n (marks n X O) [] x y)
        rw [decide_eq_true rfl, Bool.true_and, opM_fol g ((hL.mem x).1 hxL)]
/-- A family with different leading places: the dimension of its span. -/
theorem Ech.dm : ∀ {B : List (List StB)}, Ech rkT B → Dm (fun v => ∃ l, Spn rkT B l ∧ v = vc l) B.length
  | [], _ => ⟨[v0], by simp, fun v => by
      rw [List.mem_singleton]
      constructor
      · rintro rfl
        exact ⟨[], Spn.nil _, vc_nil.symm⟩
      · rintro ⟨l, ⟨S, hS, rfl⟩, rfl⟩
        cases S with
        | nil => exact vc_nil
        | cons s S => exact absurd (hS s List.mem_cons_self) List.not_mem_nil, rfl⟩
  | b :: B, h => by
    have hB := h.sub (List.sublist_cons_self b B)
    have ih := Ech.dm hB
    have sp : Spc fun v => ∃ l, Spn rkT B l ∧ v = vc l := ⟨⟨[], Spn.nil _, vc_nil.symm⟩, fun u v ⟨k, hk, e⟩ ⟨l, hl, e'⟩ => ⟨_, Spn.sd rkT_inj hB.asc hk hl, by rw [vc_sd (hk.asc hB.asc) (hl.asc hB.asc), e, e']⟩⟩
    have hba := h.asc b List.mem_cons_self
    have hnew : ¬ ∃ l, Spn rkT B l ∧ vc b = vc l := by
      rintro ⟨l, hl, e⟩
      have e2 := vc_inj hba (hl.asc hB.asc) e
      subst e2
      have := hB.nothing rkT_inj hl fun c hc k => (List.pairwise_cons.1 h.pw).1 c hc k.symm
      exact h.ne b List.mem_cons_self this
    have hd := Crd.double sp ih hnew
    unfold Dm
    rw [List.length_cons, Nat.pow_succ, Nat.mul_comm]
    refine hd.congr fun v => ?_
    constructor
    · rintro (⟨l, hl, rfl⟩ | ⟨l, hl, e⟩)
      · exact ⟨l, Spn.mono rkT_inj h.asc (fun c hc => Spn.one (List.mem_cons_of_mem _ hc)) hl, rfl⟩
      · refine ⟨sd rkT b l, Spn.sd rkT_inj h.asc (Spn.one List.mem_cons_self) (Spn.mono rkT_inj h.asc (fun c hc => Spn.one (List.mem_cons_of_mem _ hc)) hl), ?_⟩
        rw [vc_sd hba (hl.asc hB.asc), ← e, va_back]
    · rintro ⟨l, hl, rfl⟩
      obtain ⟨u, hu, e⟩ := hl.split rkT_inj h.asc
      rcases e with e | e
      · exact .inl ⟨u, hu, by rw [e]⟩
      · exact .inr ⟨u, hu, by rw [e, vc_sd hba (hu.asc hB.asc), va_back]⟩
theorem states_dm (hL : AllSt n L) {gg : Int × Int} {S : List StB} (nd : S.Nodup) (hS : ∀ x, x ∈ S ↔ x ∈ L ∧ grP n X O x = gg) : dm (Cg L (grP n X O) gg) = S.length := by
  refine dm_is ((Spp.crd nd).congr fun v => ?_)
  constructor
  · intro h x hx
    exact (hS x).1 (h x hx)
  · intro h x hx
    exact (hS x).2 (h x hx)
end
end Go.Proofs.YtmbbcmebdefggaaGreatDoor
namespace Go.Proofs.YtmbbcmebdefggaaGreatDoor
/-! Sums that a pairing cancels. -/
theorem xl_inv {f : StB → Bool} {σ : StB → StB} : ∀ (N : Nat) {l : List StB}, l.length ≤ N → l.Nodup → (∀ x ∈ l, σ x ∈ l ∧ σ (σ x) = x ∧ σ x ≠ x ∧ f (σ x) = f x) → xl f l = false
  | _, [], _, _, _ => rfl
  | N + 1, x :: l, hN, hn, h => by
    obtain ⟨h1, h2, h3, h4⟩ := h x List.mem_cons_self
    obtain ⟨n1, n2⟩ := List.nodup_cons.1 hn
    have hm : σ x ∈ l := (List.mem_cons.1 h1).resolve_left h3
    have hp : l.Perm (σ x :: l.erase (σ x)) := List.perm_cons_erase hm
    rw [xl, xl_perm hp, xl, h4, xl_inv N (l := l.erase (σ x))]
    · cases f x <;> rfl
    · rw [List.length_erase_of_mem hm]
      simp only [List.length_cons] at hN
      omega
    · exact n2.erase _
    · intro y hy
      obtain ⟨k1, k2⟩ := (List.Nodup.mem_erase_iff n2).1 hy
      obtain ⟨h5, h6, h7, h8⟩ := h y (List.mem_cons_of_mem _ k2)
      refine ⟨(List.Nodup.mem_erase_iff n2).2 ⟨fun e => ?_, (List.mem_cons.1 h5).resolve_left fun e => ?_⟩, h6, h7, h8⟩
      · have e2 := congrArg σ e
        rw [h6, h2] at e2
        exact n1 (e2 ▸ k2)
      · have e2 := congrArg σ e
        rw [h6] at e2
        exact k1 e2
section
variable {n : Nat} {L : List StB}
/-- Two columns exchanged: a sum over all states of what does not change is 0. -/
theorem xl_swap (h8 : n ≤ 8) (hL : AllSt n L) {a b : Nat} (ha : a < n) (hb : b < n) (hab : a ≠ b) {f : StB → Bool} (hf : ∀ x ∈ L, f (swB x a b) = f x) : xl f L = false := by
  refine xl_inv (σ := fun x => swB x a b) L.length (Nat.le_refl _) hL.nd fun x hx => ?_
  have p := (hL.mem x).1 hx
  have p1 := swB_perm h8 p ha hb
  have f1 := fx_swB (x := x) (a := a) (b := b) (by omega) (by omega)
  have f2 := fx_swB (x := swB x a b) (a := a) (b := b) (by omega) (by omega)
  refine ⟨(hL.mem _).2 p1, stB_ext (swB_perm h8 p1 ha hb) p fun i _ => ?_, fun e => ?_, hf x hx⟩
  · rw [f2, f1]
    by_cases e1 : i = b
    · subst e1; rw [sw_b, sw_a hab]
    · by_cases e2 : i = a
      · subst e2; rw [sw_a hab, sw_b]
      · rw [sw_o e2 e1, sw_o e2 e1]
  · have := congrFun f1 a
    rw [show swB x a b = x from e, sw_a hab] at this
    exact hab ((fx_perm p).2 a b ha hb this)
/-! Numbers whose differences are told. -/
def phi : Nat → Int → Bool
  | 0, _ => true
  | k + 1, s => xl (fun j : Nat => phi k j) (List.range s.toNat) ^^ xl (fun j : Nat => phi k (-1 - j)) (List.range (-s).toNat)
theorem phi_succ (k : Nat) (s : Int) : phi (k + 1) s = (xl (fun j : Nat => phi k j) (List.range s.toNat) ^^ xl (fun j : Nat => phi k (-1 - j)) (List.range (-s).toNat)) := rfl
theorem phi_step (k : Nat) (s : Int) : (phi (k + 1) s ^^ phi (k + 1) (s + 1)) = phi k s := by
  rw [phi_succ, phi_succ]
  by_cases h : 0 ≤ s
  · obtain ⟨m, rfl⟩ : ∃ m : Nat, s = m := ⟨s.toNat, by omega⟩
    rw [show (-(m : Int)).toNat = 0 by omega, show (-((m : Int) + 1)).toNat = 0 by omega, show ((m : Int) + 1).toNat = m + 1 by omega, show (m : Int).toNat = m by omega, List.range_succ, xl_snoc, List.range_zero, xl, Bool.xor_false, Bool.xor_false]
    generalize xl (fun j : Nat => phi k j) (List.range m) = t
    generalize phi k (m : Int) = u
    revert t u
    decide
  · obtain ⟨m, rfl⟩ : ∃ m : Nat, s = -1 - (m : Int) := ⟨(-1 - s).toNat, by omega⟩
    rw [show (-1 - (m : Int)).toNat = 0 by omega, show (-1 - (m : Int) + 1).toNat = 0 by omega, show (-(-1 - (m : Int))).toNat = m + 1 by omega, show (-(-1 - (m : Int) + 1)).toNat = m by omega, List.range_succ, xl_snoc, List.range_zero, xl, Bool.false_xor, Bool.false_xor]
    generalize xl (fun j : Nat => phi k (-1 - j)) (List.range m) = t
    generalize phi k (-1 - (m : Int)) = u
    revert t u
    decide
/-- Sums with a choice of two in each of m rows behind the i-th. -/
def cho (W : Nat → Nat → Int) (x : Nat → Nat) (f : Int → Bool) : Nat → Nat → Int → Bool
  | 0, _, s => f s
  | m + 1, i, s => cho W x f m (i + 1) (s + W i (x (i + 1))) ^^ cho W x f m (i + 1) (s + W (i + 1) (x (i + 1)))
theorem cho_congr {W : Nat → Nat → Int} {x y : Nat → Nat} {f : Int → Bool} : ∀ (m i : Nat) (s : Int), (∀ j, i < j → x j = y j) → cho W x f m i s = cho W y f m i s
  | 0, _, _, _ => rfl
  | m + 1, i, s, h => by
    unfold cho
    rw [h (i + 1) (Nat.lt_succ_self i), cho_congr m (i + 1) _ fun j hj => h j (by omega), cho_congr m (i + 1) _ fun j hj => h j (by omega)]
theorem cho_xor {W : Nat → Nat → Int} {x : Nat → Nat} {f : Int → Bool} : ∀ (m i : Nat) (s : Int), (cho W x f m i s ^^ cho W x f m i (s + 1)) = cho W x (fun s => f s ^^ f (s + 1)) m i s
  | 0, _, _ => rfl
  | m + 1, i, s => by
    have h1 := cho_xor (W := W) (x := x) (f := f) m (i + 1) (s + W i (x (i + 1)))
    have h2 := cho_xor (W := W) (x := x) (f := f) m (i + 1) (s + W (i + 1) (x (i + 1)))
    unfold cho
    rw [← h1, ← h2, show s + W i (x (i + 1)) + 1 = s + 1 + W i (x (i + 1)) by omega, show s + W (i + 1) (x (i + 1)) + 1 = s + 1 + W (i + 1) (x (i + 1)) by omega]
    generalize cho W x f m (i + 1) (s + W i (x (i + 1))) = a
    generalize cho W x f m (i + 1) (s + W (i + 1) (x (i + 1))) = b
    generalize cho W x f m (i + 1) (s + 1 + W i (x (i + 1))) = c
    generalize cho W x f m (i + 1) (s + 1 + W (i + 1) (x (i + 1))) = d
    revert a b c d
    decide
/-- Where each choice changes the sum by one. -/
theorem cho_phi {W : Nat → Nat → Int} {x : Nat → Nat} (hW : ∀ i r, W (i + 1) r = W i r ∨ W (i + 1) r = W i r + 1 ∨ W i r = W (i + 1) r + 1) : ∀ (m i : Nat) (s : Int), cho W x (phi m) m i s = (List.range m).all fun t => !(W (i + t + 1) (x (i + t + 1)) == W (i + t) (x (i + t + 1)))
  | 0, _, _ => rfl
  | m + 1, i, s => by
    have hr : (List.range (m + 1)).all (fun t => !(W (i + t + 1) (x (i + t + 1)) == W (i + t) (x (i + t + 1)))) = (!(W (i + 1) (x (i + 1)) == W i (x (i + 1))) && (List.range m).all fun t => !(W (i + 1 + t + 1) (x (i + 1 + t + 1)) == W (i + 1 + t) (x (i + 1 + t + 1)))) := by
      rw [List.range_succ_eq_map, List.all_cons, List.all_map]
      congr 1
      refine congrArg (fun f => List.all (List.range m) f) (funext fun t => ?_)
      show (!(W (i + (t + 1) + 1) (x (i + (t + 1) + 1)) == W (i + (t + 1)) (x (i + (t + 1) + 1)))) = _
      rw [show i + (t + 1) = i + 1 + t by omega]
    have step : ∀ u : Int, (cho W x (phi (m + 1)) m (i + 1) u ^^ cho W x (phi (m + 1)) m (i + 1) (u + 1)) = cho W x (phi m) m (i + 1) u := fun u => by
      rw [cho_xor]
      congr 1
      exact funext fun s => phi_step m s
    rw [hr]
    show (cho W x (phi (m + 1)) m (i + 1) (s + W i (x (i + 1))) ^^ cho W x (phi (m + 1)) m (i + 1) (s + W (i + 1) (x (i + 1)))) = _
    rcases hW i (x (i + 1)) with e | e | e
    · rw [e, Bool.xor_self, beq_self_eq_true]
      rfl
    · have hne : (W (i + 1) (x (i + 1)) == W i (x (i + 1))) = false := beq_eq_false_iff_ne.2 (by omega)
      rw [hne, e, show s + (W i (x (i + 1)) + 1) = s + W i (x (i + 1)) + 1 by omega, step, cho_phi hW m (i + 1)]
      rfl
    · have hne : (W (i + 1) (x (i + 1)) == W i (x (i + 1))) = false := beq_eq_false_iff_ne.2 (by omega)
      rw [hne, e, show s + (W (i + 1) (x (i + 1)) + 1) = s + W (i + 1) (x (i + 1)) + 1 by omega, Bool.xor_comm, step, cho_phi hW m (i + 1)]
      rfl
/-- The choices may be made: the sums over all states agree. -/
theorem cho_sum (h8 : n ≤ 8) (hL : AllSt n L) (W : Nat → Nat → Int) (f : Int → Bool) : ∀ m j, j + m + 1 = n → xl (fun x => cho W (fx x) f m j (sm (fun i => W i (fx x i)) (j + 1))) L = xl (fun x => f (sm (fun i => W i (fx x i)) n)) L
  | 0, j, h => by
    subst h
    rfl
  | m + 1, j, h => by
    have ih := cho_sum h8 hL W f m (j + 1) (by omega)
    rw [← ih]
    have e : ∀ x : StB, cho W (fx x) f (m + 1) j (sm (fun i => W i (fx x i)) (j + 1)) = (cho W (fx x) f m (j + 1) (sm (fun i => W i (fx x i)) (j + 1) + W j (fx x (j + 1))) ^^ cho W (fx x) f m (j + 1) (sm (fun i => W i (fx x i)) (j + 1 + 1))) := fun x => rfl
    rw [xl_congr fun x _ => e x, xl_xor]
    rw [xl_swap h8 hL (a := j) (b := j + 1) (by omega) (by omega) (by omega) fun x hx => ?_, Bool.false_xor]
    rw [fx_swB (by omega) (by omega)]
    have s1 : sm (fun i => W i (sw (fx x) j (j + 1) i)) (j + 1) = sm (fun i => W i (fx x i)) j + W j (fx x (j + 1)) := by
      rw [sm, sw_a (by omega)]
      congr 1
      exact sm_congr fun i hi => by rw [sw_o (by omega) (by omega)]
    rw [s1, sw_b, cho_congr m (j + 1) _ (fun k hk => sw_o (x := fx x) (a := j) (b := j + 1) (s := k) (by omega) (by omega))]
    congr 1
    rw [sm]
    omega
/-! Products modulo two. -/
def prm (n : Nat) (L : List StB) (M : Nat → Nat → Bool) : Bool := xl (fun x => (List.range n).all fun i => M i (fx x i)) L
theorem all_pull {p : Nat → Bool} {i : Nat} (hi : i < n) : (List.range n).all p = (p i && (List.range n).all fun r => r == i || p r) := by
  rw [Bool.eq_iff_iff]
  simp only [List.all_eq_true, List.mem_range, Bool.and_eq_true, Bool.or_eq_true, beq_iff_eq]
  constructor
  · exact fun h => ⟨h i hi, fun r hr => .inr (h r hr)⟩
  · rintro ⟨h1, h2⟩ r hr
    rcases h2 r hr with rfl | h
    · exact h1
    · exact h
theorem prm_add (h8 : n ≤ 8) (hL : AllSt n L) {i j : Nat} (hi : i < n) (hj : j < n) (hij : i ≠ j) (M : Nat → Nat → Bool) : prm n L (fun r s => if r = i then M i s ^^ M j s else M r s) = prm n L M := by
  have h1 : ∀ x : StB, (List.range n).all (fun r => if r = i then M i (fx x r) ^^ M j (fx x r) else M r (fx x r)) = (((List.range n).all fun r => M r (fx x r)) ^^ (List.range n).all fun r => if r = i then M j (fx x r) else M r (fx x r)) := fun x => by
    have rest : ∀ (A : Nat → Bool), (List.range n).all (fun r => r == i || (if r = i then A r else M r (fx x r))) = (List.range n).all fun r => r == i || M r (fx x r) := fun A => by
      refine congrArg (fun f => List.all (List.range n) f) (funext fun r => ?_)
      by_cases e : r = i
      · subst e; simp
      · rw [if_neg e]
    rw [all_pull hi (p := fun r => if r = i then M i (fx x r) ^^ M j (fx x r) else M r (fx x r)), all_pull hi (p := fun r => M r (fx x r)), all_pull hi (p := fun r => if r = i then M j (fx x r) else M r (fx x r)), rest, rest, if_pos rfl, if_pos rfl]
    generalize (List.range n).all (fun r => r == i || M r (fx x r)) = t
    generalize M i (fx x i) = u
    generalize M j (fx x i) = v
    revert t u v
    decide
  unfold prm
  rw [xl_congr fun x _ => h1 x, xl_xor]
  rw [xl_swap (f := fun x => (List.range n).all fun r => if r = i then M j (fx x r) else M r (fx x r)) h8 hL hi hj hij fun x hx => ?_, Bool.xor_false]
  rw [fx_swB (by omega) (by omega), Bool.eq_iff_iff]
  simp only [List.all_eq_true, List.mem_range]
  constructor
  · intro h r hr
    by_cases e1 : r = i
    · have := h j hj
      rw [if_neg (Ne.symm hij), sw_b] at this
      rw [if_pos e1, e1]; exact this
    · rw [if_neg e1]
      by_cases e2 : r = j
      · have := h i hi
        rw [if_pos rfl, sw_a hij] at this
        rw [e2]; exact this
      · have := h r hr
        rwa [if_neg e1, sw_o e1 e2] at this
  · intro h r hr
    by_cases e1 : r = i
    · rw [if_pos e1, e1, sw_a hij]
      have := h j hj
      rwa [if_neg (Ne.symm hij)] at this
    · rw [if_neg e1]
      by_cases e2 : r = j
      · rw [e2, sw_b]
        have := h i hi
        rwa [if_pos rfl] at this
      · rw [sw_o e1 e2]
        have := h r hr
        rwa [if_neg e1] at this
theorem prm_congr {M M' : Nat → Nat → Bool} (hL : AllSt n L) (h : ∀ i r, i < n → r < n → M i r = M' i r) : prm n L M = prm n L M' := xl_congr fun x hx => by
  rw [Bool.eq_iff_iff]
  simp only [List.all_eq_true, List.mem_range]
  have p := fx_perm ((hL.mem x).1 hx)
  exact ⟨fun k i hi => by rw [← h i _ hi (p.1 i hi)]; exact k i hi, fun k i hi => by rw [h i _ hi (p.1 i hi)]; exact k i hi⟩
/-- One row added to several. -/
theorem prm_all (h8 : n ≤ 8) (hL : AllSt n L) {j : Nat} (hj : j < n) (M : Nat → Nat → Bool) : ∀ A : List Nat, A.Nodup → j ∉ A → (∀ a ∈ A, a < n) → prm n L (fun r s => if r ∈ A then M r s ^^ M j s else M r s) = prm n L M
  | [], _, _, _ => prm_congr hL fun i r _ _ => if_neg List.not_mem_nil
  | a :: A, hn, hj2, hA => by
    obtain ⟨n1, n2⟩ := List.nodup_cons.1 hn
    have hja : a ≠ j := fun e => hj2 (by rw [e]; exact List.mem_cons_self)
    have hjA : j ∉ A := fun k => hj2 (List.mem_cons_of_mem _ k)
    rw [← prm_all h8 hL hj M A n2 hjA fun b hb => hA b (List.mem_cons_of_mem _ hb), ← prm_add h8 hL (hA a List.mem_cons_self) hj hja (fun r s => if r ∈ A then M r s ^^ M j s else M r s)]
    refine prm_congr hL fun i r _ _ => ?_
    by_cases e : i = a
    · subst e
      rw [if_pos List.mem_cons_self, if_pos rfl, if_neg n1, if_neg hjA]
    · rw [if_neg e]
      by_cases e2 : i ∈ A
      · rw [if_pos (List.mem_cons_of_mem _ e2), if_pos e2]
      · rw [if_neg fun k => (List.mem_cons.1 k).elim e e2, if_neg e2]
/-- Steps: just one state lies under them. -/
theorem prm_steps (hL : AllSt n L) {u : Nat → Nat} (hu : permF u n) (h8 : n ≤ 8) : prm n L (fun i r => decide (r ≤ u i)) = true := by
  have hsum : ∀ x : StB, isPerm x.1 n → (∀ i, i < n → fx x i ≤ u i) → ∀ i, i < n → fx x i = u i := fun x p h => by
    have e1 : sm (fun i => ((u i : Nat) : Int) - ((fx x i : Nat) : Int)) n = 0 := by
      rw [sm_sub, sm_perm hu (fun i => (i : Int)), sm_perm (fx_perm p) (fun i => (i : Int))]
      omega
    have key : ∀ m, m ≤ n → 0 ≤ sm (fun i => ((u i : Nat) : Int) - ((fx x i : Nat) : Int)) m ∧ (sm (fun i => ((u i : Nat) : Int) - ((fx x i : Nat) : Int)) m = 0 → ∀ i, i < m → fx x i = u i) := fun m => by
      induction m with
      | zero => exact fun _ => ⟨Int.le_refl _, fun _ i hi => absurd hi (Nat.not_lt_zero i)⟩
      | succ m ih =>
        intro hm
        obtain ⟨h1, h2⟩ := ih (by omega)
        have h3 := h m (by omega)
        rw [sm]
        refine ⟨by omega, fun h0 i hi => ?_⟩
        by_cases e : i = m
        · subst e; omega
        · exact h2 (by omega) i (by omega)
    exact (key n (Nat.le_refl _)).2 e1
  -- the state u itself
  obtain ⟨y, hy, hyu⟩ : ∃ y : StB, isPerm y.1 n ∧ ∀ i, i < n → fx y i = u i := by
    have hl : ((List.range 8).map fun i => if i < n then u i else 0).length = 8 := by simp
    have hg : ∀ i, ((List.range 8).map fun i => if i < n then u i else 0).getD i 0 = if i < n then u i else 0 := fun i => by
      rw [List.getD_eq_getElem?_getD, List.getElem?_map]
      by_cases hi : i < 8
      · rw [List.getElem?_range hi]; rfl
      · rw [List.getElem?_eq_none (by simp; omega)]
        simp only [Option.map_none, Option.getD_none]
        rw [if_neg (by omega)]
    refine ⟨⟨(List.range 8).map fun i => if i < n then u i else 0, hl, fun i => ?_⟩, ⟨fun i hi => ?_, fun i k hi hk e => ?_, fun i hi => ?_⟩, fun i hi => ?_⟩
    · rw [hg]
      split
      · have := hu.1 i (by assumption); omega
      · omega
    · rw [hg, if_pos hi]; exact hu.1 i hi
    · rw [hg, hg, if_pos hi, if_pos hk] at e
      exact hu.2 i k hi hk e
    · rw [hg, if_neg (by omega)]
    · unfold fx
      rw [hg, if_pos hi]
  unfold prm
  rw [xl_one hL.nd ((hL.mem y).2 hy) fun x hx hne => ?_]
  · rw [List.all_eq_true]
    intro i hi
    rw [decide_eq_true_eq, hyu i (List.mem_range.1 hi)]
    exact Nat.le_refl _
  · rw [Bool.eq_false_iff]
    intro k
    rw [List.all_eq_true] at k
    have p := (hL.mem x).1 hx
    refine hne (stB_ext p hy fun i hi => ?_)
    rw [hyu i hi]
    exact hsum x p (fun j hj => of_decide_eq_true (k j (List.mem_range.2 hj))) i hi
end
end Go.Proofs.YtmbbcmebdefggaaGreatDoor
namespace Go.Proofs.YtmbbcmebdefggaaGreatDoor
/-- The winding numbers. -/
def wn (X O : List Nat) : Nat → Nat → Int
  | 0, _ => 0
  | i + 1, r => wn X O i r + (ind (X.getD i 0 < r) - ind (O.getD i 0 < r))
theorem wn_step (X O : List Nat) (i r : Nat) : wn X O (i + 1) r = wn X O i r ∨ wn X O (i + 1) r = wn X O i r + 1 ∨ wn X O i r = wn X O (i + 1) r + 1 := by
  rw [wn]
  unfold ind
  split <;> split <;> omega
section
variable {n : Nat} {X O : List Nat}
def eW (n : Nat) (Y : List Nat) (i r : Nat) : Int := ct (fun k => i ≤ k ∧ r ≤ Y.getD k 0) n + ct (fun k => k < i ∧ Y.getD k 0 < r) n
theorem eW_zero {Y : List Nat} (pY : isPerm Y n) {r : Nat} (hr : r ≤ n) : eW n Y 0 r = n - r := by
  unfold eW
  have h1 : ct (fun k => k < n) n = ct (fun k => 0 ≤ k ∧ r ≤ Y.getD k 0) n + ct (fun k => Y.getD k 0 < r) n := ct_split fun k hk => by omega
  have h2 : ct (fun k => Y.getD k 0 < r) n = r := sm_cnt pY.permF hr
  rw [ct_lt (Nat.le_refl n), h2] at h1
  rw [ct_none (p := fun k => k < 0 ∧ Y.getD k 0 < r) fun k _ h => absurd h.1 (Nat.not_lt_zero k)]
  omega
theorem eW_succ (Y : List Nat) {i r : Nat} (hi : i < n) : eW n Y (i + 1) r = eW n Y i r + 2 * ind (Y.getD i 0 < r) - 1 := by
  unfold eW
  have h1 : ct (fun k => i ≤ k ∧ r ≤ Y.getD k 0) n = ct (fun k => i + 1 ≤ k ∧ r ≤ Y.getD k 0) n + ct (fun k => k = i ∧ r ≤ Y.getD k 0) n := ct_split fun k _ => by omega
  have h2 : ct (fun k => k < i + 1 ∧ Y.getD k 0 < r) n = ct (fun k => k < i ∧ Y.getD k 0 < r) n + ct (fun k => k = i ∧ Y.getD k 0 < r) n := ct_split fun k _ => by omega
  have h3 : ct (fun k => k = i ∧ r ≤ Y.getD k 0) n = ind (r ≤ Y.getD i 0) := by
    unfold ct
    rw [sm_single hi fun k _ hne => ind_no fun h => hne h.1]
    exact ind_iff ⟨fun h => h.2, fun h => ⟨rfl, h⟩⟩
  have h4 : ct (fun k => k = i ∧ Y.getD k 0 < r) n = ind (Y.getD i 0 < r) := by
    unfold ct
    rw [sm_single hi fun k _ hne => ind_no fun h => hne h.1]
    exact ind_iff ⟨fun h => h.2, fun h => ⟨rfl, h⟩⟩
  have h5 : ind (r ≤ Y.getD i 0) = 1 - ind (Y.getD i 0 < r) := ind_not (by omega)
  omega
theorem eW_wn (g : Grd n X O) {r : Nat} (hr : r ≤ n) : ∀ i, i ≤ n → eW n X i r - eW n O i r = 2 * wn X O i r
  | 0, _ => by
    rw [eW_zero g.pX hr, eW_zero g.pO hr]
    show _ = 2 * (0 : Int)
    omega
  | i + 1, hi => by
    have := eW_wn g hr i (by omega)
    rw [eW_succ X (by omega), eW_succ O (by omega), wn]
    omega
theorem sum_eW (x : StB) (Y : List Nat) : jLE n (fx x) (fun i => Y.getD i 0) + jLT n (fun i => Y.getD i 0) (fx x) = sm (fun i => eW n Y i (fx x i)) n := by
  unfold jLE jLT eW
  rw [sm_comm (fun i k => ind (i < k ∧ Y.getD i 0 < fx x k)), ← sm_add]
  rfl
theorem alex_sum (g : Grd n X O) {x : StB} (p : isPerm x.1 n) : (grP n X O x).1 = jLT n (fun i => O.getD i 0) (fun i => O.getD i 0) - jLT n (fun i => X.getD i 0) (fun i => X.getD i 0) - n + 1 + 2 * sm (fun i => wn X O i (fx x i)) n := by
  have h1 := sum_eW (n := n) x X
  have h2 := sum_eW (n := n) x O
  have h3 : sm (fun i => eW n X i (fx x i)) n - sm (fun i => eW n O i (fx x i)) n = 2 * sm (fun i => wn X O i (fx x i)) n := by
    rw [← sm_sub]
    have : sm (fun i => eW n X i (fx x i) - eW n O i (fx x i)) n = sm (fun i => wn X O i (fx x i) + wn X O i (fx x i)) n := sm_congr fun i hi => by
      have := eW_wn g (Nat.le_of_lt ((fx_perm p).1 i hi)) i (Nat.le_of_lt hi)
      omega
    rw [this, sm_add]
    omega
  have h4 : mX n x.1 O = jLT n (fx x) (fx x) - jLE n (fx x) (fun i => O.getD i 0) - jLT n (fun i => O.getD i 0) (fx x) + jLT n (fun i => O.getD i 0) (fun i => O.getD i 0) + 1 := rfl
  have h5 : mX n x.1 X = jLT n (fx x) (fx x) - jLE n (fx x) (fun i => X.getD i 0) - jLT n (fun i => X.getD i 0) (fx x) + jLT n (fun i => X.getD i 0) (fun i => X.getD i 0) + 1 := rfl
  show mX n x.1 O - mX n x.1 X - (n : Int) + 1 = _
  omega
/-- The columns of a knot, the last column last. -/
theorem knot_cyc' (g0 : okG (n : Int) X O) (h1 : comps n X O = 1) : ∃ c, Cyc n X O c ∧ c (n - 1) = n - 1 := by
  have g := okG.grd g0
  have hp := nxt_perm g0
  have hn : 0 < n := by have := g.h2; omega
  have h0 : isRep (nxt n X O) 0 := fun t => Nat.zero_le _
  have meet : ∀ i k, i < n → k < n → rch (nxt n X O) k i := fun i k hi hk => by
    have to0 : ∀ i, i < n → rch (nxt n X O) i 0 := fun i hi => by
      obtain ⟨m, hm, hr, hrep⟩ := least_in hp hi
      have e : m = 0 := by
        have k : (repsU (nxt n X O) n).length = 1 := h1
        obtain ⟨a, ha⟩ := List.length_eq_one_iff.1 k
        have m1 : m ∈ repsU (nxt n X O) n := mem_reps.2 ⟨hm, hrep⟩
        have m2 : 0 ∈ repsU (nxt n X O) n := mem_reps.2 ⟨hn, h0⟩
        rw [ha, List.mem_singleton] at m1 m2
        rw [m1, ← m2]
      subst e
      exact hr
    exact rch_trans (to0 k hk) (rch_symm hp hi (to0 i hi))
  have hs : nxt n X O (n - 1) < n := hp.1 _ (by omega)
  have key : ∀ s t, s < t → t < n → it (nxt n X O) s (nxt n X O (n - 1)) ≠ it (nxt n X O) t (nxt n X O (n - 1)) := fun s t hst ht e => by
    have e1 : it (nxt n X O) t (nxt n X O (n - 1)) = it (nxt n X O) s (it (nxt n X O) (t - s) (nxt n X O (n - 1))) := by rw [← it_add]; congr 1; omega
    rw [e1] at e
    have e2 := (it_inj hp hs (it_lt hp hs _) s e).symm
    have hle := List.Nodup.length_le_of_subset (List.nodup_range (n := n)) (l₂ := (List.range (t - s)).map fun u => it (nxt n X O) u (nxt n X O (n - 1))) fun i hi => by
      obtain ⟨u, rfl⟩ := meet i _ (List.mem_range.1 hi) hs
      refine List.mem_map.2 ⟨u % (t - s), List.mem_range.2 (Nat.mod_lt _ (by omega)), ?_⟩
      have e3 : it (nxt n X O) u (nxt n X O (n - 1)) = it (nxt n X O) (u % (t - s)) (it (nxt n X O) ((t - s) * (u / (t - s))) (nxt n X O (n - 1))) := by rw [← it_add, Nat.mod_add_div]
      rw [e3, it_mul e2]
    simp at hle
    omega
  have hinj : ∀ i j, i < n → j < n → it (nxt n X O) i (nxt n X O (n - 1)) = it (nxt n X O) j (nxt n X O (n - 1)) → i = j := fun i j hi hj e => by
    rcases Nat.lt_trichotomy i j with h | h | h
    · exact absurd e (key i j h hj)
    · exact h
    · exact absurd e.symm (key j i h hi)
  refine ⟨fun t => it (nxt n X O) t (nxt n X O (n - 1)), ⟨fun i _ => it_lt hp hs i, hinj, fun i _ => ?_⟩, ?_⟩
  · exact ((nxt_next g0).2 _ (it_lt hp hs i)).symm
  · obtain ⟨t, ht, e⟩ := surj_of_inj (f := fun t => it (nxt n X O) t (nxt n X O (n - 1))) (n := n) (fun i _ => it_lt hp hs i) hinj (n - 1) (by omega)
    -- behind the column n - 1 the round begins again
    have e2 : it (nxt n X O) (t + 1) (nxt n X O (n - 1)) = nxt n X O (n - 1) := by
      show nxt n X O (it (nxt n X O) t (nxt n X O (n - 1))) = _
      rw [show it (nxt n X O) t (nxt n X O (n - 1)) = n - 1 from e]
    have e3 : t + 1 = n := by
      refine Classical.byContradiction fun h => ?_
      have := hinj (t + 1) 0 (by omega) hn e2
      omega
    have e4 : t = n - 1 := by omega
    rw [← e4]
    rw [e4] at e ⊢
    exact e
variable {L : List StB}
theorem knot_prm (g : Grd n X O) (hL : AllSt n L) {c : Nat → Nat} (hc : Cyc n X O c) (hl : c (n - 1) = n - 1) : prm n L (fun r s => if r = 0 then true else !(wn X O r s == wn X O (r - 1) s)) = true := by
  have h2 := g.h2
  have h8 := g.h8
  -- the place of a row's column
  have hix : ∃ ix : Nat → Nat, ∀ r, 0 < r → r < n → ix r < n - 1 ∧ c (ix r) = r - 1 := by
    have : ∀ r, 0 < r → r < n → ∃ i, i < n - 1 ∧ c i = r - 1 := fun r h0 hr => by
      obtain ⟨i, hi, e⟩ := surj_of_inj hc.lt hc.inj (r - 1) (by omega)
      refine ⟨i, ?_, e⟩
      refine Classical.byContradiction fun h => ?_
      have : i = n - 1 := by omega
      subst this
      rw [hl] at e
      omega
    classical
    refine ⟨fun r => if h : 0 < r ∧ r < n then (this r h.1 h.2).choose else 0, fun r h0 hr => ?_⟩
    simp only [dif_pos (show 0 < r ∧ r < n from ⟨h0, hr⟩)]
    exact (this r h0 hr).choose_spec
  obtain ⟨ix, hix⟩ := hix
  have ixc : ∀ i, i < n - 1 → 0 < c i + 1 ∧ c i + 1 < n ∧ ix (c i + 1) = i := fun i hi => by
    have h1 := hc.lt i (by omega)
    have h3 : c i ≠ n - 1 := fun e => by
      have := hc.inj i (n - 1) (by omega) (by omega) (e.trans hl.symm)
      omega
    have h4 := hix (c i + 1) (by omega) (by omega)
    refine ⟨by omega, by omega, hc.inj _ _ (by omega) (by omega) ?_⟩
    rw [h4.2]; rfl
  have ixinj : ∀ r s, 0 < r → r < n → 0 < s → s < n → ix r = ix s → r = s := fun r s r0 hr s0 hs e => by
    have a := (hix r r0 hr).2
    have b := (hix s s0 hs).2
    rw [e] at a
    omega
  obtain ⟨v, hv⟩ : ∃ v : Nat → Nat, v = fun i => X.getD (c i) 0 := ⟨_, rfl⟩
  have vlt : ∀ i, i < n → v i < n := fun i hi => by rw [hv]; exact g.pX.1 _ (hc.lt i hi)
  have vinj : ∀ i j, i < n → j < n → v i = v j → i = j := fun i j hi hj e => by
    rw [hv] at e
    exact hc.inj i j hi hj (g.pX.2.1 _ _ (hc.lt i hi) (hc.lt j hj) e)
  have vO : ∀ i, i + 1 < n → O.getD (c i) 0 = v (i + 1) := fun i hi => by rw [hv]; exact hc.nx i hi
  obtain ⟨H, hH⟩ : ∃ H : Nat → Nat → Bool, H = fun m s => decide (s ≤ m) := ⟨_, rfl⟩
  obtain ⟨Q, hQ⟩ : ∃ Q : Nat → Nat → Nat → Bool, Q = fun k r s => if r = 0 then true else if k ≤ ix r then H (v (ix r)) s ^^ H (v (n - 1)) s else H (v (ix r)) s ^^ H (v (ix r + 1)) s := ⟨_, rfl⟩
  have Q0 : ∀ k s, Q k 0 s = true := fun k s => by rw [hQ]; exact if_pos rfl
  have Q1 : ∀ k r s, r ≠ 0 → k ≤ ix r → Q k r s = (H (v (ix r)) s ^^ H (v (n - 1)) s) := fun k r s h0 h1 => by
    rw [hQ]
    dsimp only
    rw [if_neg h0, if_pos h1]
  have Q2 : ∀ k r s, r ≠ 0 → ¬ k ≤ ix r → Q k r s = (H (v (ix r)) s ^^ H (v (ix r + 1)) s) := fun k r s h0 h1 => by
    rw [hQ]
    dsimp only
    rw [if_neg h0, if_neg h1]
  have start : prm n L (fun r s => if r = 0 then true else !(wn X O r s == wn X O (r - 1) s)) = prm n L (Q (n - 1)) := prm_congr hL fun r s hr _ => by
    rw [hQ]
    dsimp only
    by_cases e : r = 0
    · rw [if_pos e, if_pos e]
    · obtain ⟨h3, h4⟩ := hix r (by omega) hr
      rw [if_neg e, if_neg e, if_neg (by omega)]
      obtain ⟨q, rfl⟩ : ∃ q, r = q + 1 := ⟨r - 1, by omega⟩
      rw [Nat.add_sub_cancel] at h4 ⊢
      have k1 : v (ix (q + 1)) = X.getD q 0 := by rw [hv]; dsimp only; rw [h4]
      have k2 : v (ix (q + 1) + 1) = O.getD q 0 := by rw [← vO _ (by omega), h4]
      rw [k1, k2, hH, wn]
      dsimp only
      unfold ind
      by_cases a : X.getD q 0 < s <;> by_cases b : O.getD q 0 < s
      · rw [if_pos a, if_pos b, decide_eq_false (by omega), decide_eq_false (by omega)]; simp
      · rw [if_pos a, if_neg b, decide_eq_false (by omega), decide_eq_true (by omega)]; simp; omega
      · rw [if_neg a, if_pos b, decide_eq_true (by omega), decide_eq_false (by omega)]; simp; omega
      · rw [if_neg a, if_neg b, decide_eq_true (by omega), decide_eq_true (by omega)]; simp
  have down : ∀ j, j ≤ n - 1 → prm n L (Q (n - 1 - j)) = prm n L (Q (n - 1)) := fun j => by
    induction j with
    | zero => exact fun _ => rfl
    | succ j ih =>
      intro hj
      rw [← ih (by omega)]
      obtain ⟨k, hk⟩ : ∃ k, k = n - 1 - (j + 1) := ⟨_, rfl⟩
      rw [← hk, show n - 1 - j = k + 1 by omega]
      by_cases hlast : k + 1 = n - 1
      · refine prm_congr hL fun r s hr _ => ?_
        rw [hQ]
        dsimp only
        by_cases e : r = 0
        · rw [if_pos e, if_pos e]
        · obtain ⟨h3, _⟩ := hix r (by omega) hr
          rw [if_neg e, if_neg e]
          by_cases e2 : k ≤ ix r
          · rw [if_pos e2, if_neg (by omega), show n - 1 = ix r + 1 by omega]
          · rw [if_neg e2, if_neg (by omega)]
      · obtain ⟨a1, a2, a3⟩ := ixc k (by omega)
        obtain ⟨b1, b2, b3⟩ := ixc (k + 1) (by omega)
        have hne : c k + 1 ≠ c (k + 1) + 1 := fun e => by
          have := hc.inj k (k + 1) (by omega) (by omega) (by omega)
          omega
        rw [← prm_add h8 hL a2 b2 hne (Q (k + 1))]
        refine prm_congr hL fun r s hr _ => ?_
        by_cases e : r = c k + 1
        · rw [if_pos e, e, Q1 k _ s (by omega) (by omega), Q2 (k + 1) (c k + 1) s (by omega) (by omega), Q1 (k + 1) (c (k + 1) + 1) s (by omega) (by omega), a3, b3]
          generalize H (v k) s = t1
          generalize H (v (k + 1)) s = t2
          generalize H (v (n - 1)) s = t3
          revert t1 t2 t3
          decide
        · rw [if_neg e]
          by_cases e0 : r = 0
          · rw [e0, Q0, Q0]
          · have : ix r ≠ k := fun h => e (ixinj r (c k + 1) (by omega) hr a1 a2 (by rw [h, a3]))
            by_cases e2 : k ≤ ix r
            · rw [Q1 k r s e0 e2, Q1 (k + 1) r s e0 (by omega)]
            · rw [Q2 k r s e0 e2, Q2 (k + 1) r s e0 (by omega)]
  have d0 := down (n - 1) (Nat.le_refl _)
  rw [Nat.sub_self] at d0
  rw [start, ← d0]
  -- the root
  obtain ⟨m, hm, em⟩ := surj_of_inj vlt vinj (n - 1) (by omega)
  obtain ⟨u, hu⟩ : ∃ u : Nat → Nat, u = fun r => if r = 0 then n - 1 else if ix r = m then v (n - 1) else v (ix r) := ⟨_, rfl⟩
  have pu : permF u n := by
    have ur : ∀ r, 0 < r → r < n → u r < n ∧ u r ≠ n - 1 := fun r h0 hr => by
      obtain ⟨h3, _⟩ := hix r h0 hr
      rw [hu]
      dsimp only
      rw [if_neg (by omega)]
      by_cases e : ix r = m
      · rw [if_pos e]
        refine ⟨vlt _ (by omega), fun k => ?_⟩
        have := vinj _ _ (by omega) hm (k.trans em.symm)
        omega
      · rw [if_neg e]
        exact ⟨vlt _ (by omega), fun k => e (vinj _ _ (by omega) hm (k.trans em.symm))⟩
    refine ⟨fun r hr => ?_, fun r s hr hs e => ?_⟩
    · by_cases e : r = 0
      · rw [hu]; dsimp only; rw [if_pos e]; omega
      · exact (ur r (by omega) hr).1
    · by_cases er : r = 0
      · by_cases es : s = 0
        · omega
        · have := (ur s (by omega) hs).2
          rw [← e, er, hu] at this
          exact absurd rfl this
      · by_cases es : s = 0
        · have := (ur r (by omega) hr).2
          rw [e, es, hu] at this
          exact absurd rfl this
        · obtain ⟨h3, _⟩ := hix r (by omega) hr
          obtain ⟨h4, _⟩ := hix s (by omega) hs
          refine ixinj r s (by omega) hr (by omega) hs ?_
          rw [hu] at e
          dsimp only at e
          rw [if_neg er, if_neg es] at e
          by_cases e1 : ix r = m
          · by_cases e2 : ix s = m
            · rw [e1, e2]
            · rw [if_pos e1, if_neg e2] at e
              have := vinj _ _ (by omega) (by omega) e
              omega
          · by_cases e2 : ix s = m
            · rw [if_neg e1, if_pos e2] at e
              have := vinj _ _ (by omega) (by omega) e
              omega
            · rw [if_neg e1, if_neg e2] at e
              exact vinj _ _ (by omega) (by omega) e
  have u0 : u 0 = n - 1 := by rw [hu]; exact if_pos rfl
  have u1 : ∀ r, r ≠ 0 → ix r = m → u r = v (n - 1) := fun r h0 h1 => by
    rw [hu]
    dsimp only
    rw [if_neg h0, if_pos h1]
  have u2 : ∀ r, r ≠ 0 → ix r ≠ m → u r = v (ix r) := fun r h0 h1 => by
    rw [hu]
    dsimp only
    rw [if_neg h0, if_neg h1]
  rw [← prm_steps hL pu h8]
  have Htop : ∀ s, s < n → H (n - 1) s = true := fun s hs => by rw [hH]; exact decide_eq_true (by omega)
  by_cases hmn : m = n - 1
  · -- the root at the end: row 0 to all
    rw [← prm_all h8 hL (show 0 < n by omega) (Q 0) ((List.range n).filter fun r => decide (0 < r)) (List.nodup_range.filter _) (by simp) fun a ha => List.mem_range.1 (List.mem_filter.1 ha).1]
    refine prm_congr hL fun r s hr hs => ?_
    by_cases e : r = 0
    · subst e
      rw [if_neg (by simp), Q0, u0]
      exact (decide_eq_true (by omega)).symm
    · obtain ⟨h3, _⟩ := hix r (by omega) hr
      rw [if_pos (List.mem_filter.2 ⟨List.mem_range.2 hr, decide_eq_true (by omega)⟩), Q1 0 r s e (Nat.zero_le _), Q0, u2 r e (by omega)]
      rw [show v (n - 1) = n - 1 by rw [← hmn]; exact em.trans hmn.symm, Htop s hs, hH]
      dsimp only
      generalize decide (s ≤ v (ix r)) = t
      revert t
      decide
  · obtain ⟨a1, a2, a3⟩ := ixc m (by omega)
    rw [← prm_add h8 hL a2 (show 0 < n by omega) (by omega) (Q 0)]
    rw [← prm_all h8 hL a2 _ ((List.range n).filter fun r => decide (0 < r ∧ r ≠ c m + 1)) (List.nodup_range.filter _) (by simp) fun a ha => List.mem_range.1 (List.mem_filter.1 ha).1]
    refine prm_congr hL fun r s hr hs => ?_
    have row : (if c m + 1 = c m + 1 then Q 0 (c m + 1) s ^^ Q 0 0 s else Q 0 (c m + 1) s) = H (v (n - 1)) s := by
      rw [if_pos rfl, Q0, Q1 0 _ s (by omega) (Nat.zero_le _), a3, em, Htop s hs]
      generalize H (v (n - 1)) s = t
      revert t
      decide
    rw [row]
    by_cases e : r = 0
    · subst e
      rw [if_neg (by simp), if_neg (by omega), Q0, u0]
      exact (decide_eq_true (by omega)).symm
    · obtain ⟨h3, _⟩ := hix r (by omega) hr
      by_cases e2 : r = c m + 1
      · subst e2
        rw [if_neg (by simp), row, u1 _ e a3, hH]
      · have hne : ix r ≠ m := fun h => e2 (ixinj r (c m + 1) (by omega) hr a1 a2 (by rw [h, a3]))
        rw [if_pos (List.mem_filter.2 ⟨List.mem_range.2 hr, decide_eq_true ⟨by omega, e2⟩⟩), if_neg e2, Q1 0 r s e (Nat.zero_le _), u2 r e hne]
        have : H (v (ix r)) s = decide (s ≤ v (ix r)) := by rw [hH]
        rw [← this]
        generalize H (v (ix r)) s = t1
        generalize H (v (n - 1)) s = t2
        revert t1 t2
        decide
/-- A knot has an odd number of states of some Alexander number. -/
theorem knot_odd (g0 : okG (n : Int) X O) (h1 : comps n X O = 1) (hL : AllSt n L) : ∃ a, (L.filter fun x => decide ((grP n X O x).1 = a)).length % 2 = 1 := by
  have g := okG.grd g0
  have h2 := g.h2
  obtain ⟨c, hc, hl⟩ := knot_cyc' g0 h1
  have e1 : xl (fun x => phi (n - 1) (sm (fun i => wn X O i (fx x i)) n)) L = true := by
    rw [← cho_sum g.h8 hL (wn X O) (phi (n - 1)) (n - 1) 0 (by omega), ← knot_prm g hL hc hl]
    unfold prm
    refine xl_congr fun x _ => ?_
    rw [cho_phi (wn_step X O)]
    obtain ⟨m, rfl⟩ : ∃ m, n = m + 1 := ⟨n - 1, by omega⟩
    rw [Nat.add_sub_cancel, List.range_succ_eq_map, List.all_cons, List.all_map]
    rw [show ((fun r s => if r = 0 then true else !(wn X O r s == wn X O (r - 1) s)) 0 (fx x 0)) = true from rfl, Bool.true_and]
    refine congrArg (fun f => List.all (List.range m) f) (funext fun t => ?_)
    show _ = if t + 1 = 0 then true else !(wn X O (t + 1) (fx x (t + 1)) == wn X O (t + 1 - 1) (fx x (t + 1)))
    rw [if_neg (by omega), Nat.zero_add, Nat.add_sub_cancel]
  have e2 : ∃ s, (L.map fun x => sm (fun i => wn X O i (fx x i)) n).count s % 2 ≠ 0 := by
    refine Classical.byContradiction fun hno => ?_
    have := xl_even (phi (n - 1)) _ (Nat.le_refl (L.map fun x => sm (fun i => wn X O i (fx x i)) n).length) fun d _ => Classical.byContradiction fun k => hno ⟨d, k⟩
    rw [xl_map] at this
    rw [this] at e1
    cases e1
  obtain ⟨s, hs⟩ := e2
  refine ⟨jLT n (fun i => O.getD i 0) (fun i => O.getD i 0) - jLT n (fun i => X.getD i 0) (fun i => X.getD i 0) - n + 1 + 2 * s, ?_⟩
  have e3 : (L.map fun x => sm (fun i => wn X O i (fx x i)) n).count s = (L.filter fun x => decide ((grP n X O x).1 = jLT n (fun i => O.getD i 0) (fun i => O.getD i 0) - jLT n (fun i => X.getD i 0) (fun i => X.getD i 0) - n + 1 + 2 * s)).length := by
    rw [List.count_eq_countP, List.countP_map, List.countP_eq_length_filter]
    congr 1
    refine List.filter_congr fun x hx => ?_
    rw [alex_sum g ((hL.mem x).1 hx)]
    show (sm (fun i => wn X O i (fx x i)) n == s) = _
    rw [Bool.eq_iff_iff, beq_iff_eq, decide_eq_true_eq]
    omega
  rw [← e3]
  omega
end
end Go.Proofs.YtmbbcmebdefggaaGreatDoor
