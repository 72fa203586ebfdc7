/- Plain: operations on states that count empty rectangles with given marks inside, and how they commute. Plain: the marks of a grid; what the operations do to grades; a knot's operations undo each other. Plain: the operations on states of a knot split its homology. Plain: the boundary as an operation; ranks by leading places are dimensions of boundaries. Plain: a knot has an odd number of states with some Alexander number. Plain: Alexander numbers as sums; a knot has an odd number of states of some Alexander number. -/
import Derived.Test.YtmbbcmebdefggaaGreatDoorVH
import Derived.Test.YtmbbcmebdefggaaGreatDoorCO
import Derived.Test.YtmbbcmebdefggaaGreatDoorVA
namespace Go.Proofs.YtmbbcmebdefggaaGreatDoor
/-! What two rectangles see together. -/
/-- Of the marks just those of T are covered. -/
def has (Mk : List (Nat × Nat)) (c : Nat × Nat → Bool) (T : List (Nat × Nat)) : Bool := Mk.all fun p => c p == T.elem p
def totIs (Mk : List (Nat × Nat)) (c1 c2 : Nat × Nat → Bool) (T : List (Nat × Nat)) : Bool := Mk.all fun p => (c1 p).toNat + (c2 p).toNat == T.count p
def offB (Mk : List (Nat × Nat)) (c : Nat × Nat → Bool) (p q : Nat × Nat) : Bool := Mk.all fun r => (r == p || r == q) || !(c r)
section
variable {Mk : List (Nat × Nat)} {p q : Nat × Nat}
theorem has_eq (hp : p ∈ Mk) (hq : q ∈ Mk) (c : Nat × Nat → Bool) {T : List (Nat × Nat)} (hT : ∀ r ∈ T, r = p ∨ r = q) : has Mk c T = (offB Mk c p q && ((c p == T.elem p) && (c q == T.elem q))) := by
  rw [Bool.eq_iff_iff]
  unfold has offB
  simp only [List.all_eq_true, Bool.and_eq_true, Bool.or_eq_true, beq_iff_eq, Bool.not_eq_true']
  constructor
  · intro h
    refine ⟨fun r hr => ?_, h p hp, h q hq⟩
    have h1 := h r hr
    by_cases e : r ∈ T
    · exact .inl (hT r e)
    · exact .inr (by rw [h1]; simpa using e)
  · rintro ⟨h1, h2, h3⟩ r hr
    rcases h1 r hr with (rfl | rfl) | h
    · exact h2
    · exact h3
    · by_cases e : r ∈ T
      · rcases hT r e with rfl | rfl
        · exact h2
        · exact h3
      · rw [h]
        simpa using e
theorem tot_eq (hp : p ∈ Mk) (hq : q ∈ Mk) (c1 c2 : Nat × Nat → Bool) {T : List (Nat × Nat)} (hT : ∀ r ∈ T, r = p ∨ r = q) : totIs Mk c1 c2 T = ((offB Mk c1 p q && offB Mk c2 p q) && (((c1 p).toNat + (c2 p).toNat == T.count p) && ((c1 q).toNat + (c2 q).toNat == T.count q))) := by
  rw [Bool.eq_iff_iff]
  unfold totIs offB
  simp only [List.all_eq_true, Bool.and_eq_true, Bool.or_eq_true, beq_iff_eq, Bool.not_eq_true']
  constructor
  · intro h
    have k : ∀ r ∈ Mk, (r = p ∨ r = q) ∨ (c1 r = false ∧ c2 r = false) := fun r hr => by
      have h1 := h r hr
      by_cases e : r ∈ T
      · exact .inl (hT r e)
      · rw [List.count_eq_zero.2 e] at h1
        cases e1 : c1 r <;> cases e2 : c2 r <;> rw [e1, e2] at h1 <;> first | exact .inr ⟨rfl, rfl⟩ | cases h1
    exact ⟨⟨fun r hr => (k r hr).imp id fun h => h.1, fun r hr => (k r hr).imp id fun h => h.2⟩, h p hp, h q hq⟩
  · rintro ⟨⟨h1, h2⟩, h3, h4⟩ r hr
    by_cases e : r = p ∨ r = q
    · rcases e with rfl | rfl
      · exact h3
      · exact h4
    · rw [(h1 r hr).resolve_left e, (h2 r hr).resolve_left e, List.count_eq_zero.2 fun k => e (hT r k)]
      rfl
/-- Nothing. -/
theorem tot0 (hp : p ∈ Mk) (c1 c2 : Nat × Nat → Bool) : totIs Mk c1 c2 [] = (has Mk c1 [] && has Mk c2 []) := by
  rw [tot_eq hp hp c1 c2 (fun r h => by cases h), has_eq hp hp c1 (fun r h => by cases h), has_eq hp hp c2 (fun r h => by cases h)]
  simp only [List.elem_nil, List.count_nil]
  generalize offB Mk c1 p p = z1
  generalize offB Mk c2 p p = z2
  generalize c1 p = a
  generalize c2 p = b
  revert z1 z2 a b
  decide
theorem elem_self (r : Nat × Nat) : List.elem r [r] = true := by simp
/-- One mark. -/
theorem tot1 (hp : p ∈ Mk) (c1 c2 : Nat × Nat → Bool) : totIs Mk c1 c2 [p] = ((has Mk c1 [p] && has Mk c2 []) ^^ (has Mk c1 [] && has Mk c2 [p])) := by
  have h1 : ∀ r ∈ [p], r = p ∨ r = p := fun r h => .inl (List.mem_singleton.1 h)
  rw [tot_eq hp hp c1 c2 h1, has_eq hp hp c1 h1, has_eq hp hp c2 h1, has_eq hp hp c1 (fun r h => by cases h), has_eq hp hp c2 (fun r h => by cases h)]
  rw [elem_self, show [p].count p = 1 by simp]
  simp only [List.elem_nil]
  generalize offB Mk c1 p p = z1
  generalize offB Mk c2 p p = z2
  generalize c1 p = a
  generalize c2 p = b
  revert z1 z2 a b
  decide
/-- One mark twice. -/
theorem tot11 (hp : p ∈ Mk) (c1 c2 : Nat × Nat → Bool) : totIs Mk c1 c2 [p, p] = (has Mk c1 [p] && has Mk c2 [p]) := by
  have h1 : ∀ r ∈ [p], r = p ∨ r = p := fun r h => .inl (List.mem_singleton.1 h)
  rw [tot_eq hp hp c1 c2 (T := [p, p]) (fun r h => by simp at h; exact .inl h), has_eq hp hp c1 h1, has_eq hp hp c2 h1]
  rw [elem_self, show [p, p].count p = 2 by simp]
  generalize offB Mk c1 p p = z1
  generalize offB Mk c2 p p = z2
  generalize c1 p = a
  generalize c2 p = b
  revert z1 z2 a b
  decide
/-- Two marks. -/
theorem tot2 (hp : p ∈ Mk) (hq : q ∈ Mk) (hpq : p ≠ q) (c1 c2 : Nat × Nat → Bool) : totIs Mk c1 c2 [p, q] = (((has Mk c1 [p] && has Mk c2 [q]) ^^ (has Mk c1 [q] && has Mk c2 [p])) ^^ ((has Mk c1 [p, q] && has Mk c2 []) ^^ (has Mk c1 [] && has Mk c2 [p, q]))) := by
  have h1 : ∀ r ∈ [p], r = p ∨ r = q := fun r h => .inl (List.mem_singleton.1 h)
  have h2 : ∀ r ∈ [q], r = p ∨ r = q := fun r h => .inr (List.mem_singleton.1 h)
  have h3 : ∀ r ∈ [p, q], r = p ∨ r = q := fun r h => by simp at h; exact h
  have h0 : ∀ r ∈ ([] : List (Nat × Nat)), r = p ∨ r = q := fun r h => by cases h
  rw [tot_eq hp hq c1 c2 h3, has_eq hp hq c1 h1, has_eq hp hq c2 h1, has_eq hp hq c1 h2, has_eq hp hq c2 h2, has_eq hp hq c1 h3, has_eq hp hq c2 h3, has_eq hp hq c1 h0, has_eq hp hq c2 h0]
  rw [elem_self, elem_self, show [p, q].count p = 1 by simp [hpq.symm], show [p, q].count q = 1 by simp [hpq], show List.elem p [q] = false by simp [hpq], show List.elem q [p] = false by simp [hpq.symm], show List.elem p [p, q] = true by simp, show List.elem q [p, q] = true by simp]
  simp only [List.elem_nil]
  generalize offB Mk c1 p q = z1
  generalize offB Mk c2 p q = z2
  generalize c1 p = a
  generalize c2 p = b
  generalize c1 q = c
  generalize c2 q = e
  revert z1 z2 a b c e
  decide
end
/-! The operations. -/
def fx (x : StB) : Nat → Nat := fun i => x.1.getD i 0
def swB (x : StB) (a b : Nat) : StB := ⟨(x.1.set a (x.1.getD b 0)).set b (x.1.getD a 0), isB_set (isB_set x.2 (x.2.2 _)) (x.2.2 _)⟩
theorem fx_swB {x : StB} {a b : Nat} (ha : a < 8) (hb : b < 8) : fx (swB x a b) = sw (fx x) a b := funext fun i => by
  unfold fx swB sw
  dsimp only
  rw [getD_set8' ((List.length_set ..).trans x.2.1) hb, getD_set8' x.2.1 ha]
  simp only [eq_comm]
/-- All states. -/
structure AllSt (n : Nat) (L : List StB) : Prop where
  nd : L.Nodup
  mem : ∀ x, x ∈ L ↔ isPerm x.1 n
theorem fx_perm {n : Nat} {x : StB} (h : isPerm x.1 n) : permF (fx x) n := h.permF
theorem stB_ext {n : Nat} {x y : StB} (hx : isPerm x.1 n) (hy : isPerm y.1 n) (h : ∀ i, i < n → fx x i = fx y i) : x = y := by
  refine Subtype.ext (List.ext_getElem (x.2.1.trans y.2.1.symm) fun i h1 h2 => ?_)
  have k : x.1.getD i 0 = y.1.getD i 0 := by
    by_cases hi : i < n
    · exact h i hi
    · rw [hx.2.2 i (by omega), hy.2.2 i (by omega)]
  rw [List.getD_eq_getElem?_getD, List.getD_eq_getElem?_getD, List.getElem?_eq_getElem h1, List.getElem?_eq_getElem h2] at k
  exact k
theorem swB_perm {n : Nat} (h8 : n ≤ 8) {x : StB} (h : isPerm x.1 n) {a b : Nat} (ha : a < n) (hb : b < n) : isPerm (swB x a b).1 n := perm_swap h x.2.1 h8 ha hb
def recB (n : Nat) (Mk T : List (Nat × Nat)) (x : StB) (a b : Nat) : Bool := !(a == b) && (emB n (fx x) a b && has Mk (fun p => cvB n (fx x) a b p.1 p.2) T)
def opM (n : Nat) (Mk T : List (Nat × Nat)) (x z : StB) : Bool := xl (fun a => xl (fun b => recB n Mk T x a b && decide (z = swB x a b)) (List.range n)) (List.range n)
/-- One after the other. -/
def cmpM (n : Nat) (Mk : List (Nat × Nat)) (L : List StB) (T1 T2 : List (Nat × Nat)) (x y : StB) : Bool := xl (fun z => opM n Mk T1 x z && opM n Mk T2 z y) L
section
variable {n : Nat} {L : List StB} {Mk : List (Nat × Nat)}
theorem opM_in (h8 : n ≤ 8) (hL : AllSt n L) {T : List (Nat × Nat)} {x z : StB} (hx : x ∈ L) (hz : z ∉ L) : opM n Mk T x z = false :=
  xl_false fun a ha => xl_false fun b hb => by
    rw [decide_eq_false fun e => hz (by rw [e]; exact (hL.mem _).2 (swB_perm h8 ((hL.mem x).1 hx) (List.mem_range.1 ha) (List.mem_range.1 hb))), Bool.and_false]
theorem cmpM_quads (h8 : n ≤ 8) (hL : AllSt n L) {T1 T2 : List (Nat × Nat)} {x y : StB} (hx : x ∈ L) (hy : y ∈ L) :
    cmpM n Mk L T1 T2 x y = xl (fun q => okQ n (fx x) (fx y) q.1 q.2.1 q.2.2.1 q.2.2.2 && (has Mk (fun p => cvB n (fx x) q.1 q.2.1 p.1 p.2) T1 && has Mk (fun p => cvB n (sw (fx x) q.1 q.2.1) q.2.2.1 q.2.2.2 p.1 p.2) T2)) (quads n) := by
  rw [quads_xl n fun a b c e => okQ n (fx x) (fx y) a b c e && (has Mk (fun p => cvB n (fx x) a b p.1 p.2) T1 && has Mk (fun p => cvB n (sw (fx x) a b) c e p.1 p.2) T2)]
  have px := (hL.mem x).1 hx
  have py := (hL.mem y).1 hy
  have e1 : cmpM n Mk L T1 T2 x y = xl (fun z => xl (fun a => xl (fun b => (recB n Mk T1 x a b && decide (z = swB x a b)) && opM n Mk T2 z y) (List.range n)) (List.range n)) L := by
    unfold cmpM
    refine xl_congr fun z _ => ?_
    show (opM n Mk T1 x z && _) = _
    unfold opM
    rw [← xl_and']
    refine xl_congr fun a _ => ?_
    rw [← xl_and']
  rw [e1, xl_comm]
  refine xl_congr fun a ha => ?_
  have ha' := List.mem_range.1 ha
  rw [xl_comm]
  refine xl_congr fun b hb => ?_
  have hb' := List.mem_range.1 hb
  have pz := swB_perm h8 px ha' hb'
  rw [xl_one hL.nd ((hL.mem _).2 pz) fun z _ hne => by rw [decide_eq_false hne, Bool.and_false, Bool.false_and]]
  rw [decide_eq_true rfl, Bool.and_true]
  unfold opM
  rw [← xl_and]
  refine xl_congr fun c hc => ?_
  have hc' := List.mem_range.1 hc
  rw [← xl_and]
  refine xl_congr fun e he => ?_
  have he' := List.mem_range.1 he
  have f1 := fx_swB (x := x) (a := a) (b := b) (by omega) (by omega)
  have f2 := fx_swB (x := swB x a b) (a := c) (b := e) (by omega) (by omega)
  rw [f1] at f2
  have hd : decide (y = swB (swB x a b) c e) = (List.range n).all (fun i => fx y i == sw (sw (fx x) a b) c e i) := by
    rw [Bool.eq_iff_iff, decide_eq_true_eq, List.all_eq_true]
    constructor
    · intro k i _
      rw [← f2, ← k]
      exact beq_self_eq_true _
    · intro k
      refine stB_ext py (swB_perm h8 pz hc' he') fun i hi => ?_
      rw [f2]
      exact beq_iff_eq.1 (k i (List.mem_range.2 hi))
  unfold recB okQ
  rw [f1, hd]
  generalize (a == b) = t1
  generalize (c == e) = t2
  generalize emB n (fx x) a b = t3
  generalize emB n (sw (fx x) a b) c e = t4
  generalize has Mk (fun p => cvB n (fx x) a b p.1 p.2) T1 = t5
  generalize has Mk (fun p => cvB n (sw (fx x) a b) c e p.1 p.2) T2 = t6
  generalize (List.range n).all (fun i => fx y i == sw (sw (fx x) a b) c e i) = t7
  revert t1 t2 t3 t4 t5 t6 t7
  decide
/-- Asked for totals. -/
def askT (Mk T : List (Nat × Nat)) (l : List Nat) : Bool := l == Mk.map fun p => T.count p
theorem askT_seen {x : Nat → Nat} {T : List (Nat × Nat)} {a b c e : Nat} : askT Mk T (seen n x Mk a b c e) = totIs Mk (fun p => cvB n x a b p.1 p.2) (fun p => cvB n (sw x a b) c e p.1 p.2) T := by
  unfold askT seen totIs totB
  rw [Bool.eq_iff_iff, beq_iff_eq, List.map_inj_left, List.all_eq_true]
  exact ⟨fun h p hp => beq_iff_eq.2 (h p hp), fun h p hp => beq_iff_eq.1 (h p hp)⟩
/-- The rows and columns with just these marks. -/
def annB (n : Nat) (Mk T : List (Nat × Nat)) : Bool := xl (fun a => askT Mk T (colA Mk a)) (List.range n) ^^ xl (fun r => askT Mk T (rowA Mk r)) (List.range n)
theorem master (h2 : 2 ≤ n) (h8 : n ≤ 8) (hL : AllSt n L) (hMk : ∀ p ∈ Mk, p.1 < n ∧ p.2 < n) (T : List (Nat × Nat)) {x y : StB} (hx : x ∈ L) (hy : y ∈ L) :
    xl (fun q => okQ n (fx x) (fx y) q.1 q.2.1 q.2.2.1 q.2.2.2 && totIs Mk (fun p => cvB n (fx x) q.1 q.2.1 p.1 p.2) (fun p => cvB n (sw (fx x) q.1 q.2.1) q.2.2.1 q.2.2.2 p.1 p.2) T) (quads n) = (decide (y = x) && annB n Mk T) := by
  have px := fx_perm ((hL.mem x).1 hx)
  have py := fx_perm ((hL.mem y).1 hy)
  rw [xl_congr fun q _ => by rw [← askT_seen]]
  by_cases e : y = x
  · subst e
    rw [master_eq h2 px hMk (askT Mk T), decide_eq_true rfl, Bool.true_and]
    rfl
  · rw [decide_eq_false e, Bool.false_and]
    refine master_ne px py ?_ hMk (askT Mk T)
    refine Classical.byContradiction fun k => e (stB_ext ((hL.mem y).1 hy) ((hL.mem x).1 hx) fun i hi => Classical.byContradiction fun k2 => k ⟨i, hi, fun k3 => k2 k3.symm⟩)
/-- On vectors. -/
def op (n : Nat) (Mk : List (Nat × Nat)) (L : List StB) (T : List (Nat × Nat)) (v : StB → Bool) : StB → Bool := fun y => xl (fun x => v x && opM n Mk T x y) L
theorem op_add (T : List (Nat × Nat)) (u v : StB → Bool) : op n Mk L T (va u v) = va (op n Mk L T u) (op n Mk L T v) := funext fun y => by
  unfold op
  show _ = (_ ^^ _)
  rw [← xl_xor]
  refine xl_congr fun x _ => ?_
  unfold va
  cases u x <;> cases v x <;> cases opM n Mk T x y <;> rfl
theorem op_op (T1 T2 : List (Nat × Nat)) (v : StB → Bool) (y : StB) : op n Mk L T2 (op n Mk L T1 v) y = xl (fun x => v x && cmpM n Mk L T1 T2 x y) L := by
  unfold op cmpM
  rw [xl_congr fun z _ => (xl_and' (opM n Mk T2 z y) (fun x => v x && opM n Mk T1 x z) L).symm]
  rw [xl_comm]
  refine xl_congr fun x _ => ?_
  rw [← xl_and]
  refine xl_congr fun z _ => ?_
  rw [Bool.and_assoc]
theorem op_out (h8 : n ≤ 8) (hL : AllSt n L) (T : List (Nat × Nat)) (v : StB → Bool) {y : StB} (hy : y ∉ L) : op n Mk L T v y = false := xl_false fun x hx => by rw [opM_in h8 hL hx hy, Bool.and_false]
theorem xl_self (hL : AllSt n L) {v : StB → Bool} {y : StB} (hy : y ∈ L) (b : Bool) : xl (fun x => v x && (decide (y = x) && b)) L = (v y && b) := by
  rw [xl_one hL.nd hy fun x _ hne => by rw [decide_eq_false fun k => hne k.symm, Bool.false_and, Bool.and_false], decide_eq_true rfl, Bool.true_and]
/-- The rules. -/
theorem op_00 (h2 : 2 ≤ n) (h8 : n ≤ 8) (hL : AllSt n L) (hMk : ∀ p ∈ Mk, p.1 < n ∧ p.2 < n) {p : Nat × Nat} (hp : p ∈ Mk) (ha : annB n Mk [] = false) (v : StB → Bool) : op n Mk L [] (op n Mk L [] v) = v0 := funext fun y => by
  by_cases hy : y ∈ L
  · rw [op_op, xl_congr fun x hx => by rw [cmpM_quads h8 hL hx hy, xl_congr fun q _ => by rw [← tot0 hp], master h2 h8 hL hMk [] hx hy, ha]]
    rw [xl_self hL hy, Bool.and_false]
    rfl
  · exact op_out h8 hL _ _ hy
theorem op_01 (h2 : 2 ≤ n) (h8 : n ≤ 8) (hL : AllSt n L) (hMk : ∀ p ∈ Mk, p.1 < n ∧ p.2 < n) {p : Nat × Nat} (hp : p ∈ Mk) (ha : annB n Mk [p] = false) (v : StB → Bool) : op n Mk L [] (op n Mk L [p] v) = op n Mk L [p] (op n Mk L [] v) := by
  refine va_eq (funext fun y => ?_)
  by_cases hy : y ∈ L
  · show (_ ^^ _) = false
    rw [op_op, op_op, ← xl_xor]
    rw [xl_congr (g := fun x => v x && (decide (y = x) && false)) fun x hx => by
      rw [cmpM_quads h8 hL hx hy, cmpM_quads h8 hL hx hy, ← ha, ← master h2 h8 hL hMk [p] hx hy, ← Bool.and_xor_distrib_left, ← xl_xor]
      congr 1
      refine xl_congr fun q _ => ?_
      rw [← Bool.and_xor_distrib_left, tot1 hp]]
    rw [xl_self hL hy, Bool.and_false]
  · show (_ ^^ _) = false
    rw [op_out h8 hL _ _ hy, op_out h8 hL _ _ hy]; rfl
theorem op_11 (h2 : 2 ≤ n) (h8 : n ≤ 8) (hL : AllSt n L) (hMk : ∀ p ∈ Mk, p.1 < n ∧ p.2 < n) {p : Nat × Nat} (hp : p ∈ Mk) (ha : annB n Mk [p, p] = false) (v : StB → Bool) : op n Mk L [p] (op n Mk L [p] v) = v0 := funext fun y => by
  by_cases hy : y ∈ L
  · rw [op_op, xl_congr fun x hx => by rw [cmpM_quads h8 hL hx hy, xl_congr fun q _ => by rw [← tot11 hp], master h2 h8 hL hMk [p, p] hx hy, ha]]
    rw [xl_self hL hy, Bool.and_false]
    rfl
  · exact op_out h8 hL _ _ hy
theorem op_pq (h2 : 2 ≤ n) (h8 : n ≤ 8) (hL : AllSt n L) (hMk : ∀ p ∈ Mk, p.1 < n ∧ p.2 < n) {p q : Nat × Nat} (hp : p ∈ Mk) (hq : q ∈ Mk) (hpq : p ≠ q) {v : StB → Bool} (hv : Spp L v) :
    va (va (op n Mk L [q] (op n Mk L [p] v)) (op n Mk L [p] (op n Mk L [q] v))) (va (op n Mk L [] (op n Mk L [p, q] v)) (op n Mk L [p, q] (op n Mk L [] v))) = fun y => v y && annB n Mk [p, q] := funext fun y => by
  by_cases hy : y ∈ L
  · show ((_ ^^ _) ^^ (_ ^^ _)) = _
    rw [op_op, op_op, op_op, op_op, ← xl_xor, ← xl_xor, ← xl_xor, ← xl_self hL hy]
    refine xl_congr fun x hx => ?_
    rw [cmpM_quads h8 hL hx hy, cmpM_quads h8 hL hx hy, cmpM_quads h8 hL hx hy, cmpM_quads h8 hL hx hy, ← master h2 h8 hL hMk [p, q] hx hy]
    rw [← Bool.and_xor_distrib_left, ← Bool.and_xor_distrib_left, ← Bool.and_xor_distrib_left, ← xl_xor, ← xl_xor, ← xl_xor]
    congr 1
    refine xl_congr fun r _ => ?_
    rw [← Bool.and_xor_distrib_left, ← Bool.and_xor_distrib_left, ← Bool.and_xor_distrib_left, tot2 hp hq hpq]
  · show ((_ ^^ _) ^^ (_ ^^ _)) = _
    rw [op_out h8 hL _ _ hy, op_out h8 hL _ _ hy, op_out h8 hL _ _ hy, op_out h8 hL _ _ hy]
    cases e : v y
    · rfl
    · exact absurd (hv y e) hy
end
end Go.Proofs.YtmbbcmebdefggaaGreatDoor
namespace Go.Proofs.YtmbbcmebdefggaaGreatDoor
/-! The marks. -/
def mrk (Y : List Nat) (s : Nat) : Nat × Nat := (s, Y.getD s 0)
def marks (n : Nat) (X O : List Nat) : List (Nat × Nat) := (List.range n).map (mrk X) ++ (List.range n).map (mrk O)
section
variable {n : Nat} {X O : List Nat}
theorem mem_marks {p : Nat × Nat} : p ∈ marks n X O ↔ ∃ s, s < n ∧ (p = mrk X s ∨ p = mrk O s) := by
  unfold marks
  rw [List.mem_append, List.mem_map, List.mem_map]
  constructor
  · rintro (⟨s, hs, rfl⟩ | ⟨s, hs, rfl⟩)
    · exact ⟨s, List.mem_range.1 hs, .inl rfl⟩
    · exact ⟨s, List.mem_range.1 hs, .inr rfl⟩
  · rintro ⟨s, hs, rfl | rfl⟩
    · exact .inl ⟨s, List.mem_range.2 hs, rfl⟩
    · exact .inr ⟨s, List.mem_range.2 hs, rfl⟩
/-- A grid: both are orders, and differ everywhere. -/
structure Grd (n : Nat) (X O : List Nat) : Prop where
  h2 : 2 ≤ n
  h8 : n ≤ 8
  pX : isPerm X n
  pO : isPerm O n
  ne : ∀ i, i < n → X.getD i 0 ≠ O.getD i 0
theorem okG.grd (g : okG (n : Int) X O) : Grd n X O := by
  obtain ⟨h1, h2, h3, h4⟩ := g
  simp only [Int.toNat_natCast] at h2 h3 h4
  exact ⟨by omega, by omega, h2, h3, h4⟩
theorem Grd.lt (g : Grd n X O) : ∀ p ∈ marks n X O, p.1 < n ∧ p.2 < n := fun p hp => by
  obtain ⟨s, hs, rfl | rfl⟩ := mem_marks.1 hp
  · exact ⟨hs, g.pX.1 s hs⟩
  · exact ⟨hs, g.pO.1 s hs⟩
theorem Grd.row (g : Grd n X O) {r : Nat} (hr : r < n) : ∃ s t, s < n ∧ t < n ∧ (mrk X s).2 = r ∧ (mrk O t).2 = r ∧ mrk X s ≠ mrk O t := by
  obtain ⟨s, hs, e1⟩ := surj_of_inj g.pX.permF.1 g.pX.permF.2 r hr
  obtain ⟨t, ht, e2⟩ := surj_of_inj g.pO.permF.1 g.pO.permF.2 r hr
  refine ⟨s, t, hs, ht, e1, e2, fun e => ?_⟩
  obtain ⟨e3, e4⟩ := Prod.mk.inj e
  subst e3
  exact g.ne s hs e4
theorem askT_iff {Mk T : List (Nat × Nat)} {f : Nat × Nat → Nat} : askT Mk T (Mk.map f) = true ↔ ∀ p ∈ Mk, f p = T.count p := by
  unfold askT
  rw [beq_iff_eq, List.map_inj_left]
/-- Two different marks in a column, and in a row. -/
theorem Grd.two (g : Grd n X O) {T : List (Nat × Nat)} (hT : ∀ p q, p ∈ marks n X O → q ∈ marks n X O → p ≠ q → (p.1 = q.1 ∨ p.2 = q.2) → ¬ (T.count p = 1 ∧ T.count q = 1)) : annB n (marks n X O) T = false := by
  unfold annB
  rw [xl_false, xl_false]
  · rfl
  · intro r hr
    have hr' := List.mem_range.1 hr
    obtain ⟨s, t, hs, ht, e1, e2, hne⟩ := g.row hr'
    rw [Bool.eq_false_iff]
    intro k
    have k2 := askT_iff.1 k
    have a := k2 _ (mem_marks.2 ⟨s, hs, .inl rfl⟩)
    have b := k2 _ (mem_marks.2 ⟨t, ht, .inr rfl⟩)
    rw [if_pos e1] at a
    rw [if_pos e2] at b
    exact hT _ _ (mem_marks.2 ⟨s, hs, .inl rfl⟩) (mem_marks.2 ⟨t, ht, .inr rfl⟩) hne (.inr (by rw [e1, e2])) ⟨a.symm, b.symm⟩
  · intro c hc
    have hc' := List.mem_range.1 hc
    rw [Bool.eq_false_iff]
    intro k
    have k2 := askT_iff.1 k
    have a := k2 _ (mem_marks.2 ⟨c, hc', .inl rfl⟩)
    have b := k2 _ (mem_marks.2 ⟨c, hc', .inr rfl⟩)
    rw [if_pos (show (mrk X c).1 = c from rfl)] at a
    rw [if_pos (show (mrk O c).1 = c from rfl)] at b
    exact hT _ _ (mem_marks.2 ⟨c, hc', .inl rfl⟩) (mem_marks.2 ⟨c, hc', .inr rfl⟩) (fun e => g.ne c hc' (Prod.mk.inj e).2) (.inl rfl) ⟨a.symm, b.symm⟩
theorem Grd.ann0 (g : Grd n X O) : annB n (marks n X O) [] = false := g.two fun p q _ _ _ _ k => by have := k.1; rw [List.count_nil] at this; omega
theorem Grd.ann1 (g : Grd n X O) (p : Nat × Nat) : annB n (marks n X O) [p] = false := g.two fun a b _ _ hne _ k => by
  have h1 := List.count_pos_iff.1 (show 0 < [p].count a by rw [k.1]; omega)
  have h2 := List.count_pos_iff.1 (show 0 < [p].count b by rw [k.2]; omega)
  exact hne ((List.mem_singleton.1 h1).trans (List.mem_singleton.1 h2).symm)
theorem Grd.ann11 (g : Grd n X O) (p : Nat × Nat) : annB n (marks n X O) [p, p] = false := g.two fun a b _ _ hne _ k => by
  have h1 := List.count_pos_iff.1 (show 0 < [p, p].count a by rw [k.1]; omega)
  have h2 := List.count_pos_iff.1 (show 0 < [p, p].count b by rw [k.2]; omega)
  simp only [List.mem_cons, List.not_mem_nil, or_false, or_self] at h1 h2
  exact hne (h1.trans h2.symm)
/-- Two marks: in one column, in one row. -/
theorem Grd.ann2 (g : Grd n X O) {p q : Nat × Nat} (hp : p ∈ marks n X O) (hq : q ∈ marks n X O) (hpq : p ≠ q) : annB n (marks n X O) [p, q] = (decide (p.1 = q.1) ^^ decide (p.2 = q.2)) := by
  have lt1 := g.lt p hp
  have c1 : [p, q].count p = 1 := by simp [hpq.symm]
  have c2 : [p, q].count q = 1 := by simp [hpq]
  have c0 : ∀ r, r ≠ p → r ≠ q → [p, q].count r = 0 := fun r h1 h2 => List.count_eq_zero.2 fun k => by
    simp only [List.mem_cons, List.not_mem_nil, or_false] at k
    exact k.elim h1 h2
  -- at most two marks in a line
  have col : ∀ r, r ∈ marks n X O → p.1 = q.1 → r.1 = p.1 → r = p ∨ r = q := fun r hr e1 e2 => by
    obtain ⟨s, _, rfl | rfl⟩ := mem_marks.1 hr <;> obtain ⟨t, _, rfl | rfl⟩ := mem_marks.1 hp <;> obtain ⟨u, _, rfl | rfl⟩ := mem_marks.1 hq <;> (simp only [mrk] at e1 e2 hpq ⊢; subst e2; subst e1) <;> first | exact .inl rfl | exact .inr rfl | exact absurd rfl hpq
  have row : ∀ r, r ∈ marks n X O → p.2 = q.2 → r.2 = p.2 → r = p ∨ r = q := fun r hr e1 e2 => by
    have iX : ∀ {s t : Nat}, s < n → t < n → X.getD s 0 = X.getD t 0 → s = t := fun {s t} hs ht e => g.pX.2.1 s t hs ht e
    have iO : ∀ {s t : Nat}, s < n → t < n → O.getD s 0 = O.getD t 0 → s = t := fun {s t} hs ht e => g.pO.2.1 s t hs ht e
    obtain ⟨s, hs, rfl | rfl⟩ := mem_marks.1 hr <;> obtain ⟨t, ht, rfl | rfl⟩ := mem_marks.1 hp <;> obtain ⟨u, hu, rfl | rfl⟩ := mem_marks.1 hq <;> simp only [mrk] at e1 e2 <;>
      first
        | (have := iX hs ht e2; subst this; exact .inl rfl)
        | (have := iO hs ht e2; subst this; exact .inl rfl)
        | (have := iX hs hu (e2.trans e1); subst this; exact .inr rfl)
        | (have := iO hs hu (e2.trans e1); subst this; exact .inr rfl)
        | (have := iX ht hu e1; subst this; exact absurd rfl hpq)
        | (have := iO ht hu e1; subst this; exact absurd rfl hpq)
  unfold annB
  congr 1
  · rw [xl_one List.nodup_range (List.mem_range.2 lt1.1) fun a _ hne => by
      rw [Bool.eq_false_iff]
      intro k
      have := askT_iff.1 k p hp
      rw [c1] at this
      split at this
      · rename_i h; exact hne h.symm
      · cases this]
    rw [Bool.eq_iff_iff, decide_eq_true_eq]
    refine askT_iff.trans ⟨fun k => ?_, fun e r hr => ?_⟩
    · have := k q hq
      rw [c2] at this
      split at this
      · rename_i h; exact h.symm
      · cases this
    · by_cases h : r.1 = p.1
      · rw [if_pos h]
        rcases col r hr e h with rfl | rfl
        · exact c1.symm
        · exact c2.symm
      · rw [if_neg h, c0 r (fun k => h (by rw [k])) fun k => h (by rw [k, e])]
  · rw [xl_one List.nodup_range (List.mem_range.2 lt1.2) fun a _ hne => by
      rw [Bool.eq_false_iff]
      intro k
      have := askT_iff.1 k p hp
      rw [c1] at this
      split at this
      · rename_i h; exact hne h.symm
      · cases this]
    rw [Bool.eq_iff_iff, decide_eq_true_eq]
    refine askT_iff.trans ⟨fun k => ?_, fun e r hr => ?_⟩
    · have := k q hq
      rw [c2] at this
      split at this
      · rename_i h; exact h.symm
      · cases this
    · by_cases h : r.2 = p.2
      · rw [if_pos h]
        rcases row r hr e h with rfl | rfl
        · exact c1.symm
        · exact c2.symm
      · rw [if_neg h, c0 r (fun k => h (by rw [k])) fun k => h (by rw [k, e])]
/-! Grades. -/
theorem dd_mod {a b : Nat} (ha : a < n) (hb : b < n) : (b + n - a) % n = dd n a b := by
  unfold dd
  split
  · rw [show b + n - a = (b - a) + n by omega, Nat.add_mod_right, Nat.mod_eq_of_lt (by omega)]
  · rw [Nat.mod_eq_of_lt (by omega)]
theorem dd_add {a k : Nat} (ha : a < n) (hk : k < n) : dd n a ((a + k) % n) = k := by
  rcases Nat.lt_or_ge (a + k) n with h | h
  · rw [Nat.mod_eq_of_lt h]; unfold dd; split <;> omega
  · rw [Nat.mod_eq_sub_mod h, Nat.mod_eq_of_lt (by omega)]; unfold dd; split <;> omega
theorem add_dd {a b : Nat} (ha : a < n) (hb : b < n) : (a + dd n a b) % n = b := by
  unfold dd
  split
  · rw [show a + (b - a) = b by omega, Nat.mod_eq_of_lt hb]
  · rw [show a + (b + n - a) = b + n by omega, Nat.add_mod_right, Nat.mod_eq_of_lt hb]
theorem upR_dd {Y : List Nat} (pY : isPerm Y n) {a b k : Nat} (hn : 0 < n) (hb : b < n) : upR n Y a b k = dd n b (Y.getD ((a + k) % n) 0) := by
  unfold upR
  exact dd_mod hb (pY.1 _ (Nat.mod_lt _ hn))
theorem emp_iff (x : List Nat) (l b h : Nat) : ∀ w, emp n x l b h w = true ↔ ∀ k, 0 < k → k < w → ¬ upR n x l b k < h
  | 0 => by simp [emp]
  | w + 1 => by
    rw [emp]
    constructor
    · intro k j h0 hj
      split at k
      · cases k
      · rename_i hn
        by_cases e : j = w
        · subst e
          exact fun h1 => hn ⟨h0, h1⟩
        · exact (emp_iff x l b h w).1 k j h0 (by omega)
    · intro k
      rw [if_neg fun h1 => k w h1.1 (Nat.lt_succ_self w) h1.2]
      exact (emp_iff x l b h w).2 fun j h0 hj => k j h0 (by omega)
/-- Of a list of marks those of one kind. -/
def cMk (n : Nat) (Y : List Nat) (T : List (Nat × Nat)) : Int := ct (fun s => mrk Y s ∈ T) n
theorem cnt_nil (Y : List Nat) : cMk n Y [] = 0 := ct_none fun s _ h => by cases h
theorem cnt_cons {Y : List Nat} {T : List (Nat × Nat)} {p : Nat × Nat} (hp : p.1 < n) (hT : p ∉ T) : cMk n Y (p :: T) = (if Y.getD p.1 0 = p.2 then 1 else 0) + cMk n Y T := by
  unfold cMk
  have h1 : ct (fun s => mrk Y s ∈ p :: T) n = ct (fun s => mrk Y s = p) n + ct (fun s => mrk Y s ∈ T) n := ct_split fun s _ => by
    rw [List.mem_cons]
    exact ⟨Iff.rfl, fun h => hT (h.1 ▸ h.2)⟩
  rw [h1]
  congr 1
  unfold ct
  rw [sm_single hp fun i _ hne => ind_no fun e => hne (by rw [← e]; rfl)]
  unfold ind
  by_cases e : Y.getD p.1 0 = p.2
  · rw [if_pos e, if_pos (show mrk Y p.1 = p from Prod.ext rfl e)]
  · rw [if_neg e, if_neg fun k : mrk Y p.1 = p => e (by rw [← k]; rfl)]
theorem mX_sw (g : Grd n X O) {Mk T : List (Nat × Nat)} {x : StB} (p : isPerm x.1 n) {a b : Nat} (ha : a < n) (hb : b < n) (hr : recB n Mk T x a b = true) {Y : List Nat} (pY : isPerm Y n) (hY : ∀ s, s < n → mrk Y s ∈ Mk) :
    mX n x.1 Y - mX n (swB x a b).1 Y = 1 - 2 * cMk n Y T := by
  unfold recB at hr
  simp only [Bool.and_eq_true, Bool.not_eq_true', beq_eq_false_iff_ne, ne_eq] at hr
  obtain ⟨hab, hem, hh⟩ := hr
  have h8 := g.h8
  have hn : 0 < n := by have := g.h2; omega
  have w0 : 0 < dd n a b := by
    rcases Nat.eq_zero_or_pos (dd n a b) with e | e
    · exact absurd ((dd_zero ha hb).1 e) hab
    · exact e
  have wn := dd_lt ha hb
  have e1 := add_dd ha hb
  have k := mX_led h8 (X := X) (O := O) p pY ha w0 wn
  have hled : led n x (recT n X O x.1 a (dd n a b)) = swB x a b := by
    unfold led swB
    refine Subtype.ext ?_
    show (x.1.set a (x.1.getD ((a + dd n a b) % n) 0)).set ((a + dd n a b) % n) (x.1.getD a 0) = _
    rw [e1]
  rw [hled] at k
  have xa := p.1 a ha
  have hin : ins n x.1 a (x.1.getD a 0) (upR n x.1 a (x.1.getD a 0) (dd n a b)) (dd n a b - 1) = 0 := by
    refine (ins_emp (fun j h0 hj => up_pos p ha h0 hj) (dd n a b - 1) (by omega)).2 ?_
    rw [show dd n a b - 1 + 1 = dd n a b by omega]
    refine (emp_iff x.1 a _ _ _).2 fun j h0 hj hlt => ?_
    rw [upR_dd p hn xa, upR_dd p hn xa, e1] at hlt
    have hj2 : (a + j) % n < n := Nat.mod_lt _ hn
    refine emB_iff.1 hem _ hj2 ⟨?_, ?_, hlt⟩
    · rw [dd_add ha (by omega)]; exact h0
    · rw [dd_add ha (by omega)]; exact hj
  have hmk : (mks n Y a (x.1.getD a 0) (upR n x.1 a (x.1.getD a 0) (dd n a b)) (dd n a b) : Int) = cMk n Y T := by
    rw [mks_ct, ← ct_cut (n := n) (Nat.le_of_lt wn)]
    unfold cMk
    have hperm : permF (fun i => (a + i) % n) n := ⟨fun i _ => Nat.mod_lt _ hn, fun i j hi hj e => by
      have h1 := dd_add ha hi
      have h2 := dd_add ha hj
      rw [show (a + i) % n = (a + j) % n from e] at h1
      exact h1.symm.trans h2⟩
    unfold ct
    rw [← sm_perm hperm fun s => ind (mrk Y s ∈ T)]
    refine sm_congr fun j hj => ind_iff ?_
    have hj2 : (a + j) % n < n := Nat.mod_lt _ hn
    have hc := List.all_eq_true.1 hh _ (hY _ hj2)
    rw [beq_iff_eq] at hc
    have hc : cvB n (fx x) a b (mrk Y ((a + j) % n)).1 (mrk Y ((a + j) % n)).2 = T.elem (mrk Y ((a + j) % n)) := hc
    have hc2 : cvB n (fx x) a b (mrk Y ((a + j) % n)).1 (mrk Y ((a + j) % n)).2 = true ↔ mrk Y ((a + j) % n) ∈ T := by
      rw [hc]; simp
    rw [← hc2, cvB_iff]
    show (j < dd n a b ∧ upR n Y a (x.1.getD a 0) j < upR n x.1 a (x.1.getD a 0) (dd n a b)) ↔ dd n a ((a + j) % n) < dd n a b ∧ dd n (x.1.getD a 0) (Y.getD ((a + j) % n) 0) < dd n (x.1.getD a 0) (x.1.getD b 0)
    rw [dd_add ha hj, upR_dd pY hn xa, upR_dd p hn xa, e1]
  rw [hin, hmk] at k
  omega
theorem opM_true {Mk T : List (Nat × Nat)} {x z : StB} (h : opM n Mk T x z = true) : ∃ a b, a < n ∧ b < n ∧ recB n Mk T x a b = true ∧ z = swB x a b := by
  refine Classical.byContradiction fun k => ?_
  have : opM n Mk T x z = false := xl_false fun a ha => xl_false fun b hb => by
    rw [Bool.and_eq_false_imp]
    intro h1
    rw [decide_eq_false_iff_not]
    exact fun h2 => k ⟨a, b, List.mem_range.1 ha, List.mem_range.1 hb, h1, h2⟩
  rw [this] at h
  cases h
end
end Go.Proofs.YtmbbcmebdefggaaGreatDoor
namespace Go.Proofs.YtmbbcmebdefggaaGreatDoor
theorem xl_ex {α : Type} {f : α → Bool} : ∀ {l : List α}, xl f l = true → ∃ x ∈ l, f x = true
  | [], h => by cases h
  | x :: l, h => by
    cases e : f x
    · rw [xl, e, Bool.false_xor] at h
      obtain ⟨y, hy, k⟩ := xl_ex h
      exact ⟨y, List.mem_cons_of_mem _ hy, k⟩
    · exact ⟨x, List.mem_cons_self, e⟩
/-- A state's grade. -/
def grP (n : Nat) (X O : List Nat) (x : StB) : Int × Int := (mX n x.1 O - mX n x.1 X - n + 1, mX n x.1 O)
section
variable {n : Nat} {X O : List Nat} {L : List StB}
theorem op_lin (g : Grd n X O) (hL : AllSt n L) (T : List (Nat × Nat)) : Lin L (grP n X O) (2 * (cMk n O T - cMk n X T)) (2 * cMk n O T - 1) (op n (marks n X O) L T) := by
  refine ⟨op_add T, fun gg v hv y hy => ?_⟩
  by_cases hyL : y ∈ L
  rotate_left
  · rw [op_out g.h8 hL T v hyL] at hy; cases hy
  refine ⟨hyL, ?_⟩
  obtain ⟨x, hx, k⟩ := xl_ex hy
  rw [Bool.and_eq_true] at k
  obtain ⟨a, b, ha, hb, hr, rfl⟩ := opM_true k.2
  have p := (hL.mem x).1 hx
  have k1 := mX_sw g p ha hb hr g.pO fun s hs => mem_marks.2 ⟨s, hs, .inr rfl⟩
  have k2 := mX_sw g p ha hb hr g.pX fun s hs => mem_marks.2 ⟨s, hs, .inl rfl⟩
  rw [← (hv x k.1).2]
  unfold grP sh
  refine Prod.ext ?_ ?_ <;> dsimp only <;> omega
theorem cnt_mrk {Y Z : List Nat} {T : List (Nat × Nat)} {c : Nat} (hc : c < n) (hT : mrk Z c ∉ T) : cMk n Y (mrk Z c :: T) = (if Y.getD c 0 = Z.getD c 0 then 1 else 0) + cMk n Y T := cnt_cons hc hT
theorem cnt_O (g : Grd n X O) {c : Nat} (hc : c < n) : cMk n O [mrk O c] = 1 ∧ cMk n X [mrk O c] = 0 := by
  rw [cnt_mrk hc List.not_mem_nil, cnt_mrk hc List.not_mem_nil, cnt_nil, cnt_nil, if_pos rfl, if_neg (g.ne c hc)]
  exact ⟨rfl, rfl⟩
theorem cnt_X (g : Grd n X O) {c : Nat} (hc : c < n) : cMk n O [mrk X c] = 0 ∧ cMk n X [mrk X c] = 1 := by
  rw [cnt_mrk hc List.not_mem_nil, cnt_mrk hc List.not_mem_nil, cnt_nil, cnt_nil, if_pos rfl, if_neg fun e => g.ne c hc e.symm]
  exact ⟨rfl, rfl⟩
theorem mkOX (g : Grd n X O) {c e : Nat} (hc : c < n) : mrk O c ≠ mrk X e := fun k => by
  obtain ⟨k1, k2⟩ := Prod.mk.inj k
  subst k1
  exact g.ne c hc k2.symm
theorem lin0 (g : Grd n X O) (hL : AllSt n L) : Lin L (grP n X O) 0 (-1) (op n (marks n X O) L []) := by
  have := op_lin g hL []
  rwa [cnt_nil, cnt_nil] at this
theorem linO (g : Grd n X O) (hL : AllSt n L) {c : Nat} (hc : c < n) : Lin L (grP n X O) 2 1 (op n (marks n X O) L [mrk O c]) := by
  have := op_lin g hL [mrk O c]
  rwa [(cnt_O g hc).1, (cnt_O g hc).2] at this
theorem linX (g : Grd n X O) (hL : AllSt n L) {c : Nat} (hc : c < n) : Lin L (grP n X O) (-2) (-1) (op n (marks n X O) L [mrk X c]) := by
  have := op_lin g hL [mrk X c]
  rwa [(cnt_X g hc).1, (cnt_X g hc).2] at this
theorem linOO (g : Grd n X O) (hL : AllSt n L) {c e : Nat} (hc : c < n) (he : e < n) (hce : c ≠ e) : Lin L (grP n X O) 4 3 (op n (marks n X O) L [mrk O c, mrk O e]) := by
  have := op_lin g hL [mrk O c, mrk O e]
  have hne : mrk O c ∉ [mrk O e] := fun k => hce (Prod.mk.inj (List.mem_singleton.1 k)).1
  rwa [cnt_mrk hc hne, cnt_mrk hc hne, (cnt_O g he).1, (cnt_O g he).2, if_pos rfl, if_neg (g.ne c hc)] at this
theorem linOX (g : Grd n X O) (hL : AllSt n L) {c e : Nat} (hc : c < n) (he : e < n) : Lin L (grP n X O) 0 1 (op n (marks n X O) L [mrk O c, mrk X e]) := by
  have := op_lin g hL [mrk O c, mrk X e]
  have hne : mrk O c ∉ [mrk X e] := fun k => mkOX g hc (List.mem_singleton.1 k)
  rwa [cnt_mrk hc hne, cnt_mrk hc hne, (cnt_X g he).1, (cnt_X g he).2, if_pos rfl, if_neg (g.ne c hc)] at this
/-! Sums of operations. -/
theorem op_zero {Mk : List (Nat × Nat)} (T : List (Nat × Nat)) : op n Mk L T v0 = v0 := funext fun y => xl_false fun x _ => Bool.false_and _
theorem op_xl {Mk : List (Nat × Nat)} (T : List (Nat × Nat)) {ι : Type} (u : ι → StB → Bool) : ∀ l : List ι, op n Mk L T (fun y => xl (fun t => u t y) l) = fun y => xl (fun t => op n Mk L T (u t) y) l
  | [] => op_zero T
  | t :: l => by
    have h := op_xl (Mk := Mk) T u l
    have e : (fun y => xl (fun t => u t y) (t :: l)) = va (u t) (fun y => xl (fun t => u t y) l) := rfl
    rw [e, op_add, h]
    rfl
/-- The Xs behind the j-th. -/
def aft (n j : Nat) : List Nat := (List.range n).filter fun t => decide (j < t)
def opF (n : Nat) (X O : List Nat) (L : List StB) (c : Nat → Nat) (j : Nat) (v : StB → Bool) : StB → Bool := fun y => xl (fun t => op n (marks n X O) L [mrk X (c t)] v y) (aft n j)
theorem mem_aft {j t : Nat} : t ∈ aft n j ↔ t < n ∧ j < t := by unfold aft; rw [List.mem_filter, List.mem_range, decide_eq_true_eq]
/-- The columns of a knot, one behind the other. -/
structure Cyc (n : Nat) (X O : List Nat) (c : Nat → Nat) : Prop where
  lt : ∀ i, i < n → c i < n
  inj : ∀ i j, i < n → j < n → c i = c j → i = j
  nx : ∀ i, i + 1 < n → O.getD (c i) 0 = X.getD (c (i + 1)) 0
theorem Cyc.ann (g : Grd n X O) {c : Nat → Nat} (hc : Cyc n X O c) {i t : Nat} (hi : i + 1 < n) (ht : t < n) : annB n (marks n X O) [mrk O (c i), mrk X (c t)] = (decide (i = t) ^^ decide (i + 1 = t)) := by
  have ci := hc.lt i (by omega)
  have ct := hc.lt t ht
  rw [g.ann2 (mem_marks.2 ⟨_, ci, .inr rfl⟩) (mem_marks.2 ⟨_, ct, .inl rfl⟩) (mkOX g ci)]
  congr 1
  · exact decide_eq_decide.2 ⟨fun e => hc.inj i t (by omega) ht e, fun e => by subst e; rfl⟩
  · refine decide_eq_decide.2 ⟨fun e => ?_, fun e => by subst e; exact hc.nx i hi⟩
    have e2 : X.getD (c (i + 1)) 0 = X.getD (c t) 0 := (hc.nx i hi).symm.trans e
    exact hc.inj _ _ hi ht (g.pX.2.1 _ _ (hc.lt _ hi) ct e2)
theorem aft_sum {i j : Nat} (hi : i + 1 < n) (hj : j + 1 < n) : xl (fun t => decide (i = t) ^^ decide (i + 1 = t)) (aft n j) = decide (i = j) := by
  have h1 : ∀ k, k < n → xl (fun t => decide (k = t)) (aft n j) = decide (j < k) := fun k hk => by
    by_cases h : j < k
    · have nd : (aft n j).Nodup := List.nodup_range.filter _
      rw [xl_one (f := fun t => decide (k = t)) nd (mem_aft.2 ⟨hk, h⟩) fun t _ hne => decide_eq_false fun e => hne e.symm, decide_eq_true rfl, decide_eq_true h]
    · rw [xl_false fun t ht => decide_eq_false fun e => h (by rw [e]; exact (mem_aft.1 ht).2), decide_eq_false h]
  rw [xl_xor, h1 i (by omega), h1 (i + 1) hi]
  by_cases e : i = j
  · subst e
    rw [decide_eq_false (by omega), decide_eq_true (by omega), decide_eq_true rfl]; rfl
  · by_cases h : j < i
    · rw [decide_eq_true h, decide_eq_true (by omega), decide_eq_false e]; rfl
    · rw [decide_eq_false h, decide_eq_false (by omega), decide_eq_false e]; rfl
theorem sumDF (g : Grd n X O) (hL : AllSt n L) {c : Nat → Nat} (hc : Cyc n X O c) {i : Nat} (hi : i + 1 < n) {gg : Int × Int} {z : StB → Bool} (hz : Zg L (grP n X O) (op n (marks n X O) L []) gg z) : ∀ {l : List Nat}, (∀ t ∈ l, t < n) →
    ∃ b, Cg L (grP n X O) (sh gg 0 1) b ∧ va (op n (marks n X O) L [mrk O (c i)] (fun y => xl (fun t => op n (marks n X O) L [mrk X (c t)] z y) l)) (fun y => xl (fun t => op n (marks n X O) L [mrk X (c t)] (op n (marks n X O) L [mrk O (c i)] z) y) l) = va (op n (marks n X O) L [] b) (fun y => z y && xl (fun t => decide (i = t) ^^ decide (i + 1 = t)) l)
  | [], _ => ⟨v0, (Cg.spc L _ _).z, by
      rw [op_xl, op_zero]
      exact funext fun y => by
        show (false ^^ false) = (false ^^ (z y && false))
        rw [Bool.and_false]⟩
  | t :: l, hl => by
    obtain ⟨b, hb, e⟩ := sumDF g hL hc hi hz fun s hs => hl s (List.mem_cons_of_mem _ hs)
    have ht := hl t List.mem_cons_self
    have ci := hc.lt i (by omega)
    have cti := hc.lt t ht
    have k := op_pq g.h2 g.h8 hL g.lt (mem_marks.2 ⟨_, ci, .inr rfl⟩) (mem_marks.2 ⟨_, cti, .inl rfl⟩) (mkOX g ci) hz.1.spp
    rw [hz.2, op_zero, va_zero, hc.ann g hi ht] at k
    refine ⟨va (op n (marks n X O) L [mrk O (c i), mrk X (c t)] z) b, (Cg.spc L _ _).add _ _ ((linOX g hL ci cti).to _ _ hz.1) hb, ?_⟩
    rw [op_xl] at e ⊢
    rw [op_add]
    refine funext fun y => ?_
    have e' := congrFun e y
    have k' := congrFun k y
    clear e k
    simp only [va, xl_cons] at e' k' ⊢
    generalize xl (fun t => op n (marks n X O) L [mrk O (c i)] (op n (marks n X O) L [mrk X (c t)] z) y) l = s1 at *
    generalize xl (fun t => op n (marks n X O) L [mrk X (c t)] (op n (marks n X O) L [mrk O (c i)] z) y) l = s2 at *
    generalize xl (fun t => decide (i = t) ^^ decide (i + 1 = t)) l = s3 at *
    generalize op n (marks n X O) L [] b y = s4 at *
    generalize op n (marks n X O) L [mrk O (c i)] (op n (marks n X O) L [mrk X (c t)] z) y = s5 at *
    generalize op n (marks n X O) L [mrk X (c t)] (op n (marks n X O) L [mrk O (c i)] z) y = s6 at *
    generalize op n (marks n X O) L [] (op n (marks n X O) L [mrk O (c i), mrk X (c t)] z) y = s7 at *
    generalize (decide (i = t) ^^ decide (i + 1 = t)) = s8 at *
    generalize z y = s9 at *
    revert s1 s2 s3 s4 s5 s6 s7 s8 s9
    decide
/-- A knot's operations. -/
theorem knotK (g : Grd n X O) (hL : AllSt n L) {c : Nat → Nat} (hc : Cyc n X O c) : Ksz L (grP n X O) (op n (marks n X O) L []) (n - 1) (fun i => op n (marks n X O) L [mrk O (c i)]) (opF n X O L c) := by
  have h2 := g.h2
  have h8 := g.h8
  have mO : ∀ i, i < n → mrk O (c i) ∈ marks n X O := fun i hi => mem_marks.2 ⟨_, hc.lt i hi, .inr rfl⟩
  have mX' : ∀ i, i < n → mrk X (c i) ∈ marks n X O := fun i hi => mem_marks.2 ⟨_, hc.lt i hi, .inl rfl⟩
  refine ⟨lin0 g hL, fun i hi => linO g hL (hc.lt i (by omega)), fun j hj => ⟨fun u v => ?_, fun gg v hv y hy => ?_⟩, fun gg v _ => op_00 h2 h8 hL g.lt (mO 0 (by omega)) g.ann0 v, fun i hi gg v _ => op_01 h2 h8 hL g.lt (mO i (by omega)) (g.ann1 _) v, fun j hj gg v _ => ?_, fun i j hi hj hij gg v hv => ?_, fun i hi gg v _ => op_11 h2 h8 hL g.lt (mO i (by omega)) (g.ann11 _) v, fun i j hi hj hij gg v hv => ?_, fun i hi gg v hv => ?_⟩
  · unfold opF
    refine funext fun y => ?_
    show _ = (_ ^^ _)
    rw [← xl_xor]
    refine xl_congr fun t _ => ?_
    rw [op_add]; rfl
  · obtain ⟨t, ht, k⟩ := xl_ex hy
    exact (linX g hL (hc.lt t (mem_aft.1 ht).1)).to gg v hv y k
  · unfold opF
    rw [op_xl]
    refine funext fun y => xl_congr fun t ht => ?_
    exact congrFun (op_01 h2 h8 hL g.lt (mX' t (mem_aft.1 ht).1) (g.ann1 _) v) y
  · have hne : c i ≠ c j := fun e => hij (hc.inj i j (by omega) (by omega) e)
    have hne2 : mrk O (c i) ≠ mrk O (c j) := fun e => hne (Prod.mk.inj e).1
    have k := op_pq h2 h8 hL g.lt (mO i (by omega)) (mO j (by omega)) hne2 hv.1.spp
    rw [hv.2, op_zero, va_zero, g.ann2 (mO i (by omega)) (mO j (by omega)) hne2] at k
    have a1 : decide ((mrk O (c i)).1 = (mrk O (c j)).1) = false := decide_eq_false hne
    have a2 : decide ((mrk O (c i)).2 = (mrk O (c j)).2) = false := decide_eq_false fun e => hne (g.pO.2.1 _ _ (hc.lt i (by omega)) (hc.lt j (by omega)) e)
    rw [a1, a2] at k
    refine ⟨op n (marks n X O) L [mrk O (c i), mrk O (c j)] v, ?_, ?_⟩
    · have := (linOO g hL (hc.lt i (by omega)) (hc.lt j (by omega)) hne).to gg v hv.1
      rw [sh_sh]
      exact this
    · refine funext fun y => ?_
      have k' := congrFun k y
      clear k
      simp only [va, Bool.xor_false, Bool.and_false] at k' ⊢
      generalize op n (marks n X O) L [mrk O (c j)] (op n (marks n X O) L [mrk O (c i)] v) y = s1 at *
      generalize op n (marks n X O) L [mrk O (c i)] (op n (marks n X O) L [mrk O (c j)] v) y = s2 at *
      generalize op n (marks n X O) L [] (op n (marks n X O) L [mrk O (c i), mrk O (c j)] v) y = s3 at *
      revert s1 s2 s3
      decide
  · obtain ⟨b, hb, e⟩ := sumDF g hL hc (show i + 1 < n by omega) hv (l := aft n j) fun t ht => (mem_aft.1 ht).1
    rw [aft_sum (by omega) (by omega), decide_eq_false hij] at e
    refine ⟨b, hb, ?_⟩
    have e0 : (fun y => v y && false) = (v0 : StB → Bool) := funext fun y => Bool.and_false _
    rw [e0, va_zero] at e
    exact e
  · obtain ⟨b, hb, e⟩ := sumDF g hL hc (show i + 1 < n by omega) hv (l := aft n i) fun t ht => (mem_aft.1 ht).1
    rw [aft_sum (by omega) (by omega), decide_eq_true rfl] at e
    refine ⟨b, hb, ?_⟩
    have e0 : (fun y => v y && true) = v := funext fun y => Bool.and_true _
    rw [e0] at e
    have e2 : va (op n (marks n X O) L [mrk O (c i)] (opF n X O L c i v)) (opF n X O L c i (op n (marks n X O) L [mrk O (c i)] v)) = va (op n (marks n X O) L [] b) v := e
    rw [e2, va_comm v, va_assoc, va_self, va_zero]
/-- The columns of a knot. -/
theorem knot_cyc (g0 : okG (n : Int) X O) (h1 : comps n X O = 1) : ∃ c, Cyc n X O c := by
  have g := okG.grd g0
  have hp := nxt_perm g0
  have hn : 0 < n := by have := g.h2; omega
  have h0 : isRep (nxt n X O) 0 := fun t => Nat.zero_le _
  -- every column is met from the column 0
  have meet : ∀ i, i < n → rch (nxt n X O) 0 i := fun i hi => by
    obtain ⟨m, hm, hr, hrep⟩ := least_in hp hi
    have e : m = 0 := by
      have k : (repsU (nxt n X O) n).length = 1 := h1
      obtain ⟨a, ha⟩ := List.length_eq_one_iff.1 k
      have m1 : m ∈ repsU (nxt n X O) n := mem_reps.2 ⟨hm, hrep⟩
      have m2 : 0 ∈ repsU (nxt n X O) n := mem_reps.2 ⟨hn, h0⟩
      rw [ha, List.mem_singleton] at m1 m2
      rw [m1, ← m2]
    subst e
    exact rch_symm hp hi hr
  refine ⟨fun t => it (nxt n X O) t 0, fun i _ => it_lt hp hn i, ?_, fun i _ => ?_⟩
  · have key : ∀ s t, s < t → t < n → it (nxt n X O) s 0 ≠ it (nxt n X O) t 0 := fun s t hst ht e => by
      have e1 : it (nxt n X O) t 0 = it (nxt n X O) s (it (nxt n X O) (t - s) 0) := by rw [← it_add]; congr 1; omega
      rw [e1] at e
      have e2 := (it_inj hp hn (it_lt hp hn _) s e).symm
      have hle := List.Nodup.length_le_of_subset (List.nodup_range (n := n)) (l₂ := (List.range (t - s)).map fun u => it (nxt n X O) u 0) fun i hi => by
        obtain ⟨u, rfl⟩ := meet i (List.mem_range.1 hi)
        refine List.mem_map.2 ⟨u % (t - s), List.mem_range.2 (Nat.mod_lt _ (by omega)), ?_⟩
        have e3 : it (nxt n X O) u 0 = it (nxt n X O) (u % (t - s)) (it (nxt n X O) ((t - s) * (u / (t - s))) 0) := by rw [← it_add, Nat.mod_add_div]
        rw [e3, it_mul e2]
      simp at hle
      omega
    intro i j hi hj e
    rcases Nat.lt_trichotomy i j with h | h | h
    · exact absurd e (key i j h hj)
    · exact h
    · exact absurd e.symm (key j i h hi)
  · have := (nxt_next g0).2 (it (nxt n X O) i 0) (it_lt hp hn i)
    exact this.symm
end
end Go.Proofs.YtmbbcmebdefggaaGreatDoor
namespace Go.Proofs.YtmbbcmebdefggaaGreatDoor
/-- A list as a vector. -/
def vc (l : List StB) : StB → Bool := fun x => decide (x ∈ l)
theorem vc_nil : vc [] = v0 := funext fun x => by unfold vc; simp [v0]
theorem vc_sd {a b : List StB} (ha : Asc rkT a) (hb : Asc rkT b) : vc (sd rkT a b) = va (vc a) (vc b) := funext fun x => by
  unfold vc va
  have := sd_mem rkT_inj a b ha hb x
  by_cases h1 : x ∈ a <;> by_cases h2 : x ∈ b <;> simp [this, h1, h2]
theorem vc_inj {a b : List StB} (ha : Asc rkT a) (hb : Asc rkT b) (h : vc a = vc b) : a = b := Asc.ext ha hb fun x => by
  have := congrFun h x
  unfold vc at this
  exact decide_eq_decide.1 this
theorem vc_sm : ∀ {S : List (List StB)}, AscL rkT S → ∀ y, vc (smL rkT S) y = xl (fun l => vc l y) S
  | [], _, y => by
    show vc [] y = false
    rw [vc_nil]; rfl
  | s :: S, h, y => by
    have h' : AscL rkT S := fun g hg => h g (List.mem_cons_of_mem _ hg)
    rw [smL_cons, vc_sd (h s List.mem_cons_self) (smL_asc h'), xl_cons, ← vc_sm h' y]
    rfl
/-! The rectangles as they are listed. -/
theorem xl_snoc {α : Type} (f : α → Bool) (l : List α) (x : α) : xl f (l ++ [x]) = (xl f l ^^ f x) := by
  rw [xl_app, xl, xl, Bool.xor_false]
theorem xl_rin (n : Nat) (X O x : List Nat) (l : Nat) (f : Rec → Bool) : ∀ m, xl f (rin n X O x l m) = xl (fun w => f (recT n X O x l (w + 1))) (List.range m)
  | 0 => rfl
  | m + 1 => by rw [rin, xl_snoc, xl_rin n X O x l f m, List.range_succ, xl_snoc]
theorem xl_rout (n : Nat) (X O x : List Nat) (f : Rec → Bool) : ∀ k, xl f (rout n X O x k) = xl (fun l => xl f (rin n X O x l (n - 1))) (List.range k)
  | 0 => rfl
  | k + 1 => by rw [rout, xl_app, xl_rout n X O x f k, List.range_succ, xl_snoc]
theorem xl_count (z : StB) : ∀ l : List StB, xl (fun y => decide (z = y)) l = decide (l.count z % 2 = 1)
  | [] => rfl
  | x :: l => by
    rw [xl, xl_count z l, List.count_cons]
    by_cases e : z = x
    · subst e
      rw [decide_eq_true rfl, Bool.true_xor, if_pos (by simp)]
      by_cases h : l.count z % 2 = 1
      · rw [decide_eq_true h, decide_eq_false (by omega)]; rfl
      · rw [decide_eq_false h, decide_eq_true (by omega)]; rfl
    · rw [decide_eq_false e, Bool.false_xor, if_neg (fun k => e (eq_of_beq k).symm), Nat.add_zero]
theorem mks_zero (n : Nat) (Y : List Nat) (l b h : Nat) : ∀ w, mks n Y l b h w = 0 ↔ ∀ k, k < w → ¬ upR n Y l b k < h
  | 0 => by simp [mks]
  | w + 1 => by
    rw [mks]
    constructor
    · intro k j hj
      by_cases e : j = w
      · subst e
        intro h1
        rw [if_pos h1] at k
        omega
      · exact (mks_zero n Y l b h w).1 (by omega) j (by omega)
    · intro k
      rw [if_neg (k w (Nat.lt_succ_self w)), (mks_zero n Y l b h w).2 fun j hj => k j (by omega)]
section
variable {n : Nat} {X O : List Nat} {L : List StB}
theorem rec_same (g : Grd n X O) {x : StB} (p : isPerm x.1 n) {a w : Nat} (ha : a < n) (w0 : 0 < w) (wn : w < n) : (isEmp n x.1 (recT n X O x.1 a w) && freeR (recT n X O x.1 a w)) = recB n (marks n X O) [] x a ((a + w) % n) := by
  have hn : 0 < n := by omega
  have hb : (a + w) % n < n := Nat.mod_lt _ hn
  have xa := p.1 a ha
  have hd := dd_add ha wn
  have hne : ¬ a = (a + w) % n := fun e => mod_ne ha w0 wn e.symm
  have cv : ∀ {Y : List Nat}, isPerm Y n → (mks n Y a (x.1.getD a 0) (upR n x.1 a (x.1.getD a 0) w) w = 0 ↔ ∀ s, s < n → cvB n (fx x) a ((a + w) % n) s (Y.getD s 0) = false) := fun {Y} pY => by
    rw [mks_zero]
    constructor
    · intro k s hs
      rw [Bool.eq_false_iff]
      intro k2
      obtain ⟨k3, k4⟩ := cvB_iff.1 k2
      rw [hd] at k3
      refine k (dd n a s) k3 ?_
      rw [upR_dd pY hn xa, upR_dd p hn xa, add_dd ha hs]
      exact k4
    · intro k j hj hlt
      have hj2 : (a + j) % n < n := Nat.mod_lt _ hn
      have := k _ hj2
      rw [Bool.eq_false_iff] at this
      refine this (cvB_iff.2 ⟨?_, ?_⟩)
      · rw [dd_add ha (by omega), hd]; exact hj
      · rw [upR_dd pY hn xa, upR_dd p hn xa] at hlt
        exact hlt
  rw [Bool.eq_iff_iff]
  unfold recB freeR isEmp recT
  dsimp only
  simp only [Bool.and_eq_true, Bool.not_eq_true', beq_eq_false_iff_ne, ne_eq, beq_iff_eq, cv g.pX, cv g.pO]
  rw [emp_iff, emB_iff]
  have he : (∀ k, 0 < k → k < w → ¬ upR n x.1 a (x.1.getD a 0) k < upR n x.1 a (x.1.getD a 0) w) ↔ ∀ s, s < n → ¬ (0 < dd n a s ∧ dd n a s < dd n a ((a + w) % n) ∧ dd n (fx x a) (fx x s) < dd n (fx x a) (fx x ((a + w) % n))) := by
    constructor
    · rintro k s hs ⟨k1, k2, k3⟩
      rw [hd] at k2
      refine k _ k1 k2 ?_
      rw [upR_dd p hn xa, upR_dd p hn xa, add_dd ha hs]
      exact k3
    · intro k j j0 hj hlt
      have hj2 : (a + j) % n < n := Nat.mod_lt _ hn
      refine k _ hj2 ⟨?_, ?_, ?_⟩
      · rw [dd_add ha (by omega)]; exact j0
      · rw [dd_add ha (by omega), hd]; exact hj
      · rw [upR_dd p hn xa, upR_dd p hn xa] at hlt
        exact hlt
  rw [he]
  have hh : has (marks n X O) (fun q => cvB n (fx x) a ((a + w) % n) q.1 q.2) [] = true ↔ (∀ s, s < n → cvB n (fx x) a ((a + w) % n) s (X.getD s 0) = false) ∧ ∀ s, s < n → cvB n (fx x) a ((a + w) % n) s (O.getD s 0) = false := by
    unfold has
    rw [List.all_eq_true]
    simp only [List.elem_nil, beq_false, Bool.not_eq_true']
    constructor
    · intro k
      exact ⟨fun s hs => k _ (mem_marks.2 ⟨s, hs, .inl rfl⟩), fun s hs => k _ (mem_marks.2 ⟨s, hs, .inr rfl⟩)⟩
    · rintro ⟨k1, k2⟩ q hq
      obtain ⟨s, hs, rfl | rfl⟩ := mem_marks.1 hq
      · exact k1 s hs
      · exact k2 s hs
  rw [hh]
  constructor
  · rintro ⟨k1, k2, k3⟩
    exact ⟨hne, k1, k2, k3⟩
  · rintro ⟨_, k1, k2, k3⟩
    exact ⟨k1, k2, k3⟩
/-- What follows a state, as the operation. -/
theorem opM_fol (g : Grd n X O) {x : StB} (p : isPerm x.1 n) (z : StB) : opM n (marks n X O) [] x z = vc (tfold (fol n X O x)) z := by
  have h1 : vc (tfold (fol n X O x)) z = xl (fun y => decide (z = y)) (fol n X O x) := by
    rw [xl_count]
    unfold vc
    exact decide_eq_decide.2 ((tfold_odd _).2.1 z)
  rw [h1]
  unfold fol
  rw [xl_map, xl_filter, eout_filter, xl_filter, xl_rout]
  unfold opM
  refine xl_congr fun a ha => ?_
  have ha' := List.mem_range.1 ha
  have h2 := g.h2
  rw [xl_rin]
  have hs := xl_sub (f := fun b => recB n (marks n X O) [] x a b && decide (z = swB x a b)) (g := fun w => (a + (w + 1)) % n) (l := List.range n) (m := List.range (n - 1)) List.nodup_range ?_ (fun w _ => List.mem_range.2 (Nat.mod_lt _ (by omega))) ?_
  · rw [hs]
    refine xl_congr fun w hw => ?_
    have hw' := List.mem_range.1 hw
    have := rec_same g p ha' (show 0 < w + 1 by omega) (show w + 1 < n by omega)
    rw [← this]
    have hl : led n x (recT n X O x.1 a (w + 1)) = swB x a ((a + (w + 1)) % n) := rfl
    rw [hl, Bool.and_assoc]
  · rw [List.nodup_iff_pairwise_ne, List.pairwise_map]
    refine List.Pairwise.imp_of_mem (fun {u v} hu hv hne e => hne ?_) (List.nodup_iff_pairwise_ne.1 List.nodup_range)
    have hu' := List.mem_range.1 hu
    have hv' := List.mem_range.1 hv
    have e1 := dd_add ha' (show u + 1 < n by omega)
    have e2 := dd_add ha' (show v + 1 < n by omega)
    rw [e] at e1
    omega
  · intro b hb hnb
    have hb' := List.mem_range.1 hb
    have e : a = b := by
      refine Classical.byContradiction fun hab => hnb (List.mem_map.2 ⟨dd n a b - 1, List.mem_range.2 ?_, ?_⟩)
      · have := dd_lt ha' hb'
        have := fun k => hab ((dd_zero ha' hb').1 k)
        omega
      · have h0 : dd n a b ≠ 0 := fun k => hab ((dd_zero ha' hb').1 k)
        rw [show dd n a b - 1 + 1 = dd n a b by omega, add_dd ha' hb']
    subst e
    unfold recB
    rw [beq_self_eq_true]
    rfl
/-- The images of some states. -/
def imgs (n : Nat) (X O : List Nat) (S : List StB) : List (List StB) := S.map fun x => tfold (fol n X O x)
theorem imgs_asc (S : List StB) : AscL rkT (imgs n X O S) := fun l hl => by
  obtain ⟨x, _, rfl⟩ := List.mem_map.1 hl
  exact (tfold_odd _).1
theorem op_vec (g : Grd n X O) (hL : AllSt n L) (b : StB → Bool) : op n (marks n X O) L [] b = vc (smL rkT (imgs n X O (L.filter b))) := funext fun y => by
  rw [vc_sm (imgs_asc _)]
  unfold imgs op
  rw [xl_map, xl_filter]
  refine xl_congr fun x hx => ?_
  rw [opM_fol g ((hL.mem x).1 hx)]
/-- Boundaries are what the images span. -/
theorem Bg_spn (g : Grd n X O) (hL : AllSt n L) {gg : Int × Int} {S : List StB} (hS : ∀ x, x ∈ S ↔ x ∈ L ∧ grP n X O x = sh gg 0 1) (v : StB → Bool) : Bg L (grP n X O) (op n (marks n X O) L []) gg v ↔ ∃ l, Spn rkT (imgs n X O S) l ∧ v = vc l := by
  constructor
  · rintro ⟨b, hb, rfl⟩
    refine ⟨_, ⟨imgs n X O (L.filter b), fun l hl => ?_, rfl⟩, op_vec g hL b⟩
    obtain ⟨x, hx, rfl⟩ := List.mem_map.1 hl
    obtain ⟨h1, h2⟩ := List.mem_filter.1 hx
    exact List.mem_map.2 ⟨x, (hS x).2 (hb x h2), rfl⟩
  · rintro ⟨l, ⟨T, hT, rfl⟩, rfl⟩
    induction T with
    | nil =>
      refine ⟨v0, (Cg.spc L _ _).z, ?_⟩
      rw [op_zero]
      exact vc_nil
    | cons t T ih =>
      obtain ⟨b, hb, e⟩ := ih fun s hs => hT s (List.mem_cons_of_mem _ hs)
      obtain ⟨x, hx, rfl⟩ := List.mem_map.1 (hT t List.mem_cons_self)
      have ha : AscL rkT T := fun s hs => imgs_asc S s (hT s (List.mem_cons_of_mem _ hs))
      have hxL := ((hS x).1 hx).1
      refine ⟨va (fun y => decide (y = x)) b, (Cg.spc L _ _).add _ _ (fun y hy => ?_) hb, ?_⟩
      · rw [decide_eq_true_eq] at hy
        subst hy
        exact (hS y).1 hx
      · rw [smL_cons, vc_sd (tfold_odd _).1 (smL_asc ha), e, op_add]
        congr 1
        refine funext fun y => ?_
        unfold op
        rw [xl_one hL.nd hxL fun z _ hne => by show (decide (z = x) && _) = false; rw [decide_eq_false hne, Bool.false_and]]
        show _ = (decide (x = x) && opM n (marks n X O) [] x y)
        rw [decide_eq_true rfl, Bool.true_and, opM_fol g ((hL.mem x).1 hxL)]
/-- A family with different leading places: the dimension of its span. -/
theorem Ech.dm : ∀ {B : List (List StB)}, Ech rkT B → Dm (fun v => ∃ l, Spn rkT B l ∧ v = vc l) B.length
  | [], _ => ⟨[v0], by simp, fun v => by
      rw [List.mem_singleton]
      constructor
      · rintro rfl
        exact ⟨[], Spn.nil _, vc_nil.symm⟩
      · rintro ⟨l, ⟨S, hS, rfl⟩, rfl⟩
        cases S with
        | nil => exact vc_nil
        | cons s S => exact absurd (hS s List.mem_cons_self) List.not_mem_nil, rfl⟩
  | b :: B, h => by
    have hB := h.sub (List.sublist_cons_self b B)
    have ih := Ech.dm hB
    have sp : Spc fun v => ∃ l, Spn rkT B l ∧ v = vc l := ⟨⟨[], Spn.nil _, vc_nil.symm⟩, fun u v ⟨k, hk, e⟩ ⟨l, hl, e'⟩ => ⟨_, Spn.sd rkT_inj hB.asc hk hl, by rw [vc_sd (hk.asc hB.asc) (hl.asc hB.asc), e, e']⟩⟩
    have hba := h.asc b List.mem_cons_self
    have hnew : ¬ ∃ l, Spn rkT B l ∧ vc b = vc l := by
      rintro ⟨l, hl, e⟩
      have e2 := vc_inj hba (hl.asc hB.asc) e
      subst e2
      have := hB.nothing rkT_inj hl fun c hc k => (List.pairwise_cons.1 h.pw).1 c hc k.symm
      exact h.ne b List.mem_cons_self this
    have hd := Crd.double sp ih hnew
    unfold Dm
    rw [List.length_cons, Nat.pow_succ, Nat.mul_comm]
    refine hd.congr fun v => ?_
    constructor
    · rintro (⟨l, hl, rfl⟩ | ⟨l, hl, e⟩)
      · exact ⟨l, Spn.mono rkT_inj h.asc (fun c hc => Spn.one (List.mem_cons_of_mem _ hc)) hl, rfl⟩
      · refine ⟨sd rkT b l, Spn.sd rkT_inj h.asc (Spn.one List.mem_cons_self) (Spn.mono rkT_inj h.asc (fun c hc => Spn.one (List.mem_cons_of_mem _ hc)) hl), ?_⟩
        rw [vc_sd hba (hl.asc hB.asc), ← e, va_back]
    · rintro ⟨l, hl, rfl⟩
      obtain ⟨u, hu, e⟩ := hl.split rkT_inj h.asc
      rcases e with e | e
      · exact .inl ⟨u, hu, by rw [e]⟩
      · exact .inr ⟨u, hu, by rw [e, vc_sd hba (hu.asc hB.asc), va_back]⟩
theorem states_dm (hL : AllSt n L) {gg : Int × Int} {S : List StB} (nd : S.Nodup) (hS : ∀ x, x ∈ S ↔ x ∈ L ∧ grP n X O x = gg) : dm (Cg L (grP n X O) gg) = S.length := by
  refine dm_is ((Spp.crd nd).congr fun v => ?_)
  constructor
  · intro h x hx
    exact (hS x).1 (h x hx)
  · intro h x hx
    exact (hS x).2 (h x hx)
end
end Go.Proofs.YtmbbcmebdefggaaGreatDoor
namespace Go.Proofs.YtmbbcmebdefggaaGreatDoor
/-! Sums that a pairing cancels. -/
section
variable {n : Nat} {L : List StB}
/-! Numbers whose differences are told. -/
/-! Products modulo two. -/
end
end Go.Proofs.YtmbbcmebdefggaaGreatDoor
namespace Go.Proofs.YtmbbcmebdefggaaGreatDoor
section
variable {n : Nat} {X O : List Nat}
variable {L : List StB}
end
end Go.Proofs.YtmbbcmebdefggaaGreatDoor
