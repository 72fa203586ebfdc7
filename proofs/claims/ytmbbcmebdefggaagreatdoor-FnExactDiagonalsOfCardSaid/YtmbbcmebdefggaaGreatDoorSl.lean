/- The layer SL, over every program: what is known of a frame (F) and of the memory that a call has made (H) in place of frames and worlds, and a rule for each operation. -/
import Derived.WalkKit
import Derived.WalkSpells
import Derived.Deep.Quiet
import Derived.Deep.MidRow
import Derived.Laws.StructEq
import Derived.Laws.Tables
import Derived.Laws.OwnMore
import Derived.Laws.MakeOwn
import Derived.Great.BuildSlice
import Derived.Lib.Hide
namespace Go.Proofs.YtmbbcmebdefggaaGreatDoor.SL
open Go Go.RowKit

/-- Slots and what they hold; the first entry of a slot counts. -/
abbrev Fr := List (Nat × Value)
def look : Fr → Nat → Option Value
  | [], _ => none
  | (t, v) :: F, s => match Nat.beq t s with
    | true => some v
    | false => look F s
def ev (F : Fr) : Operand → Option Value
  | .tmp t => look F t
  | .const v => some v
  | .global g => some (.pointer (some ⟨g, 0, none⟩))
  | .func f => some (.func (.func f) #[] #[])
structure Has (n : Nat) (F : Fr) (a : Act) : Prop where
  size : a.tmps.size = n
  dry : a.defers = []
  look : ∀ t v, look F t = some v → a.tmps.getD t undef = v
theorem Has.ev {n : Nat} {F : Fr} {a : Act} (h : Has n F a) {x : Operand} {v : Value} (hx : ev F x = some v) : a.eval x = v := by
  cases x with
  | tmp t => exact h.look t v hx
  | const u => exact Option.some.inj hx
  | global g => exact Option.some.inj hx
  | func f => exact Option.some.inj hx
theorem Has.put {n : Nat} {F : Fr} {a : Act} (h : Has n F a) {d : Nat} (hd : d < n) (v : Value) : Has n ((d, v) :: F) (a.put (some d) v) := by
  refine ⟨by simp [Act.put, h.size], by simp [Act.put, h.dry], fun t u ht => ?_⟩
  simp only [SL.look] at ht
  by_cases e : d = t
  · subst e
    simp only [Nat.beq_refl] at ht
    cases ht
    simp [Act.put, h.size, hd]
  · have hb : Nat.beq d t = false := by
      cases hb : Nat.beq d t
      · rfl
      · exact absurd (Nat.eq_of_beq_eq_true hb) e
    simp only [hb] at ht
    have := h.look t u ht
    simp only [Act.put, Array.getD_eq_getD_getElem?, Array.getElem?_setIfInBounds_ne e] at this ⊢
    exact this
theorem Has.none {n : Nat} {F : Fr} {a : Act} (h : Has n F a) (v : Value) : Has n F (a.put Option.none v) := h

/-- Of what lay below B nothing has turned; and the count of the draws has not fallen. -/
structure Blw (B : Nat) (w w' : World) : Prop where
  lo : Go.RowKit.Below B w w'
  drawn : w.drawn ≤ w'.drawn
theorem Blw.size {B : Nat} {w w' : World} (h : Blw B w w') : w.heap.size ≤ w'.heap.size := h.lo.size
theorem Blw.block {B : Nat} {w w' : World} (h : Blw B w w') : ∀ k, k < B → w'.heap[k]? = w.heap[k]? := h.lo.block
theorem Blw.refl (B : Nat) (w : World) : Blw B w w := ⟨Below.refl _ _, Nat.le_refl _⟩
theorem Blw.trans {B : Nat} {a b c : World} (h : Blw B a b) (k : Blw B b c) : Blw B a c := ⟨h.lo.trans k.lo, Nat.le_trans h.drawn k.drawn⟩
theorem Blw.mono {B B' : Nat} {w w' : World} (h : Blw B w w') (hB : B' ≤ B) : Blw B' w w' := ⟨h.lo.mono hB, h.drawn⟩
theorem Blw.drew {B : Nat} {a w : World} (h : Blw B a w) : Blw B a w.drew := ⟨h.lo.drew, Nat.le_trans h.drawn (Nat.le_succ _)⟩
theorem Blw.alloc {B : Nat} {a w : World} (h : Blw B a w) (hB : B ≤ w.heap.size) (o : Obj) : Blw B a (w.alloc o) := ⟨h.lo.alloc hB o, h.drawn⟩
/-- What the call owns, or may read: a block of its own with just these cells; a row of its own behind a slice (it may grow); cells that were there before the call. -/
inductive It where
  | blk (a : Nat) (cs : List Value) (T : TypeId)
  | row (v : Value) (e : TypeId) (sz : Nat) (xs : List Value)
  | rd (a : Nat) (off : Nat) (cs : List Value)
  | obj (a : Nat) (o : Obj)
abbrev Hp := List It
def It.ok (B : Nat) (w : World) : It → Prop
  | .blk a cs T => B ≤ a ∧ w.heap[a]? = some (.cells cs.toArray T (0, 0))
  | .row v e sz xs => ∃ n, w.ownsRow B e sz v n xs
  | .rd a off cs => a < B ∧ ∀ i v, cs[i]? = some v → w.cell? ⟨a, off + i, none⟩ = some v
  | .obj a o => B ≤ a ∧ w.heap[a]? = some o
def It.own : It → Option Nat
  | .blk a _ _ => some a
  | .row v _ _ _ => v.ownBlock
  | .rd _ _ _ => none
  | .obj a _ => some a
def owned (H : Hp) : List Nat := H.filterMap It.own
structure Holds (B : Nat) (w0 : World) (H : Hp) (w : World) : Prop where
  below : Blw B w0 w
  base : B ≤ w0.heap.size
  ok : ∀ x, x ∈ H → x.ok B w
  apart : (owned H).Nodup
theorem It.ok_lt {B : Nat} {w : World} {x : It} (h : x.ok B w) : ∀ k, x.own = some k → B ≤ k ∧ k < w.heap.size := by
  intro k hk
  cases x with
  | blk a cs T => simp [It.own] at hk; subst hk; exact ⟨h.1, (Array.getElem?_eq_some_iff.1 h.2).1⟩
  | row v e sz xs => obtain ⟨n, h⟩ := h; exact h.lt k hk
  | rd a off cs => simp [It.own] at hk
  | obj a o => simp [It.own] at hk; subst hk; exact ⟨h.1, (Array.getElem?_eq_some_iff.1 h.2).1⟩
/-- An item stands where its own block, and all below B, stand. -/
theorem It.ok_of {B : Nat} {w w' : World} {x : It} (h : x.ok B w) (hb : ∀ k, k < B → w'.heap[k]? = w.heap[k]?) (ho : ∀ k, x.own = some k → w'.heap[k]? = w.heap[k]?) : x.ok B w' := by
  cases x with
  | blk a cs T => exact ⟨h.1, by rw [ho a rfl]; exact h.2⟩
  | row v e sz xs =>
    obtain ⟨n, h1, h2⟩ := h
    refine ⟨n, h1, ?_⟩
    rcases h2 with h2 | ⟨g, cap, cur, hv, hg, hh, r⟩
    · exact .inl h2
    · refine .inr ⟨g, cap, cur, hv, hg, ?_, r⟩
      rw [ho g (by simp [It.own, hv, Value.ownBlock])]; exact hh
  | rd a off cs =>
    refine ⟨h.1, fun i v hi => ?_⟩
    rw [World.cell?_of_block (w := w) (hb a h.1)]
    exact h.2 i v hi
  | obj a o => exact ⟨h.1, by rw [ho a rfl]; exact h.2⟩
theorem Holds.size {B : Nat} {w0 : World} {H : Hp} {w : World} (h : Holds B w0 H w) : B ≤ w.heap.size := Nat.le_trans h.base h.below.size
theorem Holds.start (w : World) : Holds w.heap.size w [] w := ⟨Blw.refl _ _, Nat.le_refl _, by simp, by simp [owned]⟩
theorem Holds.start_rd {w : World} {b off : Nat} {cs : List Value} (hb : b < w.heap.size) (hc : ∀ i v, cs[i]? = some v → w.cell? ⟨b, off + i, none⟩ = some v) : Holds w.heap.size w [.rd b off cs] w :=
  ⟨Blw.refl _ _, Nat.le_refl _, by rintro x (_ | ⟨_, ⟨⟩⟩); exact ⟨hb, hc⟩, List.nodup_nil⟩
/-- A call that leaves all that was there. -/
theorem Holds.grow {B : Nat} {w0 : World} {H : Hp} {w w' : World} (h : Holds B w0 H w) (hb : Blw w.heap.size w w') : Holds B w0 H w' :=
  ⟨h.below.trans (hb.mono h.size), h.base, fun x hx => It.ok_of (h.ok x hx) (fun k hk => hb.block k (Nat.lt_of_lt_of_le hk h.size)) (fun k hk => hb.block k (It.ok_lt (h.ok x hx) k hk).2), h.apart⟩
theorem Holds.draw {B : Nat} {w0 : World} {H : Hp} {w : World} (h : Holds B w0 H w) : Holds B w0 H { w with drawn := w.drawn + 1 } :=
  h.grow (Blw.drew (Blw.refl _ _))
/-- What is a part, in whatever order. -/
theorem Holds.part {B : Nat} {w0 : World} {H H' : Hp} {w : World} (h : Holds B w0 H w) (hs : ∀ x, x ∈ H' → x ∈ H) (hn : (owned H').Nodup) : Holds B w0 H' w :=
  ⟨h.below, h.base, fun x hx => h.ok x (hs x hx), hn⟩
/-- A new item, in new memory. -/
theorem Holds.new {B : Nat} {w0 : World} {H : Hp} {w w' : World} (h : Holds B w0 H w) (hb : Blw w.heap.size w w') (x : It) (hx : x.ok B w') (ho : ∀ k, x.own = some k → w.heap.size ≤ k) : Holds B w0 (x :: H) w' := by
  have hg := h.grow hb
  refine ⟨hg.below, hg.base, fun y hy => ?_, ?_⟩
  · rcases List.mem_cons.1 hy with rfl | hy
    · exact hx
    · exact hg.ok y hy
  · have hap := h.apart
    unfold owned at hap ⊢
    cases hxo : x.own with
    | none => simpa [List.filterMap_cons, hxo] using hap
    | some k =>
      simp only [List.filterMap_cons, hxo, List.nodup_cons]
      refine ⟨fun hm => ?_, hap⟩
      obtain ⟨y, hy, hyo⟩ := List.mem_filterMap.1 hm
      have := (It.ok_lt (h.ok y hy) k hyo).2
      have := ho k hxo
      omega

theorem m0 {x : It} {l : Hp} : x ∈ x :: l := List.mem_cons_self
theorem mS {x y : It} {l : Hp} (h : x ∈ l) : x ∈ y :: l := List.mem_cons_of_mem y h
/-! ### Posts and the judgements -/
abbrev Po := Exit → Fr → Hp → Prop
def lift (B : Nat) (w0 : World) (n : Nat) (Q : Po) : Exit → Act → World → Prop := fun e a w => ∃ F H, Q e F H ∧ Has n F a ∧ Holds B w0 H w
/-- The code, from whatever frame and world of which F and H tell. -/
def JC (P : Program) (B : Nat) (w0 : World) (n : Nat) (c : Code) (Q : Po) (F : Fr) (H : Hp) : Prop :=
  ∀ a w, Has n F a → Holds B w0 H w → c.wp P (lift B w0 n Q) a w
/-- A region's operations, one after the other; 'dr': the region draws its order (then all of them are to be quiet). -/
def J (dr : Bool) (P : Program) (B : Nat) (w0 : World) (n : Nat) (ops : Array Oper) (Q : Po) (l : List Oper) (F : Fr) (H : Hp) : Prop :=
  match dr with
  | false => ∀ a w, Has n F a → Holds B w0 H w → wpList P ops (lift B w0 n Q) l a w
  | true => ∀ a, Has n F a → wpQuiet P ops (Holds B w0 H) (fun a' => ∃ F', Q .normal F' H ∧ Has n F' a') l a
def thenQ (K : Fr → Hp → Prop) (Q : Po) : Po
  | .normal, F, H => K F H
  | e, F, H => Q e F H
def inBlockQ (id : Nat) (Q : Po) : Po
  | .exit id', F, H => if id' = id then Q .normal F H else Q (.exit id') F H
  | e, F, H => Q e F H
section
variable {P : Program} {B : Nat} {w0 : World} {n : Nat} {Q : Po} {F : Fr} {H : Hp} {ops : Array Oper} {l : List Oper}
theorem thenQ_normal {K : Fr → Hp → Prop} (h : K F H) : thenQ K Q .normal F H := h
theorem thenQ_exit {K : Fr → Hp → Prop} {id : Nat} (h : Q (.exit id) F H) : thenQ K Q (.exit id) F H := h
theorem thenQ_ret {K : Fr → Hp → Prop} (h : Q .ret F H) : thenQ K Q .ret F H := h
theorem inBlockQ_normal {id : Nat} (h : Q .normal F H) : inBlockQ id Q .normal F H := h
theorem inBlockQ_ret {id : Nat} (h : Q .ret F H) : inBlockQ id Q .ret F H := h
theorem inBlockQ_here {id : Nat} (h : Q .normal F H) : inBlockQ id Q (.exit id) F H := by simp [inBlockQ, h]
theorem inBlockQ_on {id id' : Nat} (hne : Nat.beq id' id = false) (h : Q (.exit id') F H) : inBlockQ id Q (.exit id') F H := by
  have : id' ≠ id := fun e => by subst e; simp at hne
  simp [inBlockQ, this, h]
theorem JC_mono {c : Code} {Q Q' : Po} (h : JC P B w0 n c Q F H) (hq : ∀ e F H, Q e F H → Q' e F H) : JC P B w0 n c Q' F H := fun a w ha hw =>
  Code.wp_mono (fun _ _ _ ⟨F', H', q, r⟩ => ⟨F', H', hq _ _ _ q, r⟩) (h a w ha hw)
theorem JC_skip (h : Q .normal F H) : JC P B w0 n .skip Q F H := fun _ _ ha hw => wp_skip ⟨F, H, h, ha, hw⟩
theorem JC_ret (h : Q .ret F H) : JC P B w0 n .ret Q F H := fun _ _ ha hw => wp_ret ⟨F, H, h, ha, hw⟩
theorem JC_exit {id : Nat} (h : Q (.exit id) F H) : JC P B w0 n (.exit id) Q F H := fun _ _ ha hw => wp_exit ⟨F, H, h, ha, hw⟩
theorem JC_seq {x y : Code} (h : JC P B w0 n x (thenQ (JC P B w0 n y Q) Q) F H) : JC P B w0 n (.seq x y) Q F H := fun a w ha hw =>
  wp_seq (Code.wp_mono (fun e a' w' ⟨F', H', q, r1, r2⟩ => by
    cases e with
    | normal => exact q a' w' r1 r2
    | _ => exact ⟨F', H', q, r1, r2⟩) (h a w ha hw))
theorem JC_block {id : Nat} {c : Code} (h : JC P B w0 n c (inBlockQ id Q) F H) : JC P B w0 n (.block id c) Q F H := fun a w ha hw =>
  wp_block (Code.wp_mono (fun e a' w' ⟨F', H', q, r1, r2⟩ => by
    cases e with
    | exit id' =>
      simp only [inBlockQ] at q
      simp only [Exit.inBlock]
      split
      · rename_i hh; rw [if_pos hh] at q; exact ⟨F', H', q, r1, r2⟩
      · rename_i hh; rw [if_neg hh] at q; exact ⟨F', H', q, r1, r2⟩
    | _ => exact ⟨F', H', q, r1, r2⟩) (h a w ha hw))
theorem JC_if_true {c : Operand} {x y : Code} (hc : ev F c = some (.bool true)) (h : JC P B w0 n x Q F H) : JC P B w0 n (.cond c x y) Q F H :=
  fun a w ha hw => wp_cond_true (ha.ev hc) (h a w ha hw)
theorem JC_if_false {c : Operand} {x y : Code} (hc : ev F c = some (.bool false)) (h : JC P B w0 n y Q F H) : JC P B w0 n (.cond c x y) Q F H :=
  fun a w ha hw => wp_cond_false (ha.ev hc) (h a w ha hw)
theorem JC_if {c : Operand} {x y : Code} {b : Bool} (hc : ev F c = some (.bool b)) (ht : b = true → JC P B w0 n x Q F H) (hf : b = false → JC P B w0 n y Q F H) : JC P B w0 n (.cond c x y) Q F H :=
  fun a w ha hw => wp_cond_split (ha.ev hc) (fun e => ht e a w ha hw) (fun e => hf e a w ha hw)
theorem JC_dec {c : Operand} {x y : Code} {p : Prop} {ip : Decidable p} (hc : ev F c = some (.bool (decide p))) (ht : p → JC P B w0 n x Q F H) (hf : ¬ p → JC P B w0 n y Q F H) : JC P B w0 n (.cond c x y) Q F H :=
  JC_if hc (fun e => ht (of_decide_eq_true e)) (fun e => hf (of_decide_eq_false e))
theorem JC_ndec {c : Operand} {x y : Code} {p : Prop} {ip : Decidable p} (hc : ev F c = some (.bool (!decide p))) (ht : ¬ p → JC P B w0 n x Q F H) (hf : p → JC P B w0 n y Q F H) : JC P B w0 n (.cond c x y) Q F H :=
  JC_if hc (fun e => ht (of_decide_eq_false (by simpa using e))) (fun e => hf (of_decide_eq_true (by simpa using e)))
theorem JC_dec_true {c : Operand} {x y : Code} {p : Prop} {ip : Decidable p} (hc : ev F c = some (.bool (decide p))) (hp : p) (h : JC P B w0 n x Q F H) : JC P B w0 n (.cond c x y) Q F H :=
  JC_dec hc (fun _ => h) (fun hn => absurd hp hn)
theorem JC_dec_false {c : Operand} {x y : Code} {p : Prop} {ip : Decidable p} (hc : ev F c = some (.bool (decide p))) (hp : ¬ p) (h : JC P B w0 n y Q F H) : JC P B w0 n (.cond c x y) Q F H :=
  JC_dec hc (fun hn => absurd hn hp) (fun _ => h)
theorem JC_ndec_true {c : Operand} {x y : Code} {p : Prop} {ip : Decidable p} (hc : ev F c = some (.bool (!decide p))) (hp : ¬ p) (h : JC P B w0 n x Q F H) : JC P B w0 n (.cond c x y) Q F H :=
  JC_ndec hc (fun _ => h) (fun hn => absurd hn hp)
theorem JC_ndec_false {c : Operand} {x y : Code} {p : Prop} {ip : Decidable p} (hc : ev F c = some (.bool (!decide p))) (hp : p) (h : JC P B w0 n y Q F H) : JC P B w0 n (.cond c x y) Q F H :=
  JC_ndec hc (fun hn => absurd hp hn) (fun _ => h)
theorem JC_region {id : Nat} (h : J false P B w0 n l.toArray Q l F H) : JC P B w0 n (.region id l.toArray false) Q F H := fun a w ha hw => wp_region_lit (h a w ha hw)
theorem J_nil {dr : Bool} (h : Q .normal F H) : J dr P B w0 n ops Q [] F H := by
  cases dr with
  | false => exact fun _ _ ha hw => ⟨F, H, h, ha, hw⟩
  | true => exact fun _ ha => ⟨F, h, ha⟩
theorem wpQuiet_mono' {C : World → Prop} {K K' : Act → Prop} (h : ∀ a, K a → K' a) : ∀ (l : List Oper) (a : Act), wpQuiet P ops C K l a → wpQuiet P ops C K' l a
  | [], a, hh => h a hh
  | o :: l, a, hh => by
    unfold wpQuiet at *
    split
    · rename_i hw; rw [if_pos hw] at hh; exact Oper.quiet_mono (wpQuiet_mono' h l) hh
    · rename_i hw; rw [if_neg hw] at hh; exact wpQuiet_mono' h l _ hh
theorem JC_draw {id : Nat} (hm : P.follows .mixedOrders = true) (hB : Region.lexB .any l.toArray = true) (h : J true P B w0 n l.toArray Q l F H) : JC P B w0 n (.region id l.toArray true) Q F H := fun a _ ha hw =>
  wp_region_quiet (C := Holds B w0 H) hm hB hw.draw (wpQuiet_mono' (fun a' (hq : ∃ F', Q .normal F' H ∧ Has n F' a') _ hw' => let ⟨F', q, r⟩ := hq; ⟨F', H, q, r, hw'⟩) l a (h a ha))
theorem Has.re {a : Act} (h : Has n F a) {e : Nat} {v v' : Value} (he : SL.look F e = some v) (hv : v = v') : Has n ((e, v') :: F) a := ⟨h.size, h.dry, fun t u ht => by
  subst hv
  simp only [SL.look] at ht
  cases hb : Nat.beq e t with
  | true => simp only [hb] at ht; cases ht; rw [← Nat.eq_of_beq_eq_true hb]; exact h.look e v he
  | false => simp only [hb] at ht; exact h.look t u ht⟩
/-- A slot's value, spelled anew. -/
theorem J_re {dr : Bool} (e : Nat) {v v' : Value} (he : look F e = some v) (hv : v = v') (k : J dr P B w0 n ops Q l ((e, v') :: F) H) : J dr P B w0 n ops Q l F H := by
  cases dr with
  | false => exact fun a w ha hw => k a w (ha.re he hv) hw
  | true => exact fun a ha => k a (ha.re he hv)
/-- A test's outcome, ahead of an operation that hangs on it. -/
theorem J_split {dr : Bool} (e : Nat) {b : Bool} (he : look F e = some (.bool b)) (ht : b = true → J dr P B w0 n ops Q l ((e, .bool true) :: F) H) (hf : b = false → J dr P B w0 n ops Q l ((e, .bool false) :: F) H) : J dr P B w0 n ops Q l F H := by
  cases b with
  | true => exact J_re e he rfl (ht rfl)
  | false => exact J_re e he rfl (hf rfl)
theorem J_splitd {dr : Bool} (e : Nat) {p : Prop} {ip : Decidable p} (he : look F e = some (.bool (decide p))) (ht : p → J dr P B w0 n ops Q l ((e, .bool true) :: F) H) (hf : ¬ p → J dr P B w0 n ops Q l ((e, .bool false) :: F) H) : J dr P B w0 n ops Q l F H :=
  J_split e he (fun h => ht (of_decide_eq_true h)) (fun h => hf (of_decide_eq_false h))
theorem J_splitn {dr : Bool} (e : Nat) {p : Prop} {ip : Decidable p} (he : look F e = some (.bool (!decide p))) (ht : ¬ p → J dr P B w0 n ops Q l ((e, .bool true) :: F) H) (hf : p → J dr P B w0 n ops Q l ((e, .bool false) :: F) H) : J dr P B w0 n ops Q l F H :=
  J_split e he (fun h => ht (of_decide_eq_false (by simpa using h))) (fun h => hf (of_decide_eq_true (by simpa using h)))
/-- What of a state a loop's head, or a cut, asks. -/
structure Ent (F : Fr) (H : Hp) (F' : Fr) (H' : Hp) : Prop where
  fr : ∀ t v, look F' t = some v → look F t = some v
  hp : ∀ x, x ∈ H' → x ∈ H
  own : (owned H).Nodup → (owned H').Nodup
theorem Ent.has {F' : Fr} {H' : Hp} (h : Ent F H F' H') {a : Act} (ha : Has n F a) : Has n F' a := ⟨ha.size, ha.dry, fun t v ht => ha.look t v (h.fr t v ht)⟩
theorem Ent.holds {F' : Fr} {H' : Hp} (h : Ent F H F' H') {w : World} (hw : Holds B w0 H w) : Holds B w0 H' w :=
  hw.part h.hp (h.own hw.apart)
theorem fr_nil {F : Fr} : ∀ t v, look [] t = some v → look F t = some v := fun _ _ h => by cases h
theorem fr_cons {F F' : Fr} {s : Nat} {u : Value} (h : look F s = some u) (k : ∀ t v, look F' t = some v → look F t = some v) : ∀ t v, look ((s, u) :: F') t = some v → look F t = some v := fun t v ht => by
  simp only [look] at ht
  cases hb : Nat.beq s t with
  | true => simp only [hb] at ht; cases ht; rw [← Nat.eq_of_beq_eq_true hb]; exact h
  | false => simp only [hb] at ht; exact k t v ht
theorem ent {F' : Fr} {H' : Hp} (hf : ∀ t v, look F' t = some v → look F t = some v) (hs : List.Sublist H' H) : Ent F H F' H' :=
  ⟨hf, fun _ hx => hs.subset hx, fun h => List.Sublist.nodup (hs.filterMap _) h⟩
/-- THE LOOP. X: what varies from round to round; at its head the state is that of some x, and each round comes to an x of a lesser measure, or leaves. -/
theorem JC_loop {X : Type} {c : Code} (Pi : X → Prop) (Fi : X → Fr) (Hi : X → Hp) (μ : X → Nat) (x0 : X) (h0 : Pi x0) (he : Ent F H (Fi x0) (Hi x0))
    (round : ∀ x, Pi x → JC P B w0 n c (thenQ (fun F' H' => ∃ x', Pi x' ∧ μ x' < μ x ∧ Ent F' H' (Fi x') (Hi x')) Q) (Fi x) (Hi x)) : JC P B w0 n (.loop c) Q F H := by
  intro a w ha hw b k cs
  have key : ∀ m x, μ x = m → Pi x → ∀ a w, Has n (Fi x) a → Holds B w0 (Hi x) w →
      ∃ e a' w', lift B w0 n Q e a' w' ∧ Arrives P (lone (b.at a (.code c :: .inLoop c :: k)) cs w) b k cs e a' w' := by
    intro m
    induction m using Nat.strongRecOn with
    | _ m ih =>
      intro x hm hp a w ha hw
      obtain ⟨e, a1, w1, ⟨F1, H1, hq, hf1, hh1⟩, harr⟩ := round x hp a w ha hw b (.inLoop c :: k) cs
      cases e with
      | normal =>
        obtain ⟨x', hp', hlt, hent⟩ := hq
        obtain ⟨e2, a2, w2, hq2, harr2⟩ := ih (μ x') (hm ▸ hlt) x' rfl hp' a1 w1 (hent.has hf1) (hent.holds hh1)
        exact ⟨e2, a2, w2, hq2, .of_steps (Steps.trans harr (.one step_inLoop)) harr2⟩
      | exit id => exact ⟨_, a1, w1, ⟨F1, H1, hq, hf1, hh1⟩, .pass (x := .inLoop c) rfl (fun _ _ => .inl (by simp)) harr⟩
      | goto l => exact ⟨_, a1, w1, ⟨F1, H1, hq, hf1, hh1⟩, .pass (x := .inLoop c) rfl (fun _ _ => .inl (by simp)) harr⟩
      | ret => exact ⟨_, a1, w1, ⟨F1, H1, hq, hf1, hh1⟩, .pass (x := .inLoop c) rfl (fun _ _ => .inl (by simp)) harr⟩
      | panic ch => exact ⟨_, a1, w1, ⟨F1, H1, hq, hf1, hh1⟩, .pass (x := .inLoop c) rfl (fun _ _ => .inl (by simp)) harr⟩
      | outgrown => exact ⟨_, a1, w1, ⟨F1, H1, hq, hf1, hh1⟩, .pass (x := .inLoop c) rfl (fun _ _ => .inl (by simp)) harr⟩
  obtain ⟨e, a', w', hq, harr⟩ := key _ x0 rfl h0 a w (he.has ha) (he.holds hw)
  exact ⟨e, a', w', hq, .of_steps (.one step_loop) harr⟩
theorem JC_ent {c : Code} {F' : Fr} {H' : Hp} (he : Ent F H F' H') (h : JC P B w0 n c Q F' H') : JC P B w0 n c Q F H := fun a w ha hw => h a w (he.has ha) (he.holds hw)
end

/-! ### A call -/
/-- The call hands back just v, and leaves all that was there. -/
def Gives (P : Program) (f : FuncId) (args : Array Value) (v : Value) (w : World) : Prop :=
  Calls P f args w fun e w' => e = .returned v ∧ Blw w.heap.size w w'
theorem look_args {args : List Value} {n : Nat} (F : Fr) (hF : ∀ t v, look F t = some v → args[t]? = some v) (h : args.length ≤ n) : Has n F { tmps := args.toArray ++ Array.replicate (n - args.toArray.size) undef, defers := [] } := by
  refine ⟨by simp; omega, rfl, fun t v ht => ?_⟩
  have hv := hF t v ht
  obtain ⟨hlt, hg⟩ := List.getElem?_eq_some_iff.1 hv
  simp [Array.getD_eq_getD_getElem?, Array.getElem?_append, hlt, hg]
theorem argsF_cons {args : List Value} {F : Fr} {s : Nat} {u : Value} (h : args[s]? = some u) (k : ∀ t v, look F t = some v → args[t]? = some v) : ∀ t v, look ((s, u) :: F) t = some v → args[t]? = some v := fun t v ht => by
  simp only [look] at ht
  cases hb : Nat.beq s t with
  | true => simp only [hb] at ht; cases ht; rw [← Nat.eq_of_beq_eq_true hb]; exact h
  | false => simp only [hb] at ht; exact k t v ht
theorem argsF_nil {args : List Value} : ∀ t v, look [] t = some v → args[t]? = some v := fun _ _ h => by cases h
/-- A function is walked: from its arguments to its results. -/
theorem calls_of {P : Program} {f : FuncId} {fn : Func} {c : Code} {args : List Value} {w : World} {R : Ending → World → Prop} {n : Nat} (F : Fr) (H : Hp)
    (hf : P.funcs[f]? = some fn) (hb : fn.body = some c) (hn : fn.ntmps = n) (hlen : args.length ≤ n) (hF : ∀ t v, look F t = some v → args[t]? = some v)
    (hH : Holds w.heap.size w H w)
    (h : JC P w.heap.size w n c (fun e F H => match e with
      | .normal | .ret => ∀ a w', Has n F a → Holds w.heap.size w H w' → ∃ v, (results fn a.tmps).run P w' = .ok v w' ∧ R (.returned v) w'
      | _ => False) F H) : Calls P f args.toArray w R := by
  refine calls_of_wp hf hb ?_
  subst hn
  refine Code.wp_mono ?_ (h _ w (look_args F hF hlen) hH)
  rintro e a' w' ⟨F', H', q, ha, hw⟩
  cases e with
  | normal => obtain ⟨v, hv, hr⟩ := q a' w' ha hw; exact ⟨ha.dry, v, hv, hr⟩
  | ret => obtain ⟨v, hv, hr⟩ := q a' w' ha hw; exact ⟨ha.dry, v, hv, hr⟩
  | _ => exact q.elim
end Go.Proofs.YtmbbcmebdefggaaGreatDoor.SL

namespace Go.Proofs.YtmbbcmebdefggaaGreatDoor.SL
open Go Go.RowKit

/-- The type's description. -/
class Un (P : Program) (T : TypeId) (d : outParam TypeDesc) : Prop where
  out : P.underlying T = some d
/-- Under F and H the operation (its guard aside) yields just v, and leaves H. -/
def OpQ (P : Program) (B : Nat) (w0 : World) (n : Nat) (H : Hp) (F : Fr) (o : Oper) (v : Value) : Prop :=
  ∀ a, Has n F a → ∀ w, Holds B w0 H w → o.quietAt P a (Holds B w0 H) w v
section
variable {P : Program} {B : Nat} {w0 : World} {n : Nat} {Q : Po} {F : Fr} {H : Hp} {ops : Array Oper} {l : List Oper} {ty : TypeId} {pos : String} {af : Array Edge} {d : Nat}

theorem J_q {dr : Bool} {op : Op} {v : Value} (hd : Nat.blt d n = true) (h : OpQ P B w0 n H F ⟨some d, op, ty, pos, af, none⟩ v) (k : J dr P B w0 n ops Q l ((d, v) :: F) H) :
    J dr P B w0 n ops Q (⟨some d, op, ty, pos, af, none⟩ :: l) F H := by
  have hd' : d < n := by simpa [Nat.blt_eq] using hd
  cases dr with
  | false =>
    intro a w ha hw
    refine wpList_plain rfl fun K hK => ?_
    exact Oper.wp_of_quiet (C := Holds B w0 H) (K := fun a' => Has n ((d, v) :: F) a') hw (fun a' w' hw' ha' => hK a' w' (k a' w' ha' hw')) ⟨v, fun w' hw' => h a ha w' hw', ha.put hd' v⟩
  | true =>
    intro a ha
    refine wpQuiet_step fun K hK => ?_
    rw [if_pos (by rfl)]
    exact ⟨v, fun w' hw' => h a ha w' hw', hK _ (k _ (ha.put hd' v))⟩
/-! #### guards: the operation j has yielded b -/
theorem yielded_of {a : Act} (ha : Has n F a) {j e : Nat} {b : Bool} (hj : (ops[j]?).bind (·.dst) = some e) (hb : look F e = some (.bool b)) : yielded ops a.tmps j = some b := by
  have he : e < a.tmps.size ∨ a.tmps.size ≤ e := Nat.lt_or_ge _ _
  have hv := ha.look e _ hb
  have hlt : e < a.tmps.size := by
    rcases he with he | he
    · exact he
    · rw [Array.getD_eq_getD_getElem?, Array.getElem?_eq_none he] at hv
      cases hv
  have hv' : a.tmps[e]? = some (.bool b) := by
    rw [Array.getD_eq_getD_getElem?, Array.getElem?_eq_getElem hlt] at hv
    rw [Array.getElem?_eq_getElem hlt]
    exact congrArg some hv
  unfold yielded
  cases ho : ops[j]? with
  | none => simp [ho] at hj
  | some oj =>
    have hd : oj.dst = some e := by simpa [ho] using hj
    simp [hd, hv']
theorem J_skip {dr : Bool} {op : Op} {j e : Nat} {b c : Bool} (hj : (ops[j]?).bind (·.dst) = some e) (hb : look F e = some (.bool b)) (hc : c = !b) (hd : Nat.blt d n = true) (k : J dr P B w0 n ops Q l ((d, undef) :: F) H) :
    J dr P B w0 n ops Q (⟨some d, op, ty, pos, af, some (j, c)⟩ :: l) F H := by
  have hd' : d < n := by simpa [Nat.blt_eq] using hd
  have hw' : ∀ a, Has n F a → Region.wanted ⟨some d, op, ty, pos, af, some (j, c)⟩ (yielded ops a.tmps) = false := fun a ha => by
    subst hc
    simp only [Region.wanted, yielded_of ha hj hb]; cases b <;> rfl
  cases dr with
  | false =>
    intro a w ha hw
    unfold wpList
    rw [if_neg (by rw [hw' a ha]; simp)]
    exact k _ w (ha.put hd' _) hw
  | true =>
    intro a ha
    unfold wpQuiet
    rw [if_neg (by rw [hw' a ha]; simp)]
    exact k _ (ha.put hd' _)
theorem wanted_of {a : Act} (ha : Has n F a) {dst : Option Tmp} {op : Op} {j e : Nat} {b : Bool} (hj : (ops[j]?).bind (·.dst) = some e) (hb : look F e = some (.bool b)) : Region.wanted ⟨dst, op, ty, pos, af, some (j, b)⟩ (yielded ops a.tmps) = true := by
  simp only [Region.wanted, yielded_of ha hj hb]; simp
/-- Its guard is met: as without one. -/
theorem J_on {dr : Bool} {dst : Option Tmp} {op : Op} {j e : Nat} {b : Bool} (hj : (ops[j]?).bind (·.dst) = some e) (hb : look F e = some (.bool b)) (k : J dr P B w0 n ops Q (⟨dst, op, ty, pos, af, none⟩ :: l) F H) :
    J dr P B w0 n ops Q (⟨dst, op, ty, pos, af, some (j, b)⟩ :: l) F H := by
  cases dr with
  | false =>
    intro a w ha hw
    have h := k a w ha hw
    unfold wpList at h ⊢
    rw [if_pos (wanted_of ha hj hb)]
    rw [if_pos (show Region.wanted ⟨dst, op, ty, pos, af, none⟩ _ = true from rfl)] at h
    exact h
  | true =>
    intro a ha
    have h := k a ha
    unfold wpQuiet at h ⊢
    rw [if_pos (wanted_of ha hj hb)]
    rw [if_pos (show Region.wanted ⟨dst, op, ty, pos, af, none⟩ _ = true from rfl)] at h
    exact h

/-- A guard that hangs on a test: both ways. -/
theorem J_gd {dr : Bool} {dst : Option Tmp} {op : Op} {j e : Nat} {c : Bool} {p : Prop} {ip : Decidable p} (hj : (ops[j]?).bind (·.dst) = some e) (hb : look F e = some (.bool (decide p)))
    (ht : p → J dr P B w0 n ops Q (⟨dst, op, ty, pos, af, some (j, c)⟩ :: l) ((e, .bool true) :: F) H) (hf : ¬ p → J dr P B w0 n ops Q (⟨dst, op, ty, pos, af, some (j, c)⟩ :: l) ((e, .bool false) :: F) H) :
    J dr P B w0 n ops Q (⟨dst, op, ty, pos, af, some (j, c)⟩ :: l) F H := by
  have _ := hj
  exact J_splitd e hb ht hf
theorem J_gn {dr : Bool} {dst : Option Tmp} {op : Op} {j e : Nat} {c : Bool} {p : Prop} {ip : Decidable p} (hj : (ops[j]?).bind (·.dst) = some e) (hb : look F e = some (.bool (!decide p)))
    (ht : ¬ p → J dr P B w0 n ops Q (⟨dst, op, ty, pos, af, some (j, c)⟩ :: l) ((e, .bool true) :: F) H) (hf : p → J dr P B w0 n ops Q (⟨dst, op, ty, pos, af, some (j, c)⟩ :: l) ((e, .bool false) :: F) H) :
    J dr P B w0 n ops Q (⟨dst, op, ty, pos, af, some (j, c)⟩ :: l) F H := by
  have _ := hj
  exact J_splitn e hb ht hf
theorem J_gb {dr : Bool} {dst : Option Tmp} {op : Op} {j e : Nat} {c : Bool} {b : Bool} (hj : (ops[j]?).bind (·.dst) = some e) (hb : look F e = some (.bool b))
    (ht : b = true → J dr P B w0 n ops Q (⟨dst, op, ty, pos, af, some (j, c)⟩ :: l) ((e, .bool true) :: F) H) (hf : b = false → J dr P B w0 n ops Q (⟨dst, op, ty, pos, af, some (j, c)⟩ :: l) ((e, .bool false) :: F) H) :
    J dr P B w0 n ops Q (⟨dst, op, ty, pos, af, some (j, c)⟩ :: l) F H := by
  have _ := hj
  exact J_split e hb ht hf

theorem J_gdT {dr : Bool} {dst : Option Tmp} {op : Op} {j e : Nat} {c : Bool} {p : Prop} {ip : Decidable p} (hj : (ops[j]?).bind (·.dst) = some e) (hb : look F e = some (.bool (decide p))) (hp : p)
    (k : J dr P B w0 n ops Q (⟨dst, op, ty, pos, af, some (j, c)⟩ :: l) ((e, .bool true) :: F) H) : J dr P B w0 n ops Q (⟨dst, op, ty, pos, af, some (j, c)⟩ :: l) F H := J_gd hj hb (fun _ => k) (fun h => absurd hp h)
theorem J_gdF {dr : Bool} {dst : Option Tmp} {op : Op} {j e : Nat} {c : Bool} {p : Prop} {ip : Decidable p} (hj : (ops[j]?).bind (·.dst) = some e) (hb : look F e = some (.bool (decide p))) (hp : ¬ p)
    (k : J dr P B w0 n ops Q (⟨dst, op, ty, pos, af, some (j, c)⟩ :: l) ((e, .bool false) :: F) H) : J dr P B w0 n ops Q (⟨dst, op, ty, pos, af, some (j, c)⟩ :: l) F H := J_gd hj hb (fun h => absurd h hp) (fun _ => k)
theorem J_gnT {dr : Bool} {dst : Option Tmp} {op : Op} {j e : Nat} {c : Bool} {p : Prop} {ip : Decidable p} (hj : (ops[j]?).bind (·.dst) = some e) (hb : look F e = some (.bool (!decide p))) (hp : ¬ p)
    (k : J dr P B w0 n ops Q (⟨dst, op, ty, pos, af, some (j, c)⟩ :: l) ((e, .bool true) :: F) H) : J dr P B w0 n ops Q (⟨dst, op, ty, pos, af, some (j, c)⟩ :: l) F H := J_gn hj hb (fun _ => k) (fun h => absurd h hp)
theorem J_gnF {dr : Bool} {dst : Option Tmp} {op : Op} {j e : Nat} {c : Bool} {p : Prop} {ip : Decidable p} (hj : (ops[j]?).bind (·.dst) = some e) (hb : look F e = some (.bool (!decide p))) (hp : p)
    (k : J dr P B w0 n ops Q (⟨dst, op, ty, pos, af, some (j, c)⟩ :: l) ((e, .bool false) :: F) H) : J dr P B w0 n ops Q (⟨dst, op, ty, pos, af, some (j, c)⟩ :: l) F H := J_gn hj hb (fun h => absurd hp h) (fun _ => k)

/-! #### what yields its value in whatever world -/
theorem opq_run {o : Oper} {v : Value} (h : ∀ a, Has n F a → ∀ w, Holds B w0 H w → (execOp a.eval o).run P w = .ok (.value v) w) : OpQ P B w0 n H F o v := fun a ha w hw => by
  unfold Oper.quietAt
  rw [h a ha w hw]
  exact ⟨rfl, rfl⟩
variable {dst : Option Tmp} {g : Option (Nat × Bool)}
theorem q_move {x : Operand} {v : Value} (hx : ev F x = some v) : OpQ P B w0 n H F ⟨dst, .move x, ty, pos, af, g⟩ v :=
  opq_run fun a ha w _ => by simp only [execOp, ha.ev hx]; rfl
theorem q_assign {x : Operand} {v : Value} (hx : ev F x = some v) : OpQ P B w0 n H F ⟨dst, .assign x, ty, pos, af, g⟩ v :=
  opq_run fun a ha w _ => by simp only [execOp, ha.ev hx]; rfl
theorem q_pick_true {c x y : Operand} {v : Value} (hc : ev F c = some (.bool true)) (hx : ev F x = some v) : OpQ P B w0 n H F ⟨dst, .pick c x y, ty, pos, af, g⟩ v :=
  opq_run fun a ha w _ => by simp only [execOp, ha.ev hc, ha.ev hx]; rfl
theorem q_pick_false {c x y : Operand} {v : Value} (hc : ev F c = some (.bool false)) (hy : ev F y = some v) : OpQ P B w0 n H F ⟨dst, .pick c x y, ty, pos, af, g⟩ v :=
  opq_run fun a ha w _ => by simp only [execOp, ha.ev hc, ha.ev hy]; rfl
theorem q_bin {op : BinOp} {T T' : TypeId} {x y : Operand} {u v r : Value} (hx : ev F x = some u) (hy : ev F y = some v)
    (h : ∀ w, (do eqGuard op T x y u v; binOp op T u v : Sem Value).run P w = .ok r w) : OpQ P B w0 n H F ⟨dst, .binOp op T x y T', ty, pos, af, g⟩ r :=
  opq_run fun a ha w _ => by
    simp only [execOp, ha.ev hx, ha.ev hy]
    rw [Sem.run_bind, h w]; rfl
theorem eqGuard_int {op : BinOp} {T : TypeId} {x y : Operand} {k k' : IntKind} {a b : Int} : eqGuard op T x y (.int k a) (.int k' b) = pure () := by cases op <;> rfl
/-- Integers: the tests. -/
def cmpV : BinOp → Int → Int → Option Bool
  | .lss, a, b => some (decide (a < b))
  | .leq, a, b => some (decide (a ≤ b))
  | .gtr, a, b => some (decide (b < a))
  | .geq, a, b => some (decide (b ≤ a))
  | .eql, a, b => some (decide (a = b))
  | .neq, a, b => some (!decide (a = b))
  | _, _, _ => none
theorem q_cmp {op : BinOp} {T T' : TypeId} {x y : Operand} {k : IntKind} {a b : Int} {r : Bool} (hx : ev F x = some (.int k a)) (hy : ev F y = some (.int k b)) (h : cmpV op a b = some r) :
    OpQ P B w0 n H F ⟨dst, .binOp op T x y T', ty, pos, af, g⟩ (.bool r) :=
  q_bin hx hy fun w => by
    rw [eqGuard_int]
    cases op <;> simp only [cmpV, reduceCtorEq, Option.some.injEq] at h <;> subst h <;>
      simp only [binOp_lss, binOp_leq, binOp_gtr, binOp_geq, binOp_eql, binOp_neq, Sem.run_bind, Sem.run_pure, Result.andThen_ok] <;> rfl
theorem wrap_in {a : Int} (h : -9223372036854775808 ≤ a ∧ a ≤ 9223372036854775807) : IntKind.i64.wrap a = a := IntWalk.i64_in a h
/-- Sums, differences, products of the kind i64 that fit. -/
theorem q_add {T T' : TypeId} {x y : Operand} {a b : Int} (hx : ev F x = some (.int .i64 a)) (hy : ev F y = some (.int .i64 b)) (h : -9223372036854775808 ≤ a + b ∧ a + b ≤ 9223372036854775807) :
    OpQ P B w0 n H F ⟨dst, .binOp .add T x y T', ty, pos, af, g⟩ (.int .i64 (a + b)) :=
  q_bin hx hy fun w => by rw [eqGuard_int]; simp [binOp_add, Op.intArith, wrap_in h]
theorem q_sub {T T' : TypeId} {x y : Operand} {a b : Int} (hx : ev F x = some (.int .i64 a)) (hy : ev F y = some (.int .i64 b)) (h : -9223372036854775808 ≤ a - b ∧ a - b ≤ 9223372036854775807) :
    OpQ P B w0 n H F ⟨dst, .binOp .sub T x y T', ty, pos, af, g⟩ (.int .i64 (a - b)) :=
  q_bin hx hy fun w => by rw [eqGuard_int]; simp [binOp_sub, Op.intArith, wrap_in h]
theorem q_mul {T T' : TypeId} {x y : Operand} {a b : Int} (hx : ev F x = some (.int .i64 a)) (hy : ev F y = some (.int .i64 b)) (h : -9223372036854775808 ≤ a * b ∧ a * b ≤ 9223372036854775807) :
    OpQ P B w0 n H F ⟨dst, .binOp .mul T x y T', ty, pos, af, g⟩ (.int .i64 (a * b)) :=
  q_bin hx hy fun w => by rw [eqGuard_int]; simp [binOp_mul, Op.intArith, wrap_in h]
theorem q_mulw {T T' : TypeId} {x y : Operand} {k : IntKind} {a b : Int} (hx : ev F x = some (.int k a)) (hy : ev F y = some (.int k b)) :
    OpQ P B w0 n H F ⟨dst, .binOp .mul T x y T', ty, pos, af, g⟩ (.int k (k.wrap (a * b))) :=
  q_bin hx hy fun w => by rw [eqGuard_int]; simp [binOp_mul, Op.intArith]
/-- Of numbers of at least 0 by a number of at least 1. -/
theorem q_rem {T T' : TypeId} {x y : Operand} {k : IntKind} {a b : Int} (hx : ev F x = some (.int k a)) (hy : ev F y = some (.int k b)) (ha : 0 ≤ a) (hb : 0 < b) :
    OpQ P B w0 n H F ⟨dst, .binOp .rem T x y T', ty, pos, af, g⟩ (.int k (a % b)) :=
  q_bin hx hy fun w => by rw [eqGuard_int]; simp [binOp_rem, Op.intDiv, show b ≠ 0 by omega, Int.tmod_eq_emod_of_nonneg ha]
theorem q_shl1 {T T' : TypeId} {x y : Operand} {k : IntKind} {i : Nat} (hx : ev F x = some (.int .i64 1)) (hy : ev F y = some (.int k (i : Int))) (h : i ≤ 62) :
    OpQ P B w0 n H F ⟨dst, .binOp .shl T x y T', ty, pos, af, g⟩ (.int .i64 ((2 ^ i : Nat) : Int)) :=
  q_bin hx hy fun w => by
    have h1 : (2 : Nat) ^ i ≤ 2 ^ 62 := Nat.pow_le_pow_right (by decide) h
    have h4 : (2 : Nat) ^ 62 = 4611686018427387904 := by decide
    have h3 : ((2 ^ i : Nat) : Int) ≤ 9223372036854775807 := by
      generalize (2 : Nat) ^ i = m at h1
      omega
    have h2 : IntKind.i64.wrap (1 * 2 ^ i) = ((2 ^ i : Nat) : Int) := by
      rw [Int.one_mul, show ((2 : Int) ^ i) = ((2 ^ i : Nat) : Int) by simp]
      exact wrap_in ⟨Int.le_trans (by decide) (Int.natCast_nonneg _), h3⟩
    have h5 : min i 64 = i := by omega
    rw [eqGuard_int]
    simp only [binOp_shl, Op.shift, Sem.run_bind, Sem.run_pure, Result.andThen_ok, Int.toNat_natCast]
    rw [if_neg (by omega)]
    simp only [show IntKind.i64.bits = 64 from rfl, h5, h2, Sem.run_pure]
theorem q_or {T T' : TypeId} {x y : Operand} {a b : Nat} (hx : ev F x = some (.int .i64 (a : Int))) (hy : ev F y = some (.int .i64 (b : Int))) (ha : a < 2 ^ 63) (hb : b < 2 ^ 63) :
    OpQ P B w0 n H F ⟨dst, .binOp .or T x y T', ty, pos, af, g⟩ (.int .i64 ((a ||| b : Nat) : Int)) :=
  q_bin hx hy fun w => by
    have h1 : a ||| b < 2 ^ 63 := Nat.or_lt_two_pow ha hb
    have h2 : IntKind.i64.wrap ((a ||| b : Nat) : Int) = ((a ||| b : Nat) : Int) := wrap_in (by omega)
    have e : (BitVec.ofInt 64 (a : Int) ||| BitVec.ofInt 64 (b : Int)).toNat = a ||| b := by
      rw [BitVec.toNat_or, BitVec.ofInt_natCast, BitVec.ofInt_natCast, BitVec.toNat_ofNat, BitVec.toNat_ofNat, Nat.mod_eq_of_lt (by omega), Nat.mod_eq_of_lt (by omega)]
    rw [eqGuard_int]
    simp only [binOp_or, Op.intBits, Sem.run_bind, Sem.run_pure, Result.andThen_ok]
    show Result.ok (Value.int .i64 (IntKind.i64.wrap ((BitVec.ofInt 64 (a : Int) ||| BitVec.ofInt 64 (b : Int)).toNat : Int))) w = _
    rw [e, h2]
theorem q_not {T : TypeId} {x : Operand} {b : Bool} (hx : ev F x = some (.bool b)) : OpQ P B w0 n H F ⟨dst, .unOp .not T x, ty, pos, af, g⟩ (.bool (!b)) :=
  opq_run fun a ha w _ => by simp [execOp, ha.ev hx, Op.unary]
theorem q_neg {T : TypeId} {x : Operand} {a : Int} (hx : ev F x = some (.int .i64 a)) (h : -9223372036854775807 ≤ a ∧ a ≤ 9223372036854775807) : OpQ P B w0 n H F ⟨dst, .unOp .neg T x, ty, pos, af, g⟩ (.int .i64 (-a)) :=
  opq_run fun A ha w _ => by simp only [execOp, ha.ev hx, Op.unary, Op.intArith, Int.zero_sub, wrap_in (show -9223372036854775808 ≤ -a ∧ -a ≤ 9223372036854775807 by omega)]; rfl
theorem q_conv {S T : TypeId} {x : Operand} {k k' : IntKind} {a r : Int} {dS : TypeDesc} [hS : Un P S dS] [hT : Un P T (.int k')] (hx : ev F x = some (.int k a)) (hr : k'.wrap a = r) :
    OpQ P B w0 n H F ⟨dst, .convert S T x, ty, pos, af, g⟩ (.int k' r) :=
  opq_run fun A ha w _ => by subst hr; simp [execOp, ha.ev hx, convert, run_underlying hS.out, run_underlying hT.out, Conv.intToInt]
theorem q_extract {x : Operand} {i : Nat} {vs : Array Value} {v : Value} (hx : ev F x = some (.tuple vs)) (hi : vs[i]? = some v) : OpQ P B w0 n H F ⟨dst, .extract x i, ty, pos, af, g⟩ v :=
  opq_run fun A ha w _ => by simp [execOp, ha.ev hx, Instr.extract, hi]
theorem q_makeFunc {fn : Fn} {first captured : Array Operand} {vs us : Array Value} (hf : ∀ a, Has n F a → first.map a.eval = vs) (hc : ∀ a, Has n F a → captured.map a.eval = us) : OpQ P B w0 n H F ⟨dst, .makeFunc fn first captured, ty, pos, af, g⟩ (.func fn vs us) :=
  opq_run fun A ha w _ => by simp [execOp, hf A ha, hc A ha, Instr.makeFunc]
theorem q_len {x : Operand} {T : TypeId} {e : TypeId} {base : Option Addr} {m c : Nat} [hT : Un P T (.slice e)] (hx : ev F x = some (.slice base m c)) :
    OpQ P B w0 n H F ⟨dst, .call { callee := .builtin .len, args := #[x], argTypes := #[T] }, ty, pos, af, g⟩ (.int .i64 m) :=
  opq_run fun A ha w _ => by simp [execOp, resolve, invoke, builtin, ha.ev hx, Builtin.len_, run_underlying hT.out, goInt]
end
end Go.Proofs.YtmbbcmebdefggaaGreatDoor.SL

namespace Go.Proofs.YtmbbcmebdefggaaGreatDoor.SL
open Go Go.RowKit

/-! #### facts on the program's types and functions, closed -/
/-- A type of one cell. -/
class IsSc (P : Program) (T : TypeId) : Prop where
  out : ∀ w, (isAgg T).run P w = .ok false w ∧ (sizeOf T).run P w = .ok 1 w
/-- A struct or an array of s cells. -/
class IsAg (P : Program) (T : TypeId) (s : outParam Nat) : Prop where
  out : (P.info? T).map (·.size) = some s ∧ ∃ d, P.underlying T = some d ∧ d.isRow = true
/-- Field i lies off cells behind the begin. -/
class FA (P : Program) (T : TypeId) (i : Nat) (off : outParam Nat) : Prop where
  out : ∀ b o w, (Instr.fieldAt T (.pointer (some ⟨b, o, none⟩)) i).run P w = .ok (.pointer (some ⟨b, o + off, none⟩)) w
/-- An array of len elements of s cells. -/
class IA (P : Program) (T : TypeId) (len s : outParam Nat) : Prop where
  out : ∃ e, P.underlying T = some (.array len e) ∧ ∀ w, (sizeOf e).run P w = .ok s w
/-- A slice of elements of the type e, of s cells and so many bytes each, with this zero. -/
class IS (P : Program) (T : TypeId) (e s by' : outParam Nat) (z : outParam Value) : Prop where
  out : P.underlying T = some (.slice e) ∧ ∃ i, P.info? e = some i ∧ i.size = s ∧ i.bytes = by' ∧ i.zero = some z ∧ z.cells.size = s
/-- The zero of a type. -/
class Zr (P : Program) (T : TypeId) (z : outParam Value) : Prop where
  out : ∀ w, (zeroValue T).run P w = .ok z w
/-- A composite of zeros. -/
class BZ (P : Program) (T : TypeId) (cells : outParam (Array Value)) : Prop where
  out : P.built T [] = some cells
/-- A call enters this function. -/
class Runs (P : Program) (k : FuncId) : Prop where
  out : ∀ args w, (callFunc k args).run P w = .ok (.enter k args) w
section
variable {P : Program}
theorem IsSc_mk {T : TypeId} {d : TypeDesc} (hu : P.underlying T = some d) (hd : d.isRow = false) (hs : (P.info? T).map (·.size) = some 1) : IsSc P T := ⟨fun w => by
  refine ⟨?_, ?_⟩
  · unfold isAgg
    rw [Sem.run_bind, run_underlying hu w]
    cases d <;> first | rfl | cases hd
  · cases hi : P.info? T with
    | none => simp [hi] at hs
    | some i =>
      have : i.size = 1 := by simpa [hi] using hs
      simp [sizeOf, typeInfo, hi, this]⟩
theorem IsAg_mk {T : TypeId} {d : TypeDesc} {s : Nat} (hu : P.underlying T = some d) (hd : d.isRow = true) (hs : (P.info? T).map (·.size) = some s) : IsAg P T s := ⟨hs, d, hu, hd⟩
theorem sizeOf_run {T : TypeId} {s : Nat} (hs : (P.info? T).map (·.size) = some s) (w : World) : (sizeOf T).run P w = .ok s w := by
  cases hi : P.info? T with
  | none => simp [hi] at hs
  | some i =>
    have : i.size = s := by simpa [hi] using hs
    simp [sizeOf, typeInfo, hi, this]
theorem add_eq (b o k : Nat) : (⟨b, o, none⟩ : Addr).add k = ⟨b, o + k, none⟩ := Addr.add_mid b o k
theorem FA_mk {T : TypeId} {i : Nat} {fs : Array Field} {f : Field} {s : Nat} (hu : P.underlying T = some (.struct fs)) (hf : fs[i]? = some f) (hs : (P.info? f.type).map (·.size) = some s) (hpos : s ≠ 0) : FA P T i f.offset := ⟨fun b o w => by
  simp [Instr.fieldAt, run_underlying hu, hf, Instr.sureAddr, fieldPlace, sizeOf_run hs, hpos, add_eq]⟩
theorem IA_mk {T e : TypeId} {len s : Nat} (hu : P.underlying T = some (.array len e)) (hs : (P.info? e).map (·.size) = some s) : IA P T len s := ⟨e, hu, sizeOf_run hs⟩
theorem IS_mk {T e : TypeId} {s by' : Nat} {z : Value} (hu : P.underlying T = some (.slice e)) (h : (P.info? e).map (fun i => (i.size, i.bytes, i.zero)) = some (s, by', some z)) (hz : z.cells.size = s) : IS P T e s by' z := by
  cases hi : P.info? e with
  | none => simp [hi] at h
  | some i =>
    simp only [hi, Option.map_some, Option.some.injEq, Prod.mk.injEq] at h
    exact ⟨⟨hu, i, hi, h.1, h.2.1, h.2.2, hz⟩⟩
theorem Zr_mk {T : TypeId} {z : Value} (h : (P.info? T).map (·.zero) = some (some z)) : Zr P T z := ⟨fun w => by
  cases hi : P.info? T with
  | none => simp [hi] at h
  | some i =>
    have : i.zero = some z := by simpa [hi] using h
    simp [zeroValue, typeInfo, hi, this]⟩
theorem Runs_mk {k : FuncId} {fn : Func} (hf : P.funcs[k]? = some fn) (hb : fn.body.isNone = false) (hn : (fn.name == "runtime.NumGoroutine") = false) : Runs P k := ⟨fun args w => by
  simp only [callFunc, Sem.run_bind, run_program, Result.andThen_ok, hf, hb, hn, Bool.false_eq_true, if_false, Sem.run_pure]⟩
end

def evs (F : Fr) : List Operand → Option (List Value)
  | [] => some []
  | x :: xs => match ev F x with
    | none => none
    | some v => match evs F xs with
      | none => none
      | some vs => some (v :: vs)
theorem Has.evs {n : Nat} {F : Fr} {a : Act} (h : Has n F a) : ∀ {xs : List Operand} {vs : List Value}, SL.evs F xs = some vs → xs.map a.eval = vs
  | [], vs, hx => by simp only [SL.evs, Option.some.injEq] at hx; subst hx; rfl
  | x :: xs, vs, hx => by
    simp only [SL.evs] at hx
    cases h1 : SL.ev F x with
    | none => simp [h1] at hx
    | some v =>
      cases h2 : SL.evs F xs with
      | none => simp [h1, h2] at hx
      | some us =>
        simp only [h1, h2, Option.some.injEq] at hx
        subst hx
        rw [List.map_cons, h.ev h1, h.evs h2]
/-- The block behind a slice. -/
def gb (v : Value) : Nat := v.ownBlock.getD 0
section
variable {P : Program} {B : Nat} {w0 : World} {n : Nat} {Q : Po} {F : Fr} {H : Hp} {ops : Array Oper} {l : List Oper} {ty : TypeId} {pos : String} {af : Array Edge} {d : Nat} {dst : Option Tmp} {g : Option (Nat × Bool)}

theorem Holds.blk {w : World} (h : Holds B w0 H w) {b : Nat} {cs : List Value} {E : TypeId} (hm : It.blk b cs E ∈ H) : w.heap[b]? = some (.cells cs.toArray E (0, 0)) := (h.ok _ hm).2
theorem cell_of_blk {w : World} {b o : Nat} {cs : List Value} {E : TypeId} {v : Value} (h : w.heap[b]? = some (.cells cs.toArray E (0, 0))) (hc : cs[o]? = some v) : w.cell? ⟨b, o, none⟩ = some v := by
  simp [World.cell?, h, hc]
theorem Holds.blk_lt {w : World} (h : Holds B w0 H w) {b : Nat} {cs : List Value} {E : TypeId} (hm : It.blk b cs E ∈ H) : b < w.heap.size := (Array.getElem?_eq_some_iff.1 (h.blk hm)).1
theorem Holds.blk_cells {w : World} (h : Holds B w0 H w) {b off : Nat} {cs ds : List Value} {E : TypeId} (hm : It.blk b cs E ∈ H) (hd : ∀ i v, ds[i]? = some v → cs[off + i]? = some v) : ∀ i v, ds[i]? = some v → w.cell? ⟨b, off + i, none⟩ = some v :=
  fun i v hi => cell_of_blk (h.blk hm) (hd i v hi)
theorem Holds.row_at {w : World} (h : Holds B w0 H w) {v : Value} {e sz : Nat} {xs : List Value} (hm : It.row v e sz xs ∈ H) (hne : xs ≠ []) :
    ∃ m cap, v = .slice (some ⟨gb v, 0, none⟩) m cap ∧ xs.length = m * sz ∧ ∀ j u, xs[j]? = some u → w.cell? ⟨gb v, j, none⟩ = some u := by
  obtain ⟨m, h1, h2⟩ := h.ok _ hm
  rcases h2 with ⟨rfl, rfl⟩ | ⟨gg, cap, cur, rfl, hb, hg, hmc, hcm, hcs, htake⟩
  · simp at h1; exact absurd h1 hne
  · refine ⟨m, cap, rfl, h1, fun j u hu => ?_⟩
    have := World.ownsRow.cells (w := w) (base := B) (e := e) (size := sz) (v := .slice (some ⟨gg, 0, none⟩) m cap) (n := m) (xs := xs)
      ⟨h1, .inr ⟨gg, cap, cur, rfl, hb, hg, hmc, hcm, hcs, htake⟩⟩ (g := gg) rfl j u hu
    rw [add_eq, Nat.zero_add] at this
    exact this
theorem q_fieldAddr {T : TypeId} {x : Operand} {i off b o : Nat} [hF : FA P T i off] (hx : ev F x = some (.pointer (some ⟨b, o, none⟩))) : OpQ P B w0 n H F ⟨dst, .fieldAddr T x i, ty, pos, af, g⟩ (.pointer (some ⟨b, o + off, none⟩)) :=
  opq_run fun A ha w _ => by simp only [execOp, ha.ev hx]; rw [Sem.run_bind, hF.out b o w]; rfl
theorem q_index {T : TypeId} {x y : Operand} {len s b o : Nat} {k : IntKind} {i : Int} [hA : IA P T len s] (hx : ev F x = some (.pointer (some ⟨b, o, none⟩))) (hy : ev F y = some (.int k i)) (h0 : 0 ≤ i) (h1 : i < len) :
    OpQ P B w0 n H F ⟨dst, .indexAddr T x y, ty, pos, af, g⟩ (.pointer (some ⟨b, o + i.toNat * s, none⟩)) :=
  opq_run fun A ha w _ => by
    obtain ⟨e, hu, hs⟩ := hA.out
    simp [execOp, ha.ev hx, ha.ev hy, Instr.indexAt, asIntOf, run_underlying hu, Instr.sureAddr, h0, h1, hs, add_eq]
theorem q_indexN {T : TypeId} {x y : Operand} {len s b o i : Nat} {k : IntKind} [hA : IA P T len s] (hx : ev F x = some (.pointer (some ⟨b, o, none⟩))) (hy : ev F y = some (.int k (i : Int))) (h1 : i < len) :
    OpQ P B w0 n H F ⟨dst, .indexAddr T x y, ty, pos, af, g⟩ (.pointer (some ⟨b, o + i * s, none⟩)) := by
  have h := q_index (P := P) (B := B) (w0 := w0) (n := n) (F := F) (H := H) (ty := ty) (pos := pos) (af := af) (dst := dst) (g := g) (T := T) hx hy (Int.natCast_nonneg i) (by omega)
  rwa [Int.toNat_natCast] at h
theorem q_indexS {T e : TypeId} {x y : Operand} {s by' b o len cap : Nat} {z : Value} {k : IntKind} {i : Int} [hS : IS P T e s by' z] (hx : ev F x = some (.slice (some ⟨b, o, none⟩) len cap)) (hy : ev F y = some (.int k i)) (h0 : 0 ≤ i) (h1 : i < len) :
    OpQ P B w0 n H F ⟨dst, .indexAddr T x y, ty, pos, af, g⟩ (.pointer (some ⟨b, o + i.toNat * s, none⟩)) :=
  opq_run fun A ha w _ => by
    obtain ⟨hu, ie, hie, hsz, _⟩ := hS.out
    have hs : (sizeOf e).run P w = .ok s w := by simp [sizeOf, typeInfo, hie, hsz]
    simp [execOp, ha.ev hx, ha.ev hy, Instr.indexAt, asIntOf, run_underlying hu, h0, h1, hs, add_eq]
theorem q_indexSN {T e : TypeId} {x y : Operand} {s by' b o len cap i : Nat} {z : Value} {k : IntKind} [hS : IS P T e s by' z] (hx : ev F x = some (.slice (some ⟨b, o, none⟩) len cap)) (hy : ev F y = some (.int k (i : Int))) (h1 : i < len) :
    OpQ P B w0 n H F ⟨dst, .indexAddr T x y, ty, pos, af, g⟩ (.pointer (some ⟨b, o + i * s, none⟩)) := by
  have h := q_indexS (P := P) (B := B) (w0 := w0) (n := n) (F := F) (H := H) (ty := ty) (pos := pos) (af := af) (dst := dst) (g := g) (T := T) hx hy (Int.natCast_nonneg i) (by omega)
  rwa [Int.toNat_natCast] at h
theorem q_indexR {T e : TypeId} {x y : Operand} {s by' : Nat} {z v : Value} {k : IntKind} {i : Int} {xs : List Value} [hS : IS P T e s by' z] (hx : ev F x = some v) (hm : It.row v e s xs ∈ H) (hy : ev F y = some (.int k i)) (h0 : 0 ≤ i) (h1 : i.toNat * s < xs.length) :
    OpQ P B w0 n H F ⟨dst, .indexAddr T x y, ty, pos, af, g⟩ (.pointer (some ⟨gb v, i.toNat * s, none⟩)) :=
  opq_run fun A ha w hw => by
    obtain ⟨m, cap, hv, hl, _⟩ := hw.row_at hm (by intro e; subst e; simp at h1)
    have hlt : i < (m : Int) := by
      rw [hl] at h1
      have := Nat.lt_of_mul_lt_mul_right h1
      omega
    obtain ⟨hu, ie, hie, hsz, _⟩ := hS.out
    have hs : (sizeOf e).run P w = .ok s w := by simp [sizeOf, typeInfo, hie, hsz]
    have hx' := ha.ev hx
    generalize hg : gb v = gg at hv ⊢
    subst hv
    simp [execOp, hx', ha.ev hy, Instr.indexAt, asIntOf, run_underlying hu, h0, hlt, hs, add_eq]
theorem loadSc {T : TypeId} [hT : IsSc P T] {w : World} {ad : Addr} {v : Value} (hc : w.cell? ad = some v) : (Instr.loadAt T (.pointer (some ad))).run P w = .ok v w := by
  simp only [Instr.loadAt, Instr.sureAddr, Sem.run_bind, Sem.run_pure, Result.andThen_ok, loadVar, (hT.out w).1]
  simp [load, Sem.run, hc]
theorem q_load {T : TypeId} {x : Operand} {b o : Nat} {cs : List Value} {E : TypeId} {v : Value} [hT : IsSc P T] (hx : ev F x = some (.pointer (some ⟨b, o, none⟩))) (hm : It.blk b cs E ∈ H) (hc : cs[o]? = some v) :
    OpQ P B w0 n H F ⟨dst, .load T x, ty, pos, af, g⟩ v :=
  opq_run fun A ha w hw => by simp only [execOp, ha.ev hx]; rw [Sem.run_bind, loadSc (cell_of_blk (hw.blk hm) hc)]; rfl
theorem q_loadR {T e : TypeId} {x : Operand} {o sz : Nat} {xs : List Value} {v u : Value} [hT : IsSc P T] (hx : ev F x = some (.pointer (some ⟨gb v, o, none⟩))) (hm : It.row v e sz xs ∈ H) (hc : xs[o]? = some u) :
    OpQ P B w0 n H F ⟨dst, .load T x, ty, pos, af, g⟩ u :=
  opq_run fun A ha w hw => by
    obtain ⟨m, cap, _, _, hcell⟩ := hw.row_at hm (by intro e; subst e; simp at hc)
    simp only [execOp, ha.ev hx]; rw [Sem.run_bind, loadSc (hcell o u hc)]; rfl
theorem q_loadD {T : TypeId} {x : Operand} {b o off j : Nat} {cs : List Value} {v : Value} [hT : IsSc P T] (hx : ev F x = some (.pointer (some ⟨b, o, none⟩))) (hm : It.rd b off cs ∈ H) (hj : o = off + j) (hc : cs[j]? = some v) :
    OpQ P B w0 n H F ⟨dst, .load T x, ty, pos, af, g⟩ v :=
  opq_run fun A ha w hw => by subst hj; simp only [execOp, ha.ev hx]; rw [Sem.run_bind, loadSc ((hw.ok _ hm).2 j v hc)]; rfl
theorem loadAg {T : TypeId} {s : Nat} [hT : IsAg P T s] {w : World} {b o : Nat} {ds : List Value} (hl : ds.length = s) (hc : ∀ j v, ds[j]? = some v → w.cell? ⟨b, o + j, none⟩ = some v) : (Instr.loadAt T (.pointer (some ⟨b, o, none⟩))).run P w = .ok (.agg ds.toArray) w := by
  obtain ⟨hs, d, hu, hd⟩ := hT.out
  exact run_loadAt_mid w b o T ds d hc hu hd (by rw [hs, hl])
/-- A struct or an array: a part of a block. -/
theorem q_loadA {T : TypeId} {x : Operand} {s b o : Nat} {cs ds : List Value} {E : TypeId} [hT : IsAg P T s] (hx : ev F x = some (.pointer (some ⟨b, o, none⟩))) (hm : It.blk b cs E ∈ H) (hd : (cs.drop o).take s = ds) (hl : ds.length = s) :
    OpQ P B w0 n H F ⟨dst, .load T x, ty, pos, af, g⟩ (.agg ds.toArray) :=
  opq_run fun A ha w hw => by
    simp only [execOp, ha.ev hx]
    rw [Sem.run_bind, loadAg hl (fun j v hj => cell_of_blk (hw.blk hm) ?_)]; · rfl
    subst hd
    rw [List.getElem?_take] at hj
    split at hj
    · rwa [List.getElem?_drop] at hj
    · cases hj
/-- The whole block. -/
theorem q_loadW {T : TypeId} {x : Operand} {s b : Nat} {cs : List Value} {E : TypeId} [hT : IsAg P T s] (hx : ev F x = some (.pointer (some ⟨b, 0, none⟩))) (hm : It.blk b cs E ∈ H) (hl : cs.length = s) :
    OpQ P B w0 n H F ⟨dst, .load T x, ty, pos, af, g⟩ (.agg cs.toArray) :=
  q_loadA hx hm (by rw [List.drop_zero, ← hl, List.take_length]) hl
/-- A struct or an array as an element of a row. -/
theorem q_loadRA {T e : TypeId} {x : Operand} {s o sz : Nat} {xs ds : List Value} {v : Value} [hT : IsAg P T s] (hx : ev F x = some (.pointer (some ⟨gb v, o, none⟩))) (hm : It.row v e sz xs ∈ H) (hd : (xs.drop o).take s = ds) (hl : ds.length = s) (hs : 0 < s) :
    OpQ P B w0 n H F ⟨dst, .load T x, ty, pos, af, g⟩ (.agg ds.toArray) :=
  opq_run fun A ha w hw => by
    have hne : xs ≠ [] := by intro e; subst e; subst hd; simp at hl; omega
    obtain ⟨m, cap, _, _, hcell⟩ := hw.row_at hm hne
    simp only [execOp, ha.ev hx]
    rw [Sem.run_bind, loadAg hl (fun j u hj => hcell _ u ?_)]; · rfl
    subst hd
    rw [List.getElem?_take] at hj
    split at hj
    · rwa [List.getElem?_drop] at hj
    · cases hj
/-- x[:] of an array in memory. -/
theorem q_sliceA {T : TypeId} {x : Operand} {len s b o : Nat} [hA : IA P T len s] (hx : ev F x = some (.pointer (some ⟨b, o, none⟩))) : OpQ P B w0 n H F ⟨dst, .slice T x none none none, ty, pos, af, g⟩ (.slice (some ⟨b, o, none⟩) len len) :=
  opq_run fun A ha w _ => by
    obtain ⟨e, hu, hs⟩ := hA.out
    simp [execOp, ha.ev hx, Instr.sliceAt, run_underlying hu, Instr.sureAddr, Instr.sliceBounds, hs, add_eq]
theorem q_build0 {T : TypeId} {cells : Array Value} [hZ : BZ P T cells] : OpQ P B w0 n H F ⟨dst, .build T #[], ty, pos, af, g⟩ (.agg cells) :=
  opq_run fun A _ w _ => by
    simp only [execOp]
    rw [Sem.run_bind, run_build w T _ cells (by simpa using hZ.out)]; rfl
theorem q_build {T : TypeId} {parts : List (Nat × Operand)} {cells : List Value} (h : ∀ a, Has n F a → P.built T (parts.map fun (i, x) => (i, a.eval x)) = some cells.toArray) :
    OpQ P B w0 n H F ⟨dst, .build T parts.toArray, ty, pos, af, g⟩ (.agg cells.toArray) :=
  opq_run fun A ha w _ => by
    simp only [execOp]
    rw [Sem.run_bind, run_build w T _ cells.toArray (by simpa using h A ha)]; rfl
theorem run_call {f : Operand} {xs : List Operand} {Ts : Array TypeId} {k : FuncId} {args : List Value} {caps : Array Value} [hk : Runs P k] {a : Act} (ha : Has n F a) (hf : ev F f = some (.func (.func k) #[] caps)) (hxs : evs F xs = some args) (w : World) :
    (execOp a.eval ⟨dst, .call { callee := .value f, args := xs.toArray, argTypes := Ts }, ty, pos, af, g⟩).run P w = .ok (.enter k (args ++ caps.toList).toArray) w := by
  have e1 := ha.evs hxs
  simp only [execOp, resolve, Sem.run_bind, ha.ev hf]
  simp only [Deferred.ofValue, Sem.run_pure, Result.andThen_ok, invoke, Array.empty_append]
  rw [show ((xs.toArray.map a.eval) ++ caps) = (args ++ caps.toList).toArray from by rw [← e1]; simp]
  exact hk.out _ w
theorem q_call0 {f : Operand} {xs : List Operand} {Ts : Array TypeId} {k : FuncId} {args : List Value} {v : Value} [hk : Runs P k] (hf : ev F f = some (.func (.func k) #[] #[])) (hxs : evs F xs = some args)
    (h : ∀ w, Holds B w0 H w → Gives P k args.toArray v w) : OpQ P B w0 n H F ⟨dst, .call { callee := .value f, args := xs.toArray, argTypes := Ts }, ty, pos, af, g⟩ v := fun a ha w hw => by
  unfold Oper.quietAt
  rw [run_call ha hf hxs w]
  have := h w hw
  simp only [List.append_nil]
  exact ⟨rfl, this.mono fun e w' ⟨he, hb⟩ => ⟨he, hw.grow hb⟩⟩
end
end Go.Proofs.YtmbbcmebdefggaaGreatDoor.SL

namespace Go.Proofs.YtmbbcmebdefggaaGreatDoor.SL
open Go Go.RowKit
/-! #### J-level forms -/
section
variable {P : Program} {B : Nat} {w0 : World} {n : Nat} {Q : Po} {F : Fr} {H : Hp} {ops : Array Oper} {l : List Oper} {ty : TypeId} {pos : String} {af : Array Edge} {d : Nat}
theorem Jq_move {dr : Bool} {x : Operand} {v : Value} (hdn : Nat.blt d n = true) (hx : ev F x = some v) (kk : J dr P B w0 n ops Q l ((d, v) :: F) H) : J dr P B w0 n ops Q (⟨some d, .move x, ty, pos, af, none⟩ :: l) F H := J_q hdn (q_move hx) kk
theorem Jq_assign {dr : Bool} {x : Operand} {v : Value} (hdn : Nat.blt d n = true) (hx : ev F x = some v) (kk : J dr P B w0 n ops Q l ((d, v) :: F) H) : J dr P B w0 n ops Q (⟨some d, .assign x, ty, pos, af, none⟩ :: l) F H := J_q hdn (q_assign hx) kk
theorem Jq_pick_true {dr : Bool} {c x y : Operand} {v : Value} (hdn : Nat.blt d n = true) (hc : ev F c = some (.bool true)) (hx : ev F x = some v) (kk : J dr P B w0 n ops Q l ((d, v) :: F) H) : J dr P B w0 n ops Q (⟨some d, .pick c x y, ty, pos, af, none⟩ :: l) F H := J_q hdn (q_pick_true hc hx) kk
theorem Jq_pick_false {dr : Bool} {c x y : Operand} {v : Value} (hdn : Nat.blt d n = true) (hc : ev F c = some (.bool false)) (hy : ev F y = some v) (kk : J dr P B w0 n ops Q l ((d, v) :: F) H) : J dr P B w0 n ops Q (⟨some d, .pick c x y, ty, pos, af, none⟩ :: l) F H := J_q hdn (q_pick_false hc hy) kk
theorem Jq_cmp {dr : Bool} {op : BinOp} {T T' : TypeId} {x y : Operand} {k : IntKind} {a b : Int} {r : Bool} (hdn : Nat.blt d n = true) (hx : ev F x = some (.int k a)) (hy : ev F y = some (.int k b)) (h : cmpV op a b = some r) (kk : J dr P B w0 n ops Q l ((d, (.bool r)) :: F) H) : J dr P B w0 n ops Q (⟨some d, .binOp op T x y T', ty, pos, af, none⟩ :: l) F H := J_q hdn (q_cmp hx hy h) kk
theorem Jq_add {dr : Bool} {T T' : TypeId} {x y : Operand} {a b : Int} (hdn : Nat.blt d n = true) (hx : ev F x = some (.int .i64 a)) (hy : ev F y = some (.int .i64 b)) (h : -9223372036854775808 ≤ a + b ∧ a + b ≤ 9223372036854775807) (kk : J dr P B w0 n ops Q l ((d, (.int .i64 (a + b))) :: F) H) : J dr P B w0 n ops Q (⟨some d, .binOp .add T x y T', ty, pos, af, none⟩ :: l) F H := J_q hdn (q_add hx hy h) kk
theorem Jq_sub {dr : Bool} {T T' : TypeId} {x y : Operand} {a b : Int} (hdn : Nat.blt d n = true) (hx : ev F x = some (.int .i64 a)) (hy : ev F y = some (.int .i64 b)) (h : -9223372036854775808 ≤ a - b ∧ a - b ≤ 9223372036854775807) (kk : J dr P B w0 n ops Q l ((d, (.int .i64 (a - b))) :: F) H) : J dr P B w0 n ops Q (⟨some d, .binOp .sub T x y T', ty, pos, af, none⟩ :: l) F H := J_q hdn (q_sub hx hy h) kk
theorem Jq_mul {dr : Bool} {T T' : TypeId} {x y : Operand} {a b : Int} (hdn : Nat.blt d n = true) (hx : ev F x = some (.int .i64 a)) (hy : ev F y = some (.int .i64 b)) (h : -9223372036854775808 ≤ a * b ∧ a * b ≤ 9223372036854775807) (kk : J dr P B w0 n ops Q l ((d, (.int .i64 (a * b))) :: F) H) : J dr P B w0 n ops Q (⟨some d, .binOp .mul T x y T', ty, pos, af, none⟩ :: l) F H := J_q hdn (q_mul hx hy h) kk
theorem Jq_rem {dr : Bool} {T T' : TypeId} {x y : Operand} {k : IntKind} {a b : Int} (hdn : Nat.blt d n = true) (hx : ev F x = some (.int k a)) (hy : ev F y = some (.int k b)) (ha : 0 ≤ a) (hb : 0 < b) (kk : J dr P B w0 n ops Q l ((d, (.int k (a % b))) :: F) H) : J dr P B w0 n ops Q (⟨some d, .binOp .rem T x y T', ty, pos, af, none⟩ :: l) F H := J_q hdn (q_rem hx hy ha hb) kk
theorem Jq_shl1 {dr : Bool} {T T' : TypeId} {x y : Operand} {k : IntKind} {i : Nat} (hdn : Nat.blt d n = true) (hx : ev F x = some (.int .i64 1)) (hy : ev F y = some (.int k (i : Int))) (h : i ≤ 62) (kk : J dr P B w0 n ops Q l ((d, (.int .i64 ((2 ^ i : Nat) : Int))) :: F) H) : J dr P B w0 n ops Q (⟨some d, .binOp .shl T x y T', ty, pos, af, none⟩ :: l) F H := J_q hdn (q_shl1 hx hy h) kk
theorem Jq_or {dr : Bool} {T T' : TypeId} {x y : Operand} {a b : Nat} (hdn : Nat.blt d n = true) (hx : ev F x = some (.int .i64 (a : Int))) (hy : ev F y = some (.int .i64 (b : Int))) (ha : a < 2 ^ 63) (hb : b < 2 ^ 63) (kk : J dr P B w0 n ops Q l ((d, (.int .i64 ((a ||| b : Nat) : Int))) :: F) H) : J dr P B w0 n ops Q (⟨some d, .binOp .or T x y T', ty, pos, af, none⟩ :: l) F H := J_q hdn (q_or hx hy ha hb) kk
theorem Jq_not {dr : Bool} {T : TypeId} {x : Operand} {b : Bool} (hdn : Nat.blt d n = true) (hx : ev F x = some (.bool b)) (kk : J dr P B w0 n ops Q l ((d, (.bool (!b))) :: F) H) : J dr P B w0 n ops Q (⟨some d, .unOp .not T x, ty, pos, af, none⟩ :: l) F H := J_q hdn (q_not hx) kk
theorem Jq_neg {dr : Bool} {T : TypeId} {x : Operand} {a : Int} (hdn : Nat.blt d n = true) (hx : ev F x = some (.int .i64 a)) (h : -9223372036854775807 ≤ a ∧ a ≤ 9223372036854775807) (kk : J dr P B w0 n ops Q l ((d, (.int .i64 (-a))) :: F) H) : J dr P B w0 n ops Q (⟨some d, .unOp .neg T x, ty, pos, af, none⟩ :: l) F H := J_q hdn (q_neg hx h) kk
theorem Jq_conv {dr : Bool} {S T : TypeId} {x : Operand} {k k' : IntKind} {a r : Int} {dS : TypeDesc} [hS : Un P S dS] [hT : Un P T (.int k')] (hdn : Nat.blt d n = true) (hx : ev F x = some (.int k a)) (hr : k'.wrap a = r) (kk : J dr P B w0 n ops Q l ((d, (.int k' r)) :: F) H) : J dr P B w0 n ops Q (⟨some d, .convert S T x, ty, pos, af, none⟩ :: l) F H := J_q hdn (q_conv hx hr) kk
theorem Jq_extract {dr : Bool} {x : Operand} {i : Nat} {vs : Array Value} {v : Value} (hdn : Nat.blt d n = true) (hx : ev F x = some (.tuple vs)) (hi : vs[i]? = some v) (kk : J dr P B w0 n ops Q l ((d, v) :: F) H) : J dr P B w0 n ops Q (⟨some d, .extract x i, ty, pos, af, none⟩ :: l) F H := J_q hdn (q_extract hx hi) kk
theorem Jq_len {dr : Bool} {x : Operand} {T : TypeId} {e : TypeId} {base : Option Addr} {m c : Nat} [hT : Un P T (.slice e)] (hdn : Nat.blt d n = true) (hx : ev F x = some (.slice base m c)) (kk : J dr P B w0 n ops Q l ((d, (.int .i64 m)) :: F) H) : J dr P B w0 n ops Q (⟨some d, .call { callee := .builtin .len, args := #[x], argTypes := #[T] }, ty, pos, af, none⟩ :: l) F H := J_q hdn (q_len hx) kk
theorem Jq_fieldAddr {dr : Bool} {T : TypeId} {x : Operand} {i off b o : Nat} [hF : FA P T i off] (hdn : Nat.blt d n = true) (hx : ev F x = some (.pointer (some ⟨b, o, none⟩))) (kk : J dr P B w0 n ops Q l ((d, (.pointer (some ⟨b, o + off, none⟩))) :: F) H) : J dr P B w0 n ops Q (⟨some d, .fieldAddr T x i, ty, pos, af, none⟩ :: l) F H := J_q hdn (q_fieldAddr hx) kk
theorem Jq_indexN {dr : Bool} {T : TypeId} {x y : Operand} {len s b o i : Nat} {k : IntKind} [hA : IA P T len s] (hdn : Nat.blt d n = true) (hx : ev F x = some (.pointer (some ⟨b, o, none⟩))) (hy : ev F y = some (.int k (i : Int))) (h1 : i < len) (kk : J dr P B w0 n ops Q l ((d, (.pointer (some ⟨b, o + i * s, none⟩))) :: F) H) : J dr P B w0 n ops Q (⟨some d, .indexAddr T x y, ty, pos, af, none⟩ :: l) F H := J_q hdn (q_indexN hx hy h1) kk
theorem Jq_indexSN {dr : Bool} {T e : TypeId} {x y : Operand} {s by' b o len cap i : Nat} {z : Value} {k : IntKind} [hS : IS P T e s by' z] (hdn : Nat.blt d n = true) (hx : ev F x = some (.slice (some ⟨b, o, none⟩) len cap)) (hy : ev F y = some (.int k (i : Int))) (h1 : i < len) (kk : J dr P B w0 n ops Q l ((d, (.pointer (some ⟨b, o + i * s, none⟩))) :: F) H) : J dr P B w0 n ops Q (⟨some d, .indexAddr T x y, ty, pos, af, none⟩ :: l) F H := J_q hdn (q_indexSN hx hy h1) kk
theorem Jq_load {dr : Bool} {T : TypeId} {x : Operand} {b o : Nat} {cs : List Value} {E : TypeId} {v : Value} [hT : IsSc P T] (hdn : Nat.blt d n = true) (hx : ev F x = some (.pointer (some ⟨b, o, none⟩))) (hm : It.blk b cs E ∈ H) (hc : cs[o]? = some v) (kk : J dr P B w0 n ops Q l ((d, v) :: F) H) : J dr P B w0 n ops Q (⟨some d, .load T x, ty, pos, af, none⟩ :: l) F H := J_q hdn (q_load hx hm hc) kk
theorem Jq_loadR {dr : Bool} {T e : TypeId} {x : Operand} {o sz : Nat} {xs : List Value} {v u : Value} [hT : IsSc P T] (hdn : Nat.blt d n = true) (hx : ev F x = some (.pointer (some ⟨gb v, o, none⟩))) (hm : It.row v e sz xs ∈ H) (hc : xs[o]? = some u) (kk : J dr P B w0 n ops Q l ((d, u) :: F) H) : J dr P B w0 n ops Q (⟨some d, .load T x, ty, pos, af, none⟩ :: l) F H := J_q hdn (q_loadR hx hm hc) kk
theorem Jq_loadD {dr : Bool} {T : TypeId} {x : Operand} {b o off j : Nat} {cs : List Value} {v : Value} [hT : IsSc P T] (hdn : Nat.blt d n = true) (hx : ev F x = some (.pointer (some ⟨b, o, none⟩))) (hm : It.rd b off cs ∈ H) (hj : o = off + j) (hc : cs[j]? = some v) (kk : J dr P B w0 n ops Q l ((d, v) :: F) H) : J dr P B w0 n ops Q (⟨some d, .load T x, ty, pos, af, none⟩ :: l) F H := J_q hdn (q_loadD hx hm hj hc) kk
theorem Jq_loadA {dr : Bool} {T : TypeId} {x : Operand} {s b o : Nat} {cs ds : List Value} {E : TypeId} [hT : IsAg P T s] (hdn : Nat.blt d n = true) (hx : ev F x = some (.pointer (some ⟨b, o, none⟩))) (hm : It.blk b cs E ∈ H) (hd : (cs.drop o).take s = ds) (hl : ds.length = s) (kk : J dr P B w0 n ops Q l ((d, (.agg ds.toArray)) :: F) H) : J dr P B w0 n ops Q (⟨some d, .load T x, ty, pos, af, none⟩ :: l) F H := J_q hdn (q_loadA hx hm hd hl) kk
theorem Jq_loadW {dr : Bool} {T : TypeId} {x : Operand} {s b : Nat} {cs : List Value} {E : TypeId} [hT : IsAg P T s] (hdn : Nat.blt d n = true) (hx : ev F x = some (.pointer (some ⟨b, 0, none⟩))) (hm : It.blk b cs E ∈ H) (hl : cs.length = s) (kk : J dr P B w0 n ops Q l ((d, (.agg cs.toArray)) :: F) H) : J dr P B w0 n ops Q (⟨some d, .load T x, ty, pos, af, none⟩ :: l) F H := J_q hdn (q_loadW hx hm hl) kk
theorem Jq_loadRA {dr : Bool} {T e : TypeId} {x : Operand} {s o sz : Nat} {xs ds : List Value} {v : Value} [hT : IsAg P T s] (hdn : Nat.blt d n = true) (hx : ev F x = some (.pointer (some ⟨gb v, o, none⟩))) (hm : It.row v e sz xs ∈ H) (hd : (xs.drop o).take s = ds) (hl : ds.length = s) (hs : 0 < s) (kk : J dr P B w0 n ops Q l ((d, (.agg ds.toArray)) :: F) H) : J dr P B w0 n ops Q (⟨some d, .load T x, ty, pos, af, none⟩ :: l) F H := J_q hdn (q_loadRA hx hm hd hl hs) kk
theorem Jq_sliceA {dr : Bool} {T : TypeId} {x : Operand} {len s b o : Nat} [hA : IA P T len s] (hdn : Nat.blt d n = true) (hx : ev F x = some (.pointer (some ⟨b, o, none⟩))) (kk : J dr P B w0 n ops Q l ((d, (.slice (some ⟨b, o, none⟩) len len)) :: F) H) : J dr P B w0 n ops Q (⟨some d, .slice T x none none none, ty, pos, af, none⟩ :: l) F H := J_q hdn (q_sliceA hx) kk
theorem Jq_build0 {dr : Bool} {T : TypeId} {cells : Array Value} [hZ : BZ P T cells](hdn : Nat.blt d n = true)  (kk : J dr P B w0 n ops Q l ((d, (.agg cells)) :: F) H) : J dr P B w0 n ops Q (⟨some d, .build T #[], ty, pos, af, none⟩ :: l) F H := J_q hdn (q_build0) kk
end
/-! #### end of J-level forms -/
section
variable {P : Program} {B : Nat} {w0 : World} {n : Nat} {Q : Po} {F : Fr} {H H1 H2 : Hp} {ops : Array Oper} {l : List Oper} {ty : TypeId} {pos : String} {af : Array Edge} {d : Nat}

theorem owned_mid (x : It) : owned (H1 ++ x :: H2) = owned H1 ++ (x.own.toList ++ owned H2) := by
  unfold owned
  rw [List.filterMap_append, List.filterMap_cons]
  cases x.own <;> simp
/-- One item is turned into another; nothing else that was there is touched. -/
theorem Holds.swap {w w' : World} {x y : It} (h : Holds B w0 (H1 ++ x :: H2) w) (hos : w'.os = w.os) (htape : w'.tape = w.tape) (hout : w'.output = w.output) (hsz : w.heap.size ≤ w'.heap.size) (hdr : w.drawn ≤ w'.drawn)
    (hb : ∀ k, k < w.heap.size → some k ≠ x.own → w'.heap[k]? = w.heap[k]?) (hy : y.ok B w') (ho : ∀ k, y.own = some k → x.own = some k ∨ w.heap.size ≤ k) : Holds B w0 (H1 ++ y :: H2) w' := by
  have hxo : ∀ k, x.own = some k → B ≤ k ∧ k < w.heap.size := fun k hk => It.ok_lt (h.ok x (by simp)) k hk
  have hbel : ∀ k, k < B → w'.heap[k]? = w.heap[k]? := fun k hk => hb k (Nat.lt_of_lt_of_le hk h.size) (fun e => by have := (hxo k e.symm).1; omega)
  have hap := h.apart
  rw [owned_mid] at hap
  have h1 := List.nodup_append.1 hap
  have h2 := List.nodup_append.1 h1.2.1
  refine ⟨h.below.trans ⟨⟨hos, htape, hout, hsz, hbel⟩, hdr⟩, h.base, fun z hz => ?_, ?_⟩
  · have old : ∀ z, z ∈ H1 ++ H2 → z.ok B w' := fun z hz => by
      have hz' : z ∈ H1 ++ x :: H2 := by rcases List.mem_append.1 hz with hz | hz <;> simp [hz]
      refine It.ok_of (h.ok z hz') hbel (fun k hk => hb k (It.ok_lt (h.ok z hz') k hk).2 (fun e => ?_))
      have hkx : k ∈ x.own.toList := by simp [← e]
      rcases List.mem_append.1 hz with hz | hz
      · exact h1.2.2 k (List.mem_filterMap.2 ⟨z, hz, hk⟩) k (List.mem_append_left _ hkx) rfl
      · exact h2.2.2 k hkx k (List.mem_filterMap.2 ⟨z, hz, hk⟩) rfl
    rcases List.mem_append.1 hz with hz | hz
    · exact old z (List.mem_append_left _ hz)
    · rcases List.mem_cons.1 hz with rfl | hz
      · exact hy
      · exact old z (List.mem_append_right _ hz)
  · rw [owned_mid]
    have free : ∀ k, y.own = some k → ∀ j, j ∈ owned H1 ∨ j ∈ owned H2 → j ≠ k := fun k hk j hj e => by
      subst e
      rcases ho j hk with hx | hlt
      · have hkx : j ∈ x.own.toList := by simp [hx]
        rcases hj with hj | hj
        · exact h1.2.2 j hj j (List.mem_append_left _ hkx) rfl
        · exact h2.2.2 j hkx j hj rfl
      · have : j < w.heap.size := by
          rcases hj with hj | hj
          · obtain ⟨z, hz, hzo⟩ := List.mem_filterMap.1 hj
            exact (It.ok_lt (h.ok z (List.mem_append_left _ hz)) j hzo).2
          · obtain ⟨z, hz, hzo⟩ := List.mem_filterMap.1 hj
            exact (It.ok_lt (h.ok z (List.mem_append_right _ (List.mem_cons_of_mem _ hz))) j hzo).2
        omega
    refine List.nodup_append.2 ⟨h1.1, List.nodup_append.2 ⟨?_, h2.2.1, ?_⟩, ?_⟩
    · cases y.own <;> simp
    · intro a ha b hb' e
      subst e
      have : y.own = some a := by simpa using ha
      exact free a this a (.inr hb') rfl
    · intro a ha b hb' e
      subst e
      rcases List.mem_append.1 hb' with hb' | hb'
      · exact free a (by simpa using hb') a (.inl ha) rfl
      · exact h1.2.2 a ha a (List.mem_append_right _ hb') rfl

theorem J_do {op : Op} (dst : Option Tmp) (h : ∀ a w, Has n F a → Holds B w0 H w → ∃ v w' F' H', (execOp a.eval ⟨dst, op, ty, pos, af, none⟩).run P w = .ok (.value v) w' ∧ Has n F' (a.put dst v) ∧ Holds B w0 H' w' ∧ J false P B w0 n ops Q l F' H') :
    J false P B w0 n ops Q (⟨dst, op, ty, pos, af, none⟩ :: l) F H := fun a w ha hw => by
  obtain ⟨v, w', F', H', hr, h1, h2, k⟩ := h a w ha hw
  refine wpList_plain rfl fun K hK => ?_
  unfold Oper.wp
  rw [hr]
  exact hK _ _ (k _ _ h1 h2)
theorem J_doS {op : Op} (h : ∀ a w, Has n F a → Holds B w0 H w → ∃ w' H', (execOp a.eval ⟨none, op, ty, pos, af, none⟩).run P w = .ok .skip w' ∧ Holds B w0 H' w' ∧ J false P B w0 n ops Q l F H') :
    J false P B w0 n ops Q (⟨none, op, ty, pos, af, none⟩ :: l) F H := fun a w ha hw => by
  obtain ⟨w', H', hr, h2, k⟩ := h a w ha hw
  refine wpList_plain rfl fun K hK => ?_
  unfold Oper.wp
  rw [hr]
  exact hK _ _ (k _ _ (ha.none _) h2)
theorem lt_of_blt {d n : Nat} (h : Nat.blt d n = true) : d < n := by simpa [Nat.blt_eq] using h
theorem Holds.alloc {w : World} (h : Holds B w0 H w) (cs : List Value) (E : TypeId) : Holds B w0 (.blk w.heap.size cs E :: H) (w.alloc (.cells cs.toArray E)) :=
  h.new (Blw.alloc (Blw.refl _ _) (Nat.le_refl _) _) _ ⟨h.size, heap_alloc_new w _⟩ (fun k hk => by simp [It.own] at hk; omega)
theorem J_box {T : TypeId} {x : Operand} {v : Value} {cs : List Value} (hd : Nat.blt d n = true) (hx : ev F x = some v) (hc : v.cells = cs.toArray) (k : ∀ b, J false P B w0 n ops Q l ((d, .pointer (some ⟨b, 0, none⟩)) :: F) (.blk b cs T :: H)) :
    J false P B w0 n ops Q (⟨some d, .box T x, ty, pos, af, none⟩ :: l) F H :=
  J_do _ fun a w ha hw => ⟨_, _, _, _, by simp only [execOp, ha.ev hx, Instr.box, newVar, newRow, hc]; rfl, ha.put (lt_of_blt hd) _, hw.alloc cs T, k w.heap.size⟩
theorem J_alloc {T : TypeId} {z : Value} {cs : List Value} [hZ : Zr P T z] (hc : z.cells = cs.toArray) (hd : Nat.blt d n = true) (k : ∀ b, J false P B w0 n ops Q l ((d, .pointer (some ⟨b, 0, none⟩)) :: F) (.blk b cs T :: H)) :
    J false P B w0 n ops Q (⟨some d, .alloc T, ty, pos, af, none⟩ :: l) F H :=
  J_do _ fun a w ha hw => ⟨_, _, _, _, by simp only [execOp, Instr.alloc, Sem.run_bind, hZ.out w, Result.andThen_ok, newVar, newRow, hc]; rfl, ha.put (lt_of_blt hd) _, hw.alloc cs T, k w.heap.size⟩
theorem storeRun {T : TypeId} {w : World} {b o : Nat} {v : Value} {E : TypeId} {cur : Array Value} {s : Nat} (hs : ∀ w, (sizeOf T).run P w = .ok s w) (hc : v.cells.size = s) (h1 : ∀ u ∈ v.cells.toList, u.oneCell' = true)
    (hg : w.heap[b]? = some (.cells cur E (0, 0))) (hl : o + s ≤ cur.size) : (Instr.storeAt T (.pointer (some ⟨b, o, none⟩)) v).run P w = .ok () (w.setRow b (cur.toList.take o ++ v.cells.toList ++ cur.toList.drop (o + s)).toArray) := by
  have hr := run_storeCells_at P b o E v.cells.toList 0 cur w hg (by simp; omega) h1
  simp only [Instr.storeAt, Instr.sureAddr, Sem.run_bind, Sem.run_pure, Result.andThen_ok, storeVar, hs w, hc, ne_eq, not_true_eq_false, if_false, hr]
  simp [hc]
theorem Holds.setRow {w : World} {b : Nat} {cs cs' : List Value} {E : TypeId} (h : Holds B w0 (H1 ++ .blk b cs E :: H2) w) : Holds B w0 (H1 ++ .blk b cs' E :: H2) (w.setRow b cs'.toArray) := by
  have hb := h.ok (.blk b cs E) (by simp)
  refine h.swap rfl rfl rfl (by simp) (Nat.le_refl _) (fun k _ hk => setRow_other w b k _ (fun e => hk (by simp [It.own, e]))) ⟨hb.1, setRow_heap w b _ _ E _ hb.2⟩ (fun k hk => .inl hk)
/-- A store into a block of the call's own. -/
theorem J_store {T : TypeId} {x y : Operand} {b o s : Nat} {cs cs' : List Value} {E : TypeId} {v : Value} (hs : ∀ w, (sizeOf T).run P w = .ok s w) (hx : ev F x = some (.pointer (some ⟨b, o, none⟩))) (hy : ev F y = some v) (hc : v.cells.size = s) (h1 : ∀ u ∈ v.cells.toList, u.oneCell' = true)
    (hl : o + s ≤ cs.length) (hcs : cs.take o ++ v.cells.toList ++ cs.drop (o + s) = cs') (k : J false P B w0 n ops Q l F (H1 ++ .blk b cs' E :: H2)) :
    J false P B w0 n ops Q (⟨none, .store T x y, ty, pos, af, none⟩ :: l) F (H1 ++ .blk b cs E :: H2) :=
  J_doS fun a w ha hw => by
    have hb := (hw.ok (.blk b cs E) (by simp)).2
    refine ⟨_, H1 ++ .blk b cs' E :: H2, ?_, hw.setRow (cs' := cs'), k⟩
    simp only [execOp, ha.ev hx, ha.ev hy]
    rw [Sem.run_bind, storeRun hs hc h1 hb (by simpa using hl)]
    subst hcs
    rfl
/-- One cell. -/
theorem J_store1 {T : TypeId} {x y : Operand} {b o : Nat} {cs cs' : List Value} {E : TypeId} {v : Value} [hT : IsSc P T] (hx : ev F x = some (.pointer (some ⟨b, o, none⟩))) (hy : ev F y = some v) (hv : v.oneCell' = true)
    (hl : o < cs.length) (hcs : cs.set o v = cs') (k : J false P B w0 n ops Q l F (H1 ++ .blk b cs' E :: H2)) :
    J false P B w0 n ops Q (⟨none, .store T x y, ty, pos, af, none⟩ :: l) F (H1 ++ .blk b cs E :: H2) := by
  have hc : v.cells = #[v] := by cases v <;> first | rfl | cases hv
  refine J_store (s := 1) (fun w => (hT.out w).2) hx hy (by rw [hc]; rfl) (by rw [hc]; simpa using hv) (by omega) ?_ k
  rw [hc, ← hcs, List.set_eq_take_append_cons_drop, if_pos hl]
  simp
/-- The whole block. -/
theorem J_storeW {T : TypeId} {x y : Operand} {b s : Nat} {cs cs' : List Value} {E : TypeId} [hT : IsAg P T s] (hx : ev F x = some (.pointer (some ⟨b, 0, none⟩))) (hy : ev F y = some (.agg cs'.toArray)) (hl : cs.length = s) (hl' : cs'.length = s) (h1 : ∀ u ∈ cs', u.oneCell' = true)
    (k : J false P B w0 n ops Q l F (H1 ++ .blk b cs' E :: H2)) :
    J false P B w0 n ops Q (⟨none, .store T x y, ty, pos, af, none⟩ :: l) F (H1 ++ .blk b cs E :: H2) :=
  J_store (s := s) (sizeOf_run hT.out.1) hx hy (by simpa [Value.cells] using hl') (by simpa [Value.cells] using h1) (by omega) (by simp [Value.cells, List.drop_of_length_le, hl]) k
/-! #### rows behind slices -/
theorem Holds.row_slice {w : World} (h : Holds B w0 H w) {v : Value} {e sz : Nat} {xs : List Value} (hm : It.row v e sz xs ∈ H) : ∃ m, w.ownsRow B e sz v m xs := h.ok _ hm
theorem J_storeR {T e : TypeId} {x y : Operand} {o sz : Nat} {xs xs' : List Value} {v u : Value} [hT : IsSc P T] (hx : ev F x = some (.pointer (some ⟨gb v, o, none⟩))) (hy : ev F y = some u) (hu : u.oneCell' = true) (hl : o < xs.length) (hcs : xs.set o u = xs')
    (k : J false P B w0 n ops Q l F (H1 ++ .row v e sz xs' :: H2)) :
    J false P B w0 n ops Q (⟨none, .store T x y, ty, pos, af, none⟩ :: l) F (H1 ++ .row v e sz xs :: H2) :=
  J_doS fun a w ha hw => by
    obtain ⟨m, hown⟩ := hw.row_slice (v := v) (e := e) (sz := sz) (xs := xs) (by simp)
    obtain ⟨m', cap, hv, hlen, hcell⟩ := hw.row_at (v := v) (e := e) (sz := sz) (xs := xs) (by simp) (by intro e; subst e; simp at hl)
    have hx' := ha.ev hx
    generalize hg : gb v = gg at hv hx' hcell
    have hown' := hown
    rw [hv] at hown'
    have hm : m = m' := by
      rcases hown'.2 with ⟨h, _⟩ | ⟨_, _, _, h, _⟩
      · cases h
      · cases h; rfl
    subst hm
    obtain ⟨hs1, hs2⟩ := hown'.stored o u
    refine ⟨_, H1 ++ .row v e sz xs' :: H2, ?_, hw.swap (w' := w.setCell ⟨gg, o, none⟩ u) hs2.os hs2.tape hs2.output hs2.size (Nat.le_refl _) (fun j hj hne => hs2.block j hj (fun e' => hne (by rw [e']; simp [It.own, hv, Value.ownBlock]))) ⟨m, by rw [← hcs, hv]; exact hs1⟩ (fun j hj => .inl hj), k⟩
    have hc : w.cell? ⟨gg, o, none⟩ = some xs[o] := hcell o _ (by simp [hl])
    have hfz : w.frozen? ⟨gg, o, none⟩ = false := by
      rcases hown'.2 with ⟨h, _⟩ | ⟨g', c', cur, h, _, hh, _⟩
      · cases h
      · cases h; simp [World.frozen?, hh]
    have hcu : u.cells = #[u] := by cases u <;> first | rfl | cases hu
    have hst : (store (⟨gg, o, none⟩ : Addr) u).run P w = .ok () (w.setCell ⟨gg, o, none⟩ u) := by
      rw [run_store P w _ u _ hu, hc]; simp [hfz]
    simp only [execOp, hx', ha.ev hy, Instr.storeAt, Instr.sureAddr, Sem.run_bind, Sem.run_pure, Result.andThen_ok, storeVar, (hT.out w).2, hcu]
    simp only [List.size_toArray, List.length_cons, List.length_nil, Nat.zero_add, ne_eq, not_true_eq_false, if_false, storeCells, Sem.run_bind, add_eq, Nat.add_zero, hst, Result.andThen_ok]
    rfl
theorem row_new {w w' : World} {v : Value} {e sz m : Nat} {xs : List Value} (h : Holds B w0 H w) (hr : w'.ownsRow w.heap.size e sz v m xs) (hb : Blw w.heap.size w w') : Holds B w0 (.row v e sz xs :: H) w' := by
  refine h.new hb _ ⟨m, hr.1, ?_⟩ (fun k hk => (hr.lt k hk).1)
  rcases hr.2 with h2 | ⟨g, cap, cur, h1, h2, h3⟩
  · exact .inl h2
  · exact .inr ⟨g, cap, cur, h1, Nat.le_trans h.size h2, h3⟩
/-- A slice literal, as a row. -/
theorem J_lit {T e : TypeId} {len s by' : Nat} {z : Value} {parts : List (Nat × Operand)} {cells : List Value} [hS : IS P T e s by' z] (hd : Nat.blt d n = true) (hpos : 0 < len * s) (hsmall : len * s ≤ 2 ^ 24) (hlen : len ≤ maxLen)
    (hf : ∀ a, Has n F a → Instr.fill (fun i => some (i * s, s)) ((Array.range (len * s)).map (z.cells[· % z.cells.size]!)) (parts.map fun (i, x) => (i, a.eval x)) = some cells.toArray) (hl : cells.length = len * s)
    (k : ∀ b, J false P B w0 n ops Q l ((d, .slice (some ⟨b, 0, none⟩) len len) :: F) (.row (.slice (some ⟨b, 0, none⟩) len len) e s cells :: H)) :
    J false P B w0 n ops Q (⟨some d, .buildSlice T len parts.toArray, ty, pos, af, none⟩ :: l) F H :=
  J_do _ fun a w ha hw => by
    obtain ⟨hu, i, hi, hsz, hby, hz, hzs⟩ := hS.out
    subst hsz
    have hr := run_buildSlice (P := P) w T e len ((parts.toArray).map fun (i, x) => (i, a.eval x)) cells.toArray i z hu hi hz (by omega) (by omega) (by simpa using hf a ha)
    refine ⟨_, _, _, _, ?_, ha.put (lt_of_blt hd) _, row_new hw (World.ownsRow_lit w cells.toArray len (Nat.le_refl _) hlen (by simpa using hl)) (Blw.alloc (Blw.refl _ _) (Nat.le_refl _) _), by simpa using k w.heap.size⟩
    simp only [execOp]
    rw [Sem.run_bind, hr]; rfl
/-- The empty literal. -/
theorem J_lit0 {T e : TypeId} {s by' : Nat} {z : Value} [hS : IS P T e s by' z] (hd : Nat.blt d n = true)
    (k : ∀ b, J false P B w0 n ops Q l ((d, .slice (some ⟨b, 0, none⟩) 0 0) :: F) (.row (.slice (some ⟨b, 0, none⟩) 0 0) e s [] :: H)) :
    J false P B w0 n ops Q (⟨some d, .buildSlice T 0 #[], ty, pos, af, none⟩ :: l) F H :=
  J_do _ fun a w ha hw => by
    obtain ⟨hu, i, hi, hsz, hby, hz, hzs⟩ := hS.out
    subst hsz
    refine ⟨_, w.alloc (.cells #[] e), _, _, ?_, ha.put (lt_of_blt hd) _, row_new hw (World.ownsRow_lit w #[] 0 (Nat.le_refl _) (Nat.zero_le _) (by simp)) (Blw.alloc (Blw.refl _ _) (Nat.le_refl _) _), k w.heap.size⟩
    simp only [execOp]
    rw [Sem.run_bind]
    simp [Instr.buildSlice, run_underlying hu, sizeOf, typeInfo, hi, Instr.fill, newRow]
    exact congrArg (fun c => w.alloc (.cells c e)) (Array.eq_empty_of_size_eq_zero (by simp))
/-- Where the row behind an append lies: where the old one lay, or in new memory. -/
theorem append_place {w : World} {t ty0 e : TypeId} {i : TypeInfo} {z : Value} {m m2 c2 : Nat} {v v' u0 : Value} {w' : World} {xs ys : List Value} {ad : Addr} (ht : P.underlying t = some (.slice e)) (hi : P.info? e = some i) (hz : i.zero = some z)
    (hown : w.ownsRow B e i.size v m xs) (hlen2 : ys.length = m2 * i.size) (hcell : ∀ j c, ys[j]? = some c → w.cell? (ad.add j) = some c) (h1 : ∀ c ∈ ys, c.oneCell' = true) (hne : ys ≠ []) (hmax : m + m2 ≤ maxLen) (hsum : (m + m2) * i.bytes ≤ 140737488355328)
    (hu0 : u0 = .slice (some ad) m2 c2) (hr : (Builtin.append_ #[t, t] ty0 #[v, u0]).run P w = .ok v' w') : (v'.ownBlock = v.ownBlock ∨ v'.ownBlock = some w.heap.size) ∧ w.drawn ≤ w'.drawn := by
  subst hu0
  have hpos : 0 < m2 := by
    rcases Nat.eq_zero_or_pos m2 with h | h
    · subst h; simp at hlen2; exact absurd hlen2 hne
    · exact h
  have h63 : m + m2 ≤ 9223372036854775807 := by simp only [maxLen] at hmax; omega
  rcases hown.2 with ⟨rfl, rfl⟩ | ⟨gg, cap, cur, rfl, hbg, hg, hnc, hcm, hcs, htake⟩
  · have h := run_append_nil (P := P) w t ty0 e i z ht hi hz ad m2 c2 ys hlen2 hcell hpos (by omega) (by simp only [Nat.zero_add] at hsum; omega)
    rw [hr] at h
    injection h with h hw
    subst h hw
    exact ⟨.inr rfl, Nat.le_succ _⟩
  · by_cases hroom : m + m2 ≤ cap
    · have hfit : m * i.size + ys.length ≤ cur.size := by rw [hlen2, hcs, ← Nat.add_mul]; exact Nat.mul_le_mul_right _ hroom
      have h := run_append_room (P := P) w t ty0 e i ht hi gg m cap cur hg ad m2 c2 ys hlen2 hcell h1 hroom hfit
      rw [hr] at h
      injection h with h hw
      subst h hw
      exact ⟨.inl rfl, Nat.le_refl _⟩
    · have holds : ∀ j c, xs[j]? = some c → w.cell? ((⟨gg, 0, none⟩ : Addr).add j) = some c := hown.cells (g := gg) rfl
      have h := run_append_grow (P := P) w t ty0 e i z ht hi hz ⟨gg, 0, none⟩ m cap xs hown.1 holds ad m2 c2 ys hlen2 hcell (by omega) (by omega) (growslice_fits (by omega) hsum)
      rw [hr] at h
      injection h with h hw
      subst h hw
      exact ⟨.inr rfl, Nat.le_succ _⟩
/-- The same, x any row. -/
theorem J_appendW {T e : TypeId} {x y : Operand} {s by' : Nat} {z : Value} {v u : Value} {xs ys zs : List Value} [hS : IS P T e s by' z] (hpos : 0 < s) (hd : Nat.blt d n = true) (hx : ev F x = some v) (hy : ev F y = some u)
    (hm' : It.row u e s ys ∈ H1 ++ .row v e s xs :: H2) (hne : ys ≠ []) (h1 : ∀ c ∈ ys, c.oneCell' = true) (hby : (xs.length + ys.length) * by' ≤ 140737488355328) (hby0 : 0 < by') (hzs : xs ++ ys = zs)
    (k : ∀ v', J false P B w0 n ops Q l ((d, v') :: F) (H1 ++ .row v' e s zs :: H2)) :
    J false P B w0 n ops Q (⟨some d, .call { callee := .builtin .append, args := #[x, y], argTypes := #[T, T] }, ty, pos, af, none⟩ :: l) F (H1 ++ .row v e s xs :: H2) :=
  J_do _ fun a w ha hw => by
    subst hzs
    obtain ⟨hu, i, hi, hsz, hby1, hz, hzc⟩ := hS.out
    obtain ⟨m, hown⟩ := hw.row_slice (v := v) (e := e) (sz := s) (xs := xs) (by simp)
    obtain ⟨m2, c2, hu2, hlen2, hcell⟩ := hw.row_at hm' hne
    have hy' := ha.ev hy
    rw [hu2] at hy'
    generalize gb u = gg at hu2 hcell hy'
    have hmle : m ≤ xs.length := by rw [hown.1]; exact Nat.le_mul_of_pos_right m hpos
    have hm2le : m2 ≤ ys.length := by rw [hlen2]; exact Nat.le_mul_of_pos_right m2 hpos
    have hsum : (m + m2) * by' ≤ 140737488355328 := Nat.le_trans (Nat.mul_le_mul_right _ (Nat.add_le_add hmle hm2le)) hby
    have hmax : m + m2 ≤ maxLen := by
      have : m + m2 ≤ (m + m2) * by' := Nat.le_mul_of_pos_right _ hby0
      simp only [maxLen]; omega
    obtain ⟨v', w', hr, ho, hg, _⟩ := run_append_own (P := P) w B T ty e i z s by' hu hi hz hsz hby1 hzc hpos v m xs hown ⟨gg, 0, none⟩ m2 c2 ys hlen2 (fun j c hc => by rw [add_eq, Nat.zero_add]; exact hcell j c hc) h1 hmax hsum hw.size
    refine ⟨v', w', _, H1 ++ .row v' e s (xs ++ ys) :: H2, ?_, ha.put (lt_of_blt hd) _, ?_, k v'⟩
    · simp only [execOp, resolve, invoke, builtin, Sem.run_bind, Sem.run_pure, Result.andThen_ok, List.map_toArray, List.map_cons, List.map_nil, ha.ev hx, hy']
      rw [hr]; rfl
    · subst hsz
      subst hby1
      obtain ⟨hpl, hdr⟩ := append_place hu hi hz hown hlen2 (fun j c hc => by rw [add_eq, Nat.zero_add]; exact hcell j c hc) h1 hne hmax hsum rfl hr
      refine hw.swap hg.os hg.tape hg.output hg.size hdr (fun j hj hne' => hg.block j hj hne') ⟨_, ho⟩ (fun j hj => ?_)
      rcases hpl with h | h
      · exact .inl (by rw [show It.own (.row v e i.size xs) = v.ownBlock from rfl, ← h]; exact hj)
      · have hj' : v'.ownBlock = some j := hj
        rw [h] at hj'
        cases hj'
        exact .inr (Nat.le_refl _)
theorem JC_nilrow {c : Code} {e sz : Nat} (k : JC P B w0 n c Q F (.row (.slice none 0 0) e sz [] :: H)) : JC P B w0 n c Q F H := fun a w ha hw =>
  k a w ha (hw.new (Blw.refl _ _) _ ⟨0, World.ownsRow_nil w B e sz⟩ (fun k hk => by simp [It.own, Value.ownBlock] at hk))
/-! #### the same by the item's place -/
/-! #### calls that hand back new memory -/
/-- What a call hands back: a value and items in new memory, of which N tells; all that was there is as it was. -/
def GivesN (P : Program) (f : FuncId) (args : Array Value) (N : Value → Hp → Prop) (w : World) : Prop :=
  Calls P f args w fun e w' => ∃ v its, e = .returned v ∧ N v its ∧ Holds w.heap.size w its w'
/-- No cells that were there before. -/
def It.mine : It → Bool
  | .rd _ _ _ => false
  | _ => true
theorem Holds.join {w w' : World} {its : Hp} (h : Holds B w0 H w) (k : Holds w.heap.size w its w') (hmine : ∀ x, x ∈ its → x.mine = true) : Holds B w0 (its ++ H) w' := by
  have hg := h.grow k.below
  refine ⟨hg.below, hg.base, fun x hx => ?_, ?_⟩
  · rcases List.mem_append.1 hx with hx | hx
    · have hk := k.ok x hx
      cases x with
      | blk a cs T => exact ⟨Nat.le_trans h.size hk.1, hk.2⟩
      | obj a o => exact ⟨Nat.le_trans h.size hk.1, hk.2⟩
      | row v e sz xs =>
        obtain ⟨m, h1, h2⟩ := hk
        refine ⟨m, h1, ?_⟩
        rcases h2 with h2 | ⟨g, cap, cur, h2, h3, h4⟩
        · exact .inl h2
        · exact .inr ⟨g, cap, cur, h2, Nat.le_trans h.size h3, h4⟩
      | rd a off cs => exact absurd (hmine _ hx) (by simp [It.mine])
    · exact hg.ok x hx
  · unfold owned
    rw [List.filterMap_append]
    refine List.nodup_append.2 ⟨k.apart, h.apart, fun a ha b hb e => ?_⟩
    subst e
    obtain ⟨x, hx, hxo⟩ := List.mem_filterMap.1 ha
    obtain ⟨y, hy, hyo⟩ := List.mem_filterMap.1 hb
    have h1 := (It.ok_lt (k.ok x hx) a hxo).1
    have h2 := (It.ok_lt (h.ok y hy) a hyo).2
    omega
theorem Jz {dr : Bool} {T : TypeId} {cells : Array Value} {cs : List Value} [hZ : BZ P T cells] (hdn : Nat.blt d n = true) (h : cells = cs.toArray) (kk : J dr P B w0 n ops Q l ((d, .agg cs.toArray) :: F) H) : J dr P B w0 n ops Q (⟨some d, .build T #[], ty, pos, af, none⟩ :: l) F H := by
  subst h; exact J_q hdn q_build0 kk
theorem Jc {dr : Bool} {f : Operand} {xs : List Operand} {Ts : Array TypeId} {k : FuncId} {args : List Value} {v : Value} (hdn : Nat.blt d n = true) (hf : ev F f = some (.func (.func k) #[] #[])) (hxs : evs F xs = some args) (hk : Runs P k)
    (h : ∀ w, Holds B w0 H w → Gives P k args.toArray v w) (kk : J dr P B w0 n ops Q l ((d, v) :: F) H) : J dr P B w0 n ops Q (⟨some d, .call { callee := .value f, args := xs.toArray, argTypes := Ts }, ty, pos, af, none⟩ :: l) F H := J_q hdn (q_call0 hf hxs h) kk
theorem J_callN {f : Operand} {xs : List Operand} {Ts : Array TypeId} {k : FuncId} {args : List Value} {caps : Array Value} {N : Value → Hp → Prop} [hk : Runs P k] (hd : Nat.blt d n = true) (hf : ev F f = some (.func (.func k) #[] caps)) (hxs : evs F xs = some args)
    (h : ∀ w, Holds B w0 H w → GivesN P k (args ++ caps.toList).toArray N w) (hmine : ∀ v its, N v its → ∀ x, x ∈ its → x.mine = true)
    (K : ∀ v its, N v its → J false P B w0 n ops Q l ((d, v) :: F) (its ++ H)) :
    J false P B w0 n ops Q (⟨some d, .call { callee := .value f, args := xs.toArray, argTypes := Ts }, ty, pos, af, none⟩ :: l) F H := fun a w ha hw => by
  refine wpList_plain rfl fun K' hK => ?_
  unfold Oper.wp
  rw [run_call ha hf hxs w]
  refine (h w hw).mono ?_
  rintro e w' ⟨v, its, rfl, hN, hh⟩
  exact hK _ _ (K v its hN _ w' (ha.put (lt_of_blt hd) v) (hw.join hh (hmine v its hN)))
theorem JcN {f : Operand} {xs : List Operand} {Ts : Array TypeId} {k : FuncId} {args : List Value} {caps : Array Value} {N : Value → Hp → Prop} (hd : Nat.blt d n = true) (hf : ev F f = some (.func (.func k) #[] caps)) (hxs : evs F xs = some args) (hk : Runs P k)
    (h : ∀ w, Holds B w0 H w → GivesN P k (args ++ caps.toList).toArray N w) (hmine : ∀ v its, N v its → ∀ x, x ∈ its → x.mine = true)
    (K : ∀ v its, N v its → J false P B w0 n ops Q l ((d, v) :: F) (its ++ H)) :
    J false P B w0 n ops Q (⟨some d, .call { callee := .value f, args := xs.toArray, argTypes := Ts }, ty, pos, af, none⟩ :: l) F H := J_callN hd hf hxs h hmine K
/-! #### results -/
theorem results1 {fn : Func} {t : Tmp} (h : fn.results = #[.tmp t]) {a : Act} (ha : Has n F a) {v : Value} (hv : look F t = some v) (w : World) : (results fn a.tmps).run P w = .ok v w := by
  rw [results_tmp h, ha.look t v hv]
theorem results2 {fn : Func} {t u : Tmp} (h : fn.results = #[.tmp t, .tmp u]) {a : Act} (ha : Has n F a) {v v' : Value} (hv : look F t = some v) (hv' : look F u = some v') (w : World) : (results fn a.tmps).run P w = .ok (.tuple #[v, v']) w := by
  rw [results_tmp2 h, ha.look t v hv, ha.look u v' hv']
theorem loadVarAg {T : TypeId} {s : Nat} [hT : IsAg P T s] {w : World} {b : Nat} {cs : List Value} {E : TypeId} (hw : Holds B w0 H w) (hm : It.blk b cs E ∈ H) (hl : cs.length = s) : (loadVar T ⟨b, 0, none⟩).run P w = .ok (.agg cs.toArray) w := by
  have h := loadAg (P := P) (T := T) (w := w) (b := b) (o := 0) (ds := cs) hl (fun j v hj => by rw [Nat.zero_add]; exact cell_of_blk (hw.blk hm) hj)
  simpa only [Instr.loadAt, Instr.sureAddr, Sem.run_bind, Sem.run_pure, Result.andThen_ok] using h
theorem resultsC {fn : Func} {t : Tmp} {T : TypeId} {s : Nat} (h : fn.results = #[.cell t T]) [hT : IsAg P T s] {a : Act} (ha : Has n F a) {b : Nat} {cs : List Value} {E : TypeId} (hv : look F t = some (.pointer (some ⟨b, 0, none⟩))) {w : World} (hw : Holds B w0 H w) (hm : It.blk b cs E ∈ H) (hl : cs.length = s) :
    (results fn a.tmps).run P w = .ok (.agg cs.toArray) w := by
  have e1 := ha.look t _ hv
  simp only [Array.getD_eq_getD_getElem?] at e1
  simp [results, h, e1, asAddr, loadVarAg hw hm hl]
theorem resultsCT {fn : Func} {t u : Tmp} {T : TypeId} {s : Nat} (h : fn.results = #[.cell t T, .tmp u]) [hT : IsAg P T s] {a : Act} (ha : Has n F a) {b : Nat} {cs : List Value} {E : TypeId} {v' : Value} (hv : look F t = some (.pointer (some ⟨b, 0, none⟩))) (hv' : look F u = some v') {w : World} (hw : Holds B w0 H w) (hm : It.blk b cs E ∈ H) (hl : cs.length = s) :
    (results fn a.tmps).run P w = .ok (.tuple #[.agg cs.toArray, v']) w := by
  have e1 := ha.look t _ hv
  have e2 := ha.look u _ hv'
  simp only [Array.getD_eq_getD_getElem?] at e1 e2
  simp [results, h, e1, e2, asAddr, loadVarAg hw hm hl]
end
end Go.Proofs.YtmbbcmebdefggaaGreatDoor.SL

namespace Go.Proofs.YtmbbcmebdefggaaGreatDoor.SL
open Go Go.RowKit
/-- At a function's end: its results read v. -/
def givesQ (P : Program) (w : World) (n : Nat) (fn : Func) (v : Value) : Po := fun e F H => match e with
  | .normal | .ret => ∀ a w', Has n F a → Holds w.heap.size w H w' → (results fn a.tmps).run P w' = .ok v w'
  | _ => False
/-- At a function's end: its results read some v, and there are items of new memory, of which N tells. -/
def nQ (P : Program) (w : World) (n : Nat) (fn : Func) (N : Value → Hp → Prop) : Po := fun e F H => match e with
  | .normal | .ret => ∀ a w', Has n F a → Holds w.heap.size w H w' → ∃ v its, (results fn a.tmps).run P w' = .ok v w' ∧ N v its ∧ Holds w.heap.size w its w'
  | _ => False
section
variable {P : Program} {w : World} {n : Nat} {fn : Func} {F : Fr} {H : Hp}
theorem gives_of {f : FuncId} {c : Code} {args : List Value} {v : Value} (F : Fr) (H : Hp) (hf : P.funcs[f]? = some fn) (hb : fn.body = some c) (hn : fn.ntmps = n) (hlen : Nat.ble args.length n = true) (hF : ∀ t v, look F t = some v → args[t]? = some v)
    (hH : Holds w.heap.size w H w) (h : JC P w.heap.size w n c (givesQ P w n fn v) F H) : Gives P f args.toArray v w := by
  refine calls_of F H hf hb hn (Nat.le_of_ble_eq_true hlen) hF hH (JC_mono h fun e F' H' q => ?_)
  cases e with
  | normal => exact fun a w' ha hw => ⟨v, q a w' ha hw, rfl, hw.below⟩
  | ret => exact fun a w' ha hw => ⟨v, q a w' ha hw, rfl, hw.below⟩
  | _ => exact q.elim
theorem givesN_of {f : FuncId} {c : Code} {args : List Value} {N : Value → Hp → Prop} (F : Fr) (H : Hp) (hf : P.funcs[f]? = some fn) (hb : fn.body = some c) (hn : fn.ntmps = n) (hlen : Nat.ble args.length n = true) (hF : ∀ t v, look F t = some v → args[t]? = some v)
    (hH : Holds w.heap.size w H w) (h : JC P w.heap.size w n c (nQ P w n fn N) F H) : GivesN P f args.toArray N w := by
  refine calls_of F H hf hb hn (Nat.le_of_ble_eq_true hlen) hF hH (JC_mono h fun e F' H' q => ?_)
  cases e with
  | normal => exact fun a w' ha hw => let ⟨v, its, h1, h2, h3⟩ := q a w' ha hw; ⟨v, h1, v, its, rfl, h2, h3⟩
  | ret => exact fun a w' ha hw => let ⟨v, its, h1, h2, h3⟩ := q a w' ha hw; ⟨v, h1, v, its, rfl, h2, h3⟩
  | _ => exact q.elim
variable {v : Value} {e : Exit}
/-- An end: by 'ret', or behind the last statement. -/
def isEnd : Exit → Bool
  | .normal | .ret => true
  | _ => false
theorem givesQ_mk (he : isEnd e = true) (h : ∀ a w', Has n F a → Holds w.heap.size w H w' → (results fn a.tmps).run P w' = .ok v w') : givesQ P w n fn v e F H := by
  cases e <;> first | exact h | cases he
theorem g1 {t : Tmp} {v' : Value} (he : isEnd e = true) (h : fn.results = #[.tmp t]) (hv : look F t = some v') (hvv : v' = v) : givesQ P w n fn v e F H :=
  givesQ_mk he fun _ w' ha _ => by subst hvv; exact results1 h ha hv w'
theorem gC {t : Tmp} {T : TypeId} {s b : Nat} {cs : List Value} {E : TypeId} [IsAg P T s] (he : isEnd e = true) (h : fn.results = #[.cell t T]) (hv : look F t = some (.pointer (some ⟨b, 0, none⟩))) (hm : It.blk b cs E ∈ H) (hl : cs.length = s) (hvv : Value.agg cs.toArray = v) : givesQ P w n fn v e F H :=
  givesQ_mk he fun _ _ ha hw => by subst hvv; exact resultsC h ha hv hw hm hl
theorem gCT {t u : Tmp} {T : TypeId} {s b : Nat} {cs : List Value} {E : TypeId} {v' : Value} [IsAg P T s] (he : isEnd e = true) (h : fn.results = #[.cell t T, .tmp u]) (hv : look F t = some (.pointer (some ⟨b, 0, none⟩))) (hv' : look F u = some v') (hm : It.blk b cs E ∈ H) (hl : cs.length = s) (hvv : Value.tuple #[.agg cs.toArray, v'] = v) : givesQ P w n fn v e F H :=
  givesQ_mk he fun _ _ ha hw => by subst hvv; exact resultsCT h ha hv hv' hw hm hl
theorem nQ_mk {N : Value → Hp → Prop} (he : isEnd e = true) (h : ∀ a w', Has n F a → Holds w.heap.size w H w' → ∃ v its, (results fn a.tmps).run P w' = .ok v w' ∧ N v its ∧ Holds w.heap.size w its w') : nQ P w n fn N e F H := by
  cases e <;> first | exact h | cases he
theorem n1 {N : Value → Hp → Prop} {t : Tmp} {its : Hp} (he : isEnd e = true) (h : fn.results = #[.tmp t]) (hv : look F t = some v) (hi : Ent [] H [] its) (hN : N v its) : nQ P w n fn N e F H :=
  nQ_mk he fun _ w' ha hw => ⟨v, its, results1 h ha hv w', hN, hi.holds hw⟩
end
/-- One row behind a slice. -/
def isRow (e sz : Nat) (xs : List Value) (v : Value) (its : Hp) : Prop := its = [.row v e sz xs]
theorem isRow_mine {e sz : Nat} {xs : List Value} (v : Value) (its : Hp) (h : isRow e sz xs v its) : ∀ x, x ∈ its → x.mine = true := by
  subst h; simp [It.mine]
/-! #### items found by their block, or slice, by instances -/
/-- The block b among the items. -/
class MB (b : Nat) (H : Hp) (cs : outParam (List Value)) (E : outParam TypeId) : Prop where
  out : It.blk b cs E ∈ H
instance MB_0 {b : Nat} {H : Hp} {cs : List Value} {E : TypeId} : MB b (.blk b cs E :: H) cs E := ⟨m0⟩
instance (priority := low) MB_S {b : Nat} {H : Hp} {cs : List Value} {E : TypeId} {x : It} [h : MB b H cs E] : MB b (x :: H) cs E := ⟨mS h.out⟩
theorem mb {b : Nat} {H : Hp} {cs : List Value} {E : TypeId} [h : MB b H cs E] : It.blk b cs E ∈ H := h.out
/-- The row behind v among the items. -/
class RB (v : Value) (H : Hp) (e sz : outParam Nat) (xs : outParam (List Value)) : Prop where
  out : It.row v e sz xs ∈ H
instance RB_0 {v : Value} {H : Hp} {e sz : Nat} {xs : List Value} : RB v (.row v e sz xs :: H) e sz xs := ⟨m0⟩
instance (priority := low) RB_S {v : Value} {H : Hp} {e sz : Nat} {xs : List Value} {x : It} [h : RB v H e sz xs] : RB v (x :: H) e sz xs := ⟨mS h.out⟩
theorem rb {v : Value} {H : Hp} {e sz : Nat} {xs : List Value} [h : RB v H e sz xs] : It.row v e sz xs ∈ H := h.out
/-- The block's cells turned. -/
class MU (b : Nat) (H : Hp) (cs : outParam (List Value)) (E : outParam TypeId) (cs' : List Value) (H' : outParam Hp) : Prop where
  out : ∃ H1 H2, H = H1 ++ It.blk b cs E :: H2 ∧ H' = H1 ++ It.blk b cs' E :: H2
instance MU_0 {b : Nat} {H : Hp} {cs cs' : List Value} {E : TypeId} : MU b (.blk b cs E :: H) cs E cs' (.blk b cs' E :: H) := ⟨[], H, rfl, rfl⟩
instance (priority := low) MU_S {b : Nat} {H H' : Hp} {cs cs' : List Value} {E : TypeId} {x : It} [h : MU b H cs E cs' H'] : MU b (x :: H) cs E cs' (x :: H') := ⟨by
  obtain ⟨H1, H2, rfl, rfl⟩ := h.out
  exact ⟨x :: H1, H2, rfl, rfl⟩⟩
/-- The row turned, behind another slice maybe. -/
class RF (v : Value) (H : Hp) (e sz : outParam Nat) (xs : outParam (List Value)) (H' : outParam (Value → List Value → Hp)) : Prop where
  out : ∃ H1 H2, H = H1 ++ It.row v e sz xs :: H2 ∧ ∀ v' xs', H' v' xs' = H1 ++ It.row v' e sz xs' :: H2
instance RF_0 {v : Value} {H : Hp} {e sz : Nat} {xs : List Value} : RF v (.row v e sz xs :: H) e sz xs (fun v' xs' => .row v' e sz xs' :: H) := ⟨[], H, rfl, fun _ _ => rfl⟩
instance (priority := low) RF_S {v : Value} {H : Hp} {H' : Value → List Value → Hp} {e sz : Nat} {xs : List Value} {x : It} [h : RF v H e sz xs H'] : RF v (x :: H) e sz xs (fun v' xs' => x :: H' v' xs') := ⟨by
  obtain ⟨H1, H2, rfl, h2⟩ := h.out
  exact ⟨x :: H1, H2, rfl, fun v' xs' => by rw [h2]; rfl⟩⟩
section
variable {P : Program} {B : Nat} {w0 : World} {n : Nat} {Q : Po} {F : Fr} {H H' : Hp} {ops : Array Oper} {l : List Oper} {ty : TypeId} {pos : String} {af : Array Edge} {d : Nat}
theorem J_s1 {T : TypeId} {x y : Operand} {b o : Nat} {cs cs' : List Value} {E : TypeId} {v : Value} [hT : IsSc P T] (hx : ev F x = some (.pointer (some ⟨b, o, none⟩))) (hy : ev F y = some v) (hv : v.oneCell' = true) (_hm : MB b H cs E)
    (hl : o < cs.length) (hcs : cs.set o v = cs') (hu : MU b H cs E cs' H') (k : J false P B w0 n ops Q l F H') : J false P B w0 n ops Q (⟨none, .store T x y, ty, pos, af, none⟩ :: l) F H := by
  obtain ⟨H1, H2, rfl, rfl⟩ := hu.out
  exact J_store1 hx hy hv hl hcs k
theorem J_sW {T : TypeId} {x y : Operand} {b s : Nat} {cs cs' : List Value} {E : TypeId} [hT : IsAg P T s] (hx : ev F x = some (.pointer (some ⟨b, 0, none⟩))) (hy : ev F y = some (.agg cs'.toArray)) (_hm : MB b H cs E) (hl : cs.length = s) (hl' : cs'.length = s) (h1 : ∀ u ∈ cs', u.oneCell' = true)
    (hu : MU b H cs E cs' H') (k : J false P B w0 n ops Q l F H') : J false P B w0 n ops Q (⟨none, .store T x y, ty, pos, af, none⟩ :: l) F H := by
  obtain ⟨H1, H2, rfl, rfl⟩ := hu.out
  exact J_storeW hx hy hl hl' h1 k
theorem J_sP {T : TypeId} {x y : Operand} {b o s : Nat} {cs cs' ds : List Value} {E : TypeId} (hT : IsAg P T s) (hx : ev F x = some (.pointer (some ⟨b, o, none⟩))) (hy : ev F y = some (.agg ds.toArray)) (hc : ds.length = s) (h1 : ∀ u ∈ ds, u.oneCell' = true) (_hm : MB b H cs E)
    (hl : o + s ≤ cs.length) (hcs : cs.take o ++ (Value.agg ds.toArray).cells.toList ++ cs.drop (o + s) = cs') (hu : MU b H cs E cs' H') (k : J false P B w0 n ops Q l F H') : J false P B w0 n ops Q (⟨none, .store T x y, ty, pos, af, none⟩ :: l) F H := by
  obtain ⟨H1, H2, rfl, rfl⟩ := hu.out
  exact J_store (sizeOf_run hT.out.1) hx hy (by simpa [Value.cells] using hc) (by simpa [Value.cells] using h1) hl hcs k
theorem J_sR {T e : TypeId} {x y : Operand} {o sz : Nat} {xs xs' : List Value} {v u : Value} {H' : Value → List Value → Hp} [hT : IsSc P T] (hx : ev F x = some (.pointer (some ⟨gb v, o, none⟩))) (hy : ev F y = some u) (hu1 : u.oneCell' = true) (hu : RF v H e sz xs H') (hl : o < xs.length) (hcs : xs.set o u = xs')
    (k : J false P B w0 n ops Q l F (H' v xs')) : J false P B w0 n ops Q (⟨none, .store T x y, ty, pos, af, none⟩ :: l) F H := by
  obtain ⟨H1, H2, rfl, h2⟩ := hu.out
  rw [h2] at k
  exact J_storeR hx hy hu1 hl hcs k
theorem J_ap {T e : TypeId} {x y : Operand} {s by' : Nat} {z : Value} {v u : Value} {xs ys zs : List Value} {H' : Value → List Value → Hp} [hS : IS P T e s by' z] (hpos : 0 < s) (hd : Nat.blt d n = true) (hx : ev F x = some v) (hy : ev F y = some u)
    (hu : RF v H e s xs H') (hm : It.row u e s ys ∈ H) (hne : ys ≠ []) (h1 : ∀ c ∈ ys, c.oneCell' = true) (hby : (xs.length + ys.length) * by' ≤ 140737488355328) (hby0 : 0 < by') (hzs : xs ++ ys = zs)
    (k : ∀ v', J false P B w0 n ops Q l ((d, v') :: F) (H' v' zs)) :
    J false P B w0 n ops Q (⟨some d, .call { callee := .builtin .append, args := #[x, y], argTypes := #[T, T] }, ty, pos, af, none⟩ :: l) F H := by
  obtain ⟨H1, H2, rfl, h2⟩ := hu.out
  exact J_appendW hpos hd hx hy hm hne h1 hby hby0 hzs fun v' => by
    have := k v'
    rw [h2] at this
    exact this
end
attribute [irreducible] OpQ J JC thenQ inBlockQ givesQ nQ Gives GivesN lift
end Go.Proofs.YtmbbcmebdefggaaGreatDoor.SL
