/- Regions that draw their order and make memory: quiet operations are taken first, the others come up in every order. -/
import Derived.Test.YtmbbcmebdefggaaGreatDoorSlT
namespace Go.Proofs.YtmbbcmebdefggaaGreatDoor
open Go Go.RowKit
namespace SL
section
variable {P : Program} {B : Nat} {w0 : World} {n : Nat} {Q : Po} {F : Fr} {H Hs : Hp} {ops : Array Oper} {md : Region.Mode}
def Q0 : Exit → Act → World → Prop := fun _ _ _ => False
theorem Oper.wp_Q {o : Oper} {a : Act} {w : World} {K : Act → World → Prop} {Q Q' : Exit → Act → World → Prop} (h : ∀ e a w, e ≠ .normal → Q e a w → Q' e a w) (hh : o.wp P a w K Q) : o.wp P a w K Q' := by
  unfold Oper.wp at *
  generalize (execOp a.eval o).run P w = r at *
  cases r with
  | ok n w' =>
    cases n <;> simp only [Oper.upon] at hh ⊢ <;>
      first
        | exact hh
        | exact Calls.mono hh (fun e w'' he => by
            cases e with
            | returned v => exact he
            | panicked c => exact h _ _ _ (by simp) he
            | outgrown => exact let ⟨a, w, q⟩ := he; ⟨a, w, h _ _ _ (by simp) q⟩)
  | halt x w' =>
    cases x <;> simp only [Oper.upon] at hh ⊢
    case panic v => exact h _ _ _ (by simp) hh
theorem wpOp_Q {i : Nat} {a : Act} {w : World} {K : Act → World → Prop} {Q Q' : Exit → Act → World → Prop} (h : ∀ e a w, e ≠ .normal → Q e a w → Q' e a w) (hh : wpOp P ops Q i K a w) : wpOp P ops Q' i K a w := by
  unfold wpOp at *
  split
  · rename_i ho; simp only [ho] at hh; exact hh
  · rename_i o ho
    simp only [ho] at hh
    split
    · rename_i hw
      simp only [hw, if_true] at hh
      exact hh.imp (Oper.wp_Q h) (fun ⟨p, a, w, q⟩ => ⟨p, a, w, h _ _ _ (by simp) q⟩)
    · rename_i hw; simp only [hw] at hh; exact hh
def YieldsE (P : Program) (ops : Array Oper) (B : Nat) (w0 : World) (Hs : Hp) (o : Oper) (v : Value) (a : Act) : Prop := ∀ E : Hp, (∀ x, x ∈ Hs → x ∈ E) → YieldsIn P ops (Holds B w0 E) o v a
theorem YieldsE.of_same {o : Oper} {v : Value} {a a' : Act} (hy : YieldsE P ops B w0 Hs o v a) (he : execOp a'.eval o = execOp a.eval o)
    (hw : Region.wanted o (yielded ops a'.tmps) = Region.wanted o (yielded ops a.tmps)) : YieldsE P ops B w0 Hs o v a' := fun E hE => (hy E hE).of_same he hw
theorem wpOp_putE {j : Nat} {oi oj : Oper} {v : Value} (hj : ops[j]? = some oj) (hap : oi.apart ops oj = true)
    (hsi : ∀ cs b, oi.op ≠ .select cs b) (hsj : ∀ cs b, oj.op ≠ .select cs b) {K : Act → World → Prop} {a : Act} {w : World}
    (hy : YieldsE P ops B w0 Hs oi v a) (h : wpOp P ops Q0 j K (a.put oi.dst v) w) :
    wpOp P ops Q0 j (fun a' w' => YieldsE P ops B w0 Hs oi v a' ∧ K (a'.put oi.dst v) w') a w := by
  obtain ⟨h1, h2, h3⟩ := Oper.apart_spec hap
  have keep : ∀ (a : Act), YieldsE P ops B w0 Hs oi v a → ∀ u, YieldsE P ops B w0 Hs oi v (a.put oj.dst u) := fun a hy u =>
    hy.of_same (execOp_put oi hsi a oj.dst u h3) (wanted_put oi a oj.dst u h3)
  have keepD : ∀ d, YieldsE P ops B w0 Hs oi v { a with defers := d :: a.defers } := fun d => hy.of_same rfl rfl
  unfold wpOp at *
  simp only [hj] at *
  rw [wanted_put oj a oi.dst v h1] at h
  split
  · rename_i hw
    simp only [hw, if_true] at h
    rcases h with h | ⟨_, _, _, hF⟩
    case inr => exact hF.elim
    refine .inl ?_
    unfold Oper.wp at *
    rw [execOp_put oj hsj a oi.dst v h1] at h
    generalize (execOp a.eval oj).run P w = r at *
    cases r with
    | ok n w' =>
      cases n <;> simp only [Oper.upon] at h ⊢
      case value u => exact ⟨keep a hy u, by rw [← Act.put_comm a v u h2]; exact h⟩
      case skip => exact ⟨keep a hy _, by rw [← Act.put_comm a v undef h2]; exact h⟩
      case defer d =>
        refine ⟨keep _ (keepD d) _, ?_⟩
        rw [← Act.put_comm _ v undef h2, ← Act.put_defers]
        exact h
      case enter f args =>
        refine Calls.mono h fun e w'' he => ?_
        cases e with
        | returned u => exact ⟨keep a hy u, by rw [← Act.put_comm a v u h2]; exact he⟩
        | panicked c => exact he
        | outgrown => exact he
      case row row args => exact Rows.mono h fun u w'' he => ⟨keep a hy u, by rw [← Act.put_comm a v u h2]; exact he⟩
    | halt x w' =>
      cases x <;> simp only [Oper.upon] at h ⊢
      case panic u => exact h
  · rename_i hw
    simp only [hw] at h
    exact ⟨keep a hy _, by rw [← Act.put_comm a v undef h2]; exact h⟩
theorem YieldsE.wpOp {i : Nat} {o : Oper} {v : Value} {a : Act} (hi : ops[i]? = some o) (hy : YieldsE P ops B w0 Hs o v a) (hH : ∀ x, x ∈ Hs → x ∈ H) {K : Act → World → Prop} {w : World} (hw : Holds B w0 H w)
    (h : ∀ w', Holds B w0 H w' → K (a.put o.dst v) w') : wpOp P ops Q0 i K a w :=
  wpOp_of_qOp (C := Holds B w0 H) (K := fun a' => a' = a.put o.dst v) hw (fun a' w' hw' e => by subst e; exact h w' hw') ((hy H hH).qOp hi rfl)
/-- Whatever order is picked from here on, from any world of which H tells; what Hs tells stays. -/
def JA (P : Program) (md : Region.Mode) (ops : Array Oper) (B : Nat) (w0 : World) (Hs : Hp) (R : Act → Hp → Prop) : Nat → Array Bool → Act → Hp → Prop
  | 0, listed, a, H => Region.ready md ops listed = [] ∧ R a H
  | k + 1, listed, a, H => (Region.ready md ops listed = [] → R a H) ∧ ∀ j, j ∈ Region.ready md ops listed → ∀ w, Holds B w0 H w →
      wpOp P ops Q0 j (fun a' w' => ∃ H', (∀ x, x ∈ Hs → x ∈ H') ∧ JA P md ops B w0 Hs R k (listed.setIfInBounds j true) a' H' ∧ Holds B w0 H' w') a w
theorem wpAny_of_JA {R : Act → Hp → Prop} {Q : Exit → Act → World → Prop} (hR : ∀ a H w, R a H → Holds B w0 H w → Q .normal a w) : ∀ (k : Nat) (listed : Array Bool) (a : Act) (H : Hp) (w : World), JA P md ops B w0 Hs R k listed a H → Holds B w0 H w → wpAny P md ops Q k listed a w
  | 0, _, _, _, _, h, hw => ⟨h.1, hR _ _ _ h.2 hw⟩
  | k + 1, _, _, _, w, h, hw => ⟨fun h0 => hR _ _ _ (h.1 h0) hw, fun j hj => wpOp_Q (fun _ _ _ _ hF => hF.elim) (wpOp_mono (fun a' w' ⟨H', _, h', hw'⟩ => wpAny_of_JA hR k _ a' H' w' h' hw') (h.2 j hj w hw))⟩
theorem JA_first {R : Act → Hp → Prop} {i : Nat} {oi : Oper} {v : Value} (hi : ops[i]? = some oi) (hsel : ∀ (j : Nat) (o : Oper) cs b, ops[j]? = some o → o.op ≠ .select cs b) :
    ∀ (k : Nat) (listed : Array Bool) (a : Act) (H : Hp),
      (∀ j oj, ops[j]? = some oj → j ≠ i → listed.getD j true = false → (∀ e ∈ oj.after, Region.binds md e = true → e.on ≠ i) → oi.apart ops oj = true) →
      i ∈ Region.ready md ops listed → (∀ x, x ∈ Hs → x ∈ H) → YieldsE P ops B w0 Hs oi v a →
      JA P md ops B w0 Hs R k (listed.setIfInBounds i true) (a.put oi.dst v) H → JA P md ops B w0 Hs R (k + 1) listed a H := by
  intro k
  induction k with
  | zero =>
    intro listed a H _ hr hH hy h
    refine ⟨fun h0 => (by rw [h0] at hr; cases hr), fun j hj w hw => ?_⟩
    by_cases hji : j = i
    · subst hji; exact hy.wpOp hi hH hw fun w' hw' => ⟨H, hH, h, hw'⟩
    · have := ready_mono hj hji
      rw [h.1] at this
      cases this
  | succ k ih =>
    intro listed a H hfree hr hH hy h
    refine ⟨fun h0 => (by rw [h0] at hr; cases hr), fun j hj w hw => ?_⟩
    by_cases hji : j = i
    · subst hji; exact hy.wpOp hi hH hw fun w' hw' => ⟨H, hH, h, hw'⟩
    · have h1 := h.2 j (ready_mono hj hji) w hw
      obtain ⟨hjun, oj, hoj, hall⟩ := mem_ready.1 hj
      have hnot : ∀ e ∈ oj.after, Region.binds md e = true → e.on ≠ i := fun e he hb heq => by
        have h1 := hall e he hb
        have h0 := (mem_ready.1 hr).1
        rw [heq] at h1
        rcases Nat.lt_or_ge i listed.size with h' | h'
        · simp [h'] at h0 h1; rw [h0] at h1; cases h1
        · simp [Array.getElem?_eq_none h'] at h1
      have h2 := wpOp_putE hoj (hfree j oj hoj hji hjun hnot) (fun cs b => hsel i oi cs b hi) (fun cs b => hsel j oj cs b hoj) hy h1
      have hfree' : ∀ k ok, ops[k]? = some ok → k ≠ i → (listed.setIfInBounds j true).getD k true = false →
          (∀ e ∈ ok.after, Region.binds md e = true → e.on ≠ i) → oi.apart ops ok = true := fun k ok hk hki hun hno => by
        refine hfree k ok hk hki ?_ hno
        by_cases hjk : j = k
        · subst hjk; exact hjun
        · rw [getD_set_ne true hjk] at hun; exact hun
      refine wpOp_mono (fun a' w' ⟨hy', H', hH', h3, hw'⟩ => ⟨H', hH', ih (listed.setIfInBounds j true) a' H' hfree' (ready_mono hr (Ne.symm hji)) hH' hy' ?_, hw'⟩) h2
      rw [Array.setIfInBounds_comm _ _ hji]
      exact h3
/-- Of frames. -/
def JF (P : Program) (B : Nat) (w0 : World) (n : Nat) (ops : Array Oper) (Q : Po) (Hs : Hp) (k : Nat) (listed : Array Bool) (F : Fr) (H : Hp) : Prop :=
  (∀ x, x ∈ Hs → x ∈ H) → ∀ a, Has n F a → JA P .any ops B w0 Hs (fun a H => ∃ F', Q .normal F' H ∧ Has n F' a) k listed a H
theorem JC_any {id m : Nat} {l : List Oper} (hl : l.length = m) (Hs : Hp) (hm : P.follows .mixedOrders = true) (hH : ∀ x, x ∈ Hs → x ∈ H) (h : JF P B w0 n l.toArray Q Hs m (Array.replicate m false) F H) : JC P B w0 n (.region id l.toArray true) Q F H := by
  unfold JC lift
  subst hl
  intro a w ha hw
  refine wp_region_any hm ?_
  exact wpAny_of_JA (fun a H w ⟨F', q, r⟩ hw => ⟨F', H, q, r, hw⟩) _ _ _ H _ (h hH a ha) hw.draw
/-- The same behind a block. -/
theorem JC_cutB {Y : Type} {x y : Code} {Q' : Po} {id : Nat} (Pi : Y → Prop) (Fi : Y → Fr) (Hi : Y → Hp)
    (h : JC P B w0 n x (inBlockQ id (thenQ (fun F' H' => ∃ z, Pi z ∧ Ent F' H' (Fi z) (Hi z)) Q')) F H) (k : ∀ z, Pi z → JC P B w0 n y Q (Fi z) (Hi z)) : JC P B w0 n x (inBlockQ id (thenQ (JC P B w0 n y Q) Q')) F H :=
  JC_mono h fun e F' H' q => by
    unfold inBlockQ thenQ at *
    cases e with
    | normal => obtain ⟨z, hz, he⟩ := q; exact JC_ent he (k z hz)
    | exit id' =>
      simp only at q ⊢
      split
      · rename_i hh; rw [if_pos hh] at q; obtain ⟨z, hz, he⟩ := q; exact JC_ent he (k z hz)
      · rename_i hh; rw [if_neg hh] at q; exact q
    | _ => exact q
variable {k i d : Nat} {listed : Array Bool} {op : Op} {ty : TypeId} {pos : String} {af : Array Edge} {v : Value}
theorem JF_q (i : Nat) (hi : ops[i]? = some ⟨some d, op, ty, pos, af, none⟩) (hc : (Region.noSelect ops && Region.free .any ops listed i && (Region.ready .any ops listed).contains i) = true)
    (hd : Nat.blt d n = true) (h : ∀ E : Hp, (∀ x, x ∈ Hs → x ∈ E) → OpQ P B w0 n E F ⟨some d, op, ty, pos, af, none⟩ v) (kk : JF P B w0 n ops Q Hs k (listed.setIfInBounds i true) ((d, v) :: F) H) : JF P B w0 n ops Q Hs (k + 1) listed F H := by
  intro hH a ha
  simp only [Bool.and_eq_true] at hc
  unfold OpQ at h
  refine JA_first hi (Region.noSelect_spec hc.1.1) k listed a H (Region.free_spec hi hc.1.2) (by simpa using hc.2) hH (fun E hE => .inl ⟨by simp [Region.wanted], fun w hw => h E hE a ha w hw⟩) ?_
  exact kk hH _ (ha.put (by simpa [Nat.blt_eq] using hd) v)
theorem JF_done (hr : (Region.ready .any ops listed).isEmpty = true) (h : Q .normal F H) : JF P B w0 n ops Q Hs k listed F H := by
  intro _ a ha
  have hr' : Region.ready .any ops listed = [] := by simpa using hr
  cases k with
  | zero => exact ⟨hr', F, h, ha⟩
  | succ k => exact ⟨fun _ => ⟨F, h, ha⟩, by rw [hr']; intro j hj; cases hj⟩
def JFs (P : Program) (B : Nat) (w0 : World) (n : Nat) (ops : Array Oper) (Q : Po) (Hs : Hp) (k : Nat) (listed : Array Bool) (F : Fr) (H : Hp) : List Nat → Prop
  | [] => True
  | i :: l => (∃ o, ops[i]? = some o ∧ J false P B w0 n ops (fun e F' H' => e = .normal ∧ (∀ x, x ∈ Hs → x ∈ H') ∧ JF P B w0 n ops Q Hs k (listed.setIfInBounds i true) F' H') [o] F H) ∧ JFs P B w0 n ops Q Hs k listed F H l
theorem JF_all (rs : List Nat) (hr : (Region.ready .any ops listed == rs && !rs.isEmpty) = true) (h : JFs P B w0 n ops Q Hs k listed F H rs) : JF P B w0 n ops Q Hs (k + 1) listed F H := by
  intro hH a ha
  simp only [Bool.and_eq_true, beq_iff_eq, Bool.not_eq_true'] at hr
  obtain ⟨hr, hne⟩ := hr
  refine ⟨fun h0 => ?_, ?_⟩
  · rw [hr] at h0; rw [h0] at hne; cases hne
  · rw [hr]
    intro j hj w hw
    have hl : ∀ l : List Nat, JFs P B w0 n ops Q Hs k listed F H l → j ∈ l → ∃ o, ops[j]? = some o ∧ J false P B w0 n ops (fun e F' H' => e = .normal ∧ (∀ x, x ∈ Hs → x ∈ H') ∧ JF P B w0 n ops Q Hs k (listed.setIfInBounds j true) F' H') [o] F H := by
      intro l
      induction l with
      | nil => intro _ hj; cases hj
      | cons i l ih =>
        intro h hj
        rcases List.mem_cons.1 hj with rfl | hj
        · exact h.1
        · exact ih h.2 hj
    obtain ⟨o, ho, hJ⟩ := hl rs h hj
    unfold J at hJ
    have h1 := hJ a w ha hw
    unfold wpList at h1
    unfold wpOp
    simp only [ho]
    have fin : ∀ a' w', wpList P ops (lift B w0 n fun e F' H' => e = .normal ∧ (∀ x, x ∈ Hs → x ∈ H') ∧ JF P B w0 n ops Q Hs k (listed.setIfInBounds j true) F' H') [] a' w' →
        ∃ H', (∀ x, x ∈ Hs → x ∈ H') ∧ JA P .any ops B w0 Hs (fun a H => ∃ F', Q .normal F' H ∧ Has n F' a) k (listed.setIfInBounds j true) a' H' ∧ Holds B w0 H' w' := fun a' w' hh => by
      unfold wpList lift at hh
      obtain ⟨F', H', ⟨_, q1, q2⟩, q3, q4⟩ := hh
      exact ⟨H', q1, q2 q1 a' q3, q4⟩
    split
    · rename_i hwt
      simp only [hwt, if_true] at h1
      rcases h1 with h1 | ⟨_, a', w', hF⟩
      · exact .inl (Oper.wp_Q (fun e a w he hF => by unfold lift at hF; obtain ⟨_, _, ⟨q, _⟩, _⟩ := hF; exact (he q).elim) (Oper.wp_mono fin h1))
      · unfold lift at hF
        obtain ⟨_, _, ⟨q, _⟩, _⟩ := hF
        cases q
    · rename_i hwt
      simp only [hwt] at h1
      exact fin _ _ h1
theorem JFs_nil : JFs P B w0 n ops Q Hs k listed F H [] := trivial
theorem JFs_cons {o : Oper} {l : List Nat} (ho : ops[i]? = some o) (h : J false P B w0 n ops (fun e F' H' => e = .normal ∧ (∀ x, x ∈ Hs → x ∈ H') ∧ JF P B w0 n ops Q Hs k (listed.setIfInBounds i true) F' H') [o] F H) (kk : JFs P B w0 n ops Q Hs k listed F H l) :
    JFs P B w0 n ops Q Hs k listed F H (i :: l) := ⟨⟨o, ho, h⟩, kk⟩
theorem JF_end (hs : ∀ x, x ∈ Hs → x ∈ H) (h : JF P B w0 n ops Q Hs k listed F H) : (fun (e : Exit) F' H' => e = .normal ∧ (∀ x, x ∈ Hs → x ∈ H') ∧ JF P B w0 n ops Q Hs k listed F' H') .normal F H := ⟨rfl, hs, h⟩
theorem sub_nil : ∀ x, x ∈ ([] : Hp) → x ∈ H := fun _ h => by cases h
theorem sub_cons {x : It} (h : x ∈ H) (k : ∀ y, y ∈ Hs → y ∈ H) : ∀ y, y ∈ x :: Hs → y ∈ H := fun y hy => by
  rcases List.mem_cons.1 hy with rfl | hy
  · exact h
  · exact k y hy
/-- A cut behind a piece of code: what follows starts from an entry that is looser. -/
theorem JC_cutT {Y : Type} {x y : Code} {Q' : Po} (Pi : Y → Prop) (Fi : Y → Fr) (Hi : Y → Hp)
    (h : JC P B w0 n x (thenQ (fun F' H' => ∃ z, Pi z ∧ Ent F' H' (Fi z) (Hi z)) Q') F H) (k : ∀ z, Pi z → JC P B w0 n y Q (Fi z) (Hi z)) : JC P B w0 n x (thenQ (JC P B w0 n y Q) Q') F H :=
  JC_mono h fun e F' H' q => by
    unfold thenQ at *
    cases e with
    | normal => obtain ⟨z, hz, he⟩ := q; exact JC_ent he (k z hz)
    | _ => exact q
end
attribute [irreducible] JF JFs
/-! ### Rows of single cells -/
section
variable {P : Program} {B : Nat} {w0 : World} {n : Nat} {Q : Po} {F : Fr} {H : Hp} {ops : Array Oper} {l : List Oper} {ty : TypeId} {pos : String} {af : Array Edge} {d : Nat} {dst : Option Tmp} {g : Option (Nat × Bool)}
theorem q_lenR {x : Operand} {T e : TypeId} {xs : List Value} {v : Value} [hT : Un P T (.slice e)] (hx : ev F x = some v) (hm : It.row v e 1 xs ∈ H) :
    OpQ P B w0 n H F ⟨dst, .call { callee := .builtin .len, args := #[x], argTypes := #[T] }, ty, pos, af, g⟩ (.int .i64 (xs.length : Nat)) := by
  unfold OpQ
  intro a ha w hw
  obtain ⟨m, h1, h2⟩ := hw.ok _ hm
  rw [Nat.mul_one] at h1
  have hv : ∃ base c, v = .slice base m c := by
    rcases h2 with ⟨rfl, rfl⟩ | ⟨gg, cap, cur, rfl, _⟩
    · exact ⟨_, _, rfl⟩
    · exact ⟨_, _, rfl⟩
  obtain ⟨base, c, rfl⟩ := hv
  rw [h1]
  have := q_len (P := P) (B := B) (w0 := w0) (n := n) (F := F) (H := H) (ty := ty) (pos := pos) (af := af) (dst := dst) (g := g) (hT := hT) hx
  unfold OpQ at this
  exact this a ha w hw
/-- A function that captures three values. -/
theorem Jq_func3 {dr : Bool} {fn : Fn} {x y t : Operand} {v u s : Value} (hdn : Nat.blt d n = true) (hx : ev F x = some v) (hy : ev F y = some u) (ht : ev F t = some s) (kk : J dr P B w0 n ops Q l ((d, .func fn #[] #[v, u, s]) :: F) H) :
    J dr P B w0 n ops Q (⟨some d, .makeFunc fn #[] #[x, y, t], ty, pos, af, none⟩ :: l) F H :=
  J_q hdn (q_makeFunc (fun a ha => by simp) (fun a ha => by simp [ha.ev hx, ha.ev hy, ha.ev ht])) kk
theorem q_remR {T T' : TypeId} {x y : Operand} {k : IntKind} {a b r : Int} (hx : ev F x = some (.int k a)) (hy : ev F y = some (.int k b)) (ha : 0 ≤ a) (hb : 0 < b) (hr : a % b = r) :
    OpQ P B w0 n H F ⟨dst, .binOp .rem T x y T', ty, pos, af, g⟩ (.int k r) := by subst hr; exact q_rem hx hy ha hb
theorem Jq_remR {dr : Bool} {T T' : TypeId} {x y : Operand} {k : IntKind} {a b r : Int} (hdn : Nat.blt d n = true) (hx : ev F x = some (.int k a)) (hy : ev F y = some (.int k b)) (ha : 0 ≤ a) (hb : 0 < b) (hr : a % b = r) (kk : J dr P B w0 n ops Q l ((d, .int k r) :: F) H) :
    J dr P B w0 n ops Q (⟨some d, .binOp .rem T x y T', ty, pos, af, none⟩ :: l) F H := J_q hdn (q_remR hx hy ha hb hr) kk
theorem q_subR {T T' : TypeId} {x y : Operand} {a b r : Int} (hx : ev F x = some (.int .i64 a)) (hy : ev F y = some (.int .i64 b)) (h : -9223372036854775808 ≤ a - b ∧ a - b ≤ 9223372036854775807) (hr : a - b = r) :
    OpQ P B w0 n H F ⟨dst, .binOp .sub T x y T', ty, pos, af, g⟩ (.int .i64 r) := by subst hr; exact q_sub hx hy h
theorem Jq_subR {dr : Bool} {T T' : TypeId} {x y : Operand} {a b r : Int} (hdn : Nat.blt d n = true) (hx : ev F x = some (.int .i64 a)) (hy : ev F y = some (.int .i64 b)) (h : -9223372036854775808 ≤ a - b ∧ a - b ≤ 9223372036854775807) (hr : a - b = r) (kk : J dr P B w0 n ops Q l ((d, .int .i64 r) :: F) H) :
    J dr P B w0 n ops Q (⟨some d, .binOp .sub T x y T', ty, pos, af, none⟩ :: l) F H := J_q hdn (q_subR hx hy h hr) kk
theorem q_callE {f : Operand} {xs : List Operand} {Ts : Array TypeId} {k : FuncId} {args : List Value} {v : Value} (hf : ev F f = some (.func (.func k) #[] #[])) (hxs : evs F xs = some args) (hk : Runs P k)
    (h : ∀ w, Holds B w0 H w → Gives P k args.toArray v w) : OpQ P B w0 n H F ⟨dst, .call { callee := .value f, args := xs.toArray, argTypes := Ts }, ty, pos, af, g⟩ v := q_call0 hf hxs h
theorem q_indexRN {T e : TypeId} {x y : Operand} {by' i : Nat} {z v : Value} {k : IntKind} {xs : List Value} [hS : IS P T e 1 by' z] (hx : ev F x = some v) (hy : ev F y = some (.int k (i : Int))) (hm : It.row v e 1 xs ∈ H) (h1 : i < xs.length) :
    OpQ P B w0 n H F ⟨dst, .indexAddr T x y, ty, pos, af, g⟩ (.pointer (some ⟨gb v, i, none⟩)) := by
  have := q_indexR (P := P) (B := B) (w0 := w0) (n := n) (F := F) (H := H) (ty := ty) (pos := pos) (af := af) (dst := dst) (g := g) (hS := hS) hx hm hy (by omega) (by simpa using h1)
  simpa using this
theorem J_lit1 {T e : TypeId} {by' : Nat} {z : Value} {x : Operand} {v : Value} [hS : IS P T e 1 by' z] (hd : Nat.blt d n = true) (hx : ev F x = some v) (hv : v.cells = #[v])
    (k : ∀ b, J false P B w0 n ops Q l ((d, .slice (some ⟨b, 0, none⟩) 1 1) :: F) (.row (.slice (some ⟨b, 0, none⟩) 1 1) e 1 [v] :: H)) :
    J false P B w0 n ops Q (⟨some d, .buildSlice T 1 #[(0, x)], ty, pos, af, none⟩ :: l) F H := by
  refine J_lit (len := 1) (parts := [(0, x)]) (cells := [v]) hd (by decide) (by decide) (by decide) (fun a ha => ?_) rfl k
  have hz : z.cells.size = 1 := by obtain ⟨_, i, _, _, _, _, h⟩ := hS.out; exact h
  simp [Instr.fill, ha.ev hx, hv, hz]
  apply Array.ext'
  simp [List.range_succ]
theorem J_lit3 {T e : TypeId} {by' : Nat} {z : Value} {x y t : Operand} {v u s : Value} [hS : IS P T e 1 by' z] (hd : Nat.blt d n = true) (hx : ev F x = some v) (hy : ev F y = some u) (ht : ev F t = some s) (hv : v.cells = #[v]) (hu : u.cells = #[u]) (hs : s.cells = #[s])
    (k : ∀ b, J false P B w0 n ops Q l ((d, .slice (some ⟨b, 0, none⟩) 3 3) :: F) (.row (.slice (some ⟨b, 0, none⟩) 3 3) e 1 [v, u, s] :: H)) :
    J false P B w0 n ops Q (⟨some d, .buildSlice T 3 #[(0, x), (1, y), (2, t)], ty, pos, af, none⟩ :: l) F H := by
  refine J_lit (len := 3) (parts := [(0, x), (1, y), (2, t)]) (cells := [v, u, s]) hd (by decide) (by decide) (by decide) (fun a ha => ?_) rfl k
  have hz : z.cells.size = 1 := by obtain ⟨_, i, _, _, _, _, h⟩ := hS.out; exact h
  simp [Instr.fill, ha.ev hx, ha.ev hy, ha.ev ht, hv, hu, hs, hz]
  apply Array.ext'
  simp [List.range_succ]
theorem Holds.start_rd2 {w : World} {b off c off' : Nat} {cs ds : List Value} (hb : b < w.heap.size) (hc : ∀ i v, cs[i]? = some v → w.cell? ⟨b, off + i, none⟩ = some v) (hb' : c < w.heap.size) (hc' : ∀ i v, ds[i]? = some v → w.cell? ⟨c, off' + i, none⟩ = some v) : Holds w.heap.size w [.rd b off cs, .rd c off' ds] w :=
  ⟨Blw.refl _ _, Nat.le_refl _, (fun x hx => by
    rcases List.mem_cons.1 hx with rfl | hx
    · exact ⟨hb, hc⟩
    · rcases List.mem_cons.1 hx with rfl | hx
      · exact ⟨hb', hc'⟩
      · cases hx), List.nodup_nil⟩
theorem Jq_lenR {dr : Bool} {x : Operand} {T e : TypeId} {xs : List Value} {v : Value} [hT : Un P T (.slice e)] (hdn : Nat.blt d n = true) (hx : ev F x = some v) (hm : It.row v e 1 xs ∈ H) (kk : J dr P B w0 n ops Q l ((d, (.int .i64 (xs.length : Nat))) :: F) H) :
    J dr P B w0 n ops Q (⟨some d, .call { callee := .builtin .len, args := #[x], argTypes := #[T] }, ty, pos, af, none⟩ :: l) F H := J_q hdn (q_lenR hx hm) kk
theorem Jq_indexRN {dr : Bool} {T e : TypeId} {x y : Operand} {by' i : Nat} {z v : Value} {k : IntKind} {xs : List Value} [hS : IS P T e 1 by' z] (hdn : Nat.blt d n = true) (hx : ev F x = some v) (hy : ev F y = some (.int k (i : Int))) (hm : It.row v e 1 xs ∈ H) (h1 : i < xs.length) (kk : J dr P B w0 n ops Q l ((d, (.pointer (some ⟨gb v, i, none⟩))) :: F) H) :
    J dr P B w0 n ops Q (⟨some d, .indexAddr T x y, ty, pos, af, none⟩ :: l) F H := J_q hdn (q_indexRN hx hy hm h1) kk
theorem JcR {f : Operand} {xs : List Operand} {Ts : Array TypeId} {k : FuncId} {args : List Value} {caps : Array Value} {e sz : Nat} {cs : List Value} (hd : Nat.blt d n = true) (hf : ev F f = some (.func (.func k) #[] caps)) (hxs : evs F xs = some args) (hk : Runs P k)
    (h : ∀ w, Holds B w0 H w → GivesN P k (args ++ caps.toList).toArray (isRow e sz cs) w) (K : ∀ v, J false P B w0 n ops Q l ((d, v) :: F) (.row v e sz cs :: H)) :
    J false P B w0 n ops Q (⟨some d, .call { callee := .value f, args := xs.toArray, argTypes := Ts }, ty, pos, af, none⟩ :: l) F H :=
  JcN hd hf hxs hk h isRow_mine fun v its hN => by
    unfold isRow at hN
    subst hN
    exact K v
end
/-- Items in another order. -/
def SP (H' H : Hp) : Prop := ∃ l : Hp, List.Perm l H' ∧ List.Sublist l H
theorem sp_at {H' H1 H2 : Hp} {x : It} (h : SP H' (H1 ++ H2)) : SP (x :: H') (H1 ++ x :: H2) := by
  obtain ⟨l, hp, hs⟩ := h
  obtain ⟨l1, l2, rfl, h1, h2⟩ := List.sublist_append_iff.1 hs
  exact ⟨l1 ++ x :: l2, (List.perm_middle).trans (hp.cons x), List.Sublist.append h1 (h2.cons_cons x)⟩
theorem sp0 {H' H : Hp} {x : It} (h : SP H' H) : SP (x :: H') (x :: H) := sp_at (H1 := []) h
theorem sp1 {H' H : Hp} {x a : It} (h : SP H' (a :: H)) : SP (x :: H') (a :: x :: H) := sp_at (H1 := [a]) h
theorem sp2 {H' H : Hp} {x a b : It} (h : SP H' (a :: b :: H)) : SP (x :: H') (a :: b :: x :: H) := sp_at (H1 := [a, b]) h
theorem sp3 {H' H : Hp} {x a b c : It} (h : SP H' (a :: b :: c :: H)) : SP (x :: H') (a :: b :: c :: x :: H) := sp_at (H1 := [a, b, c]) h
theorem sp4 {H' H : Hp} {x a b c d : It} (h : SP H' (a :: b :: c :: d :: H)) : SP (x :: H') (a :: b :: c :: d :: x :: H) := sp_at (H1 := [a, b, c, d]) h
theorem entP {F F' : Fr} {H H' : Hp} (hF : Ent F [] F' []) (hs : SP H' H) : Ent F H F' H' := by
  obtain ⟨l, hp, hs⟩ := hs
  refine ⟨hF.fr, fun x hx => hs.subset (hp.mem_iff.2 hx), fun h => ?_⟩
  have h1 : (owned l).Nodup := List.Sublist.nodup (hs.filterMap _) h
  exact (List.Perm.filterMap _ hp).nodup_iff.1 h1
/-! ### Functions that read, or write, rows of the caller: judged under the caller's own items -/
def GivesM (P : Program) (f : FuncId) (args : Array Value) (B : Nat) (w0 : World) (H : Hp) (v : Value) (H' : Hp) : Prop :=
  ∀ w, Holds B w0 H w → Calls P f args w fun e w' => e = .returned v ∧ Holds B w0 H' w'
def mQ (P : Program) (B : Nat) (w0 : World) (n : Nat) (fn : Func) (v : Value) (H' : Hp) : Po := fun e F H => match e with
  | .normal | .ret => ∀ a w', Has n F a → Holds B w0 H w' → (results fn a.tmps).run P w' = .ok v w' ∧ Holds B w0 H' w'
  | _ => False
section
variable {P : Program} {B : Nat} {w0 : World} {n : Nat} {Q : Po} {F : Fr} {H H' : Hp} {ops : Array Oper} {l : List Oper} {ty : TypeId} {pos : String} {af : Array Edge} {d : Nat} {dst : Option Tmp} {g : Option (Nat × Bool)} {fn : Func} {v : Value} {e : Exit}
theorem givesM_of {f : FuncId} {c : Code} {args : List Value} (F : Fr) (hf : P.funcs[f]? = some fn) (hb : fn.body = some c) (hn : fn.ntmps = n) (hlen : Nat.ble args.length n = true) (hF : ∀ t v, look F t = some v → args[t]? = some v)
    (h : JC P B w0 n c (mQ P B w0 n fn v H') F H) : GivesM P f args.toArray B w0 H v H' := by
  intro w hH
  refine calls_of_wp hf hb ?_
  subst hn
  unfold JC at h
  refine Code.wp_mono ?_ (h _ w (look_args F hF (Nat.le_of_ble_eq_true hlen)) hH)
  rintro e a' w' hl
  unfold lift at hl
  obtain ⟨F', H1, q, ha, hw⟩ := hl
  unfold mQ at q
  cases e with
  | normal => obtain ⟨hv, hr⟩ := q a' w' ha hw; exact ⟨ha.dry, v, hv, rfl, hr⟩
  | ret => obtain ⟨hv, hr⟩ := q a' w' ha hw; exact ⟨ha.dry, v, hv, rfl, hr⟩
  | _ => exact q.elim
theorem m1 {t : Tmp} {v' : Value} (he : isEnd e = true) (h : fn.results = #[.tmp t]) (hv : look F t = some v') (hvv : v' = v) (hi : Ent [] H [] H') : mQ P B w0 n fn v H' e F H := by
  unfold mQ
  have k : ∀ a w', Has n F a → Holds B w0 H w' → (results fn a.tmps).run P w' = .ok v w' ∧ Holds B w0 H' w' := fun a w' ha hw => ⟨by subst hvv; exact results1 h ha hv w', hi.holds hw⟩
  cases e <;> first | exact k | cases he
theorem q_callM {f : Operand} {xs : List Operand} {Ts : Array TypeId} {k : FuncId} {args : List Value} (hf : ev F f = some (.func (.func k) #[] #[])) (hxs : evs F xs = some args) (hk : Runs P k)
    (h : GivesM P k args.toArray B w0 H v H) : OpQ P B w0 n H F ⟨dst, .call { callee := .value f, args := xs.toArray, argTypes := Ts }, ty, pos, af, g⟩ v := by
  unfold OpQ
  intro a ha w hw
  unfold Oper.quietAt
  rw [run_call ha hf hxs w]
  exact ⟨rfl, by simpa using h w hw⟩
theorem JqM {dr : Bool} {f : Operand} {xs : List Operand} {Ts : Array TypeId} {k : FuncId} {args : List Value} (hdn : Nat.blt d n = true) (hf : ev F f = some (.func (.func k) #[] #[])) (hxs : evs F xs = some args) (hk : Runs P k)
    (h : GivesM P k args.toArray B w0 H v H) (kk : J dr P B w0 n ops Q l ((d, v) :: F) H) : J dr P B w0 n ops Q (⟨some d, .call { callee := .value f, args := xs.toArray, argTypes := Ts }, ty, pos, af, none⟩ :: l) F H := J_q hdn (q_callM hf hxs hk h) kk
theorem JcM {f : Operand} {xs : List Operand} {Ts : Array TypeId} {k : FuncId} {args : List Value} (hdn : Nat.blt d n = true) (hf : ev F f = some (.func (.func k) #[] #[])) (hxs : evs F xs = some args) (hk : Runs P k)
    (h : GivesM P k args.toArray B w0 H v H') (kk : J false P B w0 n ops Q l ((d, v) :: F) H') : J false P B w0 n ops Q (⟨some d, .call { callee := .value f, args := xs.toArray, argTypes := Ts }, ty, pos, af, none⟩ :: l) F H := by
  unfold J at *
  intro a w ha hw
  refine wpList_plain rfl fun K' hK => ?_
  unfold Oper.wp
  rw [run_call ha hf hxs w]
  have h1 := h w hw
  simp only [List.append_nil]
  refine h1.mono ?_
  rintro e w' ⟨rfl, hh⟩
  exact hK _ _ (kk _ w' (ha.put (by simpa [Nat.blt_eq] using hdn) v) hh)
theorem entS {F' : Fr} (hf : ∀ t v, look F' t = some v → look F t = some v) : Ent F H F' H := ent hf (List.Sublist.refl _)
theorem Holds.nilrow {w : World} {T sz : Nat} (h : Holds B w0 H w) : Holds B w0 (.row (.slice none 0 0) T sz [] :: H) w :=
  h.new (Blw.refl _ _) _ ⟨0, World.ownsRow_nil w B T sz⟩ (fun k hk => by simp [It.own, Value.ownBlock] at hk)
end
attribute [irreducible] GivesM mQ
end SL
end Go.Proofs.YtmbbcmebdefggaaGreatDoor
