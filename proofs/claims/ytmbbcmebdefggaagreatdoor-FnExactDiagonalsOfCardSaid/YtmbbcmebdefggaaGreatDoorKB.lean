/- A range over a function: the loop's record among the items, a round, the call of the iterator. Walks: the keys of a map of grades, collected and sorted. Plain: tables of counts by grades. Walks: the program's counts by grades. -/
import Derived.Test.YtmbbcmebdefggaaGreatDoorMR
import Derived.Test.YtmbbcmebdefggaaGreatDoorHO
import Derived.Test.YtmbbcmebdefggaaGreatDoorUK
import Derived.Test.YtmbbcmebdefggaaGreatDoorGE
import Derived.RangeFuncRecord
import Derived.RangeFuncSeq
import Derived.Sort.Statements
namespace Go.Proofs.YtmbbcmebdefggaaGreatDoor
open Go Go.RowKit
namespace SL
def notDefer (o : Oper) : Bool := match o.op with
  | .defer _ => false
  | _ => true
theorem notDefer_ne {o : Oper} (h : notDefer o = true) (c : Call) : o.op ≠ .defer c := fun e => by
  unfold notDefer at h
  rw [e] at h
  cases h
/-- The fence that lets all in, for a round's frame or a plain one. -/
def Fw (ro : Option Nat) : Fence := { Fence.wide with round := ro }
theorem callsIn_fw {ro : Option Nat} {m : Nat} {P : Program} {f : FuncId} {args : Array Value} {w : World} {R : Ending → World → Prop} (h : Calls P f args w R) : CallsIn (Fw ro) m P f args w R :=
  (callsIn_wide (n := m)).2 h
theorem rowsIn_fw {ro : Option Nat} {m : Nat} {P : Program} {row : String} {args : Array Value} {w : World} {R : Value → World → Prop} (h : Rows P row args w R) : RowsIn (Fw ro) m P row args w R :=
  fun c cs _ => let ⟨v, w', r, s⟩ := h c cs; ⟨v, w', r, stepsIn_wide.2 s⟩
/-- A post that takes the end alone. -/
def onlyN (K : Fr → Hp → Prop) : Po := fun e F H => match e with
  | .normal => K F H
  | _ => False
section
variable {P : Program} {B : Nat} {w0 : World} {n : Nat} {Q : Po} {F : Fr} {H : Hp} {ops : Array Oper} {l : List Oper}
theorem wpListIn_of {ro : Option Nat} {m : Nat} {Q : Exit → Act → World → Prop} (hQ : ¬ LetsOut Q) : ∀ (l : List Oper) (a : Act) (w : World), l.all notDefer = true → wpList P ops Q l a w → wpListIn (Fw ro) m P ops Q l a w
  | [], _, _, _, h => h
  | o :: l, a, w, hd, h => by
    rw [List.all_cons, Bool.and_eq_true] at hd
    unfold wpList at h
    unfold wpListIn
    have ih := wpListIn_of (ro := ro) (m := m) hQ l
    split
    · rename_i hw
      rw [if_pos hw] at h
      have h' := h.resolve_right fun k => hQ k.2
      refine ⟨fun _ _ => trivial, ?_⟩
      rw [Oper.semAt_eq _ _ _ (notDefer_ne hd.1)]
      unfold Oper.wp at h'
      generalize (execOp a.eval o).run P w = r at h' ⊢
      cases r with
      | ok x w' =>
        cases x with
        | value v => exact ih _ _ hd.2 h'
        | skip => exact ih _ _ hd.2 h'
        | defer d => exact ih _ _ hd.2 h'
        | enter f args =>
          refine ⟨(fun hh => by cases hh), callsIn_fw (Calls.mono h' fun e w'' k => ?_)⟩
          cases e with
          | returned v => exact ih _ _ hd.2 k
          | panicked ch => exact k
          | outgrown => exact k
        | row r args => exact ⟨(fun hh => by cases hh), rowsIn_fw (Rows.mono h' fun v w'' k => ih _ _ hd.2 k)⟩
        | _ => exact h'.elim
      | halt x w' => cases x <;> exact h'
    · rename_i hw
      rw [if_neg hw] at h
      exact ⟨fun _ _ => trivial, ih _ _ hd.2 h⟩
theorem wpListIn_append {ro : Option Nat} {m : Nat} {Q1 Q : Exit → Act → World → Prop} {l2 : List Oper} (hk : ∀ a w, Q1 .normal a w → wpListIn (Fw ro) m P ops Q l2 a w) (hx : ∀ e a w, e ≠ .normal → ¬ Q1 e a w) : ∀ (l1 : List Oper) (a : Act) (w : World), wpListIn (Fw ro) m P ops Q1 l1 a w → wpListIn (Fw ro) m P ops Q (l1 ++ l2) a w
  | [], a, w, h => hk a w h
  | o :: l, a, w, h => by
    have ih := wpListIn_append hk hx l
    rw [List.cons_append]
    unfold wpListIn at h ⊢
    split
    · rename_i hw
      rw [if_pos hw] at h
      refine ⟨h.1, ?_⟩
      have h' := h.2
      generalize (Oper.semAt (Fw ro).round a.eval o).run P w = r at h' ⊢
      cases r with
      | ok x w' =>
        cases x with
        | value v => exact ih _ _ h'
        | skip => exact ih _ _ h'
        | defer d => exact ih _ _ h'
        | enter f args =>
          refine ⟨h'.1, CallsIn.mono h'.2 fun e w'' k => ?_⟩
          cases e with
          | returned v => exact ih _ _ k
          | panicked ch => exact absurd k (hx _ _ _ (by simp))
          | outgrown => obtain ⟨_, _, k⟩ := k; exact absurd k (hx _ _ _ (by simp))
        | row r args => exact ⟨h'.1, RowsIn.mono h'.2 fun v w'' k => ih _ _ k⟩
        | round => 
          refine ⟨h'.1, RoundIn.mono h'.2 fun e w'' k => ?_⟩
          cases e with
          | returned v => exact ih _ _ k
          | panicked ch => exact absurd k (hx _ _ _ (by simp))
          | outgrown => obtain ⟨_, _, k⟩ := k; exact absurd k (hx _ _ _ (by simp))
        | _ => exact h'.elim
      | halt x w' => cases x <;> first | exact h'.elim | exact absurd h' (hx _ _ _ (by simp))
    · rename_i hw
      rw [if_neg hw] at h
      exact ⟨h.1, ih _ _ h.2⟩
/-- The code of a round, in a round's frame. -/
def JR (l0 : Nat) (P : Program) (B : Nat) (w0 : World) (n : Nat) (c : Code) (Q : Po) (F : Fr) (H : Hp) : Prop :=
  ∀ a w, Has n F a → Holds B w0 H w → c.wpIn (Fw (some l0)) 0 P (lift B w0 n Q) a w
theorem lift_out {K : Prop} (hQ : ∀ F H, Q .outgrown F H → K) (h : LetsOut (lift B w0 n Q)) : K := by
  obtain ⟨a, w, h⟩ := h
  unfold lift at h
  obtain ⟨F, H, q, _⟩ := h
  exact hQ F H q
theorem JR_region {l0 id : Nat} (hd : l.all notDefer = true) (hQ : ∀ F H, ¬ Q .outgrown F H) (h : J false P B w0 n l.toArray Q l F H) : JR l0 P B w0 n (.region id l.toArray false) Q F H := fun a w ha hw => by
  unfold J at h
  exact wpIn_region_lit (wpListIn_of (lift_out hQ) l a w hd (h a w ha hw))
theorem JR_block {l0 id : Nat} {c : Code} (h : JR l0 P B w0 n c (inBlockQ id Q) F H) : JR l0 P B w0 n (.block id c) Q F H := fun a w ha hw =>
  wpIn_block (wpIn_mono (h a w ha hw) fun e a' w' hl => by
    unfold lift at hl ⊢
    obtain ⟨F', H', q, r1, r2⟩ := hl
    unfold inBlockQ at q
    cases e with
    | exit id' =>
      dsimp only at q
      simp only [Exit.inBlock]
      split
      · rename_i hh; rw [if_pos hh] at q; exact ⟨F', H', q, r1, r2⟩
      · rename_i hh; rw [if_neg hh] at q; exact ⟨F', H', q, r1, r2⟩
    | _ => exact ⟨F', H', q, r1, r2⟩)
/-- The record of a loop over a function. -/
def recO (tm : Array Value) (ps : Array Tmp) (assign body : Code) (fn : FuncId) (D : Nat) (st : LoopState) : Obj := .loop { state := st, pending := none, fn := fn, tmps := tm, params := ps, assign := assign, body := body, defers := D }
/-- A call of yield goes through, and hands back true. -/
def Yl (P : Program) (l0 : Nat) (u : Value) (B : Nat) (w0 w : World) (V : Hp → Prop) : Prop :=
  ∃ fn tmps assign body, (Instr.yield l0 #[u]).run P w = .ok (.round l0 fn tmps assign body) w ∧ RoundIn Fence.wide 0 P l0 fn tmps assign body w fun e w' => e = .returned (.bool true) ∧ ∃ H', V H' ∧ Holds B w0 H' w'
theorem Yl.mono {l0 : Nat} {u : Value} {w : World} {V V' : Hp → Prop} (h : Yl P l0 u B w0 w V) (hv : ∀ H, V H → V' H) : Yl P l0 u B w0 w V' := by
  obtain ⟨fn, tmps, assign, body, h1, h2⟩ := h
  exact ⟨fn, tmps, assign, body, h1, h2.mono fun e w' ⟨h3, H', h4, h5⟩ => ⟨h3, H', hv _ h4, h5⟩⟩
theorem mid_mem {H1 H2 : Hp} {x : It} : x ∈ H1 ++ x :: H2 := List.mem_append_right _ m0
theorem yield_of {tm : Array Value} {p : Tmp} {assign body : Code} {fn : FuncId} {D l0 : Nat} {H1 H2 : Hp} {u : Value} {V : Hp → Prop} {w : World} (hw : Holds B w0 (H1 ++ .obj l0 (recO tm #[p] assign body fn D .ready) :: H2) w) (hF : Has n F { tmps := tm, defers := [] }) (hp : Nat.blt p n = true)
    (h : JR l0 P B w0 n assign (onlyN fun F1 K1 => ∃ A1 R1, K1 = A1 ++ .obj l0 (recO tm #[p] assign body fn D .ready) :: R1 ∧
      JR l0 P B w0 n body (onlyN fun _ K2 => ∃ A2 R2, K2 = A2 ++ .obj l0 (recO tm #[p] assign body fn D .busy) :: R2 ∧ V (A2 ++ .obj l0 (recO tm #[p] assign body fn D .ready) :: R2)) F1 (A1 ++ .obj l0 (recO tm #[p] assign body fn D .busy) :: R1))
      ((p, u) :: F) (H1 ++ .obj l0 (recO tm #[p] assign body fn D .ready) :: H2)) : Yl P l0 u B w0 w V := by
  have hl := hw.obj_at mid_mem
  refine ⟨fn, _, assign, body, run_yield hl rfl, roundIn_of_wpIn trivial ?_⟩
  have hz : (#[p].zip #[u]).foldl (fun tmps (t, a) => tmps.setIfInBounds t a) tm = tm.setIfInBounds p u := by simp
  show Code.wpIn _ _ _ _ _ { tmps := (#[p].zip #[u]).foldl (fun tmps (t, a) => tmps.setIfInBounds t a) tm, defers := [] } w
  rw [hz]
  refine wpIn_mono (h _ w (hF.put (lt_of_blt hp) u) hw) ?_
  intro e a1 w1 hl1
  unfold lift at hl1
  obtain ⟨F1, K1, q, ha1, hw1⟩ := hl1
  cases e with
  | normal =>
    obtain ⟨A1, R1, rfl, hb⟩ := q
    refine ⟨_, run_beginRound (hw1.obj_at mid_mem) rfl, ?_⟩
    refine wpIn_mono (hb _ _ ha1 hw1.setObj) ?_
    intro e a2 w3 hl2
    unfold lift at hl2
    obtain ⟨F2, K2, q2, ha2, hw3⟩ := hl2
    cases e with
    | normal =>
      obtain ⟨A2, R2, rfl, hV⟩ := q2
      exact ⟨_, _, run_endRound none (hw3.obj_at mid_mem), rfl, _, hV, hw3.setObj⟩
    | _ => exact q2.elim
  | _ => exact q.elim
/-- A region in which yield is called. -/
theorem JC_yield {id d l0 : Nat} {x y : Operand} {ty : TypeId} {pos : String} {af : Array Edge} {at' : Array TypeId} (k : Nat) (hl : l = l.take k ++ ⟨some d, .call { callee := .value x, args := #[y], argTypes := at' }, ty, pos, af, none⟩ :: l.drop (k + 1)) (hd : Nat.blt d n = true) (hn1 : (l.take k).all notDefer = true) (hn2 : (l.drop (k + 1)).all notDefer = true) (hQ : ∀ F H, ¬ Q .outgrown F H)
    (h : J false P B w0 n l.toArray (onlyN fun F1 H1 => ev F1 x = some (.func (.yield l0) #[] #[]) ∧ ∃ u, ev F1 y = some u ∧ ∀ w, Holds B w0 H1 w → Yl P l0 u B w0 w fun H2 => J false P B w0 n l.toArray Q (l.drop (k + 1)) ((d, .bool true) :: F1) H2) (l.take k) F H) :
    JC P B w0 n (.region id l.toArray false) Q F H := by
  unfold JC
  intro a w ha hw
  refine (wpIn_wide (n := 0)).1 (wpIn_region_lit ?_)
  have hQ' : ¬ LetsOut (lift B w0 n Q) := lift_out hQ
  have h0 := h
  unfold J at h0
  have h1 := wpListIn_of (ro := none) (m := 0) (lift_out fun _ _ q => q) (l.take k) a w hn1 (h0 a w ha hw)
  have key := wpListIn_append (ro := none) (m := 0) (Q1 := lift B w0 n (onlyN fun F1 H1 => ev F1 x = some (.func (.yield l0) #[] #[]) ∧ ∃ u, ev F1 y = some u ∧ ∀ w, Holds B w0 H1 w → Yl P l0 u B w0 w fun H2 => J false P B w0 n l.toArray Q (l.drop (k + 1)) ((d, .bool true) :: F1) H2)) (Q := lift B w0 n Q) (l2 := ⟨some d, .call { callee := .value x, args := #[y], argTypes := at' }, ty, pos, af, none⟩ :: l.drop (k + 1)) (fun a w hK => ?_) (fun e a w he hK => ?_) (l.take k) a w (by unfold J; exact h1)
  · rw [← hl] at key
    exact key
  · unfold lift at hK
    obtain ⟨F1, H1, ⟨hx, u, hy, hyl⟩, ha1, hw1⟩ := hK
    obtain ⟨fn, tmps, assign, body, hr, hround⟩ := hyl w hw1
    refine wpListIn_plain rfl fun K hK => ⟨fun _ _ => trivial, ?_⟩
    have hx' := ha1.ev hx
    have hy' := ha1.ev hy
    have hrun : (execOp a.eval ⟨some d, .call { callee := .value x, args := #[y], argTypes := at' }, ty, pos, af, none⟩).run P w = .ok (.round l0 fn tmps assign body) w := by
      have e : (#[y] : Array Operand).map a.eval = #[u] := by simp [hy']
      simp only [execOp, resolve, Sem.run_bind, hx', e, Deferred.ofValue, Sem.run_pure, Result.andThen_ok]
      simpa [invoke] using hr
    rw [Oper.semAt_eq _ _ _ (notDefer_ne rfl), hrun]
    refine ⟨(fun hh => by cases hh), hround.mono ?_⟩
    rintro e w' ⟨rfl, H2, hj, hw2⟩
    unfold J at hj
    exact hK _ _ (wpListIn_of hQ' _ _ _ hn2 (hj _ _ (ha1.put (lt_of_blt hd) _) hw2))
  · unfold lift at hK
    obtain ⟨F, H, q, _⟩ := hK
    cases e <;> first | exact q | exact he rfl
/-- Code with some post on acts and worlds. -/
def JW (P : Program) (B : Nat) (w0 : World) (n : Nat) (c : Code) (QQ : Exit → Act → World → Prop) (F : Fr) (H : Hp) : Prop := ∀ a w, Has n F a → Holds B w0 H w → c.wp P QQ a w
theorem JW_seq {x y : Code} {QQ : Exit → Act → World → Prop} (h : JC P B w0 n x (onlyN fun F1 H1 => JW P B w0 n y QQ F1 H1) F H) : JW P B w0 n (.seq x y) QQ F H := fun a w ha hw => by
  unfold JC at h
  refine wp_seq (Code.wp_mono ?_ (h a w ha hw))
  intro e a' w' hl
  unfold lift at hl
  obtain ⟨F', H', q, r1, r2⟩ := hl
  cases e with
  | normal => exact q a' w' r1 r2
  | _ => exact q.elim
theorem tail_nodup {a : Nat} {o : Obj} {w : World} (h : Holds B w0 (.obj a o :: H) w) : (owned H).Nodup := (List.nodup_cons.1 (show (a :: owned H).Nodup from h.apart)).2
def markD (D : Nat) : List Deferred := [{ target := .collected D, args := #[] }]
/-- Code behind a range over a function: the mark is among the act's deferred calls. -/
def JD (D : Nat) (P : Program) (B : Nat) (w0 : World) (n : Nat) (c : Code) (QQ : Exit → Act → World → Prop) (F : Fr) (H : Hp) : Prop := ∀ a w, Has n F { a with defers := [] } → a.defers = markD D → Holds B w0 H w → c.wp P QQ a w
theorem wpList_defers {ds : List Deferred} {Q Q' : Exit → Act → World → Prop} (hq : ∀ e t pre w, Q e ⟨t, pre⟩ w → Q' e ⟨t, pre ++ ds⟩ w) : ∀ (l : List Oper) (t : Array Value) (pre : List Deferred) (w : World), wpList P ops Q l ⟨t, pre⟩ w → wpList P ops Q' l ⟨t, pre ++ ds⟩ w
  | [], t, pre, w, h => hq _ _ _ _ h
  | o :: l, t, pre, w, h => by
    have ih := wpList_defers hq l
    have hL : LetsOut Q → LetsOut Q' := fun ⟨⟨t, pre⟩, w, k⟩ => ⟨_, w, hq _ t pre w k⟩
    have ihp : ∀ (t : Array Value) (pre : List Deferred) (v : Value) (w : World), wpList P ops Q l (Act.put ⟨t, pre⟩ o.dst v) w → wpList P ops Q' l (Act.put ⟨t, pre ++ ds⟩ o.dst v) w := fun t pre v w k => by
      cases hd : o.dst with
      | none => rw [hd] at k; exact ih _ _ _ k
      | some d => rw [hd] at k; exact ih _ _ _ k
    unfold wpList at h ⊢
    have he : (⟨t, pre ++ ds⟩ : Act).eval = (⟨t, pre⟩ : Act).eval := by funext x; cases x <;> rfl
    split
    · rename_i hw
      have hw' : Region.wanted o (yielded ops t) = true := hw
      rw [if_pos hw'] at h
      rcases h with h | ⟨h1, h2⟩
      · left
        unfold Oper.wp at h ⊢
        rw [he]
        generalize (execOp (⟨t, pre⟩ : Act).eval o).run P w = r at h ⊢
        cases r with
        | ok x w' =>
          cases x with
          | value v => exact ihp _ _ _ _ h
          | skip => exact ihp _ _ _ _ h
          | defer d => exact ihp t (d :: pre) _ _ h
          | enter f args =>
            refine Calls.mono h fun e w'' k => ?_
            cases e with
            | returned v => exact ihp _ _ _ _ k
            | panicked ch => exact hq _ _ _ _ k
            | outgrown => exact hL k
          | row r args => exact Rows.mono h fun v w'' k => ihp _ _ _ _ k
          | _ => exact h.elim
        | halt x w' => cases x <;> first | exact h.elim | exact hq _ _ _ _ h
      · right
        unfold Oper.asks at h1 ⊢
        rw [he]
        exact ⟨h1, hL h2⟩
    · rename_i hw
      have hw' : ¬ Region.wanted o (yielded ops t) = true := hw
      rw [if_neg hw'] at h
      exact ihp _ _ _ _ h
theorem JD_seq {D id : Nat} {y : Code} {QQ : Exit → Act → World → Prop} (h : J false P B w0 n l.toArray (onlyN fun F1 H1 => JD D P B w0 n y QQ F1 H1) l F H) : JD D P B w0 n (.seq (.region id l.toArray false) y) QQ F H := fun ⟨t, ds⟩ w ha hd hw => by
  refine wp_seq (wp_region_lit ?_)
  unfold J at h
  have h1 : wpList P l.toArray (lift B w0 n (onlyN fun F1 H1 => JD D P B w0 n y QQ F1 H1)) l ⟨t, []⟩ w := h _ w ha hw
  have h2 := wpList_defers (ds := ds) (Q' := Exit.then (y.wp P QQ) QQ) (fun e t pre w hl => by
    unfold lift at hl
    obtain ⟨F1, H1, q, ha1, hw1⟩ := hl
    cases e with
    | normal =>
      obtain rfl : pre = [] := ha1.dry
      exact q _ _ ha1 hd hw1
    | _ => exact q.elim) l t [] w h1
  exact h2
theorem JD_ret {D : Nat} {QQ : Exit → Act → World → Prop} (h : ∀ a w, Has n F { a with defers := [] } → a.defers = markD D → Holds B w0 H w → QQ .ret a w) : JD D P B w0 n .ret QQ F H := fun a w ha hd hw => wp_ret (h a w ha hd hw)
theorem JW_then {x y : Code} {QQ : Exit → Act → World → Prop} (h : JW P B w0 n x (Exit.then (y.wp P QQ) QQ) F H) : JW P B w0 n (.seq x y) QQ F H := fun a w ha hw => wp_seq (h a w ha hw)
/-- The statement that ranges over a function, in its block. -/
theorem JW_range {id : Nat} {g : Operand} {ps : Array Tmp} {assign body : Code} {QQ : Exit → Act → World → Prop} {gf : FuncId} {lb : Array Value} {V : Hp → Prop} (hg : ev F g = some (.func (.func gf) #[] lb)) (hent : ∀ args w, (callFunc gf args).run P w = .ok (.enter gf args) w)
    (h : ∀ l0 D fn tm, Has n F { tmps := tm, defers := [] } → GivesE P gf (#[.func (.yield l0) #[] #[]] ++ lb) B w0 (.obj l0 (recO tm ps assign body fn D .ready) :: .obj D (.deferred (some [])) :: H) fun _ H' => ∃ H1, H' = .obj l0 (recO tm ps assign body fn D .ready) :: .obj D (.deferred (some [])) :: H1 ∧ V H1)
    (k : ∀ D H1, V H1 → ∀ a w, Has n F { a with defers := [] } → a.defers = markD D → Holds B w0 (.obj D (.deferred (some [])) :: H1) w → QQ .normal a w) : JW P B w0 n (.block id (.rangeFunc g ps assign body)) QQ F H := fun a w ha hw => by
  refine wp_block ((wpIn_wide (n := 0)).1 (wpIn_rangeFunc fun fn _ => ?_))
  have hg' := ha.ev hg
  have hdry := ha.dry
  refine ⟨w.heap.size + 1, [{ target := .collected w.heap.size, args := #[] }], ((w.alloc (.deferred (some []))).alloc (recO a.tmps ps assign body fn w.heap.size .ready)), { target := .fn (.func gf) lb, args := #[.func (.yield (w.heap.size + 1)) #[] #[]] }, ((w.alloc (.deferred (some []))).alloc (recO a.tmps ps assign body fn w.heap.size .ready)), gf, #[.func (.yield (w.heap.size + 1)) #[] #[]] ++ lb, ((w.alloc (.deferred (some []))).alloc (recO a.tmps ps assign body fn w.heap.size .ready)), run_enterLoop_outer _ _ _ _ _, ?_, fun _ _ => trivial, ?_, (fun hh => by cases hh), callsIn_wide.2 ?_⟩
  · simp only [resolve, hg', Deferred.ofValue, Sem.run_pure]
    simp [Act.eval]
  · simp only [invoke]
    exact hent _ _
  · have hw1 : Holds B w0 (.obj (w.heap.size + 1) (recO a.tmps ps assign body fn w.heap.size .ready) :: .obj w.heap.size (.deferred (some [])) :: H) ((w.alloc (.deferred (some []))).alloc (recO a.tmps ps assign body fn w.heap.size .ready)) := by
      have h2 := (hw.newObj (.deferred (some []))).newObj (recO a.tmps ps assign body fn w.heap.size .ready)
      rwa [World.size_alloc] at h2
    have h4 := h (w.heap.size + 1) w.heap.size fn a.tmps ⟨ha.size, rfl, ha.look⟩
    unfold GivesE at h4
    refine Calls.mono (h4 _ hw1) ?_
    rintro e w' ⟨v, H', rfl, ⟨H1, rfl, hV⟩, hw2⟩
    refine ⟨none, _, run_endLoop (hw2.obj_at m0) (fun hh => by cases hh), ?_⟩
    have hw3 := Holds.setObj (H1 := []) (o' := .loop { state := .exhausted, pending := none, fn := fn, tmps := a.tmps, params := ps, assign := assign, body := body, defers := w.heap.size }) hw2
    refine k _ H1 hV _ _ ⟨ha.size, rfl, ha.look⟩ ?_ (hw3.part (fun x hx => mS hx) (tail_nodup hw3))
    show _ ++ a.defers = _
    rw [hdry]; rfl
/-- A function that ranges over a function is walked. -/
theorem givesE_range {f : FuncId} {fn : Func} {c : Code} {args : List Value} {R : Value → Hp → Prop} (F : Fr) (hf : P.funcs[f]? = some fn) (hb : fn.body = some c) (hn : fn.ntmps = n) (hlen : Nat.ble args.length n = true) (hF : ∀ t v, look F t = some v → args[t]? = some v)
    (h : JW P B w0 n c (bodyPostM Fence.wide 0 P fn fun e w' => ∃ v H', e = .returned v ∧ R v H' ∧ Holds B w0 H' w') F H) : GivesE P f args.toArray B w0 H R := by
  unfold GivesE
  intro w hH
  subst hn
  unfold JW at h
  exact callsIn_wide.1 (callsIn_of_wp_marks hf hb trivial ((wpIn_wide (n := 0)).2 (h _ w (look_args F hF (Nat.le_of_ble_eq_true hlen)) hH)))
theorem eD1 {D : Nat} {fn : Func} {R : Value → Hp → Prop} {t : Tmp} {v : Value} {H1 H' : Hp} (h : fn.results = #[.tmp t]) (hv : look F t = some v) (hR : R v H') (hi : Ent [] H1 [] H') {a : Act} {w : World} (ha : Has n F { a with defers := [] }) (hd : a.defers = markD D) (hw : Holds B w0 (.obj D (.deferred (some [])) :: H1) w) :
    bodyPostM Fence.wide 0 P fn (fun e w' => ∃ v H', e = .returned v ∧ R v H' ∧ Holds B w0 H' w') .ret a w := by
  have hw1 := Holds.setObj (H1 := []) (o' := .deferred none) hw
  have hw2 : Holds B w0 H1 { w with heap := w.heap.setIfInBounds D (.deferred none) } := hw1.part (fun x hx => mS hx) (tail_nodup hw1)
  show LeavesInM Fence.wide 0 P fn a.tmps _ a.defers .returning w
  rw [hd]
  exact ⟨by simp, .inl ⟨D, _, rfl, run_takeDeferred (hw.obj_at m0), v, results1 h ha hv _, v, H', rfl, hR, hi.holds hw2⟩⟩
end
end SL
end Go.Proofs.YtmbbcmebdefggaaGreatDoor
namespace Go.Proofs.YtmbbcmebdefggaaGreatDoor
open Go Go.RowKit SL
namespace SL
section
variable {P : Program} {B : Nat} {w0 : World} {n : Nat} {Q : Po} {F : Fr} {H H' : Hp} {ops : Array Oper} {l : List Oper}
theorem J_ent (he : Ent [] H [] H') (h : J false P B w0 n ops Q l F H') : J false P B w0 n ops Q l F H := by
  unfold J at *
  exact fun a w ha hw => h a w ha (he.holds hw)
theorem GivesE.re {f : FuncId} {args : Array Value} {R R' : Value → Hp → Prop} (h : GivesE P f args B w0 H' R) (hi : Ent [] H [] H') (ho : ∀ v H1, R v H1 → ∃ H2, R' v H2 ∧ Ent [] H1 [] H2) : GivesE P f args B w0 H R' := by
  unfold GivesE at *
  intro w hw
  refine Calls.mono (h w (hi.holds hw)) ?_
  rintro e w' ⟨v, H1, rfl, hR, hh⟩
  obtain ⟨H2, h2, h3⟩ := ho v H1 hR
  exact ⟨v, H2, rfl, h2, h3.holds hh⟩
end
end SL
/-- The items of a round that collects grades. -/
def HdU (Bs l0 : Nat) (o : Obj) (v : Value) (ss : List GrB) (A : Hp) : Hp := .blk Bs [v] 123 :: .row v 108 2 (ss.flatMap encGr) :: .obj l0 o :: A
end Go.Proofs.YtmbbcmebdefggaaGreatDoor
namespace Go.Proofs.YtmbbcmebdefggaaGreatDoor
open Go Go.RowKit SL
end Go.Proofs.YtmbbcmebdefggaaGreatDoor
namespace Go.Proofs.YtmbbcmebdefggaaGreatDoor
open Go Go.RowKit SL
end Go.Proofs.YtmbbcmebdefggaaGreatDoor
