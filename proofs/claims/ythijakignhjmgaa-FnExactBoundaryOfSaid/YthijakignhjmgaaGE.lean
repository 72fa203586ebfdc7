/- Calls whose value, and the cells that they leave in one block of the caller, are some of a kind; sources of numbers; more rules of u64. -/
import Derived.Test.YthijakignhjmgaaDX
namespace Go.Proofs.Ythijakignhjmgaa
open Go Go.RowKit
namespace SL
/-- A call hands back some value and leaves some items, of which R tells, in whatever world of the caller's items. -/
def GivesE (P : Program) (f : FuncId) (args : Array Value) (B : Nat) (w0 : World) (H : Hp) (R : Value → Hp → Prop) : Prop :=
  ∀ w, Holds B w0 H w → Calls P f args w fun e w' => ∃ v H', e = .returned v ∧ R v H' ∧ Holds B w0 H' w'
def eQ (P : Program) (B : Nat) (w0 : World) (n : Nat) (fn : Func) (R : Value → Hp → Prop) : Po := fun e F H => match e with
  | .normal | .ret => ∃ v H', R v H' ∧ ∀ a w', Has n F a → Holds B w0 H w' → (results fn a.tmps).run P w' = .ok v w' ∧ Holds B w0 H' w'
  | _ => False
/-- The block b, and the others. -/
class MF (b : Nat) (H : Hp) (cs : outParam (List Value)) (E : outParam TypeId) (Hr : outParam Hp) (H' : outParam (List Value → Hp)) : Prop where
  out : ∃ H1 H2, H = H1 ++ It.blk b cs E :: H2 ∧ Hr = H1 ++ H2 ∧ ∀ cs', H' cs' = H1 ++ It.blk b cs' E :: H2
instance MF_0 {b : Nat} {H : Hp} {cs : List Value} {E : TypeId} : MF b (.blk b cs E :: H) cs E H (fun cs' => .blk b cs' E :: H) := ⟨[], H, rfl, rfl, fun _ => rfl⟩
instance (priority := low) MF_S {b : Nat} {H Hr : Hp} {H' : List Value → Hp} {cs : List Value} {E : TypeId} {x : It} [h : MF b H cs E Hr H'] : MF b (x :: H) cs E (x :: Hr) (fun cs' => x :: H' cs') := ⟨by
  obtain ⟨H1, H2, rfl, rfl, h2⟩ := h.out
  exact ⟨x :: H1, H2, rfl, rfl, fun cs' => by rw [h2]; rfl⟩⟩
theorem Holds.front {B : Nat} {w0 w : World} {H1 H2 : Hp} {x : It} (h : Holds B w0 (H1 ++ x :: H2) w) : Holds B w0 (x :: (H1 ++ H2)) w :=
  h.part (fun _ hy => List.perm_middle.mem_iff.2 hy) ((List.Perm.filterMap _ List.perm_middle).nodup_iff.1 h.apart)
theorem Holds.back {B : Nat} {w0 w : World} {H1 H2 : Hp} {x : It} (h : Holds B w0 (x :: (H1 ++ H2)) w) : Holds B w0 (H1 ++ x :: H2) w :=
  h.part (fun _ hy => List.perm_middle.mem_iff.1 hy) ((List.Perm.filterMap _ List.perm_middle).nodup_iff.2 h.apart)
/-- The cells of a source: what it reads, how far, and a number. -/
def srcv (c : Value) (i : Nat) (h : Int) : List Value := [c, .int .i64 (i : Int), .int .u64 h]
def srcR (b : Nat) (c : Value) (T : TypeId) (H2 : Hp) (V : Value → Prop) : Value → Hp → Prop := fun v H' => ∃ i h, V v ∧ H' = .blk b (srcv c i h) T :: H2
section
variable {P : Program} {B : Nat} {w0 : World} {n : Nat} {Q : Po} {F : Fr} {H H' : Hp} {ops : Array Oper} {l : List Oper} {ty : TypeId} {pos : String} {af : Array Edge} {d : Nat} {dst : Option Tmp} {g : Option (Nat × Bool)} {fn : Func} {v : Value} {e : Exit}
theorem givesE_of {f : FuncId} {c : Code} {args : List Value} {R : Value → Hp → Prop} (F : Fr) (hf : P.funcs[f]? = some fn) (hb : fn.body = some c) (hn : fn.ntmps = n) (hlen : Nat.ble args.length n = true) (hF : ∀ t v, look F t = some v → args[t]? = some v)
    (h : JC P B w0 n c (eQ P B w0 n fn R) F H) : GivesE P f args.toArray B w0 H R := by
  intro w hH
  refine calls_of_wp hf hb ?_
  subst hn
  unfold JC at h
  refine Code.wp_mono ?_ (h _ w (look_args F hF (Nat.le_of_ble_eq_true hlen)) hH)
  rintro e a' w' hl
  unfold lift at hl
  obtain ⟨F', H1, q, ha, hw⟩ := hl
  unfold eQ at q
  cases e with
  | normal => obtain ⟨v, H', hR, hq⟩ := q; obtain ⟨hv, hr⟩ := hq a' w' ha hw; exact ⟨ha.dry, v, hv, v, H', rfl, hR, hr⟩
  | ret => obtain ⟨v, H', hR, hq⟩ := q; obtain ⟨hv, hr⟩ := hq a' w' ha hw; exact ⟨ha.dry, v, hv, v, H', rfl, hR, hr⟩
  | _ => exact q.elim
theorem eQ_mk {R : Value → Hp → Prop} (he : isEnd e = true) (hR : R v H') (h : ∀ a w', Has n F a → Holds B w0 H w' → (results fn a.tmps).run P w' = .ok v w' ∧ Holds B w0 H' w') : eQ P B w0 n fn R e F H := by
  unfold eQ
  cases e <;> first | exact ⟨v, H', hR, h⟩ | cases he
theorem e1 {R : Value → Hp → Prop} {t : Tmp} (he : isEnd e = true) (h : fn.results = #[.tmp t]) (hv : look F t = some v) (hi : Ent [] H [] H') (hR : R v H') : eQ P B w0 n fn R e F H :=
  eQ_mk he hR fun _ w' ha hw => ⟨results1 h ha hv w', hi.holds hw⟩
theorem eC {R : Value → Hp → Prop} {t : Tmp} {T : TypeId} {s b : Nat} {cs : List Value} {E : TypeId} [IsAg P T s] (he : isEnd e = true) (h : fn.results = #[.cell t T]) (hv : look F t = some (.pointer (some ⟨b, 0, none⟩))) (hm : It.blk b cs E ∈ H) (hl : cs.length = s) (hi : Ent [] H [] H') (hR : R (.agg cs.toArray) H') : eQ P B w0 n fn R e F H :=
  eQ_mk he hR fun _ _ ha hw => ⟨resultsC h ha hv hw hm hl, hi.holds hw⟩
theorem resultsCTT {t u u' : Tmp} {T : TypeId} {s : Nat} (h : fn.results = #[.cell t T, .tmp u, .tmp u']) [hT : IsAg P T s] {a : Act} (ha : Has n F a) {b : Nat} {cs : List Value} {E : TypeId} {v' v'' : Value} (hv : look F t = some (.pointer (some ⟨b, 0, none⟩))) (hv' : look F u = some v') (hv'' : look F u' = some v'') {w : World} (hw : Holds B w0 H w) (hm : It.blk b cs E ∈ H) (hl : cs.length = s) :
    (results fn a.tmps).run P w = .ok (.tuple #[.agg cs.toArray, v', v'']) w := by
  have e1 := ha.look t _ hv
  have e2 := ha.look u _ hv'
  have e3 := ha.look u' _ hv''
  simp only [Array.getD_eq_getD_getElem?] at e1 e2 e3
  simp [results, h, e1, e2, e3, asAddr, loadVarAg hw hm hl]
theorem eCTT {R : Value → Hp → Prop} {t u u' : Tmp} {T : TypeId} {s b : Nat} {cs : List Value} {E : TypeId} {v' v'' : Value} [IsAg P T s] (he : isEnd e = true) (h : fn.results = #[.cell t T, .tmp u, .tmp u']) (hv : look F t = some (.pointer (some ⟨b, 0, none⟩))) (hv' : look F u = some v') (hv'' : look F u' = some v'') (hm : It.blk b cs E ∈ H) (hl : cs.length = s) (hi : Ent [] H [] H') (hR : R (.tuple #[.agg cs.toArray, v', v'']) H') : eQ P B w0 n fn R e F H :=
  eQ_mk he hR fun _ _ ha hw => ⟨resultsCTT h ha hv hv' hv'' hw hm hl, hi.holds hw⟩
theorem eCT {R : Value → Hp → Prop} {t u : Tmp} {T : TypeId} {s b : Nat} {cs : List Value} {E : TypeId} {v' : Value} [IsAg P T s] (he : isEnd e = true) (h : fn.results = #[.cell t T, .tmp u]) (hv : look F t = some (.pointer (some ⟨b, 0, none⟩))) (hv' : look F u = some v') (hm : It.blk b cs E ∈ H) (hl : cs.length = s) (hi : Ent [] H [] H') (hR : R (.tuple #[.agg cs.toArray, v']) H') : eQ P B w0 n fn R e F H :=
  eQ_mk he hR fun _ _ ha hw => ⟨resultsCT h ha hv hv' hw hm hl, hi.holds hw⟩
/-- A call that leaves some items. -/
theorem JcE {f : Operand} {xs : List Operand} {Ts : Array TypeId} {k : FuncId} {args : List Value} {R : Value → Hp → Prop} (hdn : Nat.blt d n = true) (hf : ev F f = some (.func (.func k) #[] #[])) (hxs : evs F xs = some args) (hk : Runs P k)
    (h : GivesE P k args.toArray B w0 H R) (kk : ∀ v H', R v H' → J false P B w0 n ops Q l ((d, v) :: F) H') : J false P B w0 n ops Q (⟨some d, .call { callee := .value f, args := xs.toArray, argTypes := Ts }, ty, pos, af, none⟩ :: l) F H := by
  unfold J at *
  intro a w ha hw
  refine wpList_plain rfl fun K' hK => ?_
  unfold Oper.wp
  rw [run_call ha hf hxs w]
  have h1 := h w hw
  simp only [List.append_nil]
  refine h1.mono ?_
  rintro e w' ⟨v, H', rfl, hR, hh⟩
  exact hK _ _ (kk v H' hR _ w' (ha.put (by simpa [Nat.blt_eq] using hdn) v) hh)
/-- A call that draws from the source at the block b. -/
theorem JcS {b : Nat} {f : Operand} {xs : List Operand} {Ts : Array TypeId} {k : FuncId} {args : List Value} {c : Value} {T : TypeId} {Hr : Hp} {H' : List Value → Hp} {cs : List Value} {V : Value → Prop} {i : Nat} {h : Int} (hdn : Nat.blt d n = true) (hf : ev F f = some (.func (.func k) #[] #[])) (hxs : evs F xs = some args) (hk : Runs P k)
    (hm : MF b H cs T Hr H') (hcs : cs = srcv c i h)
    (hg : GivesE P k args.toArray B w0 (.blk b (srcv c i h) T :: Hr) (srcR b c T Hr V)) (kk : ∀ v i' h', V v → J false P B w0 n ops Q l ((d, v) :: F) (H' (srcv c i' h'))) : J false P B w0 n ops Q (⟨some d, .call { callee := .value f, args := xs.toArray, argTypes := Ts }, ty, pos, af, none⟩ :: l) F H := by
  subst hcs
  obtain ⟨H1, H2, rfl, rfl, h2⟩ := hm.out
  refine JcE (R := fun v G => ∃ i' h', V v ∧ G = H' (srcv c i' h')) hdn hf hxs hk ?_ ?_
  · intro w hw
    refine (hg w hw.front).mono ?_
    rintro e w' ⟨v, _, rfl, ⟨i', h', hv, rfl⟩, hh⟩
    exact ⟨v, _, rfl, ⟨i', h', hv, rfl⟩, by rw [h2]; exact hh.back⟩
  · rintro v _ ⟨i', h', hv, rfl⟩
    exact kk v i' h' hv
/-- Shifts to the right, masks. -/
theorem q_shr {T T' : TypeId} {x y : Operand} {k k' : IntKind} {a : Int} {i : Nat} (hx : ev F x = some (.int k a)) (hy : ev F y = some (.int k' (i : Int))) :
    OpQ P B w0 n H F ⟨dst, .binOp .shr T x y T', ty, pos, af, g⟩ (.int k (a.fdiv (2 ^ (min i k.bits)))) :=
  q_bin hx hy fun w => by
    rw [eqGuard_int]
    simp only [binOp_shr, Op.shift, Sem.run_bind, Sem.run_pure, Result.andThen_ok, Int.toNat_natCast]
    rw [if_neg (by omega)]
    rfl
theorem Jq_shr {dr : Bool} {T T' : TypeId} {x y : Operand} {k k' : IntKind} {a : Int} {i : Nat} (hdn : Nat.blt d n = true) (hx : ev F x = some (.int k a)) (hy : ev F y = some (.int k' (i : Int))) (kk : J dr P B w0 n ops Q l ((d, .int k (a.fdiv (2 ^ (min i k.bits)))) :: F) H) :
    J dr P B w0 n ops Q (⟨some d, .binOp .shr T x y T', ty, pos, af, none⟩ :: l) F H := J_q hdn (q_shr hx hy) kk
/-- The last 24 bits. -/
def low24 (a : Int) : Nat := (BitVec.ofInt 64 a &&& BitVec.ofInt 64 16777215).toNat
theorem low24_le (a : Int) : low24 a ≤ 16777215 := by
  unfold low24
  rw [BitVec.toNat_and]
  exact Nat.le_trans Nat.and_le_right (by decide)
theorem q_and24 {T T' : TypeId} {x y : Operand} {a : Int} (hx : ev F x = some (.int .u64 a)) (hy : ev F y = some (.int .u64 16777215)) :
    OpQ P B w0 n H F ⟨dst, .binOp .and T x y T', ty, pos, af, g⟩ (.int .u64 ((low24 a : Nat) : Int)) :=
  q_bin hx hy fun w => by
    have h1 := low24_le a
    have h2 : IntKind.u64.wrap ((low24 a : Nat) : Int) = ((low24 a : Nat) : Int) := by
      simp only [IntKind.wrap, IntKind.bits, IntKind.signed, Bool.false_and, Bool.false_eq_true, if_false]
      omega
    rw [eqGuard_int]
    simp only [binOp_and, Op.intBits, Sem.run_bind, Sem.run_pure, Result.andThen_ok]
    show Result.ok (Value.int .u64 (IntKind.u64.wrap ((low24 a : Nat) : Int))) w = _
    rw [h2]
theorem Jq_and24 {dr : Bool} {T T' : TypeId} {x y : Operand} {a : Int} (hdn : Nat.blt d n = true) (hx : ev F x = some (.int .u64 a)) (hy : ev F y = some (.int .u64 16777215)) (kk : J dr P B w0 n ops Q l ((d, .int .u64 ((low24 a : Nat) : Int)) :: F) H) :
    J dr P B w0 n ops Q (⟨some d, .binOp .and T x y T', ty, pos, af, none⟩ :: l) F H := J_q hdn (q_and24 hx hy) kk
theorem Jq_and24x {dr : Bool} {T T' : TypeId} {x y : Operand} {a : Int} (hdn : Nat.blt d n = true) (hx : ev F x = some (.int .u64 a)) (hy : ev F y = some (.int .u64 16777215)) (kk : ∀ r : Nat, r ≤ 16777215 → J dr P B w0 n ops Q l ((d, .int .u64 (r : Int)) :: F) H) :
    J dr P B w0 n ops Q (⟨some d, .binOp .and T x y T', ty, pos, af, none⟩ :: l) F H := J_q hdn (q_and24 hx hy) (kk _ (low24_le a))
/-- A literal of five numbers. -/
theorem J_lit5 {T e : TypeId} {by' : Nat} {z : Value} {x y t q p : Operand} {v u s r o : Value} [hS : IS P T e 1 by' z] (hd : Nat.blt d n = true) (hx : ev F x = some v) (hy : ev F y = some u) (ht : ev F t = some s) (hq : ev F q = some r) (hp : ev F p = some o) (hv : v.cells = #[v]) (hu : u.cells = #[u]) (hs : s.cells = #[s]) (hr : r.cells = #[r]) (ho : o.cells = #[o])
    (k : ∀ b, J false P B w0 n ops Q l ((d, .slice (some ⟨b, 0, none⟩) 5 5) :: F) (.row (.slice (some ⟨b, 0, none⟩) 5 5) e 1 [v, u, s, r, o] :: H)) :
    J false P B w0 n ops Q (⟨some d, .buildSlice T 5 #[(0, x), (1, y), (2, t), (3, q), (4, p)], ty, pos, af, none⟩ :: l) F H := by
  refine J_lit (len := 5) (parts := [(0, x), (1, y), (2, t), (3, q), (4, p)]) (cells := [v, u, s, r, o]) hd (by decide) (by decide) (by decide) (fun a ha => ?_) rfl k
  have hz : z.cells.size = 1 := by obtain ⟨_, i, _, _, _, _, h⟩ := hS.out; exact h
  simp [Instr.fill, ha.ev hx, ha.ev hy, ha.ev ht, ha.ev hq, ha.ev hp, hv, hu, hs, hr, ho, hz]
  apply Array.ext'
  simp [List.range_succ]
end
attribute [irreducible] GivesE eQ
end SL
/-- A slice of bytes of the caller's: its length, and where its cells lie. -/
def CodeIn (c : Value) (L : List Nat) (H : SL.Hp) : Prop := ∃ a cap, c = .slice a L.length cap ∧ L.length ≤ 9223372036854775807 ∧ (∀ i, L.getD i 0 < 256) ∧ (L ≠ [] → ∃ b off, a = some ⟨b, off, none⟩ ∧ SL.It.rd b off (u8s L) ∈ H)
theorem CodeIn.cons {c : Value} {L : List Nat} {H : SL.Hp} {x : SL.It} (h : CodeIn c L H) : CodeIn c L (x :: H) := by
  obtain ⟨a, cap, h1, h2, h3, h4⟩ := h
  refine ⟨a, cap, h1, h2, h3, fun hL => ?_⟩
  obtain ⟨b, off, h5, h6⟩ := h4 hL
  exact ⟨b, off, h5, SL.mS h6⟩
end Go.Proofs.Ythijakignhjmgaa
