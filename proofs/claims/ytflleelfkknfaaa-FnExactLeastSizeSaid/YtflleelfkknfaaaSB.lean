/- Walks: all states of a size: a closure that calls itself and appends to a row. Walks: states. -/
import Derived.Test.YtflleelfkknfaaaYB
import Derived.Test.YtflleelfkknfaaaAP
namespace Go.Proofs.Ytflleelfkknfaaa
open Go Go.RowKit SL
namespace SL
section
variable {P : Program} {B : Nat} {w0 : World} {n : Nat} {Q : Po} {F : Fr} {H H' : Hp} {ops : Array Oper} {l : List Oper} {ty : TypeId} {pos : String} {af : Array Edge} {d : Nat} {dst : Option Tmp} {g : Option (Nat × Bool)} {fn : Func} {v : Value} {e : Exit}
/-- A slice stored, behind which a row lies. -/
theorem J_s1r {T : TypeId} {x y : Operand} {b o : Nat} {cs cs' : List Value} {E : TypeId} {v : Value} {e' sz : Nat} {xs : List Value} [hT : IsSc P T] (hx : ev F x = some (.pointer (some ⟨b, o, none⟩))) (hy : ev F y = some v) (hr : It.row v e' sz xs ∈ H) (_hm : MB b H cs E)
    (hl : o < cs.length) (hcs : cs.set o v = cs') (hu : MU b H cs E cs' H') (k : J false P B w0 n ops Q l F H') : J false P B w0 n ops Q (⟨none, .store T x y, ty, pos, af, none⟩ :: l) F H := by
  unfold J at *
  intro a w ha hw
  have hv : v.oneCell' = true := by
    obtain ⟨m, _, h2⟩ := hw.row_slice hr
    rcases h2 with ⟨rfl, _⟩ | ⟨_, _, _, rfl, _⟩ <;> rfl
  have h1 := J_s1 (P := P) (B := B) (w0 := w0) (n := n) (Q := Q) (F := F) (H := H) (ops := ops) (l := l) (ty := ty) (pos := pos) (af := af) (hT := hT) hx hy hv _hm hl hcs hu (by unfold J; exact k)
  unfold J at h1
  exact h1 a w ha hw
theorem q_shrN {T T' : TypeId} {x y : Operand} {k : IntKind} {a i q : Nat} (hx : ev F x = some (.int .i64 (a : Int))) (hy : ev F y = some (.int k (i : Int))) (hi : i ≤ 64) (hq : a / 2 ^ i = q) :
    OpQ P B w0 n H F ⟨dst, .binOp .shr T x y T', ty, pos, af, g⟩ (.int .i64 (q : Int)) := by
  subst hq
  have h := q_shr (P := P) (B := B) (w0 := w0) (n := n) (H := H) (F := F) (T := T) (T' := T') (ty := ty) (pos := pos) (af := af) (dst := dst) (g := g) hx hy
  have e : ((a : Int).fdiv (2 ^ (min i IntKind.i64.bits))) = ((a / 2 ^ i : Nat) : Int) := by
    have h2 : (2 : Int) ^ i = ((2 ^ i : Nat) : Int) := by simp
    rw [show min i IntKind.i64.bits = i from Nat.min_eq_left hi, h2, Int.fdiv_eq_ediv_of_nonneg _ (Int.natCast_nonneg _)]
    exact (Int.natCast_ediv a (2 ^ i)).symm
  rwa [e] at h
theorem Jq_shrN {dr : Bool} {T T' : TypeId} {x y : Operand} {k : IntKind} {a i q : Nat} (hdn : Nat.blt d n = true) (hx : ev F x = some (.int .i64 (a : Int))) (hy : ev F y = some (.int k (i : Int))) (hi : i ≤ 64) (hq : a / 2 ^ i = q) (kk : J dr P B w0 n ops Q l ((d, .int .i64 (q : Int)) :: F) H) :
    J dr P B w0 n ops Q (⟨some d, .binOp .shr T x y T', ty, pos, af, none⟩ :: l) F H := J_q hdn (q_shrN hx hy hi hq) kk
theorem q_and1 {T T' : TypeId} {x y : Operand} {a : Nat} (hx : ev F x = some (.int .i64 (a : Int))) (hy : ev F y = some (.int .i64 1)) (ha : a < 2 ^ 63) :
    OpQ P B w0 n H F ⟨dst, .binOp .and T x y T', ty, pos, af, g⟩ (.int .i64 ((a % 2 : Nat) : Int)) :=
  q_bin hx hy fun w => by
    have h2 : IntKind.i64.wrap ((a % 2 : Nat) : Int) = ((a % 2 : Nat) : Int) := wrap_in (by omega)
    have e : (BitVec.ofInt 64 (a : Int) &&& BitVec.ofInt 64 1).toNat = a % 2 := by
      rw [BitVec.toNat_and, BitVec.ofInt_natCast, BitVec.toNat_ofNat, Nat.mod_eq_of_lt (by omega)]
      exact Nat.and_one_is_mod a
    rw [eqGuard_int]
    simp only [binOp_and, Op.intBits, Sem.run_bind, Sem.run_pure, Result.andThen_ok]
    show Result.ok (Value.int .i64 (IntKind.i64.wrap ((BitVec.ofInt 64 (a : Int) &&& BitVec.ofInt 64 1).toNat : Int))) w = _
    rw [e, h2]
theorem Jq_and1 {dr : Bool} {T T' : TypeId} {x y : Operand} {a : Nat} (hdn : Nat.blt d n = true) (hx : ev F x = some (.int .i64 (a : Int))) (hy : ev F y = some (.int .i64 1)) (ha : a < 2 ^ 63) (kk : J dr P B w0 n ops Q l ((d, .int .i64 ((a % 2 : Nat) : Int)) :: F) H) :
    J dr P B w0 n ops Q (⟨some d, .binOp .and T x y T', ty, pos, af, none⟩ :: l) F H := J_q hdn (q_and1 hx hy ha) kk
end
end SL
end Go.Proofs.Ytflleelfkknfaaa
namespace Go.Proofs.Ytflleelfkknfaaa
open Go Go.RowKit SL
end Go.Proofs.Ytflleelfkknfaaa
