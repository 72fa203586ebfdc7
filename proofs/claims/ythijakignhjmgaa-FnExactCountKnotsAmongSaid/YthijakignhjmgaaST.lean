/- Strings as lists of numbers; rules for them. -/
import Derived.Test.YthijakignhjmgaaDX
namespace Go.Proofs.Ythijakignhjmgaa
open Go Go.RowKit SL
def strO (l : List Nat) : ByteArray := ⟨(l.map UInt8.ofNat).toArray⟩
theorem strO_size (l : List Nat) : (strO l).size = l.length := by
  show (l.map UInt8.ofNat).toArray.size = _
  simp
theorem strO_get {l : List Nat} {i : Nat} (h : i < l.length) : (strO l)[i]? = some (UInt8.ofNat (l.getD i 0)) := by
  have hs : i < (strO l).size := by rw [strO_size]; exact h
  rw [getElem?_pos (strO l) i hs]
  congr 1
  rw [ByteArray.getElem_eq_getElem_data]
  simp [strO, List.getD_eq_getElem?_getD, h]
theorem strO_extract (l : List Nat) (a b : Nat) : (strO l).extract a b = strO ((l.drop a).take (b - a)) := by
  apply ByteArray.ext
  rw [ByteArray.data_extract]
  simp [strO, List.map_drop, List.map_take]
namespace SL
section
variable {P : Program} {B : Nat} {w0 : World} {n : Nat} {Q : Po} {F : Fr} {H : Hp} {ops : Array Oper} {l : List Oper} {ty : TypeId} {pos : String} {af : Array Edge} {d : Nat} {dst : Option Tmp} {g : Option (Nat × Bool)}
theorem q_lenStr {x : Operand} {T : TypeId} {s : List Nat} [hT : Un P T .string] (hx : ev F x = some (.string (strO s))) :
    OpQ P B w0 n H F ⟨dst, .call { callee := .builtin .len, args := #[x], argTypes := #[T] }, ty, pos, af, g⟩ (.int .i64 (s.length : Nat)) := by
  have := q_lens (P := P) (B := B) (w0 := w0) (n := n) (F := F) (H := H) (ty := ty) (pos := pos) (af := af) (dst := dst) (g := g) (T := T) hx
  rwa [strO_size] at this
theorem Jq_lenStr {dr : Bool} {x : Operand} {T : TypeId} {s : List Nat} [hT : Un P T .string] (hdn : Nat.blt d n = true) (hx : ev F x = some (.string (strO s))) (kk : J dr P B w0 n ops Q l ((d, .int .i64 (s.length : Nat)) :: F) H) :
    J dr P B w0 n ops Q (⟨some d, .call { callee := .builtin .len, args := #[x], argTypes := #[T] }, ty, pos, af, none⟩ :: l) F H := J_q hdn (q_lenStr hx) kk
theorem q_indexStr {T : TypeId} {x y : Operand} {i : Nat} {k : IntKind} {s : List Nat} [hT : Un P T .string] (hx : ev F x = some (.string (strO s))) (hy : ev F y = some (.int k (i : Int))) (h1 : i < s.length) (hb : s.getD i 0 < 256) :
    OpQ P B w0 n H F ⟨dst, .index T x y, ty, pos, af, g⟩ (.int .u8 ((s.getD i 0 : Nat) : Int)) :=
  opq_run fun A ha w _ => by
    have e : (UInt8.ofNat (s.getD i 0)).toNat = s.getD i 0 := by simp only [UInt8.toNat_ofNat']; omega
    simp only [execOp, ha.ev hx, ha.ev hy, Instr.index, asIntOf, Sem.run_bind, Sem.run_pure, Result.andThen_ok, run_underlying hT.out, if_pos (Int.natCast_nonneg i), Int.toNat_natCast, strO_get h1, e]
theorem Jq_indexStr {dr : Bool} {T : TypeId} {x y : Operand} {i : Nat} {k : IntKind} {s : List Nat} [hT : Un P T .string] (hdn : Nat.blt d n = true) (hx : ev F x = some (.string (strO s))) (hy : ev F y = some (.int k (i : Int))) (h1 : i < s.length) (hb : s.getD i 0 < 256)
    (kk : J dr P B w0 n ops Q l ((d, .int .u8 ((s.getD i 0 : Nat) : Int)) :: F) H) : J dr P B w0 n ops Q (⟨some d, .index T x y, ty, pos, af, none⟩ :: l) F H := J_q hdn (q_indexStr hx hy h1 hb) kk
theorem q_sliceStr {T : TypeId} {x y z : Operand} {a b : Nat} {k k' : IntKind} {s : List Nat} [hT : Un P T .string] (hx : ev F x = some (.string (strO s))) (hy : ev F y = some (.int k (a : Int))) (hz : ev F z = some (.int k' (b : Int))) (h1 : a ≤ b) (h2 : b ≤ s.length) :
    OpQ P B w0 n H F ⟨dst, .slice T x (some y) (some z) none, ty, pos, af, g⟩ (.string (strO ((s.drop a).take (b - a)))) :=
  opq_run fun A ha w _ => by
    have e1 : (0 : Int) ≤ (b : Int) ∧ (b : Int) ≤ ((strO s).size : Nat) := by rw [strO_size]; omega
    have e2 : (0 : Int) ≤ (a : Int) ∧ (a : Int) ≤ (b : Nat) := by omega
    simp only [execOp, ha.ev hx, ha.ev hy, ha.ev hz, Instr.sliceAt, Instr.slice, Instr.sliceBounds, Instr.sliceBound, asIntOf, Option.map_some, Option.map_none, Sem.run_bind, Sem.run_pure, Result.andThen_ok, run_underlying hT.out, Option.isSome_none, Bool.false_eq_true, if_false, if_pos e1, Int.toNat_natCast, if_pos e2, strO_extract]
theorem Jq_sliceStr {dr : Bool} {T : TypeId} {x y z : Operand} {a b : Nat} {k k' : IntKind} {s : List Nat} [hT : Un P T .string] (hdn : Nat.blt d n = true) (hx : ev F x = some (.string (strO s))) (hy : ev F y = some (.int k (a : Int))) (hz : ev F z = some (.int k' (b : Int))) (h1 : a ≤ b) (h2 : b ≤ s.length)
    (kk : J dr P B w0 n ops Q l ((d, .string (strO ((s.drop a).take (b - a)))) :: F) H) : J dr P B w0 n ops Q (⟨some d, .slice T x (some y) (some z) none, ty, pos, af, none⟩ :: l) F H := J_q hdn (q_sliceStr hx hy hz h1 h2) kk
theorem q_sliceLo {T : TypeId} {x y : Operand} {a : Nat} {k : IntKind} {s : List Nat} [hT : Un P T .string] (hx : ev F x = some (.string (strO s))) (hy : ev F y = some (.int k (a : Int))) (h2 : a ≤ s.length) :
    OpQ P B w0 n H F ⟨dst, .slice T x (some y) none none, ty, pos, af, g⟩ (.string (strO (s.drop a))) :=
  opq_run fun A ha w _ => by
    have e2 : (0 : Int) ≤ (a : Int) ∧ (a : Int) ≤ (s.length : Nat) := by omega
    have e3 : (s.drop a).take (s.length - a) = s.drop a := List.take_of_length_le (by simp)
    simp only [execOp, ha.ev hx, ha.ev hy, Instr.sliceAt, Instr.slice, Instr.sliceBounds, Instr.sliceBound, asIntOf, Option.map_some, Option.map_none, Sem.run_bind, Sem.run_pure, Result.andThen_ok, run_underlying hT.out, Option.isSome_none, Bool.false_eq_true, if_false, if_pos e2, Int.toNat_natCast, strO_extract, strO_size, e3]
theorem Jq_sliceLo {dr : Bool} {T : TypeId} {x y : Operand} {a : Nat} {k : IntKind} {s : List Nat} [hT : Un P T .string] (hdn : Nat.blt d n = true) (hx : ev F x = some (.string (strO s))) (hy : ev F y = some (.int k (a : Int))) (h2 : a ≤ s.length)
    (kk : J dr P B w0 n ops Q l ((d, .string (strO (s.drop a))) :: F) H) : J dr P B w0 n ops Q (⟨some d, .slice T x (some y) none none, ty, pos, af, none⟩ :: l) F H := J_q hdn (q_sliceLo hx hy h2) kk
theorem q_subwR {T T' : TypeId} {x y : Operand} {k : IntKind} {a b r : Int} (hx : ev F x = some (.int k a)) (hy : ev F y = some (.int k b)) (hr : k.wrap (a - b) = r) :
    OpQ P B w0 n H F ⟨dst, .binOp .sub T x y T', ty, pos, af, g⟩ (.int k r) := by subst hr; exact q_subw hx hy
theorem Jq_subwR {dr : Bool} {T T' : TypeId} {x y : Operand} {k : IntKind} {a b r : Int} (hdn : Nat.blt d n = true) (hx : ev F x = some (.int k a)) (hy : ev F y = some (.int k b)) (hr : k.wrap (a - b) = r) (kk : J dr P B w0 n ops Q l ((d, .int k r) :: F) H) :
    J dr P B w0 n ops Q (⟨some d, .binOp .sub T x y T', ty, pos, af, none⟩ :: l) F H := J_q hdn (q_subwR hx hy hr) kk
theorem q_addwR {T T' : TypeId} {x y : Operand} {k : IntKind} {a b r : Int} (hx : ev F x = some (.int k a)) (hy : ev F y = some (.int k b)) (hr : k.wrap (a + b) = r) :
    OpQ P B w0 n H F ⟨dst, .binOp .add T x y T', ty, pos, af, g⟩ (.int k r) := by subst hr; exact q_addw hx hy
theorem Jq_addwR {dr : Bool} {T T' : TypeId} {x y : Operand} {k : IntKind} {a b r : Int} (hdn : Nat.blt d n = true) (hx : ev F x = some (.int k a)) (hy : ev F y = some (.int k b)) (hr : k.wrap (a + b) = r) (kk : J dr P B w0 n ops Q l ((d, .int k r) :: F) H) :
    J dr P B w0 n ops Q (⟨some d, .binOp .add T x y T', ty, pos, af, none⟩ :: l) F H := J_q hdn (q_addwR hx hy hr) kk
end
end SL
/-- Rows of strings. -/
def strs (L : List (List Nat)) : List Value := L.map fun l => .string (strO l)
theorem strs_len (L : List (List Nat)) : (strs L).length = L.length := by simp [strs]
theorem strs_snoc {L : List (List Nat)} {t : List Nat} : strs L ++ [.string (strO t)] = strs (L ++ [t]) := by simp [strs]
end Go.Proofs.Ythijakignhjmgaa
