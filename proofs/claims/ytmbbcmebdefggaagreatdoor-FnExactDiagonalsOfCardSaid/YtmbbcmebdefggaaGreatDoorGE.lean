/- Equality of arrays of bytes and of structs of these, as the operators == and != tell it. More rules: parts of values, composites with parts, literals of structs, rows of structs, numbers respelled. Calls whose value, and the cells that they leave in one block of the caller, are some of a kind; sources of numbers; more rules of u64. -/
import Derived.Test.YtmbbcmebdefggaaGreatDoorDr
import Derived.Test.YtmbbcmebdefggaaGreatDoorV
import Derived.ChangeKeysEq
namespace Go.Proofs.YtmbbcmebdefggaaGreatDoor
open Go Go.RowKit SL
section
variable {P : Program} (w : World)
theorem part_u8 {e : TypeId} (hu : P.underlying e = some (.int .u8)) {xs : List Value} {off : Nat} {v : Value} (hx : xs[off]? = some v) : (part e xs.toArray off).run P w = .ok v w :=
  run_part_plain w (by simp [Program.plainKey, hu]) (by simpa using hx)
theorem run_eqItems_u8 (d : Nat) {e : TypeId} (hu : P.underlying e = some (.int .u8)) (X Y : List Nat) : ∀ is : List Nat, (∀ i ∈ is, i < X.length ∧ i < Y.length) →
    (Op.eqItems (d + 1) e 1 (u8s X).toArray (u8s Y).toArray is).run P w = .ok (decide (∀ i ∈ is, X.getD i 0 = Y.getD i 0)) w
  | [], _ => by simp [Op.eqItems]
  | i :: is, h => by
    have hi := h i List.mem_cons_self
    have ih := run_eqItems_u8 d hu X Y is (fun j hj => h j (List.mem_cons_of_mem _ hj))
    simp only [Op.eqItems, Nat.mul_one, Sem.run_bind, part_u8 w hu (u8s_get hi.1), part_u8 w hu (u8s_get hi.2), Result.andThen_ok, run_equalIn_int w d e _ _ _ _ hu]
    by_cases e : X.getD i 0 = Y.getD i 0
    · rw [e]
      simp only [beq_self_eq_true, Bool.not_true, Bool.false_eq_true, if_false, ih]
      congr 1
      simp only [List.mem_cons, forall_eq_or_imp, e, true_and]
    · have : ((X.getD i 0 : Int) == (Y.getD i 0 : Int)) = false := by
        rw [beq_eq_false_iff_ne]; omega
      rw [this]
      simp only [Bool.not_false, if_true, Sem.run_pure]
      congr 1
      rw [eq_comm, decide_eq_false_iff_not]
      intro k
      exact e (k i List.mem_cons_self)
theorem eqIn_u8 (d : Nat) {t e : TypeId} {len : Nat} (ht : P.underlying t = some (.array len e)) (hu : P.underlying e = some (.int .u8)) (hc : P.cellsOf e = 1) (X Y : List Nat) (lX : X.length = len) (lY : Y.length = len) :
    (Op.equalIn (d + 2) t (.agg (u8s X).toArray) (.agg (u8s Y).toArray)).run P w = .ok (decide (X = Y)) w := by
  obtain ⟨i, hi⟩ := info_of_underlying hu
  rw [run_equalIn_array w (d + 1) _ _ ht hi, hc, run_eqItems_u8 w d hu X Y _ (fun j hj => by have := List.mem_range.1 hj; omega)]
  congr 1
  refine decide_eq_decide.2 ⟨fun h => ?_, fun h => by subst h; simp⟩
  refine List.ext_getElem (by omega) fun j h1 h2 => ?_
  have := h j (List.mem_range.2 (by omega))
  simpa [List.getD_eq_getElem?_getD, h1, h2] using this
theorem eqFields_int (d : Nat) {f : Field} {fs : List Field} {k : IntKind} {xs ys : List Value} {a b : Int} (hn : f.name ≠ "_") (hu : P.underlying f.type = some (.int k)) (hx : xs[f.offset]? = some (.int k a)) (hy : ys[f.offset]? = some (.int k b)) {r : Bool}
    (hr : (Op.eqFields (d + 1) xs.toArray ys.toArray fs).run P w = .ok r w) : (Op.eqFields (d + 1) xs.toArray ys.toArray (f :: fs)).run P w = .ok (decide (a = b) && r) w := by
  have p1 := run_part_plain (P := P) w (e := f.type) (by simp [Program.plainKey, hu]) (xs := xs.toArray) (off := f.offset) (by simpa using hx)
  have p2 := run_part_plain (P := P) w (e := f.type) (by simp [Program.plainKey, hu]) (xs := ys.toArray) (off := f.offset) (by simpa using hy)
  simp only [Op.eqFields, hn, ne_eq, not_false_eq_true, if_true, Sem.run_bind, p1, p2, Result.andThen_ok, run_equalIn_int w d _ _ _ _ _ hu]
  by_cases e : a = b
  · subst e; simp [hr]
  · simp [e]
def shF (f : Field) : Bool × Nat × TypeId := (f.name != "_", f.offset, f.type)
theorem fs_cons {fs : List Field} {o : Nat} {t : TypeId} {rest : List (Bool × Nat × TypeId)} (h : fs.map shF = (true, o, t) :: rest) : ∃ f fs', fs = f :: fs' ∧ f.name ≠ "_" ∧ f.offset = o ∧ f.type = t ∧ fs'.map shF = rest := by
  cases fs with
  | nil => cases h
  | cons f fs =>
    simp only [List.map_cons, shF, List.cons.injEq, Prod.mk.injEq, bne_iff_ne] at h
    exact ⟨f, fs, rfl, h.1.1, h.1.2.1, h.1.2.2, h.2⟩
theorem fs_nil {fs : List Field} (h : fs.map shF = []) : fs = [] := by simpa using h
theorem eqFields_nil (d : Nat) {xs ys : Array Value} : (Op.eqFields d xs ys []).run P w = .ok true w := by simp [Op.eqFields]
end
section
variable {P : Program} {B : Nat} {w0 : World} {n : Nat} {Q : Po} {F : Fr} {H : Hp} {ops : Array Oper} {l : List Oper} {ty : TypeId} {pos : String} {af : Array Edge} {d : Nat} {dst : Option Tmp} {g : Option (Nat × Bool)}
/-- Two aggregates of a type whose equality is told. -/
theorem q_eqA {T T' : TypeId} {x y : Operand} {xs ys : Array Value} {r : Bool} (hx : ev F x = some (.agg xs)) (hy : ev F y = some (.agg ys)) (hm : P.eqGuardType P.depth T = false)
    (h : ∀ w, (Op.equalIn 10000 T (.agg xs) (.agg ys)).run P w = .ok r w) : OpQ P B w0 n H F ⟨dst, .binOp .eql T x y T', ty, pos, af, g⟩ (.bool r) := by
  refine q_bin hx hy fun w => ?_
  rw [Sem.run_bind, run_eqGuard_agg w _ _ _ _ _ _ hm, Result.andThen_ok, run_eql_struct, h w, Result.andThen_ok]
theorem Jq_eqA {dr : Bool} {T T' : TypeId} {x y : Operand} {xs ys : Array Value} {r : Bool} (hdn : Nat.blt d n = true) (hx : ev F x = some (.agg xs)) (hy : ev F y = some (.agg ys)) (hm : P.eqGuardType P.depth T = false)
    (h : ∀ w, (Op.equalIn 10000 T (.agg xs) (.agg ys)).run P w = .ok r w) (kk : J dr P B w0 n ops Q l ((d, .bool r) :: F) H) : J dr P B w0 n ops Q (⟨some d, .binOp .eql T x y T', ty, pos, af, none⟩ :: l) F H := J_q hdn (q_eqA hx hy hm h) kk
end
end Go.Proofs.YtmbbcmebdefggaaGreatDoor
namespace Go.Proofs.YtmbbcmebdefggaaGreatDoor
open Go Go.RowKit
namespace SL
section
variable {P : Program} {B : Nat} {w0 : World} {n : Nat} {Q : Po} {F : Fr} {H : Hp} {ops : Array Oper} {l : List Oper} {ty : TypeId} {pos : String} {af : Array Edge} {d : Nat} {dst : Option Tmp} {g : Option (Nat × Bool)}
theorem part_sc {e : TypeId} [hE : IsSc P e] (w : World) {xs : List Value} {off : Nat} {v : Value} (hx : xs[off]? = some v) : (part e xs.toArray off).run P w = .ok v w := by
  simp [part, (hE.out w).1, hx]
theorem q_indexV {T e : TypeId} {x y : Operand} {len i : Nat} {k : IntKind} {cs : List Value} {v : Value} [hT : Un P T (.array len e)] [hE : IsSc P e] (hx : ev F x = some (.agg cs.toArray)) (hy : ev F y = some (.int k (i : Int))) (h1 : i < len) (hc : cs[i]? = some v) :
    OpQ P B w0 n H F ⟨dst, .index T x y, ty, pos, af, g⟩ v :=
  opq_run fun A ha w _ => by
    have hp := part_sc (P := P) (e := e) w (xs := cs) (off := i) hc
    have hs := (hE.out w).2
    have hi : (0 : Int) ≤ (i : Int) ∧ (i : Int) < (len : Int) := by omega
    simp only [execOp, ha.ev hx, ha.ev hy, Instr.index, asIntOf, Sem.run_bind, Sem.run_pure, Result.andThen_ok, run_underlying hT.out, if_pos hi, hs, Int.toNat_natCast, Nat.mul_one, hp]
theorem Jq_indexV {dr : Bool} {T e : TypeId} {x y : Operand} {len i : Nat} {k : IntKind} {cs : List Value} {v : Value} [hT : Un P T (.array len e)] [hE : IsSc P e] (hdn : Nat.blt d n = true) (hx : ev F x = some (.agg cs.toArray)) (hy : ev F y = some (.int k (i : Int))) (h1 : i < len) (hc : cs[i]? = some v)
    (kk : J dr P B w0 n ops Q l ((d, v) :: F) H) : J dr P B w0 n ops Q (⟨some d, .index T x y, ty, pos, af, none⟩ :: l) F H := J_q hdn (q_indexV hx hy h1 hc) kk
theorem yielded_undef {a : Act} (ha : Has n F a) {j e : Nat} (hj : (ops[j]?).bind (·.dst) = some e) (hb : look F e = some undef) : yielded ops a.tmps j = none := by
  have hv := ha.look e _ hb
  unfold yielded
  rw [hj]
  simp only [Option.bind_some]
  rw [Array.getD_eq_getD_getElem?] at hv
  cases h : a.tmps[e]? with
  | none => rfl
  | some v =>
    rw [h] at hv
    simp only [Option.getD_some] at hv
    subst hv
    rfl
/-- A guard on what was left out. -/
theorem J_skipU {dr : Bool} {op : Op} {j e : Nat} {c : Bool} (hj : (ops[j]?).bind (·.dst) = some e) (hb : look F e = some undef) (hd : Nat.blt d n = true) (k : J dr P B w0 n ops Q l ((d, undef) :: F) H) :
    J dr P B w0 n ops Q (⟨some d, op, ty, pos, af, some (j, c)⟩ :: l) F H := by
  have hd' : d < n := by simpa [Nat.blt_eq] using hd
  have hw' : ∀ a, Has n F a → Region.wanted ⟨some d, op, ty, pos, af, some (j, c)⟩ (yielded ops a.tmps) = false := fun a ha => by
    simp only [Region.wanted, yielded_undef ha hj hb]; rfl
  unfold J at *
  cases dr with
  | false =>
    intro a w ha hw
    unfold wpList
    rw [if_neg (by rw [hw' a ha]; simp)]
    exact k _ w (ha.put hd' _) hw
  | true =>
    intro a ha
    unfold wpQuiet
    rw [if_neg (by rw [hw' a ha]; simp)]
    exact k _ (ha.put hd' _)
def pvs (F : Fr) : List (Nat × Operand) → Option (List (Nat × Value))
  | [] => some []
  | (i, x) :: xs => match ev F x with
    | none => none
    | some v => match pvs F xs with
      | none => none
      | some vs => some ((i, v) :: vs)
theorem pvs_ok {F : Fr} {a : Act} (h : Has n F a) : ∀ {xs : List (Nat × Operand)} {vs : List (Nat × Value)}, pvs F xs = some vs → xs.map (fun (i, x) => (i, a.eval x)) = vs
  | [], vs, hx => by simp only [pvs, Option.some.injEq] at hx; subst hx; rfl
  | (i, x) :: xs, vs, hx => by
    simp only [pvs] at hx
    cases h1 : ev F x with
    | none => simp [h1] at hx
    | some v =>
      cases h2 : pvs F xs with
      | none => simp [h1, h2] at hx
      | some us =>
        simp only [h1, h2, Option.some.injEq] at hx
        subst hx
        rw [List.map_cons, pvs_ok h h2]
        show (i, a.eval x) :: us = _
        rw [h.ev h1]
/-- A composite with parts. -/
theorem q_buildE {T : TypeId} {parts : List (Nat × Operand)} {vals : List (Nat × Value)} {cells : List Value} (hx : pvs F parts = some vals) (h : P.built T vals = some cells.toArray) : OpQ P B w0 n H F ⟨dst, .build T parts.toArray, ty, pos, af, g⟩ (.agg cells.toArray) :=
  q_build fun a ha => by rw [pvs_ok ha hx]; exact h
theorem Jq_buildE {dr : Bool} {T : TypeId} {parts : List (Nat × Operand)} {vals : List (Nat × Value)} {cells : List Value} (hdn : Nat.blt d n = true) (hx : pvs F parts = some vals) (h : P.built T vals = some cells.toArray) (kk : J dr P B w0 n ops Q l ((d, .agg cells.toArray) :: F) H) :
    J dr P B w0 n ops Q (⟨some d, .build T parts.toArray, ty, pos, af, none⟩ :: l) F H := J_q hdn (q_buildE hx h) kk
theorem fill_one (cs : List Value) (zs : Array Value) (h : zs.size = cs.length) : (cs.toArray.zipIdx.foldl (fun cs (c, j) => cs.setIfInBounds (0 + j) c) zs) = cs.toArray := by
  have key : ∀ (l : List Value) (k : Nat) (zs : Array Value), zs.size = k + l.length → (l.zipIdx k).foldl (fun cs (c, j) => cs.setIfInBounds (0 + j) c) zs = zs.extract 0 k ++ l.toArray := by
    intro l
    induction l with
    | nil => intro k zs hz; simp at hz; simp [← hz]
    | cons x l ih =>
      intro k zs hz
      rw [List.zipIdx_cons, List.foldl_cons, ih (k + 1) _ (by simp at hz ⊢; omega)]
      apply Array.ext
      · simp at hz ⊢; omega
      · intro i h1 h2
        simp only [Nat.zero_add]
        simp only [Array.getElem_append, Array.size_extract, Array.size_setIfInBounds, Array.getElem_extract]
        simp at hz h1 h2
        by_cases hk : i < k
        · rw [dif_pos (by omega), dif_pos (by omega), Array.getElem_setIfInBounds_ne _ (by omega)]
        · by_cases hk' : i = k
          · subst hk'
            rw [dif_pos (by omega), dif_neg (by omega)]
            simp
            simp [show min i zs.size = i by omega]
          · rw [dif_neg (by omega), dif_neg (by omega)]
            simp [show min (k + 1) zs.size = k + 1 by omega, show min k zs.size = k by omega]
            obtain ⟨j, rfl⟩ : ∃ j, i = k + 1 + j := ⟨i - (k + 1), by omega⟩
            simp [show k + 1 + j - (k + 1) = j by omega, show k + 1 + j - k = j + 1 by omega]
  have h0 := key cs 0 zs (by omega)
  simp only [Array.extract_zero] at h0
  simpa using h0
/-- A literal of one struct, or array. -/
theorem J_lit1s {T e : TypeId} {s by' : Nat} {z : Value} {x : Operand} {cs : List Value} [hS : IS P T e s by' z] (hd : Nat.blt d n = true) (hx : ev F x = some (.agg cs.toArray)) (hl : cs.length = s) (hs0 : 0 < s) (hs1 : s ≤ 1000)
    (k : ∀ b, J false P B w0 n ops Q l ((d, .slice (some ⟨b, 0, none⟩) 1 1) :: F) (.row (.slice (some ⟨b, 0, none⟩) 1 1) e s cs :: H)) :
    J false P B w0 n ops Q (⟨some d, .buildSlice T 1 #[(0, x)], ty, pos, af, none⟩ :: l) F H := by
  refine J_lit (len := 1) (parts := [(0, x)]) (cells := cs) hd (by omega) (by omega) (by decide) (fun a ha => ?_) (by omega) k
  have hz : z.cells.size = s := by obtain ⟨_, i, _, _, _, _, h⟩ := hS.out; exact h
  simp only [List.map_cons, List.map_nil, Instr.fill, ha.ev hx, Value.cells, Nat.zero_mul]
  rw [if_neg]
  · exact congrArg some (fill_one cs _ (by simp; omega))
  · simp; omega
/-- Two. -/
theorem J_lit2 {T e : TypeId} {by' : Nat} {z : Value} {x y : Operand} {v u : Value} [hS : IS P T e 1 by' z] (hd : Nat.blt d n = true) (hx : ev F x = some v) (hy : ev F y = some u) (hv : v.cells = #[v]) (hu : u.cells = #[u])
    (k : ∀ b, J false P B w0 n ops Q l ((d, .slice (some ⟨b, 0, none⟩) 2 2) :: F) (.row (.slice (some ⟨b, 0, none⟩) 2 2) e 1 [v, u] :: H)) :
    J false P B w0 n ops Q (⟨some d, .buildSlice T 2 #[(0, x), (1, y)], ty, pos, af, none⟩ :: l) F H := by
  refine J_lit (len := 2) (parts := [(0, x), (1, y)]) (cells := [v, u]) hd (by decide) (by decide) (by decide) (fun a ha => ?_) rfl k
  have hz : z.cells.size = 1 := by obtain ⟨_, i, _, _, _, _, h⟩ := hS.out; exact h
  simp [Instr.fill, ha.ev hx, ha.ev hy, hv, hu, hz]
  apply Array.ext'
  simp [List.range_succ]
/-- The length of a row of structs. -/
theorem q_lenRs {x : Operand} {T e : TypeId} {s m : Nat} {xs : List Value} {v : Value} [hT : Un P T (.slice e)] (hx : ev F x = some v) (hm : It.row v e s xs ∈ H) (hl : xs.length = m * s) (hs : 0 < s) :
    OpQ P B w0 n H F ⟨dst, .call { callee := .builtin .len, args := #[x], argTypes := #[T] }, ty, pos, af, g⟩ (.int .i64 (m : Nat)) := by
  refine opq_run fun A ha w hw => ?_
  obtain ⟨m', h1, h2⟩ := hw.row_slice hm
  have e1 : m' = m := Nat.eq_of_mul_eq_mul_right hs (h1.symm.trans hl)
  subst e1
  have hx' := ha.ev hx
  rcases h2 with ⟨rfl, rfl⟩ | ⟨gg, cap, cur, rfl, _⟩
  · simp [execOp, resolve, invoke, builtin, hx', Builtin.len_, run_underlying hT.out, goInt]
  · simp [execOp, resolve, invoke, builtin, hx', Builtin.len_, run_underlying hT.out, goInt]
theorem Jq_lenRs {dr : Bool} {x : Operand} {T e : TypeId} {s m : Nat} {xs : List Value} {v : Value} [hT : Un P T (.slice e)] (hdn : Nat.blt d n = true) (hx : ev F x = some v) (hm : It.row v e s xs ∈ H) (hl : xs.length = m * s) (hs : 0 < s) (kk : J dr P B w0 n ops Q l ((d, .int .i64 (m : Nat)) :: F) H) :
    J dr P B w0 n ops Q (⟨some d, .call { callee := .builtin .len, args := #[x], argTypes := #[T] }, ty, pos, af, none⟩ :: l) F H := J_q hdn (q_lenRs hx hm hl hs) kk
theorem q_indexRs {T e : TypeId} {x y : Operand} {s by' i : Nat} {z v : Value} {k : IntKind} {xs : List Value} [hS : IS P T e s by' z] (hx : ev F x = some v) (hy : ev F y = some (.int k (i : Int))) (hm : It.row v e s xs ∈ H) (h1 : i * s < xs.length) :
    OpQ P B w0 n H F ⟨dst, .indexAddr T x y, ty, pos, af, g⟩ (.pointer (some ⟨gb v, i * s, none⟩)) := by
  have := q_indexR (P := P) (B := B) (w0 := w0) (n := n) (F := F) (H := H) (ty := ty) (pos := pos) (af := af) (dst := dst) (g := g) (hS := hS) hx hm hy (by omega) (by simpa using h1)
  simpa using this
theorem Jq_indexRs {dr : Bool} {T e : TypeId} {x y : Operand} {s by' i : Nat} {z v : Value} {k : IntKind} {xs : List Value} [hS : IS P T e s by' z] (hdn : Nat.blt d n = true) (hx : ev F x = some v) (hy : ev F y = some (.int k (i : Int))) (hm : It.row v e s xs ∈ H) (h1 : i * s < xs.length) (kk : J dr P B w0 n ops Q l ((d, .pointer (some ⟨gb v, i * s, none⟩)) :: F) H) :
    J dr P B w0 n ops Q (⟨some d, .indexAddr T x y, ty, pos, af, none⟩ :: l) F H := J_q hdn (q_indexRs hx hy hm h1) kk
theorem q_addR {T T' : TypeId} {x y : Operand} {a b r : Int} (hx : ev F x = some (.int .i64 a)) (hy : ev F y = some (.int .i64 b)) (h : -9223372036854775808 ≤ a + b ∧ a + b ≤ 9223372036854775807) (hr : a + b = r) :
    OpQ P B w0 n H F ⟨dst, .binOp .add T x y T', ty, pos, af, g⟩ (.int .i64 r) := by subst hr; exact q_add hx hy h
theorem Jq_addR {dr : Bool} {T T' : TypeId} {x y : Operand} {a b r : Int} (hdn : Nat.blt d n = true) (hx : ev F x = some (.int .i64 a)) (hy : ev F y = some (.int .i64 b)) (h : -9223372036854775808 ≤ a + b ∧ a + b ≤ 9223372036854775807) (hr : a + b = r) (kk : J dr P B w0 n ops Q l ((d, .int .i64 r) :: F) H) :
    J dr P B w0 n ops Q (⟨some d, .binOp .add T x y T', ty, pos, af, none⟩ :: l) F H := J_q hdn (q_addR hx hy h hr) kk
end
end SL
end Go.Proofs.YtmbbcmebdefggaaGreatDoor
namespace Go.Proofs.YtmbbcmebdefggaaGreatDoor
open Go Go.RowKit
namespace SL
/-- A call hands back some value and leaves some items, of which R tells, in whatever world of the caller's items. -/
def GivesE (P : Program) (f : FuncId) (args : Array Value) (B : Nat) (w0 : World) (H : Hp) (R : Value → Hp → Prop) : Prop :=
  ∀ w, Holds B w0 H w → Calls P f args w fun e w' => ∃ v H', e = .returned v ∧ R v H' ∧ Holds B w0 H' w'
def eQ (P : Program) (B : Nat) (w0 : World) (n : Nat) (fn : Func) (R : Value → Hp → Prop) : Po := fun e F H => match e with
  | .normal | .ret => ∃ v H', R v H' ∧ ∀ a w', Has n F a → Holds B w0 H w' → (results fn a.tmps).run P w' = .ok v w' ∧ Holds B w0 H' w'
  | _ => False
/-- The block b, and the others. -/
class MF (b : Nat) (H : Hp) (cs : outParam (List Value)) (E : outParam TypeId) (Hr : outParam Hp) (H' : outParam (List Value → Hp)) : Prop where
  out : ∃ H1 H2, H = H1 ++ It.blk b cs E :: H2 ∧ Hr = H1 ++ H2 ∧ ∀ cs', H' cs' = H1 ++ It.blk b cs' E :: H2
instance MF_0 {b : Nat} {H : Hp} {cs : List Value} {E : TypeId} : MF b (.blk b cs E :: H) cs E H (fun cs' => .blk b cs' E :: H) := ⟨[], H, rfl, rfl, fun _ => rfl⟩
instance (priority := low) MF_S {b : Nat} {H Hr : Hp} {H' : List Value → Hp} {cs : List Value} {E : TypeId} {x : It} [h : MF b H cs E Hr H'] : MF b (x :: H) cs E (x :: Hr) (fun cs' => x :: H' cs') := ⟨by
  obtain ⟨H1, H2, rfl, rfl, h2⟩ := h.out
  exact ⟨x :: H1, H2, rfl, rfl, fun cs' => by rw [h2]; rfl⟩⟩
section
variable {P : Program} {B : Nat} {w0 : World} {n : Nat} {Q : Po} {F : Fr} {H H' : Hp} {ops : Array Oper} {l : List Oper} {ty : TypeId} {pos : String} {af : Array Edge} {d : Nat} {dst : Option Tmp} {g : Option (Nat × Bool)} {fn : Func} {v : Value} {e : Exit}
theorem givesE_of {f : FuncId} {c : Code} {args : List Value} {R : Value → Hp → Prop} (F : Fr) (hf : P.funcs[f]? = some fn) (hb : fn.body = some c) (hn : fn.ntmps = n) (hlen : Nat.ble args.length n = true) (hF : ∀ t v, look F t = some v → args[t]? = some v)
    (h : JC P B w0 n c (eQ P B w0 n fn R) F H) : GivesE P f args.toArray B w0 H R := by
  intro w hH
  refine calls_of_wp hf hb ?_
  subst hn
  unfold JC at h
  refine Code.wp_mono ?_ (h _ w (look_args F hF (Nat.le_of_ble_eq_true hlen)) hH)
  rintro e a' w' hl
  unfold lift at hl
  obtain ⟨F', H1, q, ha, hw⟩ := hl
  unfold eQ at q
  cases e with
  | normal => obtain ⟨v, H', hR, hq⟩ := q; obtain ⟨hv, hr⟩ := hq a' w' ha hw; exact ⟨ha.dry, v, hv, v, H', rfl, hR, hr⟩
  | ret => obtain ⟨v, H', hR, hq⟩ := q; obtain ⟨hv, hr⟩ := hq a' w' ha hw; exact ⟨ha.dry, v, hv, v, H', rfl, hR, hr⟩
  | _ => exact q.elim
theorem eQ_mk {R : Value → Hp → Prop} (he : isEnd e = true) (hR : R v H') (h : ∀ a w', Has n F a → Holds B w0 H w' → (results fn a.tmps).run P w' = .ok v w' ∧ Holds B w0 H' w') : eQ P B w0 n fn R e F H := by
  unfold eQ
  cases e <;> first | exact ⟨v, H', hR, h⟩ | cases he
theorem e1 {R : Value → Hp → Prop} {t : Tmp} (he : isEnd e = true) (h : fn.results = #[.tmp t]) (hv : look F t = some v) (hi : Ent [] H [] H') (hR : R v H') : eQ P B w0 n fn R e F H :=
  eQ_mk he hR fun _ w' ha hw => ⟨results1 h ha hv w', hi.holds hw⟩
theorem eC {R : Value → Hp → Prop} {t : Tmp} {T : TypeId} {s b : Nat} {cs : List Value} {E : TypeId} [IsAg P T s] (he : isEnd e = true) (h : fn.results = #[.cell t T]) (hv : look F t = some (.pointer (some ⟨b, 0, none⟩))) (hm : It.blk b cs E ∈ H) (hl : cs.length = s) (hi : Ent [] H [] H') (hR : R (.agg cs.toArray) H') : eQ P B w0 n fn R e F H :=
  eQ_mk he hR fun _ _ ha hw => ⟨resultsC h ha hv hw hm hl, hi.holds hw⟩
theorem eCT {R : Value → Hp → Prop} {t u : Tmp} {T : TypeId} {s b : Nat} {cs : List Value} {E : TypeId} {v' : Value} [IsAg P T s] (he : isEnd e = true) (h : fn.results = #[.cell t T, .tmp u]) (hv : look F t = some (.pointer (some ⟨b, 0, none⟩))) (hv' : look F u = some v') (hm : It.blk b cs E ∈ H) (hl : cs.length = s) (hi : Ent [] H [] H') (hR : R (.tuple #[.agg cs.toArray, v']) H') : eQ P B w0 n fn R e F H :=
  eQ_mk he hR fun _ _ ha hw => ⟨resultsCT h ha hv hv' hw hm hl, hi.holds hw⟩
/-- A call that leaves some items. -/
theorem JcE {f : Operand} {xs : List Operand} {Ts : Array TypeId} {k : FuncId} {args : List Value} {R : Value → Hp → Prop} (hdn : Nat.blt d n = true) (hf : ev F f = some (.func (.func k) #[] #[])) (hxs : evs F xs = some args) (hk : Runs P k)
    (h : GivesE P k args.toArray B w0 H R) (kk : ∀ v H', R v H' → J false P B w0 n ops Q l ((d, v) :: F) H') : J false P B w0 n ops Q (⟨some d, .call { callee := .value f, args := xs.toArray, argTypes := Ts }, ty, pos, af, none⟩ :: l) F H := by
  unfold J at *
  intro a w ha hw
  refine wpList_plain rfl fun K' hK => ?_
  unfold Oper.wp
  rw [run_call ha hf hxs w]
  have h1 := h w hw
  simp only [List.append_nil]
  refine h1.mono ?_
  rintro e w' ⟨v, H', rfl, hR, hh⟩
  exact hK _ _ (kk v H' hR _ w' (ha.put (by simpa [Nat.blt_eq] using hdn) v) hh)
/-- Shifts to the right, masks. -/
theorem q_shr {T T' : TypeId} {x y : Operand} {k k' : IntKind} {a : Int} {i : Nat} (hx : ev F x = some (.int k a)) (hy : ev F y = some (.int k' (i : Int))) :
    OpQ P B w0 n H F ⟨dst, .binOp .shr T x y T', ty, pos, af, g⟩ (.int k (a.fdiv (2 ^ (min i k.bits)))) :=
  q_bin hx hy fun w => by
    rw [eqGuard_int]
    simp only [binOp_shr, Op.shift, Sem.run_bind, Sem.run_pure, Result.andThen_ok, Int.toNat_natCast]
    rw [if_neg (by omega)]
    rfl
end
attribute [irreducible] GivesE eQ
end SL
end Go.Proofs.YtmbbcmebdefggaaGreatDoor
