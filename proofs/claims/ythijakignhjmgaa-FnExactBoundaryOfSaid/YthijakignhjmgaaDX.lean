/- More rules: parts of values, composites with parts, literals of structs, rows of structs, numbers respelled. -/
import Derived.Test.YthijakignhjmgaaEQ
namespace Go.Proofs.Ythijakignhjmgaa
open Go Go.RowKit
namespace SL
section
variable {P : Program} {B : Nat} {w0 : World} {n : Nat} {Q : Po} {F : Fr} {H : Hp} {ops : Array Oper} {l : List Oper} {ty : TypeId} {pos : String} {af : Array Edge} {d : Nat} {dst : Option Tmp} {g : Option (Nat × Bool)}
theorem part_sc {e : TypeId} [hE : IsSc P e] (w : World) {xs : List Value} {off : Nat} {v : Value} (hx : xs[off]? = some v) : (part e xs.toArray off).run P w = .ok v w := by
  simp [part, (hE.out w).1, hx]
theorem q_indexV {T e : TypeId} {x y : Operand} {len i : Nat} {k : IntKind} {cs : List Value} {v : Value} [hT : Un P T (.array len e)] [hE : IsSc P e] (hx : ev F x = some (.agg cs.toArray)) (hy : ev F y = some (.int k (i : Int))) (h1 : i < len) (hc : cs[i]? = some v) :
    OpQ P B w0 n H F ⟨dst, .index T x y, ty, pos, af, g⟩ v :=
  opq_run fun A ha w _ => by
    have hp := part_sc (P := P) (e := e) w (xs := cs) (off := i) hc
    have hs := (hE.out w).2
    have hi : (0 : Int) ≤ (i : Int) ∧ (i : Int) < (len : Int) := by omega
    simp only [execOp, ha.ev hx, ha.ev hy, Instr.index, asIntOf, Sem.run_bind, Sem.run_pure, Result.andThen_ok, run_underlying hT.out, if_pos hi, hs, Int.toNat_natCast, Nat.mul_one, hp]
theorem Jq_indexV {dr : Bool} {T e : TypeId} {x y : Operand} {len i : Nat} {k : IntKind} {cs : List Value} {v : Value} [hT : Un P T (.array len e)] [hE : IsSc P e] (hdn : Nat.blt d n = true) (hx : ev F x = some (.agg cs.toArray)) (hy : ev F y = some (.int k (i : Int))) (h1 : i < len) (hc : cs[i]? = some v)
    (kk : J dr P B w0 n ops Q l ((d, v) :: F) H) : J dr P B w0 n ops Q (⟨some d, .index T x y, ty, pos, af, none⟩ :: l) F H := J_q hdn (q_indexV hx hy h1 hc) kk
/-- A field of a struct that is no variable. -/
theorem q_fieldV {T ft : TypeId} {x : Operand} {i off : Nat} {cs : List Value} {v : Value} (hf : ((P.fieldsOf T)[i]?).map (fun f => (f.type, f.offset)) = some (ft, off)) (hu : (P.underlying T).map (fun d => match d with | .struct _ => true | _ => false) = some true) (hE : IsSc P ft)
    (hx : ev F x = some (.agg cs.toArray)) (hc : cs[off]? = some v) : OpQ P B w0 n H F ⟨dst, .field T x i, ty, pos, af, g⟩ v :=
  opq_run fun A ha w _ => by
    have hp := part_sc (P := P) (e := ft) w (xs := cs) (off := off) hc
    cases h : P.underlying T with
    | none => simp [h] at hu
    | some dd =>
      cases dd <;> simp [h] at hu
      rename_i fs
      simp only [Program.fieldsOf, h] at hf
      cases hfi : fs[i]? with
      | none => simp [hfi] at hf
      | some f =>
        simp only [hfi, Option.map_some, Option.some.injEq, Prod.mk.injEq] at hf
        obtain ⟨rfl, rfl⟩ := hf
        simp only [execOp, ha.ev hx, Instr.field, Sem.run_bind, run_underlying h, Result.andThen_ok, hfi, asAgg, Sem.run_pure, hp]
theorem Jq_fieldV {dr : Bool} {T ft : TypeId} {x : Operand} {i off : Nat} {cs : List Value} {v : Value} (hdn : Nat.blt d n = true) (hf : ((P.fieldsOf T)[i]?).map (fun f => (f.type, f.offset)) = some (ft, off)) (hu : (P.underlying T).map (fun d => match d with | .struct _ => true | _ => false) = some true) (hE : IsSc P ft)
    (hx : ev F x = some (.agg cs.toArray)) (hc : cs[off]? = some v) (kk : J dr P B w0 n ops Q l ((d, v) :: F) H) : J dr P B w0 n ops Q (⟨some d, .field T x i, ty, pos, af, none⟩ :: l) F H := J_q hdn (q_fieldV hf hu hE hx hc) kk
theorem yielded_undef {a : Act} (ha : Has n F a) {j e : Nat} (hj : (ops[j]?).bind (·.dst) = some e) (hb : look F e = some undef) : yielded ops a.tmps j = none := by
  have hv := ha.look e _ hb
  unfold yielded
  rw [hj]
  simp only [Option.bind_some]
  rw [Array.getD_eq_getD_getElem?] at hv
  cases h : a.tmps[e]? with
  | none => rfl
  | some v =>
    rw [h] at hv
    simp only [Option.getD_some] at hv
    subst hv
    rfl
/-- A guard on what was left out. -/
theorem J_skipU {dr : Bool} {op : Op} {j e : Nat} {c : Bool} (hj : (ops[j]?).bind (·.dst) = some e) (hb : look F e = some undef) (hd : Nat.blt d n = true) (k : J dr P B w0 n ops Q l ((d, undef) :: F) H) :
    J dr P B w0 n ops Q (⟨some d, op, ty, pos, af, some (j, c)⟩ :: l) F H := by
  have hd' : d < n := by simpa [Nat.blt_eq] using hd
  have hw' : ∀ a, Has n F a → Region.wanted ⟨some d, op, ty, pos, af, some (j, c)⟩ (yielded ops a.tmps) = false := fun a ha => by
    simp only [Region.wanted, yielded_undef ha hj hb]; rfl
  unfold J at *
  cases dr with
  | false =>
    intro a w ha hw
    unfold wpList
    rw [if_neg (by rw [hw' a ha]; simp)]
    exact k _ w (ha.put hd' _) hw
  | true =>
    intro a ha
    unfold wpQuiet
    rw [if_neg (by rw [hw' a ha]; simp)]
    exact k _ (ha.put hd' _)
def pvs (F : Fr) : List (Nat × Operand) → Option (List (Nat × Value))
  | [] => some []
  | (i, x) :: xs => match ev F x with
    | none => none
    | some v => match pvs F xs with
      | none => none
      | some vs => some ((i, v) :: vs)
theorem pvs_ok {F : Fr} {a : Act} (h : Has n F a) : ∀ {xs : List (Nat × Operand)} {vs : List (Nat × Value)}, pvs F xs = some vs → xs.map (fun (i, x) => (i, a.eval x)) = vs
  | [], vs, hx => by simp only [pvs, Option.some.injEq] at hx; subst hx; rfl
  | (i, x) :: xs, vs, hx => by
    simp only [pvs] at hx
    cases h1 : ev F x with
    | none => simp [h1] at hx
    | some v =>
      cases h2 : pvs F xs with
      | none => simp [h1, h2] at hx
      | some us =>
        simp only [h1, h2, Option.some.injEq] at hx
        subst hx
        rw [List.map_cons, pvs_ok h h2]
        show (i, a.eval x) :: us = _
        rw [h.ev h1]
/-- A composite with parts. -/
theorem q_buildE {T : TypeId} {parts : List (Nat × Operand)} {vals : List (Nat × Value)} {cells : List Value} (hx : pvs F parts = some vals) (h : P.built T vals = some cells.toArray) : OpQ P B w0 n H F ⟨dst, .build T parts.toArray, ty, pos, af, g⟩ (.agg cells.toArray) :=
  q_build fun a ha => by rw [pvs_ok ha hx]; exact h
theorem Jq_buildE {dr : Bool} {T : TypeId} {parts : List (Nat × Operand)} {vals : List (Nat × Value)} {cells : List Value} (hdn : Nat.blt d n = true) (hx : pvs F parts = some vals) (h : P.built T vals = some cells.toArray) (kk : J dr P B w0 n ops Q l ((d, .agg cells.toArray) :: F) H) :
    J dr P B w0 n ops Q (⟨some d, .build T parts.toArray, ty, pos, af, none⟩ :: l) F H := J_q hdn (q_buildE hx h) kk
theorem fill_one (cs : List Value) (zs : Array Value) (h : zs.size = cs.length) : (cs.toArray.zipIdx.foldl (fun cs (c, j) => cs.setIfInBounds (0 + j) c) zs) = cs.toArray := by
  have key : ∀ (l : List Value) (k : Nat) (zs : Array Value), zs.size = k + l.length → (l.zipIdx k).foldl (fun cs (c, j) => cs.setIfInBounds (0 + j) c) zs = zs.extract 0 k ++ l.toArray := by
    intro l
    induction l with
    | nil => intro k zs hz; simp at hz; simp [← hz]
    | cons x l ih =>
      intro k zs hz
      rw [List.zipIdx_cons, List.foldl_cons, ih (k + 1) _ (by simp at hz ⊢; omega)]
      apply Array.ext
      · simp at hz ⊢; omega
      · intro i h1 h2
        simp only [Nat.zero_add]
        simp only [Array.getElem_append, Array.size_extract, Array.size_setIfInBounds, Array.getElem_extract]
        simp at hz h1 h2
        by_cases hk : i < k
        · rw [dif_pos (by omega), dif_pos (by omega), Array.getElem_setIfInBounds_ne _ (by omega)]
        · by_cases hk' : i = k
          · subst hk'
            rw [dif_pos (by omega), dif_neg (by omega)]
            simp
            simp [show min i zs.size = i by omega]
          · rw [dif_neg (by omega), dif_neg (by omega)]
            simp [show min (k + 1) zs.size = k + 1 by omega, show min k zs.size = k by omega]
            obtain ⟨j, rfl⟩ : ∃ j, i = k + 1 + j := ⟨i - (k + 1), by omega⟩
            simp [show k + 1 + j - (k + 1) = j by omega, show k + 1 + j - k = j + 1 by omega]
  have h0 := key cs 0 zs (by omega)
  simp only [Array.extract_zero] at h0
  simpa using h0
/-- A literal of one struct, or array. -/
theorem J_lit1s {T e : TypeId} {s by' : Nat} {z : Value} {x : Operand} {cs : List Value} [hS : IS P T e s by' z] (hd : Nat.blt d n = true) (hx : ev F x = some (.agg cs.toArray)) (hl : cs.length = s) (hs0 : 0 < s) (hs1 : s ≤ 1000)
    (k : ∀ b, J false P B w0 n ops Q l ((d, .slice (some ⟨b, 0, none⟩) 1 1) :: F) (.row (.slice (some ⟨b, 0, none⟩) 1 1) e s cs :: H)) :
    J false P B w0 n ops Q (⟨some d, .buildSlice T 1 #[(0, x)], ty, pos, af, none⟩ :: l) F H := by
  refine J_lit (len := 1) (parts := [(0, x)]) (cells := cs) hd (by omega) (by omega) (by decide) (fun a ha => ?_) (by omega) k
  have hz : z.cells.size = s := by obtain ⟨_, i, _, _, _, _, h⟩ := hS.out; exact h
  simp only [List.map_cons, List.map_nil, Instr.fill, ha.ev hx, Value.cells, Nat.zero_mul]
  rw [if_neg]
  · exact congrArg some (fill_one cs _ (by simp; omega))
  · simp; omega
/-- A literal of four numbers. -/
theorem J_lit4 {T e : TypeId} {by' : Nat} {z : Value} {x y t q : Operand} {v u s r : Value} [hS : IS P T e 1 by' z] (hd : Nat.blt d n = true) (hx : ev F x = some v) (hy : ev F y = some u) (ht : ev F t = some s) (hq : ev F q = some r) (hv : v.cells = #[v]) (hu : u.cells = #[u]) (hs : s.cells = #[s]) (hr : r.cells = #[r])
    (k : ∀ b, J false P B w0 n ops Q l ((d, .slice (some ⟨b, 0, none⟩) 4 4) :: F) (.row (.slice (some ⟨b, 0, none⟩) 4 4) e 1 [v, u, s, r] :: H)) :
    J false P B w0 n ops Q (⟨some d, .buildSlice T 4 #[(0, x), (1, y), (2, t), (3, q)], ty, pos, af, none⟩ :: l) F H := by
  refine J_lit (len := 4) (parts := [(0, x), (1, y), (2, t), (3, q)]) (cells := [v, u, s, r]) hd (by decide) (by decide) (by decide) (fun a ha => ?_) rfl k
  have hz : z.cells.size = 1 := by obtain ⟨_, i, _, _, _, _, h⟩ := hS.out; exact h
  simp [Instr.fill, ha.ev hx, ha.ev hy, ha.ev ht, ha.ev hq, hv, hu, hs, hr, hz]
  apply Array.ext'
  simp [List.range_succ]
/-- Two. -/
theorem J_lit2 {T e : TypeId} {by' : Nat} {z : Value} {x y : Operand} {v u : Value} [hS : IS P T e 1 by' z] (hd : Nat.blt d n = true) (hx : ev F x = some v) (hy : ev F y = some u) (hv : v.cells = #[v]) (hu : u.cells = #[u])
    (k : ∀ b, J false P B w0 n ops Q l ((d, .slice (some ⟨b, 0, none⟩) 2 2) :: F) (.row (.slice (some ⟨b, 0, none⟩) 2 2) e 1 [v, u] :: H)) :
    J false P B w0 n ops Q (⟨some d, .buildSlice T 2 #[(0, x), (1, y)], ty, pos, af, none⟩ :: l) F H := by
  refine J_lit (len := 2) (parts := [(0, x), (1, y)]) (cells := [v, u]) hd (by decide) (by decide) (by decide) (fun a ha => ?_) rfl k
  have hz : z.cells.size = 1 := by obtain ⟨_, i, _, _, _, _, h⟩ := hS.out; exact h
  simp [Instr.fill, ha.ev hx, ha.ev hy, hv, hu, hz]
  apply Array.ext'
  simp [List.range_succ]
/-- The length of a row of structs. -/
theorem q_lenRs {x : Operand} {T e : TypeId} {s m : Nat} {xs : List Value} {v : Value} [hT : Un P T (.slice e)] (hx : ev F x = some v) (hm : It.row v e s xs ∈ H) (hl : xs.length = m * s) (hs : 0 < s) :
    OpQ P B w0 n H F ⟨dst, .call { callee := .builtin .len, args := #[x], argTypes := #[T] }, ty, pos, af, g⟩ (.int .i64 (m : Nat)) := by
  refine opq_run fun A ha w hw => ?_
  obtain ⟨m', h1, h2⟩ := hw.row_slice hm
  have e1 : m' = m := Nat.eq_of_mul_eq_mul_right hs (h1.symm.trans hl)
  subst e1
  have hx' := ha.ev hx
  rcases h2 with ⟨rfl, rfl⟩ | ⟨gg, cap, cur, rfl, _⟩
  · simp [execOp, resolve, invoke, builtin, hx', Builtin.len_, run_underlying hT.out, goInt]
  · simp [execOp, resolve, invoke, builtin, hx', Builtin.len_, run_underlying hT.out, goInt]
theorem Jq_lenRs {dr : Bool} {x : Operand} {T e : TypeId} {s m : Nat} {xs : List Value} {v : Value} [hT : Un P T (.slice e)] (hdn : Nat.blt d n = true) (hx : ev F x = some v) (hm : It.row v e s xs ∈ H) (hl : xs.length = m * s) (hs : 0 < s) (kk : J dr P B w0 n ops Q l ((d, .int .i64 (m : Nat)) :: F) H) :
    J dr P B w0 n ops Q (⟨some d, .call { callee := .builtin .len, args := #[x], argTypes := #[T] }, ty, pos, af, none⟩ :: l) F H := J_q hdn (q_lenRs hx hm hl hs) kk
theorem q_indexRs {T e : TypeId} {x y : Operand} {s by' i : Nat} {z v : Value} {k : IntKind} {xs : List Value} [hS : IS P T e s by' z] (hx : ev F x = some v) (hy : ev F y = some (.int k (i : Int))) (hm : It.row v e s xs ∈ H) (h1 : i * s < xs.length) :
    OpQ P B w0 n H F ⟨dst, .indexAddr T x y, ty, pos, af, g⟩ (.pointer (some ⟨gb v, i * s, none⟩)) := by
  have := q_indexR (P := P) (B := B) (w0 := w0) (n := n) (F := F) (H := H) (ty := ty) (pos := pos) (af := af) (dst := dst) (g := g) (hS := hS) hx hm hy (by omega) (by simpa using h1)
  simpa using this
theorem Jq_indexRs {dr : Bool} {T e : TypeId} {x y : Operand} {s by' i : Nat} {z v : Value} {k : IntKind} {xs : List Value} [hS : IS P T e s by' z] (hdn : Nat.blt d n = true) (hx : ev F x = some v) (hy : ev F y = some (.int k (i : Int))) (hm : It.row v e s xs ∈ H) (h1 : i * s < xs.length) (kk : J dr P B w0 n ops Q l ((d, .pointer (some ⟨gb v, i * s, none⟩)) :: F) H) :
    J dr P B w0 n ops Q (⟨some d, .indexAddr T x y, ty, pos, af, none⟩ :: l) F H := J_q hdn (q_indexRs hx hy hm h1) kk
theorem q_addR {T T' : TypeId} {x y : Operand} {a b r : Int} (hx : ev F x = some (.int .i64 a)) (hy : ev F y = some (.int .i64 b)) (h : -9223372036854775808 ≤ a + b ∧ a + b ≤ 9223372036854775807) (hr : a + b = r) :
    OpQ P B w0 n H F ⟨dst, .binOp .add T x y T', ty, pos, af, g⟩ (.int .i64 r) := by subst hr; exact q_add hx hy h
theorem Jq_addR {dr : Bool} {T T' : TypeId} {x y : Operand} {a b r : Int} (hdn : Nat.blt d n = true) (hx : ev F x = some (.int .i64 a)) (hy : ev F y = some (.int .i64 b)) (h : -9223372036854775808 ≤ a + b ∧ a + b ≤ 9223372036854775807) (hr : a + b = r) (kk : J dr P B w0 n ops Q l ((d, .int .i64 r) :: F) H) :
    J dr P B w0 n ops Q (⟨some d, .binOp .add T x y T', ty, pos, af, none⟩ :: l) F H := J_q hdn (q_addR hx hy h hr) kk
theorem q_mulR {T T' : TypeId} {x y : Operand} {a b r : Int} (hx : ev F x = some (.int .i64 a)) (hy : ev F y = some (.int .i64 b)) (h : -9223372036854775808 ≤ r ∧ r ≤ 9223372036854775807) (hr : a * b = r) :
    OpQ P B w0 n H F ⟨dst, .binOp .mul T x y T', ty, pos, af, g⟩ (.int .i64 r) := by subst hr; exact q_mul hx hy h
theorem Jq_mulR {dr : Bool} {T T' : TypeId} {x y : Operand} {a b r : Int} (hdn : Nat.blt d n = true) (hx : ev F x = some (.int .i64 a)) (hy : ev F y = some (.int .i64 b)) (h : -9223372036854775808 ≤ r ∧ r ≤ 9223372036854775807) (hr : a * b = r) (kk : J dr P B w0 n ops Q l ((d, .int .i64 r) :: F) H) :
    J dr P B w0 n ops Q (⟨some d, .binOp .mul T x y T', ty, pos, af, none⟩ :: l) F H := J_q hdn (q_mulR hx hy h hr) kk
end
end SL
/-- What is a mosaic, as cells. -/
abbrev Z64 : List Nat := List.replicate 64 0
def mv (n : Int) (T : List Nat) : List Value := .int .i64 n :: u8s T
theorem mv_len {n : Int} {T : List Nat} (h : T.length = 64) : (mv n T).length = 65 := by simp [mv, u8s, h]
theorem mv_one (n : Int) (T : List Nat) : ∀ u ∈ mv n T, u.oneCell' = true := by
  intro u hu
  rcases List.mem_cons.1 hu with rfl | hu
  · rfl
  · exact u8s_one _ u hu
theorem mv_at {n : Int} {T : List Nat} {k : Nat} (h : k < T.length) : (mv n T)[0 + 1 + k * 1]? = some (.int .u8 ((T.getD k 0 : Nat) : Int)) := by
  rw [show 0 + 1 + k * 1 = k + 1 by omega, mv, List.getElem?_cons_succ, u8s_get h]
theorem mv_arr {n : Int} {T : List Nat} (h : T.length = 64) : ((mv n T).drop (0 + 1)).take 64 = u8s T := by
  rw [mv, Nat.zero_add, List.drop_succ_cons, List.drop_zero, List.take_of_length_le (by rw [u8s_len, h]; exact Nat.le_refl _)]
theorem mv_setN {n m : Int} {T : List Nat} : (mv n T).set (0 + 0) (.int .i64 m) = mv m T := rfl
theorem mv_set {n : Int} {T : List Nat} {j k : Nat} : (mv n T).set (0 + 1 + j * 1) (.int .u8 (k : Int)) = mv n (T.set j k) := by
  rw [show 0 + 1 + j * 1 = j + 1 by omega, mv, mv, List.set_cons_succ, u8s_set']
theorem mv_put {n : Int} {T U : List Nat} (h : T.length = 64) : (mv n T).take (0 + 1) ++ (Value.agg (u8s U).toArray).cells.toList ++ (mv n T).drop (0 + 1 + 64) = mv n U := by
  simp only [mv, Value.cells, Nat.zero_add, List.take_succ_cons, List.take_zero, show 1 + 64 = 64 + 1 from rfl, List.drop_succ_cons]
  rw [List.drop_of_length_le (by rw [u8s_len, h]; exact Nat.le_refl _), List.append_nil]; rfl
end Go.Proofs.Ythijakignhjmgaa
