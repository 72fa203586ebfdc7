/- Equality of arrays of bytes and of structs of these, as the operators == and != tell it. -/
import Derived.Test.YthijakignhjmgaaDr
import Derived.Test.YthijakignhjmgaaV
import Derived.ChangeKeysEq
namespace Go.Proofs.Ythijakignhjmgaa
open Go Go.RowKit SL
section
variable {P : Program} (w : World)
theorem part_u8 {e : TypeId} (hu : P.underlying e = some (.int .u8)) {xs : List Value} {off : Nat} {v : Value} (hx : xs[off]? = some v) : (part e xs.toArray off).run P w = .ok v w :=
  run_part_plain w (by simp [Program.plainKey, hu]) (by simpa using hx)
theorem run_eqItems_u8 (d : Nat) {e : TypeId} (hu : P.underlying e = some (.int .u8)) (X Y : List Nat) : ∀ is : List Nat, (∀ i ∈ is, i < X.length ∧ i < Y.length) →
    (Op.eqItems (d + 1) e 1 (u8s X).toArray (u8s Y).toArray is).run P w = .ok (decide (∀ i ∈ is, X.getD i 0 = Y.getD i 0)) w
  | [], _ => by simp [Op.eqItems]
  | i :: is, h => by
    have hi := h i List.mem_cons_self
    have ih := run_eqItems_u8 d hu X Y is (fun j hj => h j (List.mem_cons_of_mem _ hj))
    simp only [Op.eqItems, Nat.mul_one, Sem.run_bind, part_u8 w hu (u8s_get hi.1), part_u8 w hu (u8s_get hi.2), Result.andThen_ok, run_equalIn_int w d e _ _ _ _ hu]
    by_cases e : X.getD i 0 = Y.getD i 0
    · rw [e]
      simp only [beq_self_eq_true, Bool.not_true, Bool.false_eq_true, if_false, ih]
      congr 1
      simp only [List.mem_cons, forall_eq_or_imp, e, true_and]
    · have : ((X.getD i 0 : Int) == (Y.getD i 0 : Int)) = false := by
        rw [beq_eq_false_iff_ne]; omega
      rw [this]
      simp only [Bool.not_false, if_true, Sem.run_pure]
      congr 1
      rw [eq_comm, decide_eq_false_iff_not]
      intro k
      exact e (k i List.mem_cons_self)
theorem eqIn_u8 (d : Nat) {t e : TypeId} {len : Nat} (ht : P.underlying t = some (.array len e)) (hu : P.underlying e = some (.int .u8)) (hc : P.cellsOf e = 1) (X Y : List Nat) (lX : X.length = len) (lY : Y.length = len) :
    (Op.equalIn (d + 2) t (.agg (u8s X).toArray) (.agg (u8s Y).toArray)).run P w = .ok (decide (X = Y)) w := by
  obtain ⟨i, hi⟩ := info_of_underlying hu
  rw [run_equalIn_array w (d + 1) _ _ ht hi, hc, run_eqItems_u8 w d hu X Y _ (fun j hj => by have := List.mem_range.1 hj; omega)]
  congr 1
  refine decide_eq_decide.2 ⟨fun h => ?_, fun h => by subst h; simp⟩
  refine List.ext_getElem (by omega) fun j h1 h2 => ?_
  have := h j (List.mem_range.2 (by omega))
  simpa [List.getD_eq_getElem?_getD, h1, h2] using this
theorem part_arr {t e : TypeId} {len : Nat} (ht : P.underlying t = some (.array len e)) (hs : P.cellsOf t = len) {xs ds : List Value} {off : Nat} (hd : (xs.drop off).take len = ds) : (part t xs.toArray off).run P w = .ok (.agg ds.toArray) w := by
  obtain ⟨i, hi⟩ := info_of_underlying ht
  subst hd
  have ha : (isAgg t).run P w = .ok true w := by
    unfold isAgg
    rw [Sem.run_bind, run_underlying ht w]
    rfl
  simp only [part, Sem.run_bind, ha, Result.andThen_ok, if_true, run_sizeOf w hi, hs, Sem.run_pure]
  congr 2
  simp
theorem eqFields_int (d : Nat) {f : Field} {fs : List Field} {k : IntKind} {xs ys : List Value} {a b : Int} (hn : f.name ≠ "_") (hu : P.underlying f.type = some (.int k)) (hx : xs[f.offset]? = some (.int k a)) (hy : ys[f.offset]? = some (.int k b)) {r : Bool}
    (hr : (Op.eqFields (d + 1) xs.toArray ys.toArray fs).run P w = .ok r w) : (Op.eqFields (d + 1) xs.toArray ys.toArray (f :: fs)).run P w = .ok (decide (a = b) && r) w := by
  have p1 := run_part_plain (P := P) w (e := f.type) (by simp [Program.plainKey, hu]) (xs := xs.toArray) (off := f.offset) (by simpa using hx)
  have p2 := run_part_plain (P := P) w (e := f.type) (by simp [Program.plainKey, hu]) (xs := ys.toArray) (off := f.offset) (by simpa using hy)
  simp only [Op.eqFields, hn, ne_eq, not_false_eq_true, if_true, Sem.run_bind, p1, p2, Result.andThen_ok, run_equalIn_int w d _ _ _ _ _ hu]
  by_cases e : a = b
  · subst e; simp [hr]
  · simp [e]
theorem eqFields_bool (d : Nat) {f : Field} {fs : List Field} {xs ys : List Value} {a b : Bool} (hn : f.name ≠ "_") (hu : P.underlying f.type = some .bool) (hx : xs[f.offset]? = some (.bool a)) (hy : ys[f.offset]? = some (.bool b)) {r : Bool}
    (hr : (Op.eqFields (d + 1) xs.toArray ys.toArray fs).run P w = .ok r w) : (Op.eqFields (d + 1) xs.toArray ys.toArray (f :: fs)).run P w = .ok (decide (a = b) && r) w := by
  have p1 := run_part_plain (P := P) w (e := f.type) (by simp [Program.plainKey, hu]) (xs := xs.toArray) (off := f.offset) (by simpa using hx)
  have p2 := run_part_plain (P := P) w (e := f.type) (by simp [Program.plainKey, hu]) (xs := ys.toArray) (off := f.offset) (by simpa using hy)
  simp only [Op.eqFields, hn, ne_eq, not_false_eq_true, if_true, Sem.run_bind, p1, p2, Result.andThen_ok, run_equalIn_bool' w d _ _ _ hu]
  by_cases e : a = b
  · subst e; simp [hr]
  · simp [e]
theorem eqFields_u8 (d : Nat) {f : Field} {fs : List Field} {e : TypeId} {len : Nat} {xs ys : List Value} {X Y : List Nat} (hn : f.name ≠ "_") (ht : P.underlying f.type = some (.array len e)) (hu : P.underlying e = some (.int .u8)) (hc : P.cellsOf e = 1) (hs : P.cellsOf f.type = len)
    (hx : (xs.drop f.offset).take len = u8s X) (hy : (ys.drop f.offset).take len = u8s Y) (lX : X.length = len) (lY : Y.length = len) {r : Bool}
    (hr : (Op.eqFields (d + 2) xs.toArray ys.toArray fs).run P w = .ok r w) : (Op.eqFields (d + 2) xs.toArray ys.toArray (f :: fs)).run P w = .ok (decide (X = Y) && r) w := by
  simp only [Op.eqFields, hn, ne_eq, not_false_eq_true, if_true, Sem.run_bind, part_arr w ht hs hx, part_arr w ht hs hy, Result.andThen_ok, eqIn_u8 w d ht hu hc X Y lX lY]
  by_cases e : X = Y
  · subst e; simp [hr]
  · simp [e]
def shF (f : Field) : Bool × Nat × TypeId := (f.name != "_", f.offset, f.type)
theorem fs_cons {fs : List Field} {o : Nat} {t : TypeId} {rest : List (Bool × Nat × TypeId)} (h : fs.map shF = (true, o, t) :: rest) : ∃ f fs', fs = f :: fs' ∧ f.name ≠ "_" ∧ f.offset = o ∧ f.type = t ∧ fs'.map shF = rest := by
  cases fs with
  | nil => cases h
  | cons f fs =>
    simp only [List.map_cons, shF, List.cons.injEq, Prod.mk.injEq, bne_iff_ne] at h
    exact ⟨f, fs, rfl, h.1.1, h.1.2.1, h.1.2.2, h.2⟩
theorem fs_nil {fs : List Field} (h : fs.map shF = []) : fs = [] := by simpa using h
theorem eqFields_nil (d : Nat) {xs ys : Array Value} : (Op.eqFields d xs ys []).run P w = .ok true w := by simp [Op.eqFields]
end
section
variable {P : Program} {B : Nat} {w0 : World} {n : Nat} {Q : Po} {F : Fr} {H : Hp} {ops : Array Oper} {l : List Oper} {ty : TypeId} {pos : String} {af : Array Edge} {d : Nat} {dst : Option Tmp} {g : Option (Nat × Bool)}
/-- Two aggregates of a type whose equality is told. -/
theorem q_eqA {T T' : TypeId} {x y : Operand} {xs ys : Array Value} {r : Bool} (hx : ev F x = some (.agg xs)) (hy : ev F y = some (.agg ys)) (hm : P.eqGuardType P.depth T = false)
    (h : ∀ w, (Op.equalIn 10000 T (.agg xs) (.agg ys)).run P w = .ok r w) : OpQ P B w0 n H F ⟨dst, .binOp .eql T x y T', ty, pos, af, g⟩ (.bool r) := by
  refine q_bin hx hy fun w => ?_
  rw [Sem.run_bind, run_eqGuard_agg w _ _ _ _ _ _ hm, Result.andThen_ok, run_eql_struct, h w, Result.andThen_ok]
theorem q_neA {T T' : TypeId} {x y : Operand} {xs ys : Array Value} {r : Bool} (hx : ev F x = some (.agg xs)) (hy : ev F y = some (.agg ys)) (hm : P.eqGuardType P.depth T = false)
    (h : ∀ w, (Op.equalIn 10000 T (.agg xs) (.agg ys)).run P w = .ok r w) : OpQ P B w0 n H F ⟨dst, .binOp .neq T x y T', ty, pos, af, g⟩ (.bool (!r)) := by
  refine q_bin hx hy fun w => ?_
  rw [Sem.run_bind, run_eqGuard_agg w _ _ _ _ _ _ hm, Result.andThen_ok, run_neq_struct, h w, Result.andThen_ok]
theorem Jq_eqA {dr : Bool} {T T' : TypeId} {x y : Operand} {xs ys : Array Value} {r : Bool} (hdn : Nat.blt d n = true) (hx : ev F x = some (.agg xs)) (hy : ev F y = some (.agg ys)) (hm : P.eqGuardType P.depth T = false)
    (h : ∀ w, (Op.equalIn 10000 T (.agg xs) (.agg ys)).run P w = .ok r w) (kk : J dr P B w0 n ops Q l ((d, .bool r) :: F) H) : J dr P B w0 n ops Q (⟨some d, .binOp .eql T x y T', ty, pos, af, none⟩ :: l) F H := J_q hdn (q_eqA hx hy hm h) kk
theorem Jq_neA {dr : Bool} {T T' : TypeId} {x y : Operand} {xs ys : Array Value} {r : Bool} (hdn : Nat.blt d n = true) (hx : ev F x = some (.agg xs)) (hy : ev F y = some (.agg ys)) (hm : P.eqGuardType P.depth T = false)
    (h : ∀ w, (Op.equalIn 10000 T (.agg xs) (.agg ys)).run P w = .ok r w) (kk : J dr P B w0 n ops Q l ((d, .bool (!r)) :: F) H) : J dr P B w0 n ops Q (⟨some d, .binOp .neq T x y T', ty, pos, af, none⟩ :: l) F H := J_q hdn (q_neA hx hy hm h) kk
end
theorem eq_gridD (d : Nat) (n m : Int) (X O Y U : List Nat) (lX : X.length = 8) (lO : O.length = 8) (lY : Y.length = 8) (lU : U.length = 8) (w : World) :
    (Op.equalIn (d + 4) 27 (.agg (gv n X O).toArray) (.agg (gv m Y U).toArray)).run Try.prog w = .ok (decide (n = m ∧ X = Y ∧ O = U)) w := by
  have hf : (Try.prog.fieldsOf 27).toList.map shF = [(true, 0, 2), (true, 0 + 1, 25), (true, 0 + 9, 25)] := by kernel_rfl
  obtain ⟨f0, fs, e0, n0, o0, t0, hf⟩ := fs_cons hf
  obtain ⟨f1, fs, rfl, n1, o1, t1, hf⟩ := fs_cons hf
  obtain ⟨f2, fs, rfl, n2, o2, t2, hf⟩ := fs_cons hf
  obtain rfl := fs_nil hf
  rw [run_equalIn_struct (P := Try.prog) w (d + 3) _ _ _ (by kernel_rfl) (by kernel_rfl), e0]
  have a8 : Try.prog.underlying 25 = some (.array 8 5) := by kernel_rfl
  have u8 : Try.prog.underlying 5 = some (.int .u8) := by kernel_rfl
  have r3 := eqFields_nil (P := Try.prog) w (d + 3) (xs := (gv n X O).toArray) (ys := (gv m Y U).toArray)
  have r2 := eqFields_u8 (P := Try.prog) w (d + 1) (f := f2) (xs := gv n X O) (ys := gv m Y U) (X := O) (Y := U) n2 (by rw [t2]; exact a8) u8 (by kernel_rfl) (by rw [t2]; kernel_rfl) (by rw [o2]; exact gv_arrO lX lO) (by rw [o2]; exact gv_arrO lY lU) lO lU r3
  have r1 := eqFields_u8 (P := Try.prog) w (d + 1) (f := f1) (xs := gv n X O) (ys := gv m Y U) (X := X) (Y := Y) n1 (by rw [t1]; exact a8) u8 (by kernel_rfl) (by rw [t1]; kernel_rfl) (by rw [o1]; exact gv_arrX lX) (by rw [o1]; exact gv_arrX lY) lX lY r2
  have r0 := eqFields_int (P := Try.prog) w (d + 2) (f := f0) (k := .i64) (xs := gv n X O) (ys := gv m Y U) (a := n) (b := m) n0 (by rw [t0]; kernel_rfl) (by rw [o0]; rfl) (by rw [o0]; rfl) r1
  exact r0.trans (congrArg (fun b => Result.ok b w) (by simp only [Bool.decide_and, Bool.and_true]))
theorem eq_grid (n m : Int) (X O Y U : List Nat) (lX : X.length = 8) (lO : O.length = 8) (lY : Y.length = 8) (lU : U.length = 8) (w : World) :
    (Op.equalIn 10000 27 (.agg (gv n X O).toArray) (.agg (gv m Y U).toArray)).run Try.prog w = .ok (decide (n = m ∧ X = Y ∧ O = U)) w := eq_gridD 9996 n m X O Y U lX lO lY lU w
end Go.Proofs.Ythijakignhjmgaa
