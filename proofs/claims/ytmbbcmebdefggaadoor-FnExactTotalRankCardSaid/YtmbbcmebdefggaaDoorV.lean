/- Values: bytes, numbers, grids as lists; what their cells read. -/
import Derived.Test.YtmbbcmebdefggaaDoorSlT
import Derived.Test.YtmbbcmebdefggaaDoorPa
namespace Go.Proofs.YtmbbcmebdefggaaDoor
open Go Go.RowKit SL
def u8s (l : List Nat) : List Value := l.map fun (x : Nat) => .int .u8 (x : Int)
def bls (l : List Bool) : List Value := l.map .bool
def gv (n : Int) (X O : List Nat) : List Value := .int .i64 n :: (u8s X ++ u8s O)
abbrev Z8 : List Nat := List.replicate 8 0
abbrev F8 : List Bool := List.replicate 8 false
theorem u8s_len (L : List Nat) : (u8s L).length = L.length := by simp [u8s]
theorem bls_len (L : List Bool) : (bls L).length = L.length := by simp [bls]
theorem u8s_one (l : List Nat) : ∀ u ∈ u8s l, u.oneCell' = true := by simp [u8s, Value.oneCell']
theorem ones_of {l : List Value} (h : l.all (·.oneCell') = true) : ∀ u ∈ l, u.oneCell' = true := fun u hu => List.all_eq_true.1 h u hu
theorem gv_one (n : Int) (X O : List Nat) : ∀ u ∈ gv n X O, u.oneCell' = true := by
  intro u hu
  rcases List.mem_cons.1 hu with rfl | hu
  · rfl
  · rcases List.mem_append.1 hu with hu | hu <;> exact u8s_one _ u hu
theorem u8s_get {l : List Nat} {k : Nat} (h : k < l.length) : (u8s l)[k]? = some (.int .u8 ((l.getD k 0 : Nat) : Int)) := by
  simp [u8s, List.getD_eq_getElem?_getD, h]
theorem bls_get {l : List Bool} {k : Nat} (h : k < l.length) : (bls l)[k]? = some (.bool (l.getD k false)) := by
  simp [bls, List.getD_eq_getElem?_getD, h]
theorem u8s_at {l : List Nat} {k : Nat} (h : k < l.length) : (u8s l)[0 + k * 1]? = some (.int .u8 ((l.getD k 0 : Nat) : Int)) := by
  rw [show 0 + k * 1 = k by omega]; exact u8s_get h
theorem bls_at {l : List Bool} {k : Nat} (h : k < l.length) : (bls l)[0 + k * 1]? = some (.bool (l.getD k false)) := by
  rw [show 0 + k * 1 = k by omega]; exact bls_get h
theorem u8s_set {L : List Nat} {j k : Nat} : (u8s L).set (0 + j * 1) (.int .u8 (k : Int)) = u8s (L.set j k) := by
  rw [show 0 + j * 1 = j by omega, u8s, u8s, List.map_set]
theorem bls_set {L : List Bool} {j : Nat} {b : Bool} : (bls L).set (0 + j * 1) (.bool b) = bls (L.set j b) := by
  rw [show 0 + j * 1 = j by omega, bls, bls, List.map_set]
theorem gv_X {n : Int} {X O : List Nat} {k : Nat} (hX : X.length = 8) (h : k < 8) : (gv n X O)[0 + 1 + k * 1]? = some (.int .u8 ((X.getD k 0 : Nat) : Int)) := by
  rw [show 0 + 1 + k * 1 = k + 1 by omega, gv, List.getElem?_cons_succ, List.getElem?_append_left (by simp [u8s, hX, h]), u8s_get (by omega)]
theorem gv_O {n : Int} {X O : List Nat} {k : Nat} (hX : X.length = 8) (hO : O.length = 8) (h : k < 8) : (gv n X O)[0 + 9 + k * 1]? = some (.int .u8 ((O.getD k 0 : Nat) : Int)) := by
  rw [show 0 + 9 + k * 1 = (k + 8) + 1 by omega, gv, List.getElem?_cons_succ, List.getElem?_append_right (by simp [u8s, hX]), show k + 8 - (u8s X).length = k by simp [u8s, hX], u8s_get (by omega)]
theorem gv_len {n : Int} {X O : List Nat} (hX : X.length = 8) (hO : O.length = 8) : (gv n X O).length = 17 := by simp [gv, u8s, hX, hO]
theorem gv_arrX {n : Int} {X O : List Nat} (hX : X.length = 8) : ((gv n X O).drop (0 + 1)).take 8 = u8s X := by
  rw [gv, Nat.zero_add, List.drop_succ_cons, List.drop_zero, List.take_left' (by rw [u8s_len, hX])]
theorem gv_arrO {n : Int} {X O : List Nat} (hX : X.length = 8) (hO : O.length = 8) : ((gv n X O).drop (0 + 9)).take 8 = u8s O := by
  rw [gv, Nat.zero_add, List.drop_succ_cons, List.drop_left' (by rw [u8s_len, hX]), List.take_of_length_le (by rw [u8s_len, hO]; exact Nat.le_refl _)]
theorem boolF {p : Prop} {i : Decidable p} (h : ¬ p) : Value.bool false = .bool (@decide p i) := by rw [decide_eq_false h]
theorem boolT {p : Prop} {i : Decidable p} (h : p) : Value.bool true = .bool (@decide p i) := by rw [decide_eq_true h]
theorem boolE {p q : Prop} {i : Decidable p} {j : Decidable q} (h : p ↔ q) : Value.bool (@decide p i) = .bool (@decide q j) := by
  by_cases hp : p
  · rw [decide_eq_true hp, decide_eq_true (h.1 hp)]
  · rw [decide_eq_false hp, decide_eq_false (fun hq => hp (h.2 hq))]
theorem gv_setN {n m : Int} {X O : List Nat} : (gv n X O).set (0 + 0) (.int .i64 m) = gv m X O := rfl
theorem gv_putX {n : Int} {X O Y : List Nat} (hX : X.length = 8) : (gv n X O).take (0 + 1) ++ (Value.agg (u8s Y).toArray).cells.toList ++ (gv n X O).drop (0 + 1 + 8) = gv n Y O := by
  simp only [gv, Value.cells, Nat.zero_add, List.take_succ_cons, List.take_zero, List.drop_succ_cons, show 1 + 8 = 8 + 1 from rfl]
  rw [List.drop_left' (by rw [u8s_len, hX])]; rfl
theorem gv_putO {n : Int} {X O Y : List Nat} (hX : X.length = 8) (hO : O.length = 8) : (gv n X O).take (0 + 9) ++ (Value.agg (u8s Y).toArray).cells.toList ++ (gv n X O).drop (0 + 9 + 8) = gv n X Y := by
  simp only [gv, Value.cells, Nat.zero_add, show 9 = 8 + 1 from rfl, show 8 + 1 + 8 = 16 + 1 from rfl, List.take_succ_cons, List.drop_succ_cons]
  rw [List.take_left' (by rw [u8s_len, hX]), List.drop_of_length_le (by simp [u8s_len, hX, hO]), List.append_nil]; rfl
theorem gv_partX {n : Int} {X O : List Nat} (_hX : X.length = 8) : ∀ i v, (u8s X)[i]? = some v → (gv n X O)[0 + 1 + i]? = some v := fun i v h => by
  have hi : i < (u8s X).length := (List.getElem?_eq_some_iff.1 h).1
  rw [show 0 + 1 + i = i + 1 by omega, gv, List.getElem?_cons_succ, List.getElem?_append_left hi, h]
theorem gv_partO {n : Int} {X O : List Nat} (hX : X.length = 8) (_hO : O.length = 8) : ∀ i v, (u8s O)[i]? = some v → (gv n X O)[0 + 9 + i]? = some v := fun i v h => by
  rw [show 0 + 9 + i = (8 + i) + 1 by omega, gv, List.getElem?_cons_succ, List.getElem?_append_right (by rw [u8s_len]; omega), u8s_len, hX, Nat.add_sub_cancel_left, h]
theorem list8_ext {X M : List Nat} (hX : X.length = 8) (hM : M.length = 8) (h : ∀ i, i < 8 → M.getD i 0 = X.getD i 0) : M = X := by
  refine List.ext_getElem (by omega) fun i h1 h2 => ?_
  have := h i (by omega)
  simpa [List.getD_eq_getElem?_getD, h1, h2] using this
theorem set_getD {M : List Nat} {k i v : Nat} (hk : k < M.length) : (M.set k v).getD i 0 = if i = k then v else M.getD i 0 := by
  by_cases e : i = k
  · subst e; simp [List.getD_eq_getElem?_getD, hk]
  · rw [if_neg e, List.getD_eq_getElem?_getD, List.getElem?_set_ne (fun h => e h.symm), ← List.getD_eq_getElem?_getD]
/-- The grids. -/
def okG (n : Int) (X O : List Nat) : Prop := (2 ≤ n ∧ n ≤ 8) ∧ isPerm X n.toNat ∧ isPerm O n.toNat ∧ ∀ i, i < n.toNat → X.getD i 0 ≠ O.getD i 0
theorem okG_loop {X O : List Nat} {m : Nat} (h2 : 2 ≤ m) (h8 : m ≤ 8) (hX : isPerm X m) (hO : isPerm O m) (h : ∀ i, i < m → X.getD i 0 ≠ O.getD i 0) : okG (m : Int) X O :=
  ⟨by omega, by simpa using hX, by simpa using hO, by simpa using h⟩
theorem okG_nat {n : Int} {X O : List Nat} (g : okG n X O) : ∃ m : Nat, n = (m : Int) := ⟨n.toNat, by have := g.1; omega⟩
/-- A number that is a byte. -/
def isB (l : List Nat) : Prop := l.length = 8 ∧ ∀ i, l.getD i 0 < 256
theorem wrap64_nat {a : Nat} (h : a < 256) : IntKind.i64.wrap (a : Int) = (a : Int) := wrap_in (by omega)
end Go.Proofs.YtmbbcmebdefggaaDoor
