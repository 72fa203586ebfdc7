/- Walks: texts of grids, in order; tiles counted. -/
import Derived.Test.YthijakignhjmgaaST
import Derived.Test.YthijakignhjmgaaQB
import Derived.Test.YthijakignhjmgaaR
import Derived.Laws.IdiomStrings
namespace Go.Proofs.Ythijakignhjmgaa
open Go Go.RowKit SL
theorem strO_app (s t : List Nat) : strO s ++ strO t = strO (s ++ t) := by
  apply ByteArray.ext
  rw [ByteArray.data_append]
  simp [strO]
theorem strO_list (s : List Nat) : (strO s).toList = s.map UInt8.ofNat := by
  unfold strO
  rw [ByteArray.toList_mk]
theorem bless_at : ∀ (L M : List Nat) (j : Nat), j < L.length → j < M.length → (∀ i, i < j → L.getD i 0 = M.getD i 0) → L.getD j 0 < M.getD j 0 → (∀ x ∈ M, x < 256) → Op.bytesLess (L.map UInt8.ofNat) (M.map UInt8.ofNat) = true
  | [], _, j, h, _, _, _, _ => absurd h (Nat.not_lt_zero _)
  | _ :: _, [], j, _, h, _, _, _ => absurd h (Nat.not_lt_zero _)
  | x :: L, y :: M, 0, _, _, _, hl, hb => by
    have hxy : x < y := hl
    have hy := hb y List.mem_cons_self
    rw [List.map_cons, List.map_cons, Op.bytesLess, Bool.or_eq_true]
    refine .inl (decide_eq_true ?_)
    rw [UInt8.lt_iff_toNat_lt, UInt8.toNat_ofNat', UInt8.toNat_ofNat']
    omega
  | x :: L, y :: M, j + 1, h1, h2, he, hl, hb => by
    have hxy : x = y := he 0 (Nat.succ_pos _)
    rw [List.map_cons, List.map_cons, Op.bytesLess, hxy]
    rw [bless_at L M j (by simpa using h1) (by simpa using h2) (fun i hi => by simpa using he (i + 1) (by omega)) (by simpa using hl) (fun z hz => hb z (List.mem_cons_of_mem _ hz))]
    simp
namespace SL
section
variable {P : Program} {B : Nat} {w0 : World} {n : Nat} {Q : Po} {F : Fr} {H : Hp} {ops : Array Oper} {l : List Oper} {ty : TypeId} {pos : String} {af : Array Edge} {d : Nat} {dst : Option Tmp} {g : Option (Nat × Bool)}
theorem q_addStr {T T' : TypeId} {x y : Operand} {s t : List Nat} (hx : ev F x = some (.string (strO s))) (hy : ev F y = some (.string (strO t))) (hl : s.length + t.length < 1000000) :
    OpQ P B w0 n H F ⟨dst, .binOp .add T x y T', ty, pos, af, g⟩ (.string (strO (s ++ t))) :=
  q_bin hx hy fun w => by
    have e1 : eqGuard .add T x y (.string (strO s)) (.string (strO t)) = pure () := rfl
    have e2 : binOp .add T (.string (strO s)) (.string (strO t)) = Op.stringOp .add (strO s) (strO t) := rfl
    rw [e1, e2]
    have hm : ¬ (((strO s).size + (strO t).size : Nat) : Int) > IntKind.i64.max := by
      rw [strO_size, strO_size]
      have : IntKind.i64.max = 9223372036854775807 := by decide
      omega
    simp only [Op.stringOp, if_neg hm, strO_app]
    rfl
theorem Jq_addStr {dr : Bool} {T T' : TypeId} {x y : Operand} {s t : List Nat} (hdn : Nat.blt d n = true) (hx : ev F x = some (.string (strO s))) (hy : ev F y = some (.string (strO t))) (hl : s.length + t.length < 1000000) (kk : J dr P B w0 n ops Q l ((d, .string (strO (s ++ t))) :: F) H) :
    J dr P B w0 n ops Q (⟨some d, .binOp .add T x y T', ty, pos, af, none⟩ :: l) F H := J_q hdn (q_addStr hx hy hl) kk
theorem q_gtrStr {T T' : TypeId} {x y : Operand} {s t : List Nat} (hx : ev F x = some (.string (strO s))) (hy : ev F y = some (.string (strO t))) :
    OpQ P B w0 n H F ⟨dst, .binOp .gtr T x y T', ty, pos, af, g⟩ (.bool (!(Op.bytesLess (s.map UInt8.ofNat) (t.map UInt8.ofNat) || (s.map UInt8.ofNat == t.map UInt8.ofNat)))) :=
  q_bin hx hy fun w => by
    have e1 : eqGuard .gtr T x y (.string (strO s)) (.string (strO t)) = pure () := rfl
    have e2 : binOp .gtr T (.string (strO s)) (.string (strO t)) = Op.stringOp .gtr (strO s) (strO t) := rfl
    rw [e1, e2]
    simp only [Op.stringOp, strO_list]
    rfl
theorem Jq_gtrStr {dr : Bool} {T T' : TypeId} {x y : Operand} {s t : List Nat} {r : Bool} (hdn : Nat.blt d n = true) (hx : ev F x = some (.string (strO s))) (hy : ev F y = some (.string (strO t))) (hr : (!(Op.bytesLess (s.map UInt8.ofNat) (t.map UInt8.ofNat) || (s.map UInt8.ofNat == t.map UInt8.ofNat))) = r) (kk : J dr P B w0 n ops Q l ((d, .bool r) :: F) H) :
    J dr P B w0 n ops Q (⟨some d, .binOp .gtr T x y T', ty, pos, af, none⟩ :: l) F H := by subst hr; exact J_q hdn (q_gtrStr hx hy) kk
theorem q_convBytes {T T' e : TypeId} {x : Operand} {v : Value} {s : List Nat} {by' : Nat} {z : Value} [hT : IS P T e 1 by' z] [he : Un P e (.int .u8)] [hT' : Un P T' .string] (hx : ev F x = some v) (hm : It.row v e 1 (u8s s) ∈ H) (hb : ∀ x ∈ s, x < 256) :
    OpQ P B w0 n H F ⟨dst, .convert T T' x, ty, pos, af, g⟩ (.string (strO s)) :=
  opq_run fun A ha w hw => by
    simp only [execOp, ha.ev hx]
    by_cases hs : s = []
    · subst hs
      obtain ⟨m, hown⟩ := hw.row_slice hm
      obtain ⟨h1, h2⟩ := hown
      rcases h2 with ⟨rfl, _⟩ | ⟨gg, cap, cur, rfl, hb2, hg, hmc, hcm, hcs, htake⟩
      · simp only [convert, Sem.run_bind, run_underlying hT.out.1, run_underlying he.out, run_underlying hT'.out, Result.andThen_ok]
        rfl
      · have hm0 : m = 0 := by simp [u8s] at h1; omega
        subst hm0
        have := run_convert_bytes_back (P := P) w T T' e ⟨gg, 0, none⟩ cap [] hT.out.1 he.out hT'.out (fun j hj => absurd hj (Nat.not_lt_zero _))
        rw [Sem.run_bind]
        simp only [List.length_nil] at this
        rw [this]
        rfl
    · obtain ⟨m, cap, hv, hlen, hcell⟩ := hw.row_at hm (by intro e; exact hs (List.map_eq_nil_iff.1 e))
      rw [hv]
      have hml : m = (s.map UInt8.ofNat).length := by rw [List.length_map]; rw [u8s_len] at hlen; omega
      subst hml
      have := run_convert_bytes_back (P := P) w T T' e ⟨gb v, 0, none⟩ cap (s.map UInt8.ofNat) hT.out.1 he.out hT'.out (fun j hj => by
        have hj' : j < s.length := by simpa using hj
        rw [add_eq, Nat.zero_add]
        refine (hcell j _ (u8s_get (l := s) (k := j) hj')).trans ?_
        rw [List.getElem_map, UInt8.toNat_ofNat', List.getD_eq_getElem?_getD, List.getElem?_eq_getElem hj', Option.getD_some]
        have := hb _ (List.getElem_mem hj')
        rw [Nat.mod_eq_of_lt (by omega)])
      rw [Sem.run_bind]
      show Result.andThen ((convert T T' (.slice (some ⟨gb _, 0, none⟩) _ cap)).run P w) _ = _
      rw [this]
      rfl
theorem Jq_convBytes {dr : Bool} {T T' e : TypeId} {x : Operand} {v : Value} {s : List Nat} {by' : Nat} {z : Value} [hT : IS P T e 1 by' z] [he : Un P e (.int .u8)] [hT' : Un P T' .string] (hdn : Nat.blt d n = true) (hx : ev F x = some v) (hm : It.row v e 1 (u8s s) ∈ H) (hb : ∀ x ∈ s, x < 256) (kk : J dr P B w0 n ops Q l ((d, .string (strO s)) :: F) H) :
    J dr P B w0 n ops Q (⟨some d, .convert T T' x, ty, pos, af, none⟩ :: l) F H := J_q hdn (q_convBytes hx hm hb) kk
end
end SL
/-! The order of texts. -/
def digs (X : List Nat) (k : Nat) : List Nat := (X.take k).map (48 + ·)
theorem digs_len {X : List Nat} {k : Nat} (h : k ≤ X.length) : (digs X k).length = k := by
  unfold digs
  rw [List.length_map, List.length_take]
  omega
theorem digs_snoc {X : List Nat} {k : Nat} (h : k < X.length) : digs X (k + 1) = digs X k ++ [48 + X.getD k 0] := by
  unfold digs
  rw [List.take_add_one, List.map_append, List.getD_eq_getElem?_getD, List.getElem?_eq_getElem h]
  rfl
theorem digs_congr {X Y : List Nat} (lX : X.length = 8) (lY : Y.length = 8) : ∀ {k : Nat}, k ≤ 8 → (∀ j, j < k → X.getD j 0 = Y.getD j 0) → digs X k = digs Y k
  | 0, _, _ => rfl
  | k + 1, h8, h => by
    rw [digs_snoc (by omega), digs_snoc (by omega), digs_congr lX lY (by omega) fun j hj => h j (by omega), h k (by omega)]
theorem digs_get {X : List Nat} {k j : Nat} (h : k ≤ X.length) (hj : j < k) : (digs X k).getD j 0 = 48 + X.getD j 0 := by
  have e : X[j]? = some X[j] := List.getElem?_eq_getElem (by omega)
  unfold digs
  rw [List.getD_eq_getElem?_getD, List.getD_eq_getElem?_getD, List.getElem?_map, List.getElem?_take_of_lt hj, e]
  rfl
theorem digs_lt {X : List Nat} {k : Nat} (h : k ≤ X.length) (hb : ∀ j, j < k → X.getD j 0 < 8) : ∀ x ∈ digs X k, x < 256 := by
  intro x hx
  obtain ⟨j, hj, e⟩ := List.getElem_of_mem hx
  rw [digs_len h] at hj
  have h1 := digs_get h hj
  rw [List.getD_eq_getElem?_getD, List.getElem?_eq_getElem (by rw [digs_len h]; exact hj), Option.getD_some, e] at h1
  have := hb j hj
  omega
/-- The text of a grid. -/
def txt (n : Nat) (X O : List Nat) : List Nat := digs X n ++ 47 :: digs O n
theorem txt_get {n j : Nat} {X O : List Nat} (h : n ≤ X.length) (hj : j < n) : (txt n X O).getD j 0 = 48 + X.getD j 0 := by
  unfold txt
  rw [List.getD_eq_getElem?_getD, List.getElem?_append_left (by rw [digs_len h]; exact hj), ← List.getD_eq_getElem?_getD, digs_get h hj]
theorem txt_len {n : Nat} {X O : List Nat} (h : n ≤ X.length) (h' : n ≤ O.length) : (txt n X O).length = n + (n + 1) := by
  unfold txt
  rw [List.length_append, List.length_cons, digs_len h, digs_len h']
theorem txt_lt {n : Nat} {X O : List Nat} (h : n ≤ X.length) (h' : n ≤ O.length) (bX : ∀ j, j < n → X.getD j 0 < 8) (bO : ∀ j, j < n → O.getD j 0 < 8) : ∀ x ∈ txt n X O, x < 256 := by
  intro x hx
  unfold txt at hx
  rw [List.mem_append, List.mem_cons] at hx
  rcases hx with hx | rfl | hx
  · exact digs_lt h bX x hx
  · decide
  · exact digs_lt h' bO x hx
theorem least_true (s : Nat → Bool) : ∀ k, (∃ j, j < k ∧ s j = true) → ∃ j, j < k ∧ s j = true ∧ ∀ i, i < j → s i = false
  | 0, ⟨_, h, _⟩ => absurd h (Nat.not_lt_zero _)
  | k + 1, ⟨j, hj, hs⟩ => by
    by_cases h : ∃ j, j < k ∧ s j = true
    · obtain ⟨i, h1, h2, h3⟩ := least_true s k h
      exact ⟨i, by omega, h2, h3⟩
    · refine ⟨j, hj, hs, fun i hi => Bool.eq_false_iff.2 fun e => h ⟨i, by omega, e⟩⟩
theorem text_le {n : Nat} {X O X' O' : List Nat} {s : Nat → Bool} (h8 : n ≤ 8) (lX : X.length = 8) (lO : O.length = 8) (lX' : X'.length = 8) (lO' : O'.length = 8) (bX : ∀ j, j < n → X.getD j 0 < 8) (bO : ∀ j, j < n → O.getD j 0 < 8)
    (h : ∀ j, j < n → X'.getD j 0 = mkT X O (s j) j ∧ O'.getD j 0 = mkT X O (!(s j)) j) (low : ∀ j, j < n → s j = true → ∃ i, i ≤ j ∧ s i = true ∧ O.getD i 0 < X.getD i 0) :
    (!(Op.bytesLess ((txt n X' O').map UInt8.ofNat) ((txt n X O).map UInt8.ofNat) || ((txt n X' O').map UInt8.ofNat == (txt n X O).map UInt8.ofNat))) = false := by
  by_cases ha : ∃ j, j < n ∧ s j = true
  · obtain ⟨j, hj, hs, hmin⟩ := least_true s n ha
    obtain ⟨i, hij, hi, hlt⟩ := low j hj hs
    obtain rfl : i = j := by
      refine Classical.byContradiction fun hne => ?_
      rw [hmin i (by omega)] at hi
      cases hi
    have e1 : ∀ k, k < i → (txt n X' O').getD k 0 = (txt n X O).getD k 0 := fun k hk => by
      rw [txt_get (by omega) (by omega), txt_get (by omega) (by omega), (h k (by omega)).1, hmin k hk]
      rfl
    have e2 : (txt n X' O').getD i 0 < (txt n X O).getD i 0 := by
      rw [txt_get (by omega) hj, txt_get (by omega) hj, (h i hj).1, hs]
      show 48 + O.getD i 0 < _
      omega
    rw [bless_at (txt n X' O') (txt n X O) i (by rw [txt_len (by omega) (by omega)]; omega) (by rw [txt_len (by omega) (by omega)]; omega) e1 e2 (txt_lt (by omega) (by omega) bX bO)]
    rfl
  · have hf : ∀ j, j < n → s j = false := fun j hj => Bool.eq_false_iff.2 fun e => ha ⟨j, hj, e⟩
    have e : txt n X' O' = txt n X O := by
      unfold txt
      rw [digs_congr lX' lX h8 fun j hj => by rw [(h j hj).1, hf j hj]; rfl, digs_congr lO' lO h8 fun j hj => by rw [(h j hj).2, hf j hj]; rfl]
    rw [e]
    simp
end Go.Proofs.Ythijakignhjmgaa
