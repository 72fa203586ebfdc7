/- Plain laws: tables of tiles; the kinds of corners; the tiles of a grid. -/
import Derived.Test.YthijakignhjmgaaPG
import Derived.Test.YthijakignhjmgaaWC
import Derived.Test.YthijakignhjmgaaGE
namespace Go.Proofs.Ythijakignhjmgaa
/-- A list of 64 tiles holds f at rows and columns less than n, and 0 besides. -/
def mosAll (n : Nat) (f : Nat → Nat → Nat) (T : List Nat) : Prop :=
  T.length = 64 ∧ (∀ r i, r < n → i < n → T.getD (n * r + i) 0 = f r i) ∧ ∀ j, n * n ≤ j → T.getD j 0 = 0
theorem rc_lt {n r i : Nat} (hr : r < n) (hi : i < n) : n * r + i < n * n := by
  have : n * (r + 1) ≤ n * n := Nat.mul_le_mul_left n hr
  rw [Nat.mul_add] at this
  omega
theorem rc_inj {n r i r' i' : Nat} (hi : i < n) (hi' : i' < n) (h : n * r + i = n * r' + i') : r = r' ∧ i = i' := by
  have h1 : (n * r + i) / n = r := by rw [Nat.mul_add_div (by omega), Nat.div_eq_of_lt hi, Nat.add_zero]
  have h2 : (n * r' + i') / n = r' := by rw [Nat.mul_add_div (by omega), Nat.div_eq_of_lt hi', Nat.add_zero]
  have : r = r' := by rw [← h1, ← h2, h]
  subst this
  exact ⟨rfl, by omega⟩
theorem mosAll_zero (n : Nat) : mosAll n (fun _ _ => 0) (List.replicate 64 0) := by
  have : ∀ j, (List.replicate 64 0).getD j 0 = 0 := fun j => by
    rw [List.getD_eq_getElem?_getD, List.getElem?_replicate]; split <;> rfl
  exact ⟨rfl, fun r i _ _ => this _, fun j _ => this j⟩
theorem mosAll_congr {n : Nat} {f g : Nat → Nat → Nat} {T : List Nat} (h : mosAll n f T) (e : ∀ r i, r < n → i < n → f r i = g r i) : mosAll n g T :=
  ⟨h.1, fun r i hr hi => (h.2.1 r i hr hi).trans (e r i hr hi), h.2.2⟩
theorem mosAll_set {n : Nat} {f g : Nat → Nat → Nat} {T : List Nat} {r i v : Nat} (h8 : n ≤ 8) (h : mosAll n f T) (hr : r < n) (hi : i < n) (e : ∀ r' i', r' < n → i' < n → g r' i' = if r' = r ∧ i' = i then v else f r' i') : mosAll n g (T.set (n * r + i) v) := by
  have hlt := rc_lt hr hi
  have h64 := nn_le h8
  have hl := h.1
  refine ⟨by rw [List.length_set]; exact h.1, fun r' i' hr' hi' => ?_, fun j hj => ?_⟩
  · rw [set_getD (by omega), e r' i' hr' hi']
    by_cases hk : r' = r ∧ i' = i
    · rw [hk.1, hk.2, if_pos rfl, if_pos ⟨rfl, rfl⟩]
    · rw [if_neg (fun he => hk (rc_inj hi' hi he)), if_neg hk, h.2.1 r' i' hr' hi']
  · rw [set_getD (by omega), if_neg (by omega), h.2.2 j hj]
theorem mosAll_unique {n : Nat} {f : Nat → Nat → Nat} {T U : List Nat} (hn : 0 < n) (h : mosAll n f T) (k : mosAll n f U) : T = U := by
  refine List.ext_getElem (by rw [h.1, k.1]) fun j h1 h2 => ?_
  have key : T.getD j 0 = U.getD j 0 := by
    by_cases hj : j < n * n
    · have e : n * (j / n) + j % n = j := Nat.div_add_mod j n
      have hr : j / n < n := Nat.div_lt_of_lt_mul hj
      have hi : j % n < n := Nat.mod_lt _ hn
      have a := h.2.1 _ _ hr hi
      have b := k.2.1 _ _ hr hi
      rw [e] at a b
      rw [a, b]
    · rw [h.2.2 j (by omega), k.2.2 j (by omega)]
  simpa [List.getD_eq_getElem?_getD, h1, h2] using key
def mosT (n : Nat) (f : Nat → Nat → Nat) : List Nat := (List.range 64).map fun j => if j < n * n then f (j / n) (j % n) else 0
theorem mosT_all {n : Nat} {f : Nat → Nat → Nat} (h8 : n ≤ 8) : mosAll n f (mosT n f) := by
  have h64 := nn_le h8
  refine ⟨by simp [mosT], fun r i hr hi => ?_, fun j hj => ?_⟩
  · have hlt := rc_lt hr hi
    have e1 : (n * r + i) / n = r := by rw [Nat.mul_add_div (by omega), Nat.div_eq_of_lt hi, Nat.add_zero]
    have e2 : (n * r + i) % n = i := by rw [Nat.mul_add_mod, Nat.mod_eq_of_lt hi]
    have : (mosT n f)[n * r + i]? = some (f r i) := by
      simp only [mosT, List.getElem?_map, List.getElem?_range (show n * r + i < 64 by omega), Option.map_some, if_pos hlt, e1, e2]
    simp [List.getD_eq_getElem?_getD, this]
  · by_cases h : j < 64
    · have : (mosT n f)[j]? = some 0 := by
        simp only [mosT, List.getElem?_map, List.getElem?_range h, Option.map_some, if_neg (show ¬ j < n * n by omega)]
      simp [List.getD_eq_getElem?_getD, this]
    · simp [List.getD_eq_getElem?_getD, List.getElem?_eq_none (show (mosT n f).length ≤ j by simp [mosT]; omega)]
/-! Kinds. -/
def kindI (col row orow ocol : Nat) : Nat := (if orow < row then 2 else 0) + if ocol < col then 1 else 0
def kindS (above right : Prop) [Decidable above] [Decidable right] : Nat := if above ∧ right then 0 else if above then 1 else if right then 2 else 3
theorem kind_eq {col row orow ocol : Nat} (h1 : orow ≠ row) (h2 : ocol ≠ col) : kindS (row < orow) (col < ocol) = kindI col row orow ocol := by
  unfold kindS kindI
  have e1 : orow < row ↔ ¬ row < orow := by omega
  have e2 : ocol < col ↔ ¬ col < ocol := by omega
  simp only [e1, e2]
  by_cases a : row < orow <;> by_cases b : col < ocol <;> simp [a, b]
theorem kindI_le {col row orow ocol : Nat} : kindI col row orow ocol ≤ 3 := by unfold kindI; split <;> split <;> omega
theorem kindS_le {above right : Prop} [Decidable above] [Decidable right] : kindS above right ≤ 3 := by unfold kindS; split <;> (try split) <;> (try split) <;> omega
def btw (x a b : Nat) : Prop := min a b < x ∧ x < max a b
instance (x a b : Nat) : Decidable (btw x a b) := by unfold btw; infer_instance
/-- The kind of a mark. -/
def kdX (n : Nat) (X O : List Nat) (i r : Nat) : Nat := kindS (r < O.getD i 0) (i < posF O n r)
def kdO (n : Nat) (X O : List Nat) (i r : Nat) : Nat := kindS (r < X.getD i 0) (i < posF X n r)
def tileB (up across : Prop) [Decidable up] [Decidable across] : Nat := if up ∧ across then 7 else if up then 6 else if across then 5 else 0
def tile (n : Nat) (X O : List Nat) (r i : Nat) : Nat :=
  if r = X.getD i 0 then kdX n X O i r + 1 else if r = O.getD i 0 then kdO n X O i r + 1 else tileB (btw r (X.getD i 0) (O.getD i 0)) (btw i (posF X n r) (posF O n r))
section
variable {p q : Prop} [Decidable p] [Decidable q]
theorem tileB_7 (a : p) (b : q) : tileB p q = 7 := if_pos ⟨a, b⟩
theorem tileB_6 (a : p) (b : ¬ q) : tileB p q = 6 := by rw [tileB, if_neg (fun h => b h.2), if_pos a]
theorem tileB_5 (a : ¬ p) (b : q) : tileB p q = 5 := by rw [tileB, if_neg (fun h => a h.1), if_neg a, if_pos b]
theorem tileB_0 (a : ¬ p) (b : ¬ q) : tileB p q = 0 := by rw [tileB, if_neg (fun h => a h.1), if_neg a, if_neg b]
end
/-- The tiles after the columns less than k in the row r, and the rows before. -/
def upTo (f : Nat → Nat → Nat) (r k : Nat) : Nat → Nat → Nat := fun r' i' => if r' < r ∨ r' = r ∧ i' < k then f r' i' else 0
theorem upTo_next {n : Nat} {f : Nat → Nat → Nat} {T : List Nat} {r i : Nat} (h8 : n ≤ 8) (h : mosAll n (upTo f r i) T) (hr : r < n) (hi : i < n) : mosAll n (upTo f r (i + 1)) (T.set (n * r + i) (f r i)) :=
  mosAll_set h8 h hr hi fun r' i' _ _ => by
    unfold upTo
    by_cases e : r' = r ∧ i' = i
    · rw [if_pos e, if_pos (by omega), e.1, e.2]
    · rw [if_neg e]
      by_cases k : r' < r ∨ r' = r ∧ i' < i
      · rw [if_pos k, if_pos (by omega)]
      · rw [if_neg k, if_neg (by omega)]
theorem upTo_stay {n : Nat} {f : Nat → Nat → Nat} {T : List Nat} {r i : Nat} (h : mosAll n (upTo f r i) T) (h0 : f r i = 0) : mosAll n (upTo f r (i + 1)) T :=
  mosAll_congr h fun r' i' _ _ => by
    unfold upTo
    by_cases k : r' < r ∨ r' = r ∧ i' < i
    · rw [if_pos k, if_pos (by omega)]
    · rw [if_neg k]
      split
      · rename_i k'
        have e : r' = r ∧ i' = i := by omega
        rw [e.1, e.2, h0]
      · rfl
theorem upTo_row {n : Nat} {f : Nat → Nat → Nat} {T : List Nat} {r : Nat} (h : mosAll n (upTo f r n) T) : mosAll n (upTo f (r + 1) 0) T :=
  mosAll_congr h fun r' i' _ hi => by
    unfold upTo
    by_cases k : r' < r ∨ r' = r ∧ i' < n
    · rw [if_pos k, if_pos (by omega)]
    · rw [if_neg k, if_neg (by omega)]
theorem upTo_start (n : Nat) (f : Nat → Nat → Nat) : mosAll n (upTo f 0 0) (List.replicate 64 0) :=
  mosAll_congr (mosAll_zero n) fun r' i' _ _ => by unfold upTo; rw [if_neg (by omega)]
theorem upTo_end {n : Nat} {f : Nat → Nat → Nat} {T : List Nat} (hn : 0 < n) (h8 : n ≤ 8) (h : mosAll n (upTo f n 0) T) : T = mosT n f :=
  mosAll_unique hn (mosAll_congr h fun r' i' hr _ => by unfold upTo; rw [if_pos (by omega)]) (mosT_all h8)
theorem upTo_all {n : Nat} {f : Nat → Nat → Nat} {T : List Nat} (h : mosAll n (upTo f n 0) T) : mosAll n f T :=
  mosAll_congr h fun r' i' hr _ => by unfold upTo; rw [if_pos (by omega)]
/-- With the first k of the corners put in: two of each column. -/
def corF (n : Nat) (X O : List Nat) (k : Nat) : Nat → Nat → Nat := fun r i =>
  if r = X.getD i 0 ∧ 2 * i < k then kindI i (X.getD i 0) (O.getD i 0) (posF O n (X.getD i 0)) + 1
  else if r = O.getD i 0 ∧ 2 * i + 1 < k then kindI i (O.getD i 0) (X.getD i 0) (posF X n (O.getD i 0)) + 1
  else tileB (btw r (X.getD i 0) (O.getD i 0)) (btw i (posF X n r) (posF O n r))
theorem corF_start {n : Nat} {X O : List Nat} {T : List Nat} (h : mosAll n (fun r i => tileB (btw r (X.getD i 0) (O.getD i 0)) (btw i (posF X n r) (posF O n r))) T) : mosAll n (corF n X O 0) T :=
  mosAll_congr h fun r i _ _ => by unfold corF; rw [if_neg (by omega), if_neg (by omega)]
theorem corF_X {n i : Nat} {X O T : List Nat} (h8 : n ≤ 8) (h : mosAll n (corF n X O (2 * i)) T) (hi : i < n) (hx : X.getD i 0 < n) : mosAll n (corF n X O (2 * i + 1)) (T.set (n * X.getD i 0 + i) (kindI i (X.getD i 0) (O.getD i 0) (posF O n (X.getD i 0)) + 1)) :=
  mosAll_set h8 h hx hi fun r' i' _ _ => by
    unfold corF
    by_cases e : r' = X.getD i 0 ∧ i' = i
    · obtain ⟨rfl, rfl⟩ := e
      rw [if_pos ⟨rfl, by omega⟩, if_pos ⟨rfl, rfl⟩]
    · rw [if_neg e]
      by_cases a : r' = X.getD i' 0 ∧ 2 * i' < 2 * i
      · rw [if_pos a, if_pos ⟨a.1, by omega⟩]
      · rw [if_neg a, if_neg (fun b => ?_)]
        · by_cases c : r' = O.getD i' 0 ∧ 2 * i' + 1 < 2 * i
          · rw [if_pos c, if_pos ⟨c.1, by omega⟩]
          · rw [if_neg c, if_neg (fun d => c ⟨d.1, by omega⟩)]
        · by_cases hii : i' = i
          · subst hii; exact e ⟨b.1, rfl⟩
          · exact a ⟨b.1, by omega⟩
theorem corF_O {n i : Nat} {X O T : List Nat} (h8 : n ≤ 8) (h : mosAll n (corF n X O (2 * i + 1)) T) (hi : i < n) (ho : O.getD i 0 < n) (hne : X.getD i 0 ≠ O.getD i 0) : mosAll n (corF n X O (2 * (i + 1))) (T.set (n * O.getD i 0 + i) (kindI i (O.getD i 0) (X.getD i 0) (posF X n (O.getD i 0)) + 1)) :=
  mosAll_set h8 h ho hi fun r' i' _ _ => by
    unfold corF
    by_cases e : r' = O.getD i 0 ∧ i' = i
    · obtain ⟨rfl, rfl⟩ := e
      rw [if_neg (fun a => hne a.1.symm), if_pos ⟨rfl, by omega⟩, if_pos ⟨rfl, rfl⟩]
    · rw [if_neg e]
      by_cases a : r' = X.getD i' 0 ∧ 2 * i' < 2 * i + 1
      · rw [if_pos a, if_pos ⟨a.1, by omega⟩]
      · rw [if_neg a, if_neg (fun b => a ⟨b.1, by omega⟩)]
        by_cases c : r' = O.getD i' 0 ∧ 2 * i' + 1 < 2 * i + 1
        · rw [if_pos c, if_pos ⟨c.1, by omega⟩]
        · rw [if_neg c, if_neg (fun d => ?_)]
          by_cases hii : i' = i
          · subst hii; exact e ⟨d.1, rfl⟩
          · exact c ⟨d.1, by omega⟩
theorem posF_ne {n i : Nat} {X O : List Nat} (g : okG (n : Int) X O) (hi : i < n) : posF O n (X.getD i 0) ≠ i ∧ posF X n (O.getD i 0) ≠ i := by
  obtain ⟨_, pX, pO, hne⟩ := g
  simp only [Int.toNat_natCast] at pX pO hne
  refine ⟨fun e => ?_, fun e => ?_⟩
  · have := (pO.posF_spec (pX.1 i hi)).2
    rw [e] at this
    exact hne i hi this.symm
  · have := (pX.posF_spec (pO.1 i hi)).2
    rw [e] at this
    exact hne i hi this
theorem corF_end {n : Nat} {X O T : List Nat} (g : okG (n : Int) X O) (h : mosAll n (corF n X O (2 * n)) T) : T = mosT n (tile n X O) := by
  have hn := g.1
  refine mosAll_unique (by omega) (mosAll_congr h fun r i hr hi => ?_) (mosT_all (by omega))
  have hp := posF_ne g hi
  have hxo := g.2.2.2 i (by simpa using hi)
  unfold corF tile kdX kdO
  by_cases a : r = X.getD i 0
  · rw [if_pos ⟨a, by omega⟩, if_pos a, a, kind_eq hxo.symm hp.1]
  · rw [if_neg (fun b => a b.1), if_neg a]
    by_cases c : r = O.getD i 0
    · rw [if_pos ⟨c, by omega⟩, if_pos c, c, kind_eq hxo hp.2]
    · rw [if_neg (fun b => c b.1), if_neg c]
end Go.Proofs.Ythijakignhjmgaa
