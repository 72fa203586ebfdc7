/- Plain laws: the mosaic of a grid is closed, and has a crossing tile for each crossing; counts of tiles. -/
import Derived.Test.YthijakignhjmgaaWQ
import Derived.Test.YthijakignhjmgaaWV
namespace Go.Proofs.Ythijakignhjmgaa
theorem end_kind {p q : Prop} [Decidable p] [Decidable q] : endS (kindS p q + 1) 0 = decide p ∧ endS (kindS p q + 1) 1 = decide q ∧ endS (kindS p q + 1) 2 = decide (¬ p) ∧ endS (kindS p q + 1) 3 = decide (¬ q) := by
  unfold kindS
  by_cases a : p <;> by_cases b : q <;> simp [a, b, endS]
theorem end_tileB {p q : Prop} [Decidable p] [Decidable q] : endS (tileB p q) 0 = decide p ∧ endS (tileB p q) 1 = decide q ∧ endS (tileB p q) 2 = decide p ∧ endS (tileB p q) 3 = decide q := by
  unfold tileB
  by_cases a : p <;> by_cases b : q <;> simp [a, b, endS]
/-- The ends of the tiles of a grid, by the spans of columns and rows. -/
theorem end_tile {n : Nat} {X O : List Nat} (g : okG (n : Int) X O) {r i : Nat} (hr : r < n) (hi : i < n) :
    (endS (tile n X O r i) 0 = decide (min (X.getD i 0) (O.getD i 0) ≤ r ∧ r < max (X.getD i 0) (O.getD i 0))) ∧
    (endS (tile n X O r i) 1 = decide (min (posF X n r) (posF O n r) ≤ i ∧ i < max (posF X n r) (posF O n r))) ∧
    (endS (tile n X O r i) 2 = decide (min (X.getD i 0) (O.getD i 0) < r ∧ r ≤ max (X.getD i 0) (O.getD i 0))) ∧
    (endS (tile n X O r i) 3 = decide (min (posF X n r) (posF O n r) < i ∧ i ≤ max (posF X n r) (posF O n r))) := by
  have hne := posF_ne g hi
  obtain ⟨-, pX, pO, gne⟩ := g
  rw [Int.toNat_natCast] at pX pO gne
  have hx := pX.posF_eq hi
  have ho := pO.posF_eq hi
  have hn := gne i hi
  unfold tile
  by_cases h1 : r = X.getD i 0
  · rw [if_pos h1]
    subst h1
    unfold kdX
    obtain ⟨e0, e1, e2, e3⟩ := end_kind (p := X.getD i 0 < O.getD i 0) (q := i < posF O n (X.getD i 0))
    rw [e0, e1, e2, e3, hx]
    refine ⟨decide_eq_decide.2 (by omega), decide_eq_decide.2 (by omega), decide_eq_decide.2 (by omega), decide_eq_decide.2 (by omega)⟩
  · rw [if_neg h1]
    by_cases h2 : r = O.getD i 0
    · rw [if_pos h2]
      subst h2
      unfold kdO
      obtain ⟨e0, e1, e2, e3⟩ := end_kind (p := O.getD i 0 < X.getD i 0) (q := i < posF X n (O.getD i 0))
      rw [e0, e1, e2, e3, ho]
      refine ⟨decide_eq_decide.2 (by omega), decide_eq_decide.2 (by omega), decide_eq_decide.2 (by omega), decide_eq_decide.2 (by omega)⟩
    · rw [if_neg h2]
      obtain ⟨e0, e1, e2, e3⟩ := end_tileB (p := btw r (X.getD i 0) (O.getD i 0)) (q := btw i (posF X n r) (posF O n r))
      rw [e0, e1, e2, e3]
      have k1 : posF X n r ≠ i := fun e => h1 (by rw [← e]; exact (pX.posF_spec hr).2.symm)
      have k2 : posF O n r ≠ i := fun e => h2 (by rw [← e]; exact (pO.posF_spec hr).2.symm)
      unfold btw
      refine ⟨decide_eq_decide.2 (by omega), decide_eq_decide.2 (by omega), decide_eq_decide.2 (by omega), decide_eq_decide.2 (by omega)⟩
theorem tile_le {n : Nat} {X O : List Nat} {r i : Nat} : tile n X O r i ≤ 7 := by
  unfold tile
  split
  · have : kdX n X O i r ≤ 3 := kindS_le
    omega
  · split
    · have : kdO n X O i r ≤ 3 := kindS_le
      omega
    · unfold tileB
      split
      · omega
      · split
        · omega
        · split <;> omega
theorem mosT_okM {n : Nat} {X O : List Nat} (h2 : 2 ≤ n) (h8 : n ≤ 8) : okM (n : Int) (mosT n (tile n X O)) := by
  have hall := mosT_all (n := n) (f := tile n X O) h8
  refine ⟨by omega, fun k hk => ?_⟩
  have e : ((n * n : Nat) : Int) = (n : Int) * n := by simp
  by_cases hj : k < n * n
  · have e1 : n * (k / n) + k % n = k := Nat.div_add_mod k n
    have h1 := hall.2.1 (k / n) (k % n) (Nat.div_lt_of_lt_mul hj) (Nat.mod_lt _ (by omega))
    rw [e1] at h1
    rw [h1]
    exact ⟨tile_le, fun h => by omega⟩
  · rw [hall.2.2 k (by omega)]
    exact ⟨by omega, fun _ => rfl⟩
theorem isB64_mosT {n : Nat} {X O : List Nat} (h2 : 2 ≤ n) (h8 : n ≤ 8) : isB64 (mosT n (tile n X O)) := by
  have h := mosT_okM (X := X) (O := O) h2 h8
  have hl : (mosT n (tile n X O)).length = 64 := by simp [mosT]
  refine ⟨hl, fun i => ?_⟩
  by_cases hi : i < 64
  · have := (h.2 i hi).1; omega
  · rw [List.getD_eq_getElem?_getD, List.getElem?_eq_none (by omega)]; decide
/-- The mosaic of a grid is closed. -/
theorem mosT_clos {n : Nat} {X O : List Nat} (g : okG (n : Int) X O) : closS n (mosT n (tile n X O)) := by
  have h8 : n ≤ 8 := by have := g.1; omega
  have hall := mosT_all (n := n) (f := tile n X O) h8
  have ht : ∀ a b, a < n → b < n → tl n (mosT n (tile n X O)) (a : Int) (b : Int) = tile n X O a b := fun a b ha hb => by rw [tl_at ha hb, hall.2.1 a b ha hb]
  obtain ⟨-, pX, pO, -⟩ := id g
  rw [Int.toNat_natCast] at pX pO
  intro r i s hr hi hs k
  rw [ht r i hr hi] at k
  obtain ⟨e0, e1, e2, e3⟩ := end_tile g hr hi
  have x1 := pX.1 i hi
  have o1 := pO.1 i hi
  have x2 := (pX.posF_spec hr).1
  have o2 := (pO.posF_spec hr).1
  obtain rfl | rfl | rfl | rfl : s = 0 ∨ s = 1 ∨ s = 2 ∨ s = 3 := by omega
  · rw [e0, decide_eq_true_iff] at k
    have hr' : r + 1 < n := by omega
    show endS (tl n _ ((r : Int) + 1) ((i : Int) + 0)) 2 = true
    rw [show (r : Int) + 1 = ((r + 1 : Nat) : Int) by omega, Int.add_zero, ht (r + 1) i hr' hi, (end_tile g hr' hi).2.2.1, decide_eq_true_iff]
    omega
  · rw [e1, decide_eq_true_iff] at k
    have hi' : i + 1 < n := by omega
    show endS (tl n _ ((r : Int) + 0) ((i : Int) + 1)) 3 = true
    rw [show (i : Int) + 1 = ((i + 1 : Nat) : Int) by omega, Int.add_zero, ht r (i + 1) hr hi', (end_tile g hr hi').2.2.2, decide_eq_true_iff]
    omega
  · rw [e2, decide_eq_true_iff] at k
    have hr' : r - 1 < n := by omega
    show endS (tl n _ ((r : Int) + -1) ((i : Int) + 0)) 0 = true
    rw [show (r : Int) + -1 = ((r - 1 : Nat) : Int) by omega, Int.add_zero, ht (r - 1) i hr' hi, (end_tile g hr' hi).1, decide_eq_true_iff]
    omega
  · rw [e3, decide_eq_true_iff] at k
    have hi' : i - 1 < n := by omega
    show endS (tl n _ ((r : Int) + 0) ((i : Int) + -1)) 1 = true
    rw [show (i : Int) + -1 = ((i - 1 : Nat) : Int) by omega, Int.add_zero, ht r (i - 1) hr hi', (end_tile g hr hi').2.1, decide_eq_true_iff]
    omega
/-! Counts of tiles. -/
/-- How many of the first k tiles are v. -/
def cntT (T : List Nat) (v : Nat) : Nat → Nat
  | 0 => 0
  | k + 1 => cntT T v k + if T.getD k 0 = v then 1 else 0
theorem cntT_sm (T : List Nat) (v : Nat) : ∀ k, (cntT T v k : Int) = sm (fun j => ind (T.getD j 0 = v)) k
  | 0 => rfl
  | k + 1 => by
    rw [cntT, sm, ← cntT_sm T v k, Int.natCast_add]
    unfold ind
    split <;> rfl
theorem cntT_le (T : List Nat) (v : Nat) : ∀ k, cntT T v k ≤ k
  | 0 => Nat.le_refl _
  | k + 1 => by
    have := cntT_le T v k
    unfold cntT
    split <;> omega
def cnt8 (T : List Nat) (k : Nat) : List Nat := (List.range 8).map fun v => cntT T v k
theorem cnt8_len (T : List Nat) (k : Nat) : (cnt8 T k).length = 8 := rfl
theorem cnt8_get (T : List Nat) (k : Nat) {v : Nat} (h : v < 8) : (cnt8 T k).getD v 0 = cntT T v k := by
  unfold cnt8
  rw [List.getD_eq_getElem?_getD, List.getElem?_map, List.getElem?_range h]
  rfl
theorem cnt8_next {T : List Nat} {k : Nat} (h : T.getD k 0 < 8) : (cnt8 T k).set (T.getD k 0) (cntT T (T.getD k 0) k + 1) = cnt8 T (k + 1) := by
  refine List.ext_getElem? fun v => ?_
  unfold cnt8
  rw [List.getElem?_set, List.length_map, List.length_range, List.getElem?_map, List.getElem?_map]
  by_cases e : T.getD k 0 = v
  · rw [if_pos e, if_pos h]
    rw [e] at h ⊢
    rw [List.getElem?_range h, Option.map_some, cntT, if_pos e]
  · rw [if_neg e]
    by_cases hv : v < 8
    · rw [List.getElem?_range hv, Option.map_some, Option.map_some, cntT, if_neg e, Nat.add_zero]
    · rw [List.getElem?_eq_none (by rw [List.length_range]; omega)]; rfl
theorem cnt8_sum {T : List Nat} : ∀ {k : Nat}, (∀ j, j < k → T.getD j 0 < 8) → (cnt8 T k).sum = k
  | 0, _ => rfl
  | k + 1, h => by
    have ih := cnt8_sum (T := T) (k := k) fun j hj => h j (by omega)
    have hk := h k (Nat.lt_succ_self k)
    have e : ∀ m, (cnt8 T m).sum = cntT T 0 m + cntT T 1 m + cntT T 2 m + cntT T 3 m + cntT T 4 m + cntT T 5 m + cntT T 6 m + cntT T 7 m := fun m => by
      show [cntT T 0 m, cntT T 1 m, cntT T 2 m, cntT T 3 m, cntT T 4 m, cntT T 5 m, cntT T 6 m, cntT T 7 m].sum = _
      simp only [List.sum_cons, List.sum_nil]
      omega
    rw [e] at ih ⊢
    simp only [cntT]
    generalize T.getD k 0 = t at hk
    obtain rfl | rfl | rfl | rfl | rfl | rfl | rfl | rfl : t = 0 ∨ t = 1 ∨ t = 2 ∨ t = 3 ∨ t = 4 ∨ t = 5 ∨ t = 6 ∨ t = 7 := by omega
    all_goals
      simp
      omega
theorem sm_app (f : Nat → Int) (a : Nat) : ∀ b, sm f (a + b) = sm f a + sm (fun i => f (a + i)) b
  | 0 => by rw [Nat.add_zero, sm, Int.add_zero]
  | b + 1 => by rw [← Nat.add_assoc, sm, sm, sm_app f a b, Int.add_assoc]
theorem sm_sq (f : Nat → Int) (n : Nat) : ∀ m, sm f (n * m) = sm (fun r => sm (fun i => f (n * r + i)) n) m
  | 0 => rfl
  | m + 1 => by rw [Nat.mul_succ, sm_app, sm_sq f n m, sm]
theorem crR_ind (n : Nat) (X O : List Nat) (i : Nat) : ∀ r, ((crR n X O i r).length : Int) = sm (fun r => ind (sgN n X O i r ≠ 0)) r
  | 0 => rfl
  | r + 1 => by
    rw [crR, sm, ← crR_ind n X O i r]
    by_cases h : sgN n X O i r = 0
    · rw [if_pos h, ind_no (fun k => k h), Int.add_zero]
    · rw [if_neg h, ind_yes h, List.length_append, Int.natCast_add]
      rfl
theorem crA_ind (n : Nat) (X O : List Nat) : ∀ i, ((crA n X O i).length : Int) = sm (fun i => sm (fun r => ind (sgN n X O i r ≠ 0)) n) i
  | 0 => rfl
  | i + 1 => by rw [crA, sm, ← crA_ind n X O i, List.length_append, Int.natCast_add, crR_ind]
theorem tile_7 {n : Nat} {X O : List Nat} (g : okG (n : Int) X O) {r i : Nat} (hr : r < n) (hi : i < n) : tile n X O r i = 7 ↔ sgN n X O i r ≠ 0 := by
  have hs : sgN n X O i r ≠ 0 ↔ btw r (X.getD i 0) (O.getD i 0) ∧ btw i (posF X n r) (posF O n r) := by
    constructor
    · intro h
      exact Classical.byContradiction fun k => h (sg4_no k)
    · intro h
      unfold sgN
      rw [sg4_yes h.1 h.2 rfl]
      split <;> decide
  rw [hs]
  unfold tile
  by_cases h1 : r = X.getD i 0
  · rw [if_pos h1]
    have : kdX n X O i r ≤ 3 := kindS_le
    refine ⟨fun k => by omega, fun k => ?_⟩
    unfold btw at k; omega
  · rw [if_neg h1]
    by_cases h2 : r = O.getD i 0
    · rw [if_pos h2]
      have : kdO n X O i r ≤ 3 := kindS_le
      refine ⟨fun k => by omega, fun k => ?_⟩
      unfold btw at k; omega
    · rw [if_neg h2]
      unfold tileB
      by_cases h3 : btw r (X.getD i 0) (O.getD i 0) ∧ btw i (posF X n r) (posF O n r)
      · rw [if_pos h3]; exact ⟨fun _ => h3, fun _ => rfl⟩
      · rw [if_neg h3]
        refine ⟨fun k => ?_, fun k => absurd k h3⟩
        exfalso
        revert k
        split
        · omega
        · split <;> omega
/-- As many crossing tiles as crossings. -/
theorem cross_tiles {n : Nat} {X O : List Nat} (g : okG (n : Int) X O) : cntT (mosT n (tile n X O)) 7 (n * n) = (crA n X O n).length := by
  have hall := mosT_all (n := n) (f := tile n X O) (by have := g.1; omega)
  have h : (cntT (mosT n (tile n X O)) 7 (n * n) : Int) = ((crA n X O n).length : Int) := by
    rw [cntT_sm, crA_ind, sm_sq, sm_comm]
    refine sm_congr fun i hi => sm_congr fun r hr => ?_
    rw [hall.2.1 r i hr hi]
    exact ind_iff (tile_7 g hr hi)
  omega
end Go.Proofs.Ythijakignhjmgaa
