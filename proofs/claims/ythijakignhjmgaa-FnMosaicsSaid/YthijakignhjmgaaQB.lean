/- Plain laws: the grid that the walk makes of the mosaic of a grid: some components turned about; the same mosaic, a text that is not greater. -/
import Derived.Test.YthijakignhjmgaaNE
import Derived.Test.YthijakignhjmgaaQA
namespace Go.Proofs.Ythijakignhjmgaa
/-- The mark of a column: its X, or its O. -/
def mkT (X O : List Nat) (t : Bool) (j : Nat) : Nat := if t = true then O.getD j 0 else X.getD j 0
section
variable {n : Nat} {X O : List Nat} {a b p q : Nat → Nat}
theorem mos_cr (g : okG (n : Int) X O) {r i : Nat} (hr : r < n) (hi : i < n) : crT n (mosT n (tile n X O)) r i = true ↔ r = X.getD i 0 ∨ r = O.getD i 0 := by
  have hall := mosT_all (n := n) (f := tile n X O) (by have := g.1; omega)
  unfold crT
  rw [decide_eq_true_iff, hall.2.1 r i hr hi]
  exact tile_cor
theorem pos_ne (g : okG (n : Int) X O) {r : Nat} (hr : r < n) : posF X n r < n ∧ posF O n r < n ∧ X.getD (posF X n r) 0 = r ∧ O.getD (posF O n r) 0 = r ∧ posF X n r ≠ posF O n r := by
  obtain ⟨-, pX, pO, gne⟩ := g
  rw [Int.toNat_natCast] at pX pO gne
  obtain ⟨h1, h2⟩ := pX.posF_spec hr
  obtain ⟨h3, h4⟩ := pO.posF_spec hr
  exact ⟨h1, h3, h2, h4, fun e => gne _ h1 (by rw [h2, e, h4])⟩
theorem col_marks (g : okG (n : Int) X O) (two : Two n (crT n (mosT n (tile n X O))) a b p q) {i : Nat} (hi : i < n) : a i + b i = X.getD i 0 + O.getD i 0 ∧ (a i = X.getD i 0 ∨ a i = O.getD i 0) := by
  obtain ⟨-, pX, pO, gne⟩ := id g
  rw [Int.toNat_natCast] at pX pO gne
  have h1 := two.ab i hi
  have h2 := gne i hi
  have x1 := pX.1 i hi
  have o1 := pO.1 i hi
  have h3 := (two.col i _ hi x1).1 ((mos_cr g x1 hi).2 (.inl rfl))
  have h4 := (two.col i _ hi o1).1 ((mos_cr g o1 hi).2 (.inr rfl))
  omega
theorem row_marks (g : okG (n : Int) X O) (two : Two n (crT n (mosT n (tile n X O))) a b p q) {r : Nat} (hr : r < n) : p r + q r = posF X n r + posF O n r := by
  obtain ⟨h1, h2, h3, h4, h5⟩ := pos_ne g hr
  have k1 := (two.row r _ hr h1).1 ((mos_cr g hr h1).2 (.inl h3.symm))
  have k2 := (two.row r _ hr h2).1 ((mos_cr g hr h2).2 (.inr h4.symm))
  have := two.pq r hr
  omega
theorem setB_getF {D : List Bool} {i k : Nat} (h : i < D.length) : (D.set i true).getD k false = false ↔ D.getD k false = false ∧ k ≠ i := by
  have := setB_getD (D := D) (i := i) (k := k) h
  cases hd : (D.set i true).getD k false with
  | true =>
    refine ⟨fun e => absurd e (by decide), fun ⟨e1, e2⟩ => ?_⟩
    rcases this.1 hd with k1 | k1
    · rw [e1] at k1; cases k1
    · exact absurd k1 e2
  | false =>
    refine ⟨fun _ => ⟨?_, fun e => ?_⟩, fun _ => rfl⟩
    · rw [Bool.eq_false_iff]
      intro e
      rw [this.2 (.inl e)] at hd
      cases hd
    · rw [this.2 (.inr e)] at hd
      cases hd
theorem walk_flip (g : okG (n : Int) X O) (two : Two n (crT n (mosT n (tile n X O))) a b p q) (t : Bool) : ∀ (f i r : Nat) (X1 O1 : List Nat) (D1 : List Bool) (X2 O2 : List Nat) (D2 : List Bool), i < n → r = mkT X O t i → X1.length = 8 → O1.length = 8 → D1.length = 8 → walkI a b p q f i r (X1, O1, D1) = (X2, O2, D2) →
    X2.length = 8 ∧ O2.length = 8 ∧ D2.length = 8 ∧ (∀ j, D1.getD j false = true → D2.getD j false = true ∧ X2.getD j 0 = X1.getD j 0 ∧ O2.getD j 0 = O1.getD j 0) ∧
    (∀ j, D1.getD j false = false → D2.getD j false = true → j < n ∧ X2.getD j 0 = mkT X O t j ∧ O2.getD j 0 = mkT X O (!t) j) ∧ (∀ j, D2.getD j false = false → X2.getD j 0 = X1.getD j 0 ∧ O2.getD j 0 = O1.getD j 0)
  | 0, i, r, X1, O1, D1, X2, O2, D2, _, _, lX, lO, lD, h => by
    rw [walkI] at h
    injection h with h1 h2
    injection h2 with h2 h3
    subst h1 h2 h3
    exact ⟨lX, lO, lD, fun j e => ⟨e, rfl, rfl⟩, fun j e1 e2 => (by rw [e1] at e2; cases e2), fun j _ => ⟨rfl, rfl⟩⟩
  | f + 1, i, r, X1, O1, D1, X2, O2, D2, hi, hr, lX, lO, lD, h => by
    have h8 : n ≤ 8 := by have := g.1; omega
    rw [walkI] at h
    by_cases hd : D1.getD i false = true
    · rw [if_pos hd] at h
      injection h with h1 h2
      injection h2 with h2 h3
      subst h1 h2 h3
      exact ⟨lX, lO, lD, fun j e => ⟨e, rfl, rfl⟩, fun j e1 e2 => (by rw [e1] at e2; cases e2), fun j _ => ⟨rfl, rfl⟩⟩
    · rw [if_neg hd] at h
      have hcm := col_marks g two hi
      obtain ⟨-, pX, pO, gne⟩ := id g
      rw [Int.toNat_natCast] at pX pO gne
      have x1 := pX.1 i hi
      have o1 := pO.1 i hi
      have ho : a i + b i - r = mkT X O (!t) i := by
        rw [hr]
        cases t
        · show a i + b i - X.getD i 0 = O.getD i 0
          omega
        · show a i + b i - O.getD i 0 = X.getD i 0
          omega
      have hol : a i + b i - r < n := by
        rw [ho]
        cases t
        · exact o1
        · exact x1
      have hrm := row_marks g two hol
      obtain ⟨k1, k2, k3, k4, k5⟩ := pos_ne g hol
      have hj : p (a i + b i - r) + q (a i + b i - r) - i < n ∧ a i + b i - r = mkT X O t (p (a i + b i - r) + q (a i + b i - r) - i) := by
        rw [hrm]
        cases t with
        | false =>
          have e1 : posF O n (a i + b i - r) = i := by rw [ho]; exact pO.posF_eq hi
          rw [e1, Nat.add_sub_cancel]
          exact ⟨k1, k3.symm⟩
        | true =>
          have e1 : posF X n (a i + b i - r) = i := by rw [ho]; exact pX.posF_eq hi
          rw [e1, Nat.add_sub_cancel_left]
          exact ⟨k2, k4.symm⟩
      obtain ⟨q1, q2, q3, q4, q5, q6⟩ := walk_flip g two t f _ _ _ _ _ X2 O2 D2 hj.1 hj.2 (by rw [List.length_set]; exact lX) (by rw [List.length_set]; exact lO) (by rw [List.length_set]; exact lD) h
      have sX : ∀ j, (X1.set i r).getD j 0 = if j = i then r else X1.getD j 0 := fun j => set_getD (by rw [lX]; omega)
      have sO : ∀ j, (O1.set i (a i + b i - r)).getD j 0 = if j = i then a i + b i - r else O1.getD j 0 := fun j => set_getD (by rw [lO]; omega)
      have sD : ∀ j, (D1.set i true).getD j false = true ↔ D1.getD j false = true ∨ j = i := fun j => setB_getD (by rw [lD]; omega)
      refine ⟨q1, q2, q3, fun j e => ?_, fun j e1 e2 => ?_, fun j e => ?_⟩
      · have hne : j ≠ i := fun k => hd (k ▸ e)
        obtain ⟨m1, m2, m3⟩ := q4 j ((sD j).2 (.inl e))
        rw [sX, if_neg hne] at m2
        rw [sO, if_neg hne] at m3
        exact ⟨m1, m2, m3⟩
      · by_cases hne : j = i
        · subst hne
          obtain ⟨m1, m2, m3⟩ := q4 j ((sD j).2 (.inr rfl))
          rw [sX, if_pos rfl] at m2
          rw [sO, if_pos rfl] at m3
          exact ⟨hi, m2.trans hr, m3.trans ho⟩
        · exact q5 j ((setB_getF (by rw [lD]; omega)).2 ⟨e1, hne⟩) e2
      · have hne : j ≠ i := fun k => by
          subst k
          rw [(q4 j ((sD j).2 (.inr rfl))).1] at e
          cases e
        obtain ⟨m2, m3⟩ := q6 j e
        rw [sX, if_neg hne] at m2
        rw [sO, if_neg hne] at m3
        exact ⟨m2, m3⟩
/-- Which components the walk has turned about. -/
structure Flip (n : Nat) (X O : List Nat) (k : Nat) (s : Nat → Bool) (S : WS) : Prop where
  lX : S.1.length = 8
  lO : S.2.1.length = 8
  lD : S.2.2.length = 8
  don : ∀ j, S.2.2.getD j false = true → j < n ∧ S.1.getD j 0 = mkT X O (s j) j ∧ S.2.1.getD j 0 = mkT X O (!(s j)) j
  und : ∀ j, S.2.2.getD j false = false → S.1.getD j 0 = 0 ∧ S.2.1.getD j 0 = 0
  all : ∀ j, j < k → S.2.2.getD j false = true
  rows : ∀ r, r < n → S.2.2.getD (posF X n r) false = true → s (posF X n r) = s (posF O n r)
  low : ∀ j, S.2.2.getD j false = true → s j = true → ∃ i, i ≤ j ∧ S.2.2.getD i false = true ∧ s i = true ∧ O.getD i 0 < X.getD i 0
theorem Z8_getD (j : Nat) : Z8.getD j 0 = 0 := by
  rw [List.getD_eq_getElem?_getD, List.getElem?_replicate]; split <;> rfl
theorem F8_getD (j : Nat) : F8.getD j false = false := by
  rw [List.getD_eq_getElem?_getD, List.getElem?_replicate]; split <;> rfl
theorem flip_grid (g : okG (n : Int) X O) (two : Two n (crT n (mosT n (tile n X O))) a b p q) : ∀ k, k ≤ n → ∃ s, Flip n X O k s (gridI n a b p q (Z8, Z8, F8) k)
  | 0, _ => by
    refine ⟨fun _ => false, rfl, rfl, rfl, fun j e => ?_, fun j _ => ⟨Z8_getD j, Z8_getD j⟩, fun j e => absurd e (Nat.not_lt_zero _), fun _ _ _ => rfl, fun j _ e => by cases e⟩
    have e' : F8.getD j false = true := e
    rw [F8_getD] at e'; cases e'
  | k + 1, hk => by
    have h8 : n ≤ 8 := by have := g.1; omega
    obtain ⟨s, hs⟩ := flip_grid g two k (by omega)
    have sh := (two.grid h8 (s0 := (Z8, Z8, F8)) rfl F8_getD k (by omega)).2.1
    have hcm := col_marks g two (show k < n by omega)
    have hab := two.ab k (by omega)
    rw [gridI]
    generalize gridI n a b p q (Z8, Z8, F8) k = S at hs sh
    obtain ⟨X1, O1, D1⟩ := S
    obtain ⟨h1, h2, h3, h4, h5, h6, h7, h9⟩ := hs
    dsimp only at h1 h2 h3 h4 h5 h6 h7 h9 sh
    obtain ⟨t, ht⟩ : ∃ t, t = decide (a k = O.getD k 0) := ⟨_, rfl⟩
    have hak : a k = mkT X O t k := by
      unfold mkT
      by_cases e : a k = O.getD k 0
      · rw [ht, decide_eq_true e, if_pos rfl]; exact e
      · rw [ht, decide_eq_false e, if_neg (by decide)]; omega
    cases hw : walkI a b p q (n + 1) k (a k) (X1, O1, D1) with
    | mk X2 S2 =>
    obtain ⟨O2, D2⟩ := S2
    obtain ⟨q1, q2, q3, q4, q5, q6⟩ := walk_flip g two t (n + 1) k (a k) X1 O1 D1 X2 O2 D2 (by omega) hak h1 h2 h3 hw
    have hdk : D2.getD k false = true := by
      by_cases hd : D1.getD k false = true
      · exact (q4 k hd).1
      · rw [walkI, if_neg hd] at hw
        have hcc := two.oc (i := k) (r := a k) (by omega) (by omega) ((two.col k (a k) (by omega) (by omega)).2 (.inl rfl))
        have hxx := two.xr (i := k) (by omega) hcc.1 hcc.2.2.1
        exact ((walk_mono n _ _ _ _ _ _ _ _ hw) k ((setB_getD (by rw [h3]; omega)).2 (.inr rfl)))
    have hsame : D1.getD k false = true → D2 = D1 := fun hd => by
      rw [walkI, if_pos hd] at hw
      injection hw with _ e2
      injection e2 with _ e3
      exact e3.symm
    refine ⟨fun j => if D1.getD j false = true then s j else t, q1, q2, q3, fun j e => ?_, fun j e => ?_, fun j hj => ?_, fun r hr e => ?_, fun j e e2 => ?_⟩
    · dsimp only at e ⊢
      by_cases hd : D1.getD j false = true
      · rw [if_pos hd]
        obtain ⟨_, m2, m3⟩ := q4 j hd
        obtain ⟨u1, u2, u3⟩ := h4 j hd
        exact ⟨u1, m2.trans u2, m3.trans u3⟩
      · rw [if_neg hd]
        exact q5 j (Bool.eq_false_iff.2 hd) e
    · dsimp only at e ⊢
      have hd : D1.getD j false = false := by
        rw [Bool.eq_false_iff]
        intro hd
        rw [(q4 j hd).1] at e; cases e
      obtain ⟨m2, m3⟩ := q6 j e
      obtain ⟨u2, u3⟩ := h5 j hd
      exact ⟨m2.trans u2, m3.trans u3⟩
    · by_cases e : j = k
      · subst e; exact hdk
      · exact (q4 j (h6 j (by omega))).1
    · dsimp only at e ⊢
      obtain ⟨k1, k2, k3, k4, k5⟩ := pos_ne g hr
      have c1 := (mos_cr g hr k1).2 (.inl k3.symm)
      have c2 := (mos_cr g hr k2).2 (.inr k4.symm)
      by_cases hd : D1.getD (posF X n r) false = true
      · rw [if_pos hd, if_pos (sh r _ _ hr k1 k2 c1 c2 hd)]
        exact h7 r hr hd
      · rw [if_neg hd, if_neg fun hd2 => hd (sh r _ _ hr k2 k1 c2 c1 hd2)]
    · dsimp only at e e2 ⊢
      by_cases hd : D1.getD j false = true
      · rw [if_pos hd] at e2
        obtain ⟨i, m1, m2, m3, m4⟩ := h9 j hd e2
        exact ⟨i, m1, (q4 i m2).1, by rw [if_pos m2]; exact m3, m4⟩
      · rw [if_neg hd] at e2
        have hkd : ¬ D1.getD k false = true := fun e3 => hd (hsame e3 ▸ e)
        have hO : a k = O.getD k 0 := by
          rw [e2] at ht
          exact of_decide_eq_true ht.symm
        refine ⟨k, ?_, hdk, by rw [if_neg hkd]; exact e2, by omega⟩
        exact Classical.byContradiction fun hlt => hd (h6 j (by omega))
where walk_mono : ∀ (f i r : Nat) (X1 O1 : List Nat) (D1 : List Bool) (X2 O2 : List Nat) (D2 : List Bool), walkI a b p q f i r (X1, O1, D1) = (X2, O2, D2) → ∀ j, D1.getD j false = true → D2.getD j false = true
  | 0, i, r, X1, O1, D1, X2, O2, D2, h, j, hj => by
    rw [walkI] at h
    injection h with _ h
    injection h with _ h
    exact h ▸ hj
  | f + 1, i, r, X1, O1, D1, X2, O2, D2, h, j, hj => by
    rw [walkI] at h
    by_cases hd : D1.getD i false = true
    · rw [if_pos hd] at h
      injection h with _ h
      injection h with _ h
      exact h ▸ hj
    · rw [if_neg hd] at h
      refine walk_mono f _ _ _ _ _ _ _ _ h j ?_
      by_cases hl : i < D1.length
      · exact (setB_getD hl).2 (.inl hj)
      · rw [List.set_eq_of_length_le (by omega)]; exact hj
end
/-- What the walk over the mosaic of a grid leaves. -/
theorem back_grid {n : Nat} {X O : List Nat} (g : okG (n : Int) X O) : ∃ (X' O' : List Nat) (D' : List Bool) (s : Nat → Bool), gridS n (crT n (mosT n (tile n X O))) (Z8, Z8, F8) n = some (X', O', D') ∧ X'.length = 8 ∧ O'.length = 8 ∧
    (∀ j, j < n → X'.getD j 0 = mkT X O (s j) j ∧ O'.getD j 0 = mkT X O (!(s j)) j) ∧ (∀ j, n ≤ j → X'.getD j 0 = 0 ∧ O'.getD j 0 = 0) ∧ (∀ r, r < n → s (posF X n r) = s (posF O n r)) ∧ (∀ j, j < n → s j = true → ∃ i, i ≤ j ∧ s i = true ∧ O.getD i 0 < X.getD i 0) := by
  have h8 : n ≤ 8 := by have := g.1; omega
  have h2c := mos_two g
  have two := two_of h2c
  obtain ⟨s, hs⟩ := flip_grid g two n (Nat.le_refl _)
  rw [endG_ok h8 h2c]
  cases hS : gridI n (aC (crT n (mosT n (tile n X O))) n) (bC (crT n (mosT n (tile n X O))) n) (pR (crT n (mosT n (tile n X O))) n) (qR (crT n (mosT n (tile n X O))) n) (Z8, Z8, F8) n with
  | mk X' S =>
  obtain ⟨O', D'⟩ := S
  rw [hS] at hs
  obtain ⟨h1, h2, h3, h4, h5, h6, h7, h9⟩ := hs
  dsimp only at *
  refine ⟨X', O', D', s, rfl, h1, h2, fun j hj => (h4 j (h6 j hj)).2, fun j hj => h5 j ?_, fun r hr => h7 r hr (h6 _ (pos_ne g hr).1), fun j hj e => ?_⟩
  · rw [Bool.eq_false_iff]
    intro e
    have := (h4 j e).1
    omega
  · obtain ⟨i, m1, _, m3, m4⟩ := h9 j (h6 j hj) e
    exact ⟨i, m1, m3, m4⟩
section
variable {n : Nat} {X O X' O' : List Nat} {s : Nat → Bool}
theorem flip_perm (g : okG (n : Int) X O) (h : ∀ j, j < n → X'.getD j 0 = mkT X O (s j) j) (hz : ∀ j, n ≤ j → X'.getD j 0 = 0) (hs : ∀ r, r < n → s (posF X n r) = s (posF O n r)) : isPerm X' n := by
  obtain ⟨-, pX, pO, gne⟩ := id g
  rw [Int.toNat_natCast] at pX pO gne
  have hlt : ∀ j, j < n → X'.getD j 0 < n := fun j hj => by
    rw [h j hj]
    unfold mkT
    split
    · exact pO.1 j hj
    · exact pX.1 j hj
  have key : ∀ j, j < n → (s j = false → j = posF X n (X'.getD j 0)) ∧ (s j = true → j = posF O n (X'.getD j 0)) := fun j hj => by
    rw [h j hj]
    unfold mkT
    refine ⟨fun e => ?_, fun e => ?_⟩
    · rw [e, if_neg (by decide)]; exact (pX.posF_eq hj).symm
    · rw [e, if_pos rfl]; exact (pO.posF_eq hj).symm
  refine ⟨hlt, fun j k hj hk e => ?_, hz⟩
  have hr := hs _ (hlt j hj)
  obtain ⟨j1, j2⟩ := key j hj
  obtain ⟨k1, k2⟩ := key k hk
  rw [← e] at k1 k2
  cases ej : s j <;> cases ek : s k
  · rw [j1 ej, k1 ek]
  · rw [← j1 ej, ← k2 ek, ej, ek] at hr; cases hr
  · rw [← k1 ek, ← j2 ej, ej, ek] at hr; cases hr
  · rw [j2 ej, k2 ek]
theorem mkT_not (s : Bool) (j : Nat) : mkT X O (!s) j = mkT O X s j := by
  unfold mkT; cases s <;> rfl
theorem okG_swap (g : okG (n : Int) X O) : okG (n : Int) O X := ⟨g.1, g.2.2.1, g.2.1, fun i hi e => g.2.2.2 i hi e.symm⟩
theorem flip_ok (g : okG (n : Int) X O) (h : ∀ j, j < n → X'.getD j 0 = mkT X O (s j) j ∧ O'.getD j 0 = mkT X O (!(s j)) j) (hz : ∀ j, n ≤ j → X'.getD j 0 = 0 ∧ O'.getD j 0 = 0) (hs : ∀ r, r < n → s (posF X n r) = s (posF O n r)) : okG (n : Int) X' O' := by
  refine ⟨g.1, flip_perm g (fun j hj => (h j hj).1) (fun j hj => (hz j hj).1) hs, flip_perm (okG_swap g) (s := s) (fun j hj => by rw [(h j hj).2, mkT_not]) (fun j hj => (hz j hj).2) (fun r hr => (hs r hr).symm), fun i hi => ?_⟩
  have hi' : i < n := hi
  obtain ⟨-, -, -, gne⟩ := g
  have := gne i hi
  rw [(h i hi').1, (h i hi').2]
  unfold mkT
  cases s i
  · simpa using this
  · simpa using fun e => this e.symm
theorem flip_pos (g : okG (n : Int) X O) (h : ∀ j, j < n → X'.getD j 0 = mkT X O (s j) j) (pX' : isPerm X' n) (hs : ∀ r, r < n → s (posF X n r) = s (posF O n r)) {r : Nat} (hr : r < n) : posF X' n r = if s (posF X n r) = true then posF O n r else posF X n r := by
  obtain ⟨k1, k2, k3, k4, k5⟩ := pos_ne g hr
  have hsr := hs r hr
  by_cases e : s (posF X n r) = true
  · rw [if_pos e]
    have e2 := h _ k2
    rw [← hsr, e, mkT, if_pos rfl, k4] at e2
    have := pX'.posF_eq k2
    rwa [e2] at this
  · rw [if_neg e]
    have e2 := h _ k1
    rw [mkT, if_neg e, k3] at e2
    have := pX'.posF_eq k1
    rwa [e2] at this
theorem btw_swap {x a b : Nat} : btw x a b ↔ btw x b a := by unfold btw; omega
theorem tileB_iff {p q p' q' : Prop} [Decidable p] [Decidable q] [Decidable p'] [Decidable q'] (h1 : p ↔ p') (h2 : q ↔ q') : tileB p q = tileB p' q' := by
  unfold tileB
  simp only [h1, h2]
/-- Turned about, a component has the same tiles. -/
theorem flip_tile (g : okG (n : Int) X O) (h : ∀ j, j < n → X'.getD j 0 = mkT X O (s j) j ∧ O'.getD j 0 = mkT X O (!(s j)) j) (hz : ∀ j, n ≤ j → X'.getD j 0 = 0 ∧ O'.getD j 0 = 0) (hs : ∀ r, r < n → s (posF X n r) = s (posF O n r)) {r i : Nat} (hr : r < n) (hi : i < n) : tile n X' O' r i = tile n X O r i := by
  have g' := flip_ok g h hz hs
  obtain ⟨-, pX, pO, gne⟩ := id g
  rw [Int.toNat_natCast] at pX pO gne
  obtain ⟨-, pX', pO', -⟩ := id g'
  rw [Int.toNat_natCast] at pX' pO'
  have hx := flip_pos g (fun j hj => (h j hj).1) pX' hs hr
  have ho := flip_pos (okG_swap g) (s := s) (fun j hj => by rw [(h j hj).2, mkT_not]) pO' (fun r hr => (hs r hr).symm) hr
  obtain ⟨e1, e2⟩ := h i hi
  have hn := gne i hi
  have hsr := hs r hr
  have key : r = X.getD i 0 ∨ r = O.getD i 0 → s (posF X n r) = s i := by
    rintro (e | e)
    · rw [e, pX.posF_eq hi]
    · rw [hsr, e, pO.posF_eq hi]
  rw [← hsr] at ho
  unfold tile kdX kdO
  rw [hx, ho, e1, e2]
  unfold mkT
  by_cases hX : r = X.getD i 0
  · have k := key (.inl hX)
    rw [k]
    cases si : s i
    · simp only [Bool.false_eq_true, if_false, Bool.not_false, if_true]
    · simp only [if_true, Bool.not_true, Bool.false_eq_true, if_false]
      rw [if_neg (by omega), if_pos hX, if_pos hX]
  · by_cases hO : r = O.getD i 0
    · have k := key (.inr hO)
      rw [k]
      cases si : s i
      · simp only [Bool.false_eq_true, if_false, Bool.not_false, if_true]
      · simp only [if_true, Bool.not_true, Bool.false_eq_true, if_false]
        rw [if_pos hO, if_neg hX, if_pos hO]
    · have hXO : ∀ t : Bool, r ≠ (if t = true then O.getD i 0 else X.getD i 0) := fun t => by split <;> assumption
      rw [if_neg (hXO _), if_neg (hXO _), if_neg hX, if_neg hO]
      refine tileB_iff ?_ ?_
      · cases s i
        · exact Iff.rfl
        · exact btw_swap
      · cases s (posF X n r)
        · exact Iff.rfl
        · exact btw_swap
theorem flip_mos (g : okG (n : Int) X O) (h : ∀ j, j < n → X'.getD j 0 = mkT X O (s j) j ∧ O'.getD j 0 = mkT X O (!(s j)) j) (hz : ∀ j, n ≤ j → X'.getD j 0 = 0 ∧ O'.getD j 0 = 0) (hs : ∀ r, r < n → s (posF X n r) = s (posF O n r)) : mosT n (tile n X' O') = mosT n (tile n X O) := by
  have h2 := g.1
  refine mosAll_unique (by omega) (mosAll_congr (mosT_all (by omega)) fun r i hr hi => flip_tile g h hz hs hr hi) (mosT_all (by omega))
end
end Go.Proofs.Ythijakignhjmgaa
