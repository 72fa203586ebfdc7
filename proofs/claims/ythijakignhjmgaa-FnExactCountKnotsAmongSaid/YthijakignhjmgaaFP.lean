/- Plain laws: grids laid column by column. -/
import Derived.Test.YthijakignhjmgaaGB
namespace Go.Proofs.Ythijakignhjmgaa
/-- The first columns of a grid are laid: their rows are told by the lists of bits. -/
structure PreG (n col : Nat) (X O : List Nat) (xs os : List Bool) : Prop where
  bX : isB X
  bO : isB O
  lx : xs.length = 8
  lo : os.length = 8
  lt : ∀ i, i < col → X.getD i 0 < n ∧ O.getD i 0 < n ∧ X.getD i 0 ≠ O.getD i 0
  zer : ∀ i, col ≤ i → X.getD i 0 = 0 ∧ O.getD i 0 = 0
  ix : ∀ i j, i < col → j < col → X.getD i 0 = X.getD j 0 → i = j
  io : ∀ i j, i < col → j < col → O.getD i 0 = O.getD j 0 → i = j
  mx : ∀ r, r < 8 → (xs.getD r false = true ↔ ∃ i, i < col ∧ X.getD i 0 = r)
  mo : ∀ r, r < 8 → (os.getD r false = true ↔ ∃ i, i < col ∧ O.getD i 0 = r)
theorem f8_get (r : Nat) : F8.getD r false = false := by
  rw [List.getD_eq_getElem?_getD, List.getElem?_replicate]
  split <;> rfl
theorem z8_get (r : Nat) : Z8.getD r 0 = 0 := by
  rw [List.getD_eq_getElem?_getD, List.getElem?_replicate]
  split <;> rfl
theorem PreG.start (n : Nat) : PreG n 0 Z8 Z8 F8 F8 :=
  ⟨isB8, isB8, rfl, rfl, fun i h => absurd h (Nat.not_lt_zero _), fun i _ => ⟨z8_get i, z8_get i⟩, fun i j h => absurd h (Nat.not_lt_zero _), fun i j h => absurd h (Nat.not_lt_zero _),
    fun r _ => by rw [f8_get]; exact ⟨fun h => (by cases h), fun ⟨_, h, _⟩ => absurd h (Nat.not_lt_zero _)⟩, fun r _ => by rw [f8_get]; exact ⟨fun h => (by cases h), fun ⟨_, h, _⟩ => absurd h (Nat.not_lt_zero _)⟩⟩
theorem isB_put {X : List Nat} (h : isB X) {j v : Nat} (hv : v < 256) : isB (X.set j v) := ⟨by rw [List.length_set]; exact h.1, fun i => by
  by_cases hj : j < X.length
  · rw [set_getD hj]
    split
    · exact hv
    · exact h.2 i
  · rw [List.set_eq_of_length_le (by omega)]; exact h.2 i⟩
theorem setb_getD {M : List Bool} {k i : Nat} {v : Bool} (hk : k < M.length) : (M.set k v).getD i false = if i = k then v else M.getD i false := by
  by_cases e : i = k
  · subst e; simp [List.getD_eq_getElem?_getD, hk]
  · rw [if_neg e, List.getD_eq_getElem?_getD, List.getElem?_set_ne (fun h => e h.symm), ← List.getD_eq_getElem?_getD]
theorem PreG.step {n col x o : Nat} {X O : List Nat} {xs os : List Bool} (h : PreG n col X O xs os) (h8 : n ≤ 8) (hc : col < n) (hx : x < n) (ho : o < n) (hne : x ≠ o) (fx : xs.getD x false = false) (fo : os.getD o false = false) :
    PreG n (col + 1) (X.set col x) (O.set col o) (xs.set x true) (os.set o true) := by
  have lX := h.bX.1
  have lO := h.bO.1
  have gX : ∀ i, (X.set col x).getD i 0 = if i = col then x else X.getD i 0 := fun i => set_getD (by omega)
  have gO : ∀ i, (O.set col o).getD i 0 = if i = col then o else O.getD i 0 := fun i => set_getD (by omega)
  have nX : ∀ i, i < col → X.getD i 0 ≠ x := fun i hi e => by
    have := (h.mx x (by omega)).2 ⟨i, hi, e⟩
    rw [fx] at this; cases this
  have nO : ∀ i, i < col → O.getD i 0 ≠ o := fun i hi e => by
    have := (h.mo o (by omega)).2 ⟨i, hi, e⟩
    rw [fo] at this; cases this
  refine ⟨isB_put h.bX (by omega), isB_put h.bO (by omega), by rw [List.length_set]; exact h.lx, by rw [List.length_set]; exact h.lo, fun i hi => ?_, fun i hi => ?_, fun i j hi hj e => ?_, fun i j hi hj e => ?_, fun r hr => ?_, fun r hr => ?_⟩
  · rw [gX, gO]
    by_cases e : i = col
    · rw [if_pos e, if_pos e]; exact ⟨hx, ho, hne⟩
    · rw [if_neg e, if_neg e]; exact h.lt i (by omega)
  · rw [gX, gO, if_neg (by omega), if_neg (by omega)]; exact h.zer i (by omega)
  · rw [gX, gX] at e
    by_cases e1 : i = col
    · by_cases e2 : j = col
      · omega
      · rw [if_pos e1, if_neg e2] at e
        exact absurd e.symm (nX j (by omega))
    · by_cases e2 : j = col
      · rw [if_neg e1, if_pos e2] at e
        exact absurd e (nX i (by omega))
      · rw [if_neg e1, if_neg e2] at e
        exact h.ix i j (by omega) (by omega) e
  · rw [gO, gO] at e
    by_cases e1 : i = col
    · by_cases e2 : j = col
      · omega
      · rw [if_pos e1, if_neg e2] at e
        exact absurd e.symm (nO j (by omega))
    · by_cases e2 : j = col
      · rw [if_neg e1, if_pos e2] at e
        exact absurd e (nO i (by omega))
      · rw [if_neg e1, if_neg e2] at e
        exact h.io i j (by omega) (by omega) e
  · have lx := h.lx
    rw [setb_getD (by omega)]
    by_cases e : r = x
    · rw [if_pos e]
      exact ⟨fun _ => ⟨col, by omega, by rw [gX, if_pos rfl, e]⟩, fun _ => rfl⟩
    · rw [if_neg e, h.mx r hr]
      constructor
      · rintro ⟨i, hi, e1⟩
        exact ⟨i, by omega, by rw [gX, if_neg (by omega), e1]⟩
      · rintro ⟨i, hi, e1⟩
        rw [gX] at e1
        by_cases e2 : i = col
        · rw [if_pos e2] at e1; exact absurd e1.symm e
        · rw [if_neg e2] at e1; exact ⟨i, by omega, e1⟩
  · have lo := h.lo
    rw [setb_getD (by omega)]
    by_cases e : r = o
    · rw [if_pos e]
      exact ⟨fun _ => ⟨col, by omega, by rw [gO, if_pos rfl, e]⟩, fun _ => rfl⟩
    · rw [if_neg e, h.mo r hr]
      constructor
      · rintro ⟨i, hi, e1⟩
        exact ⟨i, by omega, by rw [gO, if_neg (by omega), e1]⟩
      · rintro ⟨i, hi, e1⟩
        rw [gO] at e1
        by_cases e2 : i = col
        · rw [if_pos e2] at e1; exact absurd e1.symm e
        · rw [if_neg e2] at e1; exact ⟨i, by omega, e1⟩
theorem PreG.okG {n : Nat} {X O : List Nat} {xs os : List Bool} (h : PreG n n X O xs os) (h2 : 2 ≤ n) (h8 : n ≤ 8) : okG (n : Int) X O :=
  okG_loop h2 h8 ⟨fun j hj => (h.lt j hj).1, h.ix, fun j hj => (h.zer j hj).1⟩ ⟨fun j hj => (h.lt j hj).2.1, h.io, fun j hj => (h.zer j hj).2⟩ fun i hi => (h.lt i hi).2.2
/-- A canonical grid of the size n. -/
def canP (n : Nat) (y : GridB) : Prop := y.1.1 = (n : Int) ∧ okG (n : Int) y.1.2.1 y.1.2.2 ∧ can n y.1.2 = y.1.2
/-- One whose first columns are these. -/
def extP (n col : Nat) (X O : List Nat) (y : GridB) : Prop := canP n y ∧ ∀ i, i < col → y.1.2.1.getD i 0 = X.getD i 0 ∧ y.1.2.2.getD i 0 = O.getD i 0
theorem extP_end {n : Nat} {X O : List Nat} {xs os : List Bool} (h : PreG n n X O xs os) (y : GridB) : extP n n X O y ↔ y = ⟨((n : Int), X, O), h.bX, h.bO⟩ ∧ can n (X, O) = (X, O) ∧ okG (n : Int) X O := by
  constructor
  · rintro ⟨⟨h1, h2, h3⟩, h4⟩
    obtain ⟨⟨m, Y, U⟩, bY, bU⟩ := y
    dsimp only at h1 h2 h3 h4 bY bU
    subst h1
    have pY := h2.2.1
    have pU := h2.2.2.1
    simp only [Int.toNat_natCast] at pY pU
    have e1 : X = Y := list8_ext bY.1 h.bX.1 fun i hi => by
      by_cases hin : i < n
      · exact (h4 i hin).1.symm
      · rw [(h.zer i (by omega)).1, pY.2.2 i (by omega)]
    have e2 : O = U := list8_ext bU.1 h.bO.1 fun i hi => by
      by_cases hin : i < n
      · exact (h4 i hin).2.symm
      · rw [(h.zer i (by omega)).2, pU.2.2 i (by omega)]
    subst e1 e2
    exact ⟨rfl, h3, h2⟩
  · rintro ⟨rfl, h1, h2⟩
    exact ⟨⟨rfl, h2, h1⟩, fun i _ => ⟨rfl, rfl⟩⟩
/-- With a column more: the one whose rows are x and o. -/
theorem extP_col {n col x o : Nat} {X O : List Nat} {xs os : List Bool} (h : PreG n col X O xs os) (h8 : n ≤ 8) (hc : col < n) (y : GridB) :
    extP n (col + 1) (X.set col x) (O.set col o) y ↔ extP n col X O y ∧ y.1.2.1.getD col 0 = x ∧ y.1.2.2.getD col 0 = o := by
  have lX := h.bX.1
  have lO := h.bO.1
  have gX : ∀ i, (X.set col x).getD i 0 = if i = col then x else X.getD i 0 := fun i => set_getD (by omega)
  have gO : ∀ i, (O.set col o).getD i 0 = if i = col then o else O.getD i 0 := fun i => set_getD (by omega)
  constructor
  · rintro ⟨hc', h4⟩
    refine ⟨⟨hc', fun i hi => ?_⟩, ?_, ?_⟩
    · have := h4 i (by omega)
      rwa [gX, gO, if_neg (by omega), if_neg (by omega)] at this
    · have := (h4 col (by omega)).1
      rwa [gX, if_pos rfl] at this
    · have := (h4 col (by omega)).2
      rwa [gO, if_pos rfl] at this
  · rintro ⟨⟨hc', h4⟩, e1, e2⟩
    refine ⟨hc', fun i hi => ?_⟩
    rw [gX, gO]
    by_cases e : i = col
    · subst e; rw [if_pos rfl, if_pos rfl]; exact ⟨e1, e2⟩
    · rw [if_neg e, if_neg e]; exact h4 i (by omega)
theorem extP_free {n col x o : Nat} {X O : List Nat} {xs os : List Bool} (h : PreG n col X O xs os) (h8 : n ≤ 8) (hc : col < n) {y : GridB} (he : extP n col X O y) (e1 : y.1.2.1.getD col 0 = x) (e2 : y.1.2.2.getD col 0 = o) : x < n ∧ o < n ∧ x ≠ o ∧ xs.getD x false = false ∧ os.getD o false = false := by
  obtain ⟨⟨_, g, _⟩, h4⟩ := he
  obtain ⟨⟨h2, _⟩, pX, pO, hne⟩ := g
  simp only [Int.toNat_natCast] at pX pO hne
  have hx := pX.1 col hc
  have ho := pO.1 col hc
  refine ⟨by omega, by omega, fun e => hne col hc (by omega), ?_, ?_⟩
  · cases hb : xs.getD x false with
    | false => rfl
    | true =>
      obtain ⟨i, hi, e⟩ := (h.mx x (by omega)).1 hb
      have := pX.2.1 i col (by omega) hc (by rw [(h4 i hi).1, e, e1])
      omega
  · cases hb : os.getD o false with
    | false => rfl
    | true =>
      obtain ⟨i, hi, e⟩ := (h.mo o (by omega)).1 hb
      have := pO.2.1 i col (by omega) hc (by rw [(h4 i hi).2, e, e2])
      omega
/-- Those before the pair of rows x, o of a column. -/
def befP (col x o : Nat) (y : GridB) : Prop := y.1.2.1.getD col 0 < x ∨ y.1.2.1.getD col 0 = x ∧ y.1.2.2.getD col 0 < o
theorem befP_zero {col x : Nat} {y : GridB} : befP col x 0 y ↔ y.1.2.1.getD col 0 < x := by unfold befP; omega
theorem befP_succ {col x o : Nat} {y : GridB} : befP col x (o + 1) y ↔ befP col x o y ∨ (y.1.2.1.getD col 0 = x ∧ y.1.2.2.getD col 0 = o) := by unfold befP; omega
theorem befP_end {n col x : Nat} {X O : List Nat} {y : GridB} (hc : col < n) (h : extP n col X O y) : befP col x n y ↔ y.1.2.1.getD col 0 < x + 1 := by
  have pO := h.1.2.1.2.2.1
  simp only [Int.toNat_natCast] at pO
  have := pO.1 col hc
  unfold befP
  omega
end Go.Proofs.Ythijakignhjmgaa
