/- Plain laws: exchanges, stabilizations and destabilizations of grids. -/
import Derived.Test.YtflleelfkknfaaaV
namespace Go.Proofs.Ytflleelfkknfaaa
theorem getD_set8' {X : List Nat} (h : X.length = 8) {i v : Nat} (hi : i < 8) (j : Nat) : (X.set i v).getD j 0 = if i = j then v else X.getD j 0 := by
  rw [List.getD_eq_getElem?_getD, List.getD_eq_getElem?_getD, List.getElem?_set]
  by_cases e : i = j
  · subst e
    rw [if_pos rfl, if_pos rfl, if_pos (by omega)]; rfl
  · rw [if_neg e, if_neg e]
theorem perm_swap {x : List Nat} {n i j : Nat} (h : isPerm x n) (lx : x.length = 8) (h8 : n ≤ 8) (hi : i < n) (hj : j < n) : isPerm ((x.set i (x.getD j 0)).set j (x.getD i 0)) n := by
  obtain ⟨h1, h2, h3⟩ := h
  have e : ∀ m, ((x.set i (x.getD j 0)).set j (x.getD i 0)).getD m 0 = if j = m then x.getD i 0 else if i = m then x.getD j 0 else x.getD m 0 := fun m => by
    rw [getD_set8' (by rw [List.length_set]; exact lx) (by omega), getD_set8' lx (by omega)]
  have z1 := h1 i hi
  have z2 := h1 j hj
  refine ⟨fun m hm => ?_, fun a b ha hb hab => ?_, fun m hm => ?_⟩
  · have z3 := h1 m hm
    rw [e]
    split
    · omega
    · split <;> omega
  · rw [e, e] at hab
    have k1 := h2 i j hi hj
    have k2 := h2 i b hi hb
    have k3 := h2 j b hj hb
    have k4 := h2 a i ha hi
    have k5 := h2 a j ha hj
    have k6 := h2 a b ha hb
    have k7 := h2 j i hj hi
    split at hab <;> split at hab <;> (try split at hab) <;> (try split at hab) <;> omega
  · rw [e, if_neg (by omega), if_neg (by omega)]
    exact h3 m hm
/-! Lists of eight entries by a function. -/
def tab (f : Nat → Nat) : List Nat := (List.range 8).map f
theorem tab_len (f : Nat → Nat) : (tab f).length = 8 := by simp [tab]
theorem tab_get (f : Nat → Nat) {j : Nat} (h : j < 8) : (tab f).getD j 0 = f j := by
  unfold tab
  rw [List.getD_eq_getElem?_getD, List.getElem?_map, List.getElem?_range h]
  rfl
theorem tab_out (f : Nat → Nat) {j : Nat} (h : 8 ≤ j) : (tab f).getD j 0 = 0 := by
  rw [List.getD_eq_getElem?_getD, List.getElem?_eq_none (by rw [tab_len]; exact h)]
  rfl
theorem tab_eq {X : List Nat} {f : Nat → Nat} (l : X.length = 8) (h : ∀ j, j < 8 → X.getD j 0 = f j) : X = tab f := by
  refine List.ext_getElem (by rw [l, tab_len]) fun j h1 h2 => ?_
  have h3 := h j (by omega)
  have h4 := tab_get f (j := j) (by omega)
  rw [List.getD_eq_getElem?_getD, List.getElem?_eq_getElem h1, Option.getD_some] at h3
  rw [List.getD_eq_getElem?_getD, List.getElem?_eq_getElem h2, Option.getD_some] at h4
  rw [h3, h4]
/-- A list with the entries of a function on n places. -/
theorem tab_perm {f : Nat → Nat} {n : Nat} (h8 : n ≤ 8) (hlt : ∀ j, j < n → f j < n) (hinj : ∀ j k, j < n → k < n → f j = f k → j = k) (hz : ∀ j, n ≤ j → f j = 0) : isPerm (tab f) n := by
  refine ⟨fun j hj => by rw [tab_get f (by omega)]; exact hlt j hj, fun j k hj hk e => ?_, fun j hj => ?_⟩
  · rw [tab_get f (by omega), tab_get f (by omega)] at e
    exact hinj j k hj hk e
  · by_cases h : j < 8
    · rw [tab_get f h]; exact hz j hj
    · exact tab_out f (by omega)
/-! Exchanges. -/
/-- Two spans have no end in common, and lie beside or within each other. -/
def aprt (a b c d : Nat) : Prop := a ≠ c ∧ a ≠ d ∧ b ≠ c ∧ b ≠ d ∧ ((min a b < c ∧ c < max a b) ↔ (min a b < d ∧ d < max a b))
instance (a b c d : Nat) : Decidable (aprt a b c d) := by unfold aprt; exact inferInstance
theorem aprt_free {a b c d : Nat} : aprt a b c d ↔ a ≠ c ∧ a ≠ d ∧ b ≠ c ∧ b ≠ d ∧ (((min a b < c ∧ c < max a b) ↔ (min a b < d ∧ d < max a b)) ∨ ((min c d < a ∧ a < max c d) ↔ (min c d < b ∧ b < max c d))) := by
  unfold aprt
  omega
/-- Two neighbouring columns in each other's place. -/
def swC (X : List Nat) (i : Nat) : List Nat := (X.set i (X.getD (i + 1) 0)).set (i + 1) (X.getD i 0)
theorem swC_len {X : List Nat} {i : Nat} : (swC X i).length = X.length := by unfold swC; rw [List.length_set, List.length_set]
theorem swC_get {X : List Nat} {i : Nat} (l : X.length = 8) (hi : i + 1 < 8) (j : Nat) : (swC X i).getD j 0 = if i + 1 = j then X.getD i 0 else if i = j then X.getD (i + 1) 0 else X.getD j 0 := by
  unfold swC
  rw [getD_set8' (by rw [List.length_set]; exact l) hi, getD_set8' l (by omega)]
theorem swC_ok {n : Nat} {X O : List Nat} {i : Nat} (g : okG (n : Int) X O) (lX : X.length = 8) (lO : O.length = 8) (hi : i + 1 < n) : okG (n : Int) (swC X i) (swC O i) := by
  obtain ⟨h, pX, pO, hne⟩ := g
  rw [Int.toNat_natCast] at pX pO hne
  refine okG_loop (by omega) (by omega) (perm_swap pX lX (by omega) (by omega) hi) (perm_swap pO lO (by omega) (by omega) hi) fun j hj => ?_
  rw [swC_get lX (by omega), swC_get lO (by omega)]
  split
  · exact hne i (by omega)
  · split
    · exact hne _ hi
    · exact hne j hj
/-- A row, when two neighbouring rows are in each other's place. -/
def swr (r x : Nat) : Nat := if x = r then r + 1 else if x = r + 1 then r else x
theorem swr_inj {r x y : Nat} (h : swr r x = swr r y) : x = y := by
  unfold swr at h
  split at h <;> split at h <;> (try split at h) <;> (try split at h) <;> omega
theorem swr_lt {n r x : Nat} (hr : r + 1 < n) (hx : x < n) : swr r x < n := by
  unfold swr
  split
  · exact hr
  · split <;> omega
def swR (n r : Nat) (X : List Nat) : List Nat := tab fun j => if j < n then swr r (X.getD j 0) else 0
theorem swR_perm {n r : Nat} {X : List Nat} (p : isPerm X n) (h8 : n ≤ 8) (hr : r + 1 < n) : isPerm (swR n r X) n := by
  refine tab_perm h8 (fun j hj => ?_) (fun j k hj hk e => ?_) fun j hj => if_neg (by omega)
  · rw [if_pos hj]; exact swr_lt hr (p.1 j hj)
  · rw [if_pos hj, if_pos hk] at e
    exact p.2.1 j k hj hk (swr_inj e)
theorem swR_ok {n r : Nat} {X O : List Nat} (g : okG (n : Int) X O) (hr : r + 1 < n) : okG (n : Int) (swR n r X) (swR n r O) := by
  obtain ⟨h, pX, pO, hne⟩ := g
  rw [Int.toNat_natCast] at pX pO hne
  refine okG_loop (by omega) (by omega) (swR_perm pX (by omega) hr) (swR_perm pO (by omega) hr) fun j hj => ?_
  unfold swR
  rw [tab_get _ (by omega), tab_get _ (by omega), if_pos hj, if_pos hj]
  exact fun e => hne j hj (swr_inj e)
/-! Destabilizations. -/
/-- A row, when the row behind r is left out. -/
def low (r x : Nat) : Nat := if r < x then x - 1 else x
/-- The column that a column was, ahead of a column's leaving: of i and i + 1 the one that stays is i + d. -/
def srcC (i d j : Nat) : Nat := if j < i then j else if j = i then i + d else j + 1
def rmv (n i r d : Nat) (A : List Nat) : List Nat := tab fun j => if j + 1 < n then low r (A.getD (srcC i d j) 0) else 0
/-- A row, when r has become two rows. -/
def lift (r u x : Nat) : Nat := if r < x then x + 1 else if x = r then r + u else x
/-- The column from which a column comes, when i has become two. -/
def frC (i j : Nat) : Nat := if j ≤ i then j else j - 1
def gMine (n i r d u : Nat) (a : List Nat) : List Nat := tab fun j => if j = i + d then r + 1 - u else if j = i + 1 - d then r + u else if j < n + 1 then (if r < a.getD (frC i j) 0 then a.getD (frC i j) 0 + 1 else a.getD (frC i j) 0) else 0
def gThr (n i r d u : Nat) (b : List Nat) : List Nat := tab fun j => if j = i + 1 - d then r + 1 - u else if j < n + 1 then lift r u (b.getD (frC i j) 0) else 0
/-- The grid looks as one that has been stabilized. -/
def stb (i r d u : Nat) (A B : List Nat) : Prop := A.getD (i + d) 0 = r + 1 - u ∧ A.getD (i + 1 - d) 0 = r + u ∧ B.getD (i + 1 - d) 0 = r + 1 - u ∧ B.getD (i + d) 0 ≠ r + u
instance (i r d u : Nat) (A B : List Nat) : Decidable (stb i r d u A B) := by unfold stb; exact inferInstance
section
variable {n i r d u : Nat} {A B : Nat → Nat}
theorem low_eq {x y : Nat} (h : low r x = low r y) : x = y ∨ (x = r ∧ y = r + 1) ∨ (x = r + 1 ∧ y = r) := by
  unfold low at h
  split at h <;> split at h <;> omega
theorem low_lt {x : Nat} (hr : r + 1 < n) (hx : x < n) : low r x < n - 1 := by
  unfold low
  split <;> omega
theorem srcC_lt {j : Nat} (hi : i + 1 < n) (hd : d ≤ 1) (hj : j + 1 < n) : srcC i d j < n := by
  unfold srcC
  split
  · omega
  · split <;> omega
theorem srcC_ne {j : Nat} (hd : d ≤ 1) : srcC i d j ≠ i + 1 - d := by
  unfold srcC
  split
  · omega
  · split <;> omega
theorem srcC_inj {j k : Nat} (hd : d ≤ 1) (h : srcC i d j = srcC i d k) : j = k := by
  unfold srcC at h
  split at h <;> split at h <;> (try split at h) <;> (try split at h) <;> omega
theorem src_fr {j : Nat} (hd : d ≤ 1) (h : j ≠ i + 1 - d) : srcC i d (frC i j) = j := by
  unfold frC srcC
  split
  · split
    · rfl
    · split <;> omega
  · split
    · omega
    · split <;> omega
theorem fr_lt {j : Nat} (hi : i + 1 < n) (hj : j < n) : frC i j + 1 < n := by
  unfold frC
  split <;> omega
theorem src_at (hd : d ≤ 1) (j : Nat) : (if j < i + 1 - d then j else j + 1) = srcC i d j := by
  unfold srcC
  split
  · split
    · rfl
    · split <;> omega
  · split
    · omega
    · split <;> omega
end
section
variable {n i r d u : Nat} {A B : List Nat}
theorem rmv_get (h8 : n ≤ 8) (j : Nat) : (rmv n i r d A).getD j 0 = if j + 1 < n then low r (A.getD (srcC i d j) 0) else 0 := by
  unfold rmv
  by_cases h : j < 8
  · rw [tab_get _ h]
  · rw [tab_out _ (by omega), if_neg (by omega)]
theorem rmv_len : (rmv n i r d A).length = 8 := tab_len _
theorem low_mid (hu : u ≤ 1) : low r (r + 1 - u) = r := by
  unfold low
  split <;> omega
/-- In a grid that looks so: where the rows r and r + 1 are. -/
theorem stb_A (pA : isPerm A n) (hi : i + 1 < n) (hd : d ≤ 1) (hu : u ≤ 1) (s : stb i r d u A B) {j : Nat} (hj : j < n) (e : A.getD j 0 = r ∨ A.getD j 0 = r + 1) : j = i + d ∨ j = i + 1 - d := by
  obtain ⟨s1, s2, -, -⟩ := s
  by_cases e1 : A.getD j 0 = r + 1 - u
  · exact .inl (pA.2.1 j (i + d) hj (by omega) (by rw [s1, e1]))
  · exact .inr (pA.2.1 j (i + 1 - d) hj (by omega) (by rw [s2]; omega))
theorem stb_B (pB : isPerm B n) (hi : i + 1 < n) (hd : d ≤ 1) (s : stb i r d u A B) {j : Nat} (hj : j < n) (e : B.getD j 0 = r + 1 - u) : j = i + 1 - d :=
  pB.2.1 j (i + 1 - d) hj (by omega) (by rw [s.2.2.1, e])
theorem stb_Bd (pB : isPerm B n) (hi : i + 1 < n) (hd : d ≤ 1) (hu : u ≤ 1) (s : stb i r d u A B) : B.getD (i + d) 0 ≠ r ∧ B.getD (i + d) 0 ≠ r + 1 := by
  have h1 := s.2.2.2
  have h2 : B.getD (i + d) 0 ≠ r + 1 - u := fun e => by
    have := stb_B pB hi hd s (by omega) e
    omega
  omega
theorem shr_ok (g : okG (n : Int) A B) (lA : A.length = 8) (lB : B.length = 8) (hi : i + 1 < n) (hr : r + 1 < n) (hd : d ≤ 1) (hu : u ≤ 1) (s : stb i r d u A B) :
    3 ≤ n ∧ okG ((n - 1 : Nat) : Int) (rmv n i r d A) (rmv n i r d B) ∧ (rmv n i r d A).getD i 0 = r ∧ gMine (n - 1) i r d u (rmv n i r d A) = A ∧ gThr (n - 1) i r d u (rmv n i r d B) = B := by
  obtain ⟨h, pA, pB, hne⟩ := g
  rw [Int.toNat_natCast] at pA pB hne
  have h8 : n ≤ 8 := by omega
  have hBd := stb_Bd pB hi hd hu s
  have h3 : 3 ≤ n := by
    have := pB.1 (i + d) (by omega)
    omega
  have hA := fun {j : Nat} (hj : j < n) e => stb_A pA hi hd hu s hj e
  have hB := fun {j : Nat} (hj : j < n) e => stb_B pB hi hd s hj e
  have hs : ∀ j, j + 1 < n → srcC i d j < n := fun j hj => srcC_lt hi hd hj
  have hn := fun (j : Nat) => srcC_ne (i := i) (j := j) hd
  obtain ⟨s1, s2, s3, s4⟩ := id s
  have ai : (rmv n i r d A).getD i 0 = r := by
    rw [rmv_get h8, if_pos hi, show srcC i d i = i + d by unfold srcC; rw [if_neg (Nat.lt_irrefl _), if_pos rfl], s1, low_mid hu]
  refine ⟨h3, okG_loop (by omega) (by omega) (tab_perm (by omega) (fun j hj => ?_) (fun j k hj hk e => ?_) fun j hj => if_neg (by omega)) (tab_perm (by omega) (fun j hj => ?_) (fun j k hj hk e => ?_) fun j hj => if_neg (by omega)) (fun j hj e => ?_), ai, (tab_eq lA fun j hj => ?_).symm, (tab_eq lB fun j hj => ?_).symm⟩
  · rw [if_pos (by omega)]
    exact low_lt hr (pA.1 _ (hs j (by omega)))
  · rw [if_pos (by omega), if_pos (by omega)] at e
    have hj' := hs j (by omega)
    have hk' := hs k (by omega)
    rcases low_eq e with e | ⟨e1, e2⟩ | ⟨e1, e2⟩
    · exact srcC_inj hd (pA.2.1 _ _ hj' hk' e)
    · have c1 := hA hj' (.inl e1)
      have c2 := hA hk' (.inr e2)
      exact srcC_inj hd ((c1.resolve_right (hn j)).trans (c2.resolve_right (hn k)).symm)
    · have c1 := hA hj' (.inr e1)
      have c2 := hA hk' (.inl e2)
      exact srcC_inj hd ((c1.resolve_right (hn j)).trans (c2.resolve_right (hn k)).symm)
  · rw [if_pos (by omega)]
    exact low_lt hr (pB.1 _ (hs j (by omega)))
  · rw [if_pos (by omega), if_pos (by omega)] at e
    have hj' := hs j (by omega)
    have hk' := hs k (by omega)
    rcases low_eq e with e | ⟨e1, e2⟩ | ⟨e1, e2⟩
    · exact srcC_inj hd (pB.2.1 _ _ hj' hk' e)
    · by_cases hu0 : u = 0
      · exact absurd (hB hk' (by omega)) (hn k)
      · exact absurd (hB hj' (by omega)) (hn j)
    · by_cases hu0 : u = 0
      · exact absurd (hB hj' (by omega)) (hn j)
      · exact absurd (hB hk' (by omega)) (hn k)
  · rw [rmv_get h8, rmv_get h8, if_pos (by omega), if_pos (by omega)] at e
    have hj' := hs j (by omega)
    rcases low_eq e with e | ⟨e1, e2⟩ | ⟨e1, e2⟩
    · exact hne _ hj' e
    · have c := (hA hj' (.inl e1)).resolve_right (hn j)
      rw [c] at e2
      exact hBd.2 e2
    · have c := (hA hj' (.inr e1)).resolve_right (hn j)
      rw [c] at e2
      exact hBd.1 e2
  · split
    · rename_i e
      rw [e]; exact s1
    · split
      · rename_i e
        rw [e]; exact s2
      · rename_i k1 k2
        split
        · have hjn : j < n := by omega
          have hx : ¬ (A.getD j 0 = r ∨ A.getD j 0 = r + 1) := fun e => by
            have := hA hjn e
            omega
          rw [rmv_get h8, if_pos (fr_lt hi hjn), src_fr hd k2]
          unfold low
          split
          · split <;> omega
          · rfl
        · exact pA.2.2 j (by omega)
  · split
    · rename_i e
      rw [e]; exact s3
    · rename_i k2
      split
      · have hjn : j < n := by omega
        have hx : B.getD j 0 ≠ r + 1 - u := fun e => k2 (hB hjn e)
        rw [rmv_get h8, if_pos (fr_lt hi hjn), src_fr hd k2]
        unfold lift low
        split
        · split
          · omega
          · (split <;> omega)
        · (split <;> omega)
      · exact pB.2.2 j (by omega)
theorem shr_conv {a b : List Nat} (g : okG ((n - 1 : Nat) : Int) a b) (h8 : n ≤ 8) (hi : i + 1 < n) (hd : d ≤ 1) (hu : u ≤ 1) (ha : a.getD i 0 = r) (eA : gMine (n - 1) i r d u a = A) (eB : gThr (n - 1) i r d u b = B) : stb i r d u A B := by
  obtain ⟨-, -, -, hne⟩ := g
  rw [Int.toNat_natCast] at hne
  have hb := hne i (by omega)
  rw [ha] at hb
  rw [← eA, ← eB]
  unfold stb gMine gThr
  refine ⟨?_, ?_, ?_, ?_⟩
  · rw [tab_get _ (by omega), if_pos rfl]
  · rw [tab_get _ (by omega), if_neg (by omega), if_pos rfl]
  · rw [tab_get _ (by omega), if_pos rfl]
  · rw [tab_get _ (by omega), if_neg (by omega), if_pos (by omega), show frC i (i + d) = i by unfold frC; split <;> omega]
    unfold lift
    split
    · omega
    · rw [if_neg (fun e => hb e.symm)]
      omega
theorem stb_uniq {d' u' : Nat} (hd : d ≤ 1) (hu : u ≤ 1) (hd' : d' ≤ 1) (hu' : u' ≤ 1) (s : stb i r d u A B) (s' : stb i r d' u' A B) : d = d' ∧ u = u' := by
  obtain ⟨s1, s2, s3, s4⟩ := s
  obtain ⟨t1, t2, t3, t4⟩ := s'
  by_cases e : d = d'
  · subst e
    rw [s1] at t1
    omega
  · have e1 : i + d' = i + 1 - d := by omega
    have e2 : i + 1 - d' = i + d := by omega
    rw [e1] at t1 t4
    rw [e2] at t2 t3
    rw [s2] at t1
    rw [s3] at t4
    omega
theorem stb_swap {d' u' : Nat} (pB : isPerm B n) (hi : i + 1 < n) (hd : d ≤ 1) (hu : u ≤ 1) (hd' : d' ≤ 1) (hu' : u' ≤ 1) (s : stb i r d u A B) (s' : stb i r d' u' B A) : False := by
  have h := stb_Bd pB hi hd hu s
  obtain ⟨t1, t2, -, -⟩ := s'
  by_cases e : d = d'
  · subst e
    rw [t1] at h
    omega
  · rw [show i + d = i + 1 - d' by omega, t2] at h
    omega
theorem wout_A (pA : isPerm A n) (lA : A.length = 8) (h8 : n ≤ 8) (hi : i + 1 < n) (hd : d ≤ 1) (hu : u ≤ 1) (s : stb i r d u A B) {j : Nat} (hj : j + 1 < n) :
    low (r + 1 - u) ((A.set (i + d) (r + u)).getD (if j < i + 1 - d then j else j + 1) 0) = low r (A.getD (srcC i d j) 0) := by
  rw [src_at hd, getD_set8' lA (by omega)]
  have hs := srcC_lt hi hd hj
  have hn := srcC_ne (i := i) (j := j) hd
  split
  · rename_i e
    rw [← e, s.1, low_mid hu]
    unfold low
    split <;> omega
  · rename_i e
    have hx : ¬ (A.getD (srcC i d j) 0 = r ∨ A.getD (srcC i d j) 0 = r + 1) := fun k => by
      have := stb_A pA hi hd hu s hs k
      omega
    unfold low
    split
    · split <;> omega
    · split <;> omega
theorem wout_B (pB : isPerm B n) (hi : i + 1 < n) (hd : d ≤ 1) (hu : u ≤ 1) (s : stb i r d u A B) {j : Nat} (hj : j + 1 < n) :
    low (r + 1 - u) (B.getD (if j < i + 1 - d then j else j + 1) 0) = low r (B.getD (srcC i d j) 0) := by
  rw [src_at hd]
  have hs := srcC_lt hi hd hj
  have hn := srcC_ne (i := i) (j := j) hd
  have hx : B.getD (srcC i d j) 0 ≠ r + 1 - u := fun k => hn (stb_B pB hi hd s hs k)
  unfold low
  split
  · split <;> omega
  · split <;> omega
end
/-! The stabilization, column by column. -/
def bump (r x : Nat) : Nat := if r < x then x + 1 else x
def toC (i d c : Nat) : Nat := if c < i then c else if c = i then i + d else c + 1
def colT (i d : Nat) (f : Nat → Nat) (k : Nat) : List Nat := tab fun j => if j ≠ i + 1 - d ∧ frC i j < k then f (frC i j) else 0
theorem colT_len {i d : Nat} {f : Nat → Nat} {k : Nat} : (colT i d f k).length = 8 := tab_len _
theorem colT_zero {i d : Nat} {f : Nat → Nat} : colT i d f 0 = Z8 := by
  refine (tab_eq (X := Z8) rfl fun j hj => ?_).symm
  rw [if_neg (by omega), List.getD_eq_getElem?_getD, List.getElem?_replicate]
  split <;> rfl
theorem toC_lt {i d c n : Nat} (hi : i < n) (hd : d ≤ 1) (hc : c < n) : toC i d c < n + 1 := by
  unfold toC
  split
  · omega
  · split <;> omega
theorem colT_set {i d : Nat} {f : Nat → Nat} {k : Nat} (hd : d ≤ 1) (h : toC i d k < 8) : (colT i d f k).set (toC i d k) (f k) = colT i d f (k + 1) := by
  refine tab_eq (by rw [List.length_set]; exact colT_len) fun j hj => ?_
  rw [getD_set8' colT_len h]
  have ht : toC i d k ≠ i + 1 - d ∧ frC i (toC i d k) = k := by
    unfold toC frC
    split
    · rw [if_pos (by omega)]; omega
    · split
      · subst_vars
        split <;> omega
      · rw [if_neg (by omega)]; omega
  by_cases e : toC i d k = j
  · rw [if_pos e, ← e, if_pos ⟨ht.1, by rw [ht.2]; exact Nat.lt_succ_self _⟩, ht.2]
  · rw [if_neg e]
    unfold colT
    rw [tab_get _ hj]
    have hne : j ≠ i + 1 - d → frC i j ≠ k := fun h1 h2 => e (by
      unfold toC
      unfold frC at h2
      split at h2
      · split
        · omega
        · split <;> omega
      · split
        · omega
        · split <;> omega)
    by_cases h1 : j ≠ i + 1 - d
    · have := hne h1
      by_cases h2 : frC i j < k
      · rw [if_pos ⟨h1, h2⟩, if_pos ⟨h1, by omega⟩]
      · rw [if_neg (fun x => h2 x.2), if_neg (fun x => by have := x.2; omega)]
    · rw [if_neg (fun x => h1 x.1), if_neg (fun x => h1 x.1)]
theorem colT_mine {n i r d u : Nat} {a : List Nat} (hd : d ≤ 1) (hi : i < n) (h8 : n < 8) : ((colT i d (fun c => bump r (a.getD c 0)) n).set (i + d) (r + 1 - u)).set (i + 1 - d) (r + u) = gMine n i r d u a := by
  refine tab_eq (by rw [List.length_set, List.length_set]; exact colT_len) fun j hj => ?_
  rw [getD_set8' (by rw [List.length_set]; exact colT_len) (by omega), getD_set8' colT_len (by omega)]
  by_cases e1 : j = i + d
  · rw [if_neg (by omega), if_pos e1.symm, if_pos e1]
  · by_cases e2 : j = i + 1 - d
    · rw [if_pos e2.symm, if_neg e1, if_pos e2]
    · rw [if_neg (fun h => e2 h.symm), if_neg (fun h => e1 h.symm), if_neg e1, if_neg e2]
      unfold colT
      rw [tab_get _ hj]
      have hf : frC i j < n ↔ j < n + 1 := by unfold frC; split <;> omega
      by_cases h : j < n + 1
      · rw [if_pos ⟨e2, hf.2 h⟩, if_pos h]; rfl
      · rw [if_neg (fun x => h (hf.1 x.2)), if_neg h]
theorem colT_thr {n i r d u : Nat} {b : List Nat} (hd : d ≤ 1) (hi : i < n) (h8 : n < 8) : (colT i d (fun c => lift r u (b.getD c 0)) n).set (i + 1 - d) (r + 1 - u) = gThr n i r d u b := by
  refine tab_eq (by rw [List.length_set]; exact colT_len) fun j hj => ?_
  rw [getD_set8' colT_len (by omega)]
  by_cases e2 : j = i + 1 - d
  · rw [if_pos e2.symm, if_pos e2]
  · rw [if_neg (fun h => e2 h.symm), if_neg e2]
    unfold colT
    rw [tab_get _ hj]
    have hf : frC i j < n ↔ j < n + 1 := by unfold frC; split <;> omega
    by_cases h : j < n + 1
    · rw [if_pos ⟨e2, hf.2 h⟩, if_pos h]
    · rw [if_neg (fun x => h (hf.1 x.2)), if_neg h]
/-! The destabilization, column by column. -/
def shT (n i r d : Nat) (A : List Nat) (k : Nat) : List Nat := tab fun j => if j + 1 < n ∧ srcC i d j < k then low r (A.getD (srcC i d j) 0) else 0
theorem shT_len {n i r d : Nat} {A : List Nat} {k : Nat} : (shT n i r d A k).length = 8 := tab_len _
theorem shT_zero {n i r d : Nat} {A : List Nat} : shT n i r d A 0 = Z8 := by
  refine (tab_eq (X := Z8) rfl fun j hj => ?_).symm
  rw [if_neg (by omega), List.getD_eq_getElem?_getD, List.getElem?_replicate]
  split <;> rfl
theorem shT_congr {n i r d : Nat} {A : List Nat} {k k' : Nat} (h : ∀ j, j + 1 < n → (srcC i d j < k ↔ srcC i d j < k')) : shT n i r d A k = shT n i r d A k' := by
  refine tab_eq shT_len fun j hj => ?_
  unfold shT
  rw [tab_get _ hj]
  by_cases h1 : j + 1 < n
  · by_cases h2 : srcC i d j < k
    · rw [if_pos ⟨h1, h2⟩, if_pos ⟨h1, (h j h1).1 h2⟩]
    · rw [if_neg (fun x => h2 x.2), if_neg (fun x => h2 ((h j h1).2 x.2))]
  · rw [if_neg (fun x => h1 x.1), if_neg (fun x => h1 x.1)]
theorem shT_skip {n i r d : Nat} {A : List Nat} {k : Nat} (hd : d ≤ 1) (hk : k = i + 1 - d) : shT n i r d A k = shT n i r d A (k + 1) :=
  shT_congr fun j _ => by
    have := srcC_ne (i := i) (j := j) hd
    omega
theorem shT_end {n i r d : Nat} {A : List Nat} (hi : i + 1 < n) (hd : d ≤ 1) : shT n i r d A n = rmv n i r d A := by
  refine tab_eq shT_len fun j hj => ?_
  unfold shT
  rw [tab_get _ hj]
  by_cases h1 : j + 1 < n
  · rw [if_pos ⟨h1, srcC_lt hi hd h1⟩, if_pos h1]
  · rw [if_neg (fun x => h1 x.1), if_neg h1]
theorem shT_set {n i r d : Nat} {A : List Nat} {k : Nat} (h8 : n ≤ 8) (hi : i + 1 < n) (hd : d ≤ 1) (hk : k < n) (hne : k ≠ i + 1 - d) :
    (shT n i r d A k).set (if i < k then k - 1 else k) (low r (A.getD k 0)) = shT n i r d A (k + 1) := by
  have hD : (if i < k then k - 1 else k) + 1 < n := by split <;> omega
  have hs : srcC i d (if i < k then k - 1 else k) = k := by
    unfold srcC
    split
    · split
      · omega
      · split <;> omega
    · split
      · rfl
      · split <;> omega
  generalize (if i < k then k - 1 else k) = D at *
  refine tab_eq (by rw [List.length_set]; exact shT_len) fun j hj => ?_
  rw [getD_set8' shT_len (by omega)]
  by_cases e : D = j
  · rw [if_pos e, ← e, if_pos ⟨hD, by omega⟩, hs]
  · rw [if_neg e]
    unfold shT
    rw [tab_get _ hj]
    have h2 : srcC i d j ≠ k := fun x => e (srcC_inj hd (hs.trans x.symm))
    by_cases h1 : j + 1 < n ∧ srcC i d j < k
    · rw [if_pos h1, if_pos ⟨h1.1, by omega⟩]
    · rw [if_neg h1, if_neg (fun x => h1 ⟨x.1, by omega⟩)]
theorem isB_rmv {n i r d : Nat} {A : List Nat} (h8 : n ≤ 8) (h : ∀ j, A.getD j 0 < 256) : (rmv n i r d A).length = 8 ∧ ∀ j, (rmv n i r d A).getD j 0 < 256 := by
  refine ⟨rmv_len, fun j => ?_⟩
  rw [rmv_get h8]
  split
  · have := h (srcC i d j)
    unfold low
    split <;> omega
  · decide
/-- The grid looks as one that has been stabilized at the mark m: 0 an X, 1 an O. -/
def stbM (X O : List Nat) (i r m d u : Nat) : Prop := (m = 0 ∧ stb i r d u X O) ∨ (m = 1 ∧ stb i r d u O X)
/-- The q-th of the eight ways. -/
def mch (X O : List Nat) (i r q : Nat) : Prop := stbM X O i r (q % 2) (q / 2 % 2) (q / 4)
theorem stbM_uniq {n : Nat} {X O : List Nat} {i r m d u m' d' u' : Nat} (g : okG (n : Int) X O) (hi : i + 1 < n) (hd : d ≤ 1) (hu : u ≤ 1) (hd' : d' ≤ 1) (hu' : u' ≤ 1) (s : stbM X O i r m d u) (s' : stbM X O i r m' d' u') : m = m' ∧ d = d' ∧ u = u' := by
  obtain ⟨h, pX, pO, -⟩ := g
  rw [Int.toNat_natCast] at pX pO
  rcases s with ⟨e, s⟩ | ⟨e, s⟩ <;> rcases s' with ⟨e', s'⟩ | ⟨e', s'⟩
  · exact ⟨by omega, stb_uniq hd hu hd' hu' s s'⟩
  · exact (stb_swap pO hi hd hu hd' hu' s s').elim
  · exact (stb_swap pX hi hd hu hd' hu' s s').elim
  · exact ⟨by omega, stb_uniq hd hu hd' hu' s s'⟩
/-! Exchanged rows, column by column. -/
def swQ (r : Nat) (X : List Nat) (k : Nat) : List Nat := tab fun j => if j < k then swr r (X.getD j 0) else 0
def swP (r : Nat) (X : List Nat) (k : Nat) : List Nat := tab fun j => if j < k then swr r (X.getD j 0) else X.getD j 0
theorem swQ_len {r : Nat} {X : List Nat} {k : Nat} : (swQ r X k).length = 8 := tab_len _
theorem swP_len {r : Nat} {X : List Nat} {k : Nat} : (swP r X k).length = 8 := tab_len _
theorem swQ_zero {r : Nat} {X : List Nat} : swQ r X 0 = Z8 := by
  refine (tab_eq (X := Z8) rfl fun j hj => ?_).symm
  rw [if_neg (by omega), List.getD_eq_getElem?_getD, List.getElem?_replicate]
  split <;> rfl
theorem swP_zero {r : Nat} {X : List Nat} (l : X.length = 8) : swP r X 0 = X := (tab_eq l fun j hj => by rw [if_neg (by omega)]).symm
theorem swQ_set {r : Nat} {X : List Nat} {k : Nat} (hk : k < 8) : (swQ r X k).set k (swr r (X.getD k 0)) = swQ r X (k + 1) := by
  refine tab_eq (by rw [List.length_set]; exact swQ_len) fun j hj => ?_
  rw [getD_set8' swQ_len hk]
  unfold swQ
  rw [tab_get _ hj]
  by_cases e : k = j
  · subst e
    rw [if_pos rfl, if_pos (by omega)]
  · rw [if_neg e]
    by_cases h : j < k
    · rw [if_pos h, if_pos (by omega)]
    · rw [if_neg h, if_neg (by omega)]
theorem swP_set {r : Nat} {X : List Nat} {k : Nat} (hk : k < 8) : (swP r X k).set k (swr r (X.getD k 0)) = swP r X (k + 1) := by
  refine tab_eq (by rw [List.length_set]; exact swP_len) fun j hj => ?_
  rw [getD_set8' swP_len hk]
  unfold swP
  rw [tab_get _ hj]
  by_cases e : k = j
  · subst e
    rw [if_pos rfl, if_pos (by omega)]
  · rw [if_neg e]
    by_cases h : j < k
    · rw [if_pos h, if_pos (by omega)]
    · rw [if_neg h, if_neg (by omega)]
theorem swP_at {r : Nat} {X : List Nat} {k : Nat} (hk : k < 8) : (swP r X k).getD k 0 = X.getD k 0 := by
  unfold swP
  rw [tab_get _ hk, if_neg (Nat.lt_irrefl _)]
theorem swP_same {r : Nat} {X : List Nat} {k : Nat} (hk : k < 8) (h : swr r (X.getD k 0) = X.getD k 0) : swP r X k = swP r X (k + 1) := by
  refine tab_eq swP_len fun j hj => ?_
  unfold swP
  rw [tab_get _ hj]
  by_cases e : j < k
  · rw [if_pos e, if_pos (by omega)]
  · rw [if_neg e]
    by_cases e2 : j = k
    · subst e2
      rw [if_pos (by omega), h]
    · rw [if_neg (by omega)]
theorem swQ_end {n r : Nat} {X : List Nat} : swQ r X n = swR n r X := rfl
theorem swP_end {n r : Nat} {X : List Nat} (p : isPerm X n) : swP r X n = swR n r X := by
  refine tab_eq swP_len fun j hj => ?_
  unfold swP
  rw [tab_get _ hj]
  by_cases e : j < n
  · rw [if_pos e, if_pos e]
  · rw [if_neg e, if_neg e]
    exact p.2.2 j (by omega)
end Go.Proofs.Ytflleelfkknfaaa
