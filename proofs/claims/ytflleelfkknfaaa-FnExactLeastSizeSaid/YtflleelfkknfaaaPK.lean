/- Plain laws: the least of all shifts. -/
import Derived.Test.YtflleelfkknfaaaPC
import Derived.Test.YtflleelfkknfaaaWJ
namespace Go.Proofs.Ytflleelfkknfaaa
/-- A grid shifted. -/
def rolG (n v u : Nat) (g : List Nat × List Nat) : List Nat × List Nat := (rol n v u g.1 n, rol n v u g.2 n)
def keyP (g : List Nat × List Nat) : Nat := keyG g.1 g.2
def isMin (n : Nat) (g c : List Nat × List Nat) : Prop :=
  (∃ v u, v < n ∧ u < n ∧ c = rolG n v u g) ∧ ∀ v u, v < n → u < n → keyP c ≤ keyP (rolG n v u g)
theorem keyG_inj {X O Y U : List Nat} (bX : isB X) (bO : isB O) (bY : isB Y) (bU : isB U) (h : keyG X O = keyG Y U) : X = Y ∧ O = U := by
  have e := key_inj (l := X ++ O) (m := Y ++ U) (by simp [bX.1, bO.1, bY.1, bU.1]) (app_mem bX bO) (app_mem bY bU) h
  exact List.append_inj e (by rw [bX.1, bY.1])
theorem isMin_unique {n : Nat} {g c d : List Nat × List Nat} (h2 : 2 ≤ n) (h8 : n ≤ 8) (hc : isMin n g c) (hd : isMin n g d) : c = d := by
  have hn : 0 < n := by omega
  obtain ⟨⟨v, u, hv, hu, rfl⟩, hc⟩ := hc
  obtain ⟨⟨v', u', hv', hu', rfl⟩, hd⟩ := hd
  have e := keyG_inj (isB_rol hn h8) (isB_rol hn h8) (isB_rol hn h8) (isB_rol hn h8) (Nat.le_antisymm (hc v' u' hv' hu') (hd v u hv hu))
  exact Prod.ext e.1 e.2
/-- The shift of the rows that leads the first mark to the row 0. -/
def vz (n : Nat) (X : List Nat) (u : Nat) : Nat := (n - X.getD ((n - u) % n) 0) % n
def candS (n : Nat) (g : List Nat × List Nat) (u : Nat) : List Nat × List Nat := rolG n (vz n g.1 u) u g
/-- The least shift, after k columns. -/
def cS (n : Nat) (g : List Nat × List Nat) : Nat → List Nat × List Nat
  | 0 => candS n g 0
  | k + 1 => if keyP (candS n g (k + 1)) < keyP (cS n g k) then candS n g (k + 1) else cS n g k
def can (n : Nat) (g : List Nat × List Nat) : List Nat × List Nat := cS n g (n - 1)
theorem vz_lt {n u : Nat} {X : List Nat} (hn : 0 < n) : vz n X u < n := Nat.mod_lt _ hn
theorem first_at {n v u : Nat} {X : List Nat} (hn : 0 < n) (h8 : n ≤ 8) (hu : u < n) : (rol n v u X n).getD 0 0 = (X.getD ((n - u) % n) 0 + v) % n := by
  rw [rol_at hn h8 hn, Nat.zero_add, Nat.mod_eq_of_lt hu]
theorem cand_le {n v u : Nat} {g : List Nat × List Nat} (hn : 0 < n) (h8 : n ≤ 8) (p : isPerm g.1 n) (hv : v < n) (hu : u < n) : keyP (candS n g u) ≤ keyP (rolG n v u g) := by
  by_cases e : v = vz n g.1 u
  · subst e; exact Nat.le_refl _
  · refine Nat.le_of_lt ?_
    have hx := p.1 ((n - u) % n) (Nat.mod_lt _ hn)
    have h0 : (rol n (vz n g.1 u) u g.1 n).getD 0 0 = 0 := by
      rw [first_at hn h8 hu]
      unfold vz
      generalize g.1.getD ((n - u) % n) 0 = x at hx
      rw [addmod hx, Nat.mod_mod]
      by_cases hz : x = 0
      · subst hz; simp
      · rw [Nat.mod_eq_of_lt (show n - x < n by omega), if_neg (by omega)]; omega
    have h1 : (rol n v u g.1 n).getD 0 0 ≠ 0 := by
      rw [first_at hn h8 hu]
      unfold vz at e
      generalize g.1.getD ((n - u) % n) 0 = x at hx e
      rw [addmod hx, Nat.mod_eq_of_lt hv]
      by_cases hz : x = 0
      · subst hz
        rw [Nat.sub_zero, Nat.mod_self] at e
        split <;> omega
      · rw [Nat.mod_eq_of_lt (show n - x < n by omega)] at e
        split <;> omega
    have := keyG_X (X := rol n (vz n g.1 u) u g.1 n) (O := rol n (vz n g.1 u) u g.2 n) (Y := rol n v u g.1 n) (U := rol n v u g.2 n) (isB_rol hn h8) (isB_rol hn h8) (isB_rol hn h8) (isB_rol hn h8) (k := 0) (by omega) (by omega) (by omega)
    exact this.1 (by omega)
theorem cS_spec {n : Nat} {g : List Nat × List Nat} : ∀ k, (∃ u, u ≤ k ∧ cS n g k = candS n g u) ∧ ∀ u, u ≤ k → keyP (cS n g k) ≤ keyP (candS n g u)
  | 0 => ⟨⟨0, Nat.le_refl _, rfl⟩, fun u hu => by obtain rfl : u = 0 := by omega
                                                  exact Nat.le_refl _⟩
  | k + 1 => by
    obtain ⟨⟨u, hu, e⟩, h⟩ := cS_spec (n := n) (g := g) k
    rw [cS]
    split
    · rename_i hlt
      refine ⟨⟨k + 1, Nat.le_refl _, rfl⟩, fun w hw => ?_⟩
      by_cases e : w = k + 1
      · subst e; exact Nat.le_refl _
      · have := h w (by omega)
        omega
    · rename_i hlt
      refine ⟨⟨u, by omega, e⟩, fun w hw => ?_⟩
      by_cases e : w = k + 1
      · subst e; omega
      · exact h w (by omega)
theorem can_min {n : Nat} {g : List Nat × List Nat} (h2 : 2 ≤ n) (h8 : n ≤ 8) (p : isPerm g.1 n) : isMin n g (can n g) := by
  have hn : 0 < n := by omega
  obtain ⟨⟨u, hu, e⟩, h⟩ := cS_spec (n := n) (g := g) (n - 1)
  refine ⟨⟨vz n g.1 u, u, vz_lt hn, by omega, e⟩, fun v w hv hw => Nat.le_trans (h w (by omega)) (cand_le hn h8 p hv hw)⟩
/-- The least among the shifts met, in the order of the program's loops. -/
def minUp (n v u : Nat) (g c : List Nat × List Nat) : Prop :=
  (∃ v u, v < n ∧ u < n ∧ c = rolG n v u g) ∧ ∀ v' u', (v' < v ∨ v' = v ∧ u' < u) → u' < n → keyP c ≤ keyP (rolG n v' u' g)
theorem minUp_start {n : Nat} {X O : List Nat} (g : okG (n : Int) X O) (lX : X.length = 8) (lO : O.length = 8) : minUp n 0 0 (X, O) (X, O) := by
  obtain ⟨⟨h2, h8⟩, pX, pO, hne⟩ := g
  simp only [Int.toNat_natCast] at pX pO
  refine ⟨⟨0, 0, by omega, by omega, ?_⟩, fun v' u' h => by omega⟩
  rw [rolG, rol_zero (by omega) (by omega) pX lX, rol_zero (by omega) (by omega) pO lO]
theorem minUp_row {n v : Nat} {g c : List Nat × List Nat} (h : minUp n v n g c) : minUp n (v + 1) 0 g c :=
  ⟨h.1, fun v' u' hv hu => h.2 v' u' (by omega) hu⟩
theorem minUp_take {n v u : Nat} {g c : List Nat × List Nat} (h : minUp n v u g c) (hv : v < n) (hu : u < n) (hlt : keyP (rolG n v u g) < keyP c) : minUp n v (u + 1) g (rolG n v u g) :=
  ⟨⟨v, u, hv, hu, rfl⟩, fun v' u' hvu hu' => by
    by_cases e : v' = v ∧ u' = u
    · rw [e.1, e.2]; exact Nat.le_refl _
    · exact Nat.le_trans (Nat.le_of_lt hlt) (h.2 v' u' (by omega) hu')⟩
theorem minUp_leave {n v u : Nat} {g c : List Nat × List Nat} (h : minUp n v u g c) (hlt : ¬ keyP (rolG n v u g) < keyP c) : minUp n v (u + 1) g c :=
  ⟨h.1, fun v' u' hvu hu' => by
    by_cases e : v' = v ∧ u' = u
    · rw [e.1, e.2]; omega
    · exact h.2 v' u' (by omega) hu'⟩
theorem minUp_end {n : Nat} {g c : List Nat × List Nat} (h2 : 2 ≤ n) (h8 : n ≤ 8) (p : isPerm g.1 n) (h : minUp n n 0 g c) : c = can n g :=
  isMin_unique h2 h8 ⟨h.1, fun v u hv hu => h.2 v u (by omega) hu⟩ (can_min h2 h8 p)
theorem minUp_ok {n v u : Nat} {X O Y U : List Nat} (g : okG (n : Int) X O) (h : minUp n v u (X, O) (Y, U)) : okG (n : Int) Y U ∧ isB Y ∧ isB U := by
  obtain ⟨⟨v', u', _, _, e⟩, _⟩ := h
  have hn := g.1
  rw [rolG] at e
  obtain ⟨rfl, rfl⟩ := Prod.mk.injEq .. ▸ e
  exact ⟨okG_rol g, isB_rol (by omega) (by omega), isB_rol (by omega) (by omega)⟩
theorem cS_ok {n k : Nat} {X O : List Nat} (g : okG (n : Int) X O) : okG (n : Int) (cS n (X, O) k).1 (cS n (X, O) k).2 ∧ isB (cS n (X, O) k).1 ∧ isB (cS n (X, O) k).2 := by
  obtain ⟨⟨u, hu, e⟩, _⟩ := cS_spec (n := n) (g := (X, O)) k
  have hn := g.1
  rw [e]
  exact ⟨okG_rol g, isB_rol (by omega) (by omega), isB_rol (by omega) (by omega)⟩
theorem key_app : ∀ (l m : List Nat), key (l ++ m) = key l * 256 ^ m.length + key m
  | [], m => by simp [key]
  | x :: l, m => by
    rw [List.cons_append, key, key_app l m, key, List.length_append, Nat.pow_add, Nat.add_mul, Nat.mul_assoc, Nat.add_assoc]
theorem keyG_eq {X O : List Nat} (lO : O.length = 8) : keyG X O = key X * 18446744073709551616 + key O := by
  rw [keyG, key_app, lO]
theorem key_bd {X : List Nat} (b : isB X) : key X < 18446744073709551616 := by
  have := key_lt b.mem
  rw [b.1] at this
  exact this
theorem cmpG_lt {n : Int} {X O Y U : List Nat} (bX : isB X) (bO : isB O) (bY : isB Y) (bU : isB U) : cmpG n n X O Y U < 0 ↔ keyG X O < keyG Y U := by
  rw [keyG_eq bO.1, keyG_eq bU.1, cmpG, cmpL, cmpL, cmp3_self]
  have h1 := key_bd bO
  have h2 := key_bd bU
  generalize key X = a, key Y = b, key O = c, key U = d at *
  simp only [orL, List.find?, ne_eq, not_true_eq_false, decide_false]
  unfold cmp3
  rcases Nat.lt_trichotomy a b with h | h | h
  · rw [if_pos (show (a : Int) < b by omega)]; simp; omega
  · subst h
    rw [if_neg (show ¬ (a : Int) < a by omega), if_neg (show ¬ (a : Int) < a by omega)]
    rcases Nat.lt_trichotomy c d with h | h | h
    · rw [if_pos (show (c : Int) < d by omega)]; simp; omega
    · subst h
      rw [if_neg (show ¬ (c : Int) < c by omega), if_neg (show ¬ (c : Int) < c by omega)]; simp
    · rw [if_neg (show ¬ (c : Int) < d by omega), if_pos (show (d : Int) < c by omega)]; simp; omega
  · rw [if_neg (show ¬ (a : Int) < b by omega), if_pos (show (b : Int) < a by omega)]; simp; omega
end Go.Proofs.Ytflleelfkknfaaa
