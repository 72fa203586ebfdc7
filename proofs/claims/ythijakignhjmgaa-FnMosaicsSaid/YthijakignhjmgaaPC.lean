/- Plain laws: shifted lists, their keys, the least one. Plain laws: shifted grids are grids; the least of all shifts. -/
import Derived.Test.YthijakignhjmgaaWC
namespace Go.Proofs.Ythijakignhjmgaa
/-- A list shifted, after k marks. -/
def rol (n v u : Nat) (X : List Nat) : Nat → List Nat
  | 0 => Z8
  | k + 1 => (rol n v u X k).set ((k + u) % n) ((X.getD k 0 + v) % n)
theorem rol_len (n v u : Nat) (X : List Nat) : ∀ k, (rol n v u X k).length = 8
  | 0 => rfl
  | k + 1 => by simp [rol, rol_len n v u X k]
theorem rol_get {n v u : Nat} {X : List Nat} (hn : 0 < n) (h8 : n ≤ 8) (i : Nat) : ∀ k, k ≤ n → (rol n v u X k).getD i 0 = if ∃ j, j < k ∧ (j + u) % n = i then (X.getD ((i + n - u % n) % n) 0 + v) % n else 0
  | 0, _ => by
    rw [if_neg (by rintro ⟨j, hj, _⟩; omega)]
    show (List.replicate 8 0).getD i 0 = 0
    rw [List.getD_eq_getElem?_getD, List.getElem?_replicate]
    split <;> rfl
  | k + 1, hk => by
    have hm : (k + u) % n < n := Nat.mod_lt _ hn
    rw [rol, set_getD (by rw [rol_len]; omega), rol_get hn h8 i k (by omega)]
    by_cases e : i = (k + u) % n
    · rw [if_pos e, if_pos ⟨k, by omega, e.symm⟩]
      have : (i + n - u % n) % n = k := by
        have hu : u % n < n := Nat.mod_lt _ hn
        subst e
        rw [Nat.add_mod, Nat.mod_eq_of_lt (show k < n by omega)]
        generalize u % n = u' at hu
        by_cases h : k + u' < n
        · rw [Nat.mod_eq_of_lt h, show k + u' + n - u' = k + n by omega, Nat.add_mod_right, Nat.mod_eq_of_lt (by omega)]
        · rw [show (k + u') % n = k + u' - n by rw [Nat.mod_eq_sub_mod (by omega), Nat.mod_eq_of_lt (by omega)], show k + u' - n + n - u' = k by omega, Nat.mod_eq_of_lt (by omega)]
      rw [this]
    · rw [if_neg e]
      by_cases h : ∃ j, j < k ∧ (j + u) % n = i
      · obtain ⟨j, hj, hji⟩ := h
        rw [if_pos ⟨j, hj, hji⟩, if_pos ⟨j, by omega, hji⟩]
      · rw [if_neg h, if_neg]
        rintro ⟨j, hj, hji⟩
        exact h ⟨j, by
          by_cases ejk : j = k
          · exact absurd (by rw [← hji, ejk]) e
          · omega, hji⟩
end Go.Proofs.Ythijakignhjmgaa
namespace Go.Proofs.Ythijakignhjmgaa
theorem addmod {n x v : Nat} (hx : x < n) : (x + v) % n = if x + v % n < n then x + v % n else x + v % n - n := by
  have hv : v % n < n := Nat.mod_lt _ (by omega)
  rw [Nat.add_mod, Nat.mod_eq_of_lt hx]
  split
  · rename_i h; exact Nat.mod_eq_of_lt h
  · rename_i h; rw [Nat.mod_eq_sub_mod (by omega), Nat.mod_eq_of_lt (by omega)]
theorem addmod_inj {n x y v : Nat} (hx : x < n) (hy : y < n) (h : (x + v) % n = (y + v) % n) : x = y := by
  have hv : v % n < n := Nat.mod_lt _ (by omega)
  rw [addmod hx, addmod hy] at h
  split at h <;> split at h <;> omega
theorem back_lt {n u i : Nat} (hn : 0 < n) : (i + n - u % n) % n < n := Nat.mod_lt _ hn
theorem back_to {n u i : Nat} (hn : 0 < n) (hi : i < n) : ((i + n - u % n) % n + u) % n = i := by
  have hu := Nat.mod_lt u hn
  rw [Nat.mod_add_mod]
  have h1 := Nat.mod_add_div u n
  have : i + n - u % n + u = i + n * (1 + u / n) := by rw [Nat.mul_add, Nat.mul_one]; omega
  rw [this, Nat.add_mul_mod_self_left, Nat.mod_eq_of_lt hi]
theorem rol_at {n v u : Nat} {X : List Nat} (hn : 0 < n) (h8 : n ≤ 8) {i : Nat} (hi : i < n) : (rol n v u X n).getD i 0 = (X.getD ((i + n - u % n) % n) 0 + v) % n := by
  rw [rol_get hn h8 i n (Nat.le_refl _), if_pos ⟨(i + n - u % n) % n, Nat.mod_lt _ hn, back_to hn hi⟩]
theorem rol_out {n v u : Nat} {X : List Nat} (hn : 0 < n) (h8 : n ≤ 8) {i : Nat} (hi : n ≤ i) : (rol n v u X n).getD i 0 = 0 := by
  rw [rol_get hn h8 i n (Nat.le_refl _), if_neg]
  rintro ⟨j, _, h⟩
  have := Nat.mod_lt (j + u) hn
  omega
theorem isPerm_rol {n v u : Nat} {X : List Nat} (h2 : 2 ≤ n) (h8 : n ≤ 8) (p : isPerm X n) : isPerm (rol n v u X n) n := by
  have hn : 0 < n := by omega
  refine ⟨fun j hj => ?_, fun j k hj hk e => ?_, fun j hj => rol_out hn h8 hj⟩
  · rw [rol_at hn h8 hj]; exact Nat.mod_lt _ hn
  · rw [rol_at hn h8 hj, rol_at hn h8 hk] at e
    have e1 := addmod_inj (p.1 _ (back_lt hn)) (p.1 _ (back_lt hn)) e
    have e2 := p.2.1 _ _ (back_lt hn) (back_lt hn) e1
    have e3 := back_to (u := u) hn hj
    rw [e2, back_to hn hk] at e3
    exact e3.symm
theorem isB_rol {n v u : Nat} {X : List Nat} (hn : 0 < n) (h8 : n ≤ 8) : isB (rol n v u X n) := by
  refine ⟨rol_len n v u X n, fun i => ?_⟩
  by_cases hi : i < n
  · rw [rol_at hn h8 hi]
    have := Nat.mod_lt (X.getD ((i + n - u % n) % n) 0 + v) hn
    omega
  · rw [rol_out hn h8 (by omega)]; omega
theorem okG_rol {n v u : Nat} {X O : List Nat} (g : okG (n : Int) X O) : okG (n : Int) (rol n v u X n) (rol n v u O n) := by
  obtain ⟨⟨h2, h8⟩, pX, pO, hne⟩ := g
  simp only [Int.toNat_natCast] at pX pO hne
  have hn : 0 < n := by omega
  refine okG_loop (by omega) (by omega) (isPerm_rol (by omega) (by omega) pX) (isPerm_rol (by omega) (by omega) pO) fun i hi e => ?_
  rw [rol_at hn (by omega) hi, rol_at hn (by omega) hi] at e
  exact hne _ (back_lt hn) (addmod_inj (pX.1 _ (back_lt hn)) (pO.1 _ (back_lt hn)) e)
end Go.Proofs.Ythijakignhjmgaa
