/- Plain laws: shifted lists, their keys, the least one. Plain laws: shifted grids are grids; the least of all shifts. -/
import Derived.Test.YtflleelfkknfaaaWC
namespace Go.Proofs.Ytflleelfkknfaaa
/-- A list shifted, after k marks. -/
def rol (n v u : Nat) (X : List Nat) : Nat → List Nat
  | 0 => Z8
  | k + 1 => (rol n v u X k).set ((k + u) % n) ((X.getD k 0 + v) % n)
theorem rol_len (n v u : Nat) (X : List Nat) : ∀ k, (rol n v u X k).length = 8
  | 0 => rfl
  | k + 1 => by simp [rol, rol_len n v u X k]
theorem rol_get {n v u : Nat} {X : List Nat} (hn : 0 < n) (h8 : n ≤ 8) (i : Nat) : ∀ k, k ≤ n → (rol n v u X k).getD i 0 = if ∃ j, j < k ∧ (j + u) % n = i then (X.getD ((i + n - u % n) % n) 0 + v) % n else 0
  | 0, _ => by
    rw [if_neg (by rintro ⟨j, hj, _⟩; omega)]
    show (List.replicate 8 0).getD i 0 = 0
    rw [List.getD_eq_getElem?_getD, List.getElem?_replicate]
    split <;> rfl
  | k + 1, hk => by
    have hm : (k + u) % n < n := Nat.mod_lt _ hn
    rw [rol, set_getD (by rw [rol_len]; omega), rol_get hn h8 i k (by omega)]
    by_cases e : i = (k + u) % n
    · rw [if_pos e, if_pos ⟨k, by omega, e.symm⟩]
      have : (i + n - u % n) % n = k := by
        have hu : u % n < n := Nat.mod_lt _ hn
        subst e
        rw [Nat.add_mod, Nat.mod_eq_of_lt (show k < n by omega)]
        generalize u % n = u' at hu
        by_cases h : k + u' < n
        · rw [Nat.mod_eq_of_lt h, show k + u' + n - u' = k + n by omega, Nat.add_mod_right, Nat.mod_eq_of_lt (by omega)]
        · rw [show (k + u') % n = k + u' - n by rw [Nat.mod_eq_sub_mod (by omega), Nat.mod_eq_of_lt (by omega)], show k + u' - n + n - u' = k by omega, Nat.mod_eq_of_lt (by omega)]
      rw [this]
    · rw [if_neg e]
      by_cases h : ∃ j, j < k ∧ (j + u) % n = i
      · obtain ⟨j, hj, hji⟩ := h
        rw [if_pos ⟨j, hj, hji⟩, if_pos ⟨j, by omega, hji⟩]
      · rw [if_neg h, if_neg]
        rintro ⟨j, hj, hji⟩
        exact h ⟨j, by
          by_cases ejk : j = k
          · exact absurd (by rw [← hji, ejk]) e
          · omega, hji⟩
/-- The key of a list of bytes: greater lists have greater keys. -/
def key : List Nat → Nat
  | [] => 0
  | x :: l => x * 256 ^ l.length + key l
theorem key_lt {l : List Nat} (h : ∀ x ∈ l, x < 256) : key l < 256 ^ l.length := by
  induction l with
  | nil => simp [key]
  | cons x l ih =>
    have hx := h x List.mem_cons_self
    have hl := ih fun y hy => h y (List.mem_cons_of_mem _ hy)
    rw [key, List.length_cons, Nat.pow_succ]
    have : x * 256 ^ l.length + 256 ^ l.length ≤ 256 * 256 ^ l.length := by
      rw [← Nat.succ_mul]; exact Nat.mul_le_mul_right _ hx
    rw [Nat.mul_comm (256 ^ l.length) 256]
    omega
theorem key_inj : ∀ {l m : List Nat}, l.length = m.length → (∀ x ∈ l, x < 256) → (∀ x ∈ m, x < 256) → key l = key m → l = m
  | [], [], _, _, _, _ => rfl
  | x :: l, y :: m, hlen, hl, hm, hk => by
    have e : l.length = m.length := by simpa using hlen
    have k1 := key_lt fun z hz => hl z (List.mem_cons_of_mem _ hz)
    have k2 := key_lt fun z hz => hm z (List.mem_cons_of_mem _ hz)
    simp only [key] at hk
    rw [← e] at hk k2
    have hp : 0 < 256 ^ l.length := Nat.pow_pos (by decide)
    have hxy : x = y := by
      have h1 : (x * 256 ^ l.length + key l) / 256 ^ l.length = x := by rw [Nat.mul_comm, Nat.mul_add_div hp, Nat.div_eq_of_lt k1, Nat.add_zero]
      have h2 : (y * 256 ^ l.length + key m) / 256 ^ l.length = y := by rw [Nat.mul_comm, Nat.mul_add_div hp, Nat.div_eq_of_lt k2, Nat.add_zero]
      rw [← h1, ← h2, hk]
    subst hxy
    rw [key_inj e (fun z hz => hl z (List.mem_cons_of_mem _ hz)) (fun z hz => hm z (List.mem_cons_of_mem _ hz)) (by omega)]
/-- The first difference decides. -/
theorem key_first : ∀ {l m : List Nat} {i : Nat}, l.length = m.length → (∀ x ∈ l, x < 256) → (∀ x ∈ m, x < 256) → i < l.length → (∀ j, j < i → l.getD j 0 = m.getD j 0) → l.getD i 0 < m.getD i 0 → key l < key m
  | [], _, _, _, _, _, hi, _, _ => by simp at hi
  | x :: l, [], _, hlen, _, _, _, _, _ => by simp at hlen
  | x :: l, y :: m, 0, hlen, hl, hm, _, _, hlt => by
    have e : l.length = m.length := by simpa using hlen
    have k1 := key_lt fun z hz => hl z (List.mem_cons_of_mem _ hz)
    have hxy : x < y := by simpa using hlt
    simp only [key, ← e]
    have : x * 256 ^ l.length + 256 ^ l.length ≤ y * 256 ^ l.length := by rw [← Nat.succ_mul]; exact Nat.mul_le_mul_right _ hxy
    omega
  | x :: l, y :: m, i + 1, hlen, hl, hm, hi, hpre, hlt => by
    have e : l.length = m.length := by simpa using hlen
    have hxy : x = y := by simpa using hpre 0 (by omega)
    have := key_first (i := i) e (fun z hz => hl z (List.mem_cons_of_mem _ hz)) (fun z hz => hm z (List.mem_cons_of_mem _ hz)) (by simpa using hi) (fun j hj => by simpa using hpre (j + 1) (by omega)) (by simpa using hlt)
    subst hxy
    simp only [key, ← e]
    omega
end Go.Proofs.Ytflleelfkknfaaa
namespace Go.Proofs.Ytflleelfkknfaaa
theorem addmod {n x v : Nat} (hx : x < n) : (x + v) % n = if x + v % n < n then x + v % n else x + v % n - n := by
  have hv : v % n < n := Nat.mod_lt _ (by omega)
  rw [Nat.add_mod, Nat.mod_eq_of_lt hx]
  split
  · rename_i h; exact Nat.mod_eq_of_lt h
  · rename_i h; rw [Nat.mod_eq_sub_mod (by omega), Nat.mod_eq_of_lt (by omega)]
theorem addmod_inj {n x y v : Nat} (hx : x < n) (hy : y < n) (h : (x + v) % n = (y + v) % n) : x = y := by
  have hv : v % n < n := Nat.mod_lt _ (by omega)
  rw [addmod hx, addmod hy] at h
  split at h <;> split at h <;> omega
theorem back_lt {n u i : Nat} (hn : 0 < n) : (i + n - u % n) % n < n := Nat.mod_lt _ hn
theorem back_to {n u i : Nat} (hn : 0 < n) (hi : i < n) : ((i + n - u % n) % n + u) % n = i := by
  have hu := Nat.mod_lt u hn
  rw [Nat.mod_add_mod]
  have h1 := Nat.mod_add_div u n
  have : i + n - u % n + u = i + n * (1 + u / n) := by rw [Nat.mul_add, Nat.mul_one]; omega
  rw [this, Nat.add_mul_mod_self_left, Nat.mod_eq_of_lt hi]
theorem rol_at {n v u : Nat} {X : List Nat} (hn : 0 < n) (h8 : n ≤ 8) {i : Nat} (hi : i < n) : (rol n v u X n).getD i 0 = (X.getD ((i + n - u % n) % n) 0 + v) % n := by
  rw [rol_get hn h8 i n (Nat.le_refl _), if_pos ⟨(i + n - u % n) % n, Nat.mod_lt _ hn, back_to hn hi⟩]
theorem rol_out {n v u : Nat} {X : List Nat} (hn : 0 < n) (h8 : n ≤ 8) {i : Nat} (hi : n ≤ i) : (rol n v u X n).getD i 0 = 0 := by
  rw [rol_get hn h8 i n (Nat.le_refl _), if_neg]
  rintro ⟨j, _, h⟩
  have := Nat.mod_lt (j + u) hn
  omega
/-- Where a column of a shifted list comes from. -/
theorem rol_to {n v u : Nat} {X : List Nat} (hn : 0 < n) (h8 : n ≤ 8) {j : Nat} (hj : j < n) : (rol n v u X n).getD ((j + u) % n) 0 = (X.getD j 0 + v) % n := by
  have hm : (j + u) % n < n := Nat.mod_lt _ hn
  rw [rol_at hn h8 hm]
  have := addmod_inj (v := u) (back_lt (u := u) (i := (j + u) % n) hn) hj (back_to hn hm)
  rw [this]
theorem isPerm_rol {n v u : Nat} {X : List Nat} (h2 : 2 ≤ n) (h8 : n ≤ 8) (p : isPerm X n) : isPerm (rol n v u X n) n := by
  have hn : 0 < n := by omega
  refine ⟨fun j hj => ?_, fun j k hj hk e => ?_, fun j hj => rol_out hn h8 hj⟩
  · rw [rol_at hn h8 hj]; exact Nat.mod_lt _ hn
  · rw [rol_at hn h8 hj, rol_at hn h8 hk] at e
    have e1 := addmod_inj (p.1 _ (back_lt hn)) (p.1 _ (back_lt hn)) e
    have e2 := p.2.1 _ _ (back_lt hn) (back_lt hn) e1
    have e3 := back_to (u := u) hn hj
    rw [e2, back_to hn hk] at e3
    exact e3.symm
theorem isB_rol {n v u : Nat} {X : List Nat} (hn : 0 < n) (h8 : n ≤ 8) : isB (rol n v u X n) := by
  refine ⟨rol_len n v u X n, fun i => ?_⟩
  by_cases hi : i < n
  · rw [rol_at hn h8 hi]
    have := Nat.mod_lt (X.getD ((i + n - u % n) % n) 0 + v) hn
    omega
  · rw [rol_out hn h8 (by omega)]; omega
theorem okG_rol {n v u : Nat} {X O : List Nat} (g : okG (n : Int) X O) : okG (n : Int) (rol n v u X n) (rol n v u O n) := by
  obtain ⟨⟨h2, h8⟩, pX, pO, hne⟩ := g
  simp only [Int.toNat_natCast] at pX pO hne
  have hn : 0 < n := by omega
  refine okG_loop (by omega) (by omega) (isPerm_rol (by omega) (by omega) pX) (isPerm_rol (by omega) (by omega) pO) fun i hi e => ?_
  rw [rol_at hn (by omega) hi, rol_at hn (by omega) hi] at e
  exact hne _ (back_lt hn) (addmod_inj (pX.1 _ (back_lt hn)) (pO.1 _ (back_lt hn)) e)
theorem rol_zero {n : Nat} {X : List Nat} (h2 : 2 ≤ n) (h8 : n ≤ 8) (p : isPerm X n) (lX : X.length = 8) : rol n 0 0 X n = X := by
  have hn : 0 < n := by omega
  refine list8_ext lX (rol_len n 0 0 X n) fun i _ => ?_
  by_cases h : i < n
  · rw [rol_at hn h8 h, Nat.zero_mod, Nat.sub_zero, Nat.add_mod_right, Nat.mod_eq_of_lt h, Nat.add_zero, Nat.mod_eq_of_lt (p.1 i h)]
  · rw [rol_out hn h8 (by omega), p.2.2 i (by omega)]
end Go.Proofs.Ytflleelfkknfaaa
