/- Plain laws: shifted lists, their keys, the least one. Plain laws: shifted grids are grids; the least of all shifts. -/
import Derived.Test.YtmbbcmebdefggaaGreatDoorWC
namespace Go.Proofs.YtmbbcmebdefggaaGreatDoor
/-- The key of a list of bytes: greater lists have greater keys. -/
def key : List Nat → Nat
  | [] => 0
  | x :: l => x * 256 ^ l.length + key l
theorem key_lt {l : List Nat} (h : ∀ x ∈ l, x < 256) : key l < 256 ^ l.length := by
  induction l with
  | nil => simp [key]
  | cons x l ih =>
    have hx := h x List.mem_cons_self
    have hl := ih fun y hy => h y (List.mem_cons_of_mem _ hy)
    rw [key, List.length_cons, Nat.pow_succ]
    have : x * 256 ^ l.length + 256 ^ l.length ≤ 256 * 256 ^ l.length := by
      rw [← Nat.succ_mul]; exact Nat.mul_le_mul_right _ hx
    rw [Nat.mul_comm (256 ^ l.length) 256]
    omega
theorem key_inj : ∀ {l m : List Nat}, l.length = m.length → (∀ x ∈ l, x < 256) → (∀ x ∈ m, x < 256) → key l = key m → l = m
  | [], [], _, _, _, _ => rfl
  | x :: l, y :: m, hlen, hl, hm, hk => by
    have e : l.length = m.length := by simpa using hlen
    have k1 := key_lt fun z hz => hl z (List.mem_cons_of_mem _ hz)
    have k2 := key_lt fun z hz => hm z (List.mem_cons_of_mem _ hz)
    simp only [key] at hk
    rw [← e] at hk k2
    have hp : 0 < 256 ^ l.length := Nat.pow_pos (by decide)
    have hxy : x = y := by
      have h1 : (x * 256 ^ l.length + key l) / 256 ^ l.length = x := by rw [Nat.mul_comm, Nat.mul_add_div hp, Nat.div_eq_of_lt k1, Nat.add_zero]
      have h2 : (y * 256 ^ l.length + key m) / 256 ^ l.length = y := by rw [Nat.mul_comm, Nat.mul_add_div hp, Nat.div_eq_of_lt k2, Nat.add_zero]
      rw [← h1, ← h2, hk]
    subst hxy
    rw [key_inj e (fun z hz => hl z (List.mem_cons_of_mem _ hz)) (fun z hz => hm z (List.mem_cons_of_mem _ hz)) (by omega)]
/-- The first difference decides. -/
theorem key_first : ∀ {l m : List Nat} {i : Nat}, l.length = m.length → (∀ x ∈ l, x < 256) → (∀ x ∈ m, x < 256) → i < l.length → (∀ j, j < i → l.getD j 0 = m.getD j 0) → l.getD i 0 < m.getD i 0 → key l < key m
  | [], _, _, _, _, _, hi, _, _ => by simp at hi
  | x :: l, [], _, hlen, _, _, _, _, _ => by simp at hlen
  | x :: l, y :: m, 0, hlen, hl, hm, _, _, hlt => by
    have e : l.length = m.length := by simpa using hlen
    have k1 := key_lt fun z hz => hl z (List.mem_cons_of_mem _ hz)
    have hxy : x < y := by simpa using hlt
    simp only [key, ← e]
    have : x * 256 ^ l.length + 256 ^ l.length ≤ y * 256 ^ l.length := by rw [← Nat.succ_mul]; exact Nat.mul_le_mul_right _ hxy
    omega
  | x :: l, y :: m, i + 1, hlen, hl, hm, hi, hpre, hlt => by
    have e : l.length = m.length := by simpa using hlen
    have hxy : x = y := by simpa using hpre 0 (by omega)
    have := key_first (i := i) e (fun z hz => hl z (List.mem_cons_of_mem _ hz)) (fun z hz => hm z (List.mem_cons_of_mem _ hz)) (by simpa using hi) (fun j hj => by simpa using hpre (j + 1) (by omega)) (by simpa using hlt)
    subst hxy
    simp only [key, ← e]
    omega
end Go.Proofs.YtmbbcmebdefggaaGreatDoor
namespace Go.Proofs.YtmbbcmebdefggaaGreatDoor
theorem addmod {n x v : Nat} (hx : x < n) : (x + v) % n = if x + v % n < n then x + v % n else x + v % n - n := by
  have hv : v % n < n := Nat.mod_lt _ (by omega)
  rw [Nat.add_mod, Nat.mod_eq_of_lt hx]
  split
  · rename_i h; exact Nat.mod_eq_of_lt h
  · rename_i h; rw [Nat.mod_eq_sub_mod (by omega), Nat.mod_eq_of_lt (by omega)]
theorem addmod_inj {n x y v : Nat} (hx : x < n) (hy : y < n) (h : (x + v) % n = (y + v) % n) : x = y := by
  have hv : v % n < n := Nat.mod_lt _ (by omega)
  rw [addmod hx, addmod hy] at h
  split at h <;> split at h <;> omega
theorem back_lt {n u i : Nat} (hn : 0 < n) : (i + n - u % n) % n < n := Nat.mod_lt _ hn
theorem back_to {n u i : Nat} (hn : 0 < n) (hi : i < n) : ((i + n - u % n) % n + u) % n = i := by
  have hu := Nat.mod_lt u hn
  rw [Nat.mod_add_mod]
  have h1 := Nat.mod_add_div u n
  have : i + n - u % n + u = i + n * (1 + u / n) := by rw [Nat.mul_add, Nat.mul_one]; omega
  rw [this, Nat.add_mul_mod_self_left, Nat.mod_eq_of_lt hi]
end Go.Proofs.YtmbbcmebdefggaaGreatDoor
