/- Plain laws: mosaics that are closed, told in two ways. -/
import Derived.Test.YthijakignhjmgaaPE
namespace Go.Proofs.Ythijakignhjmgaa
def okM (n : Int) (T : List Nat) : Prop := (2 ≤ n ∧ n ≤ 8) ∧ ∀ k, k < 64 → T.getD k 0 ≤ 7 ∧ (n * n ≤ k → T.getD k 0 = 0)
/-- The ends of a tile: 0 up, 1 right, 2 down, 3 left. -/
def endS (t s : Nat) : Bool := match t with
  | 1 => s == 0 || s == 1
  | 2 => s == 0 || s == 3
  | 3 => s == 2 || s == 1
  | 4 => s == 2 || s == 3
  | 5 => s == 1 || s == 3
  | 6 => s == 0 || s == 2
  | 7 => true
  | _ => false
def tl (n : Nat) (T : List Nat) (r i : Int) : Nat := if 0 ≤ r ∧ r ≤ (n : Int) - 1 ∧ 0 ≤ i ∧ i ≤ (n : Int) - 1 then T.getD (n * r.toNat + i.toNat) 0 else 0
def drs (s : Nat) : Int := if s = 0 then 1 else if s = 2 then -1 else 0
def dcs (s : Nat) : Int := if s = 1 then 1 else if s = 3 then -1 else 0
def cellS (n : Nat) (T : List Nat) (r i s : Nat) : Prop := endS (tl n T r i) s = true → endS (tl n T (r + drs s) (i + dcs s)) ((s + 2) % 4) = true
def closS (n : Nat) (T : List Nat) : Prop := ∀ r i s, r < n → i < n → s < 4 → cellS n T r i s
def cellI (n : Nat) (T : List Nat) (r i : Int) : Prop := endS (tl n T r i) 0 = endS (tl n T (r + 1) i) 2 ∧ endS (tl n T r i) 1 = endS (tl n T r (i + 1)) 3
def closI (n : Nat) (T : List Nat) : Prop := ∀ r i : Int, -1 ≤ r → r ≤ n → -1 ≤ i → i ≤ n → cellI n T r i
theorem end_in {n : Nat} {T : List Nat} {r i : Int} {s : Nat} (h : endS (tl n T r i) s = true) : ∃ a b : Nat, a < n ∧ b < n ∧ r = a ∧ i = b := by
  unfold tl at h
  split at h
  · rename_i k; exact ⟨r.toNat, i.toNat, by omega, by omega, by omega, by omega⟩
  · cases h
theorem tl_le {n : Nat} {T : List Nat} {r i : Int} (h : okM n T) : tl n T r i < 8 := by
  unfold tl
  split
  · rename_i k
    have hlt := rc_lt (n := n) (r := r.toNat) (i := i.toNat) (by omega) (by omega)
    have h64 := nn_le (n := n) (by have := h.1; omega)
    have := (h.2 (n * r.toNat + i.toNat) (by omega)).1
    omega
  · omega
theorem tl_at {n r i : Nat} {T : List Nat} (hr : r < n) (hi : i < n) : tl n T r i = T.getD (n * r + i) 0 := by
  rw [tl, if_pos (by omega), Int.toNat_natCast, Int.toNat_natCast]
theorem tl_out {n : Nat} {T : List Nat} {r i : Int} (h : ¬ (0 ≤ r ∧ r ≤ (n : Int) - 1 ∧ 0 ≤ i ∧ i ≤ (n : Int) - 1)) : tl n T r i = 0 := if_neg h
theorem clos_iff {n : Nat} {T : List Nat} : closI n T ↔ closS n T := by
  constructor
  · intro h r i s hr hi hs k
    obtain rfl | rfl | rfl | rfl : s = 0 ∨ s = 1 ∨ s = 2 ∨ s = 3 := by omega
    · have := (h r i (by omega) (by omega) (by omega) (by omega)).1
      show endS (tl n T ((r : Int) + 1) ((i : Int) + 0)) 2 = true
      rw [Int.add_zero, ← this]; exact k
    · have := (h r i (by omega) (by omega) (by omega) (by omega)).2
      show endS (tl n T ((r : Int) + 0) ((i : Int) + 1)) 3 = true
      rw [Int.add_zero, ← this]; exact k
    · have := (h ((r : Int) + -1) i (by omega) (by omega) (by omega) (by omega)).1
      show endS (tl n T ((r : Int) + -1) ((i : Int) + 0)) 0 = true
      rw [Int.add_zero, this, show (r : Int) + -1 + 1 = r by omega]; exact k
    · have := (h r ((i : Int) + -1) (by omega) (by omega) (by omega) (by omega)).2
      show endS (tl n T ((r : Int) + 0) ((i : Int) + -1)) 1 = true
      rw [Int.add_zero, this, show (i : Int) + -1 + 1 = i by omega]; exact k
  · intro h r i _ _ _ _
    have b4 : ∀ {a b : Bool}, (a = true → b = true) → (b = true → a = true) → a = b := fun {a b} x y => by
      cases a <;> cases b <;> simp_all
    refine ⟨b4 (fun k => ?_) (fun k => ?_), b4 (fun k => ?_) (fun k => ?_)⟩
    · obtain ⟨a, b, ha, hb, rfl, rfl⟩ := end_in k
      have := h a b 0 ha hb (by omega) k
      have e : tl n T ((a : Int) + 1) ((b : Int) + 0) = tl n T ((a : Int) + 1) b := by rw [Int.add_zero]
      rw [← e]; exact this
    · obtain ⟨a, b, ha, hb, e1, rfl⟩ := end_in k
      rw [e1] at k
      have := h a b 2 ha hb (by omega) k
      have e : tl n T ((a : Int) + -1) ((b : Int) + 0) = tl n T r b := by rw [Int.add_zero, show (a : Int) + -1 = r by omega]
      rw [← e]; exact this
    · obtain ⟨a, b, ha, hb, rfl, rfl⟩ := end_in k
      have := h a b 1 ha hb (by omega) k
      have e : tl n T ((a : Int) + 0) ((b : Int) + 1) = tl n T a ((b : Int) + 1) := by rw [Int.add_zero]
      rw [← e]; exact this
    · obtain ⟨a, b, ha, hb, rfl, e1⟩ := end_in k
      rw [e1] at k
      have := h a b 3 ha hb (by omega) k
      have e : tl n T ((a : Int) + 0) ((b : Int) + -1) = tl n T a i := by rw [Int.add_zero, show (b : Int) + -1 = i by omega]
      rw [← e]; exact this
end Go.Proofs.Ythijakignhjmgaa
