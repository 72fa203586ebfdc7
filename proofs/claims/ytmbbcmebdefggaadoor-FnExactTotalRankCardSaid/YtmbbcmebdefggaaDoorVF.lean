/- Plain: sums modulo two over lists; two rectangles one after the other on small tori, by trying all. Plain: two rectangles one after the other: what leads from a state to another one comes in pairs. Plain: the pairs of rectangles from a state to another one cancel each other, whatever is asked of the cells that they cover. Plain: two rectangles that lead back: rows and columns of the torus. -/
import Derived.Test.YtmbbcmebdefggaaDoorFL
import Derived.Test.YtmbbcmebdefggaaDoorPG
namespace Go.Proofs.YtmbbcmebdefggaaDoor
section
variable {α β : Type}
/-- The sum modulo two over a list. -/
def xl (f : α → Bool) : List α → Bool
  | [] => false
  | x :: l => f x ^^ xl f l
theorem xl_cons (f : α → Bool) (x : α) (l : List α) : xl f (x :: l) = (f x ^^ xl f l) := rfl
theorem xl_app (f : α → Bool) : ∀ (l m : List α), xl f (l ++ m) = (xl f l ^^ xl f m)
  | [], m => by rw [List.nil_append, xl, Bool.false_xor]
  | x :: l, m => by rw [List.cons_append, xl, xl, xl_app f l m, Bool.xor_assoc]
theorem xl_congr {f g : α → Bool} : ∀ {l : List α}, (∀ x ∈ l, f x = g x) → xl f l = xl g l
  | [], _ => rfl
  | x :: l, h => by rw [xl, xl, h x List.mem_cons_self, xl_congr fun y hy => h y (List.mem_cons_of_mem _ hy)]
theorem xl_false : ∀ {l : List α} {f : α → Bool}, (∀ x ∈ l, f x = false) → xl f l = false
  | [], _, _ => rfl
  | x :: l, f, h => by rw [xl, h x List.mem_cons_self, xl_false fun y hy => h y (List.mem_cons_of_mem _ hy)]; rfl
theorem xl_xor (f g : α → Bool) : ∀ l : List α, xl (fun x => f x ^^ g x) l = (xl f l ^^ xl g l)
  | [] => rfl
  | x :: l => by
    rw [xl, xl, xl, xl_xor f g l]
    cases f x <;> cases g x <;> cases xl f l <;> cases xl g l <;> rfl
theorem xl_map (g : β → α) (f : α → Bool) : ∀ l : List β, xl f (l.map g) = xl (fun x => f (g x)) l
  | [] => rfl
  | x :: l => by rw [List.map_cons, xl, xl, xl_map g f l]
theorem xl_filter (p f : α → Bool) : ∀ l : List α, xl f (l.filter p) = xl (fun x => p x && f x) l
  | [] => rfl
  | x :: l => by
    rw [List.filter_cons, xl]
    cases h : p x
    · rw [if_neg (by simp), xl_filter p f l]; simp
    · rw [if_pos rfl, xl, xl_filter p f l]; simp
theorem xl_perm {f : α → Bool} {l m : List α} (h : List.Perm l m) : xl f l = xl f m := by
  induction h with
  | nil => rfl
  | cons x _ ih => rw [xl, xl, ih]
  | swap x y l =>
    rw [xl, xl, xl, xl, ← Bool.xor_assoc, ← Bool.xor_assoc, Bool.xor_comm (f x)]
  | trans _ _ h1 h2 => exact h1.trans h2
/-- Only one place counts. -/
theorem xl_one {f : α → Bool} : ∀ {l : List α} {c : α}, l.Nodup → c ∈ l → (∀ x ∈ l, x ≠ c → f x = false) → xl f l = f c
  | x :: l, c, hn, hc, h => by
    obtain ⟨h1, h2⟩ := List.nodup_cons.1 hn
    rcases List.mem_cons.1 hc with rfl | hc
    · rw [xl, xl_false fun y hy => h y (List.mem_cons_of_mem _ hy) fun e => h1 (e ▸ hy), Bool.xor_false]
    · rw [xl, h x List.mem_cons_self fun e => h1 (e ▸ hc), Bool.false_xor]
      exact xl_one h2 hc fun y hy => h y (List.mem_cons_of_mem _ hy)
/-- Only the places of a part count. -/
theorem xl_sub {f : α → Bool} {g : β → α} {l : List α} {m : List β} (hl : l.Nodup) (hm : (m.map g).Nodup) (hs : ∀ y ∈ m, g y ∈ l) (h : ∀ x ∈ l, x ∉ m.map g → f x = false) : xl f l = xl (fun y => f (g y)) m := by
  classical
  rw [← xl_map g f]
  have e1 : xl f l = xl f (l.filter fun x => decide (x ∈ m.map g)) := by
    rw [xl_filter]
    refine xl_congr fun x hx => ?_
    by_cases hx2 : x ∈ m.map g
    · simp [hx2]
    · rw [h x hx hx2]; simp
  rw [e1]
  refine xl_perm ((List.perm_ext_iff_of_nodup (hl.filter _) hm).2 fun x => ?_)
  rw [List.mem_filter, decide_eq_true_iff]
  refine ⟨fun k => k.2, fun k => ⟨?_, k⟩⟩
  obtain ⟨y, hy, rfl⟩ := List.mem_map.1 k
  exact hs y hy
end
/-! Rectangles on a torus, as functions. -/
/-- The way from a to b. -/
def dd (n a b : Nat) : Nat := if a ≤ b then b - a else b + n - a
/-- No other point inside. -/
def emB (n : Nat) (x : Nat → Nat) (a b : Nat) : Bool := (List.range n).all fun s => !(decide (0 < dd n a s) && (decide (dd n a s < dd n a b) && decide (dd n (x a) (x s) < dd n (x a) (x b))))
/-- A cell inside. -/
def cvB (n : Nat) (x : Nat → Nat) (a b s t : Nat) : Bool := decide (dd n a s < dd n a b) && decide (dd n (x a) t < dd n (x a) (x b))
end Go.Proofs.YtmbbcmebdefggaaDoor
namespace Go.Proofs.YtmbbcmebdefggaaDoor
/-! Places in between. -/
/-! What is exchanged. -/
theorem emB_iff {n : Nat} {x : Nat → Nat} {a b : Nat} : emB n x a b = true ↔ ∀ s, s < n → ¬ (0 < dd n a s ∧ dd n a s < dd n a b ∧ dd n (x a) (x s) < dd n (x a) (x b)) := by
  unfold emB
  simp only [List.all_eq_true, List.mem_range, Bool.not_eq_true', Bool.and_eq_false_imp, decide_eq_true_eq, decide_eq_false_iff_not]
  exact ⟨fun h s hs k => h s hs k.1 k.2.1 k.2.2, fun h s hs k1 k2 k3 => h s hs ⟨k1, k2, k3⟩⟩
theorem cvB_iff {n : Nat} {x : Nat → Nat} {a b s t : Nat} : cvB n x a b s t = true ↔ dd n a s < dd n a b ∧ dd n (x a) t < dd n (x a) (x b) := by
  unfold cvB
  rw [Bool.and_eq_true, decide_eq_true_eq, decide_eq_true_eq]
/-! From the torus to a small one. -/
section
variable {n m : Nat} {S R x P : Nat → Nat}
variable {κ κ' : Nat → Nat}
end
end Go.Proofs.YtmbbcmebdefggaaDoor
namespace Go.Proofs.YtmbbcmebdefggaaDoor
end Go.Proofs.YtmbbcmebdefggaaDoor
namespace Go.Proofs.YtmbbcmebdefggaaDoor
theorem dd_zero {n a b : Nat} (ha : a < n) (hb : b < n) : dd n a b = 0 ↔ a = b := by
  unfold dd
  split <;> omega
theorem dd_lt {n a b : Nat} (ha : a < n) (hb : b < n) : dd n a b < n := by
  unfold dd
  split <;> omega
section
variable {n : Nat} {x : Nat → Nat} {a b : Nat}
end
end Go.Proofs.YtmbbcmebdefggaaDoor
