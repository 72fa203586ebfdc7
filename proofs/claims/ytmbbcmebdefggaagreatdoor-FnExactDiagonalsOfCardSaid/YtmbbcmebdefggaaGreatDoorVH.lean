/- Plain: sums modulo two over lists; two rectangles one after the other on small tori, by trying all. Plain: two rectangles one after the other: what leads from a state to another one comes in pairs. Plain: the pairs of rectangles from a state to another one cancel each other, whatever is asked of the cells that they cover. Plain: two rectangles that lead back: rows and columns of the torus. Plain: how a rectangle changes the Maslov grading. Plain: spaces of functions with values modulo two: how many vectors there are, dimensions. Plain: cycles and boundaries in grades; operations that undo each other up to boundaries split the homology evenly. -/
import Derived.Test.YtmbbcmebdefggaaGreatDoorV
import Derived.Test.YtmbbcmebdefggaaGreatDoorPG
import Derived.Test.YtmbbcmebdefggaaGreatDoorHA
namespace Go.Proofs.YtmbbcmebdefggaaGreatDoor
section
variable {α β : Type}
/-- The sum modulo two over a list. -/
def xl (f : α → Bool) : List α → Bool
  | [] => false
  | x :: l => f x ^^ xl f l
theorem xl_cons (f : α → Bool) (x : α) (l : List α) : xl f (x :: l) = (f x ^^ xl f l) := rfl
theorem xl_app (f : α → Bool) : ∀ (l m : List α), xl f (l ++ m) = (xl f l ^^ xl f m)
  | [], m => by rw [List.nil_append, xl, Bool.false_xor]
  | x :: l, m => by rw [List.cons_append, xl, xl, xl_app f l m, Bool.xor_assoc]
theorem xl_congr {f g : α → Bool} : ∀ {l : List α}, (∀ x ∈ l, f x = g x) → xl f l = xl g l
  | [], _ => rfl
  | x :: l, h => by rw [xl, xl, h x List.mem_cons_self, xl_congr fun y hy => h y (List.mem_cons_of_mem _ hy)]
theorem xl_false : ∀ {l : List α} {f : α → Bool}, (∀ x ∈ l, f x = false) → xl f l = false
  | [], _, _ => rfl
  | x :: l, f, h => by rw [xl, h x List.mem_cons_self, xl_false fun y hy => h y (List.mem_cons_of_mem _ hy)]; rfl
theorem xl_xor (f g : α → Bool) : ∀ l : List α, xl (fun x => f x ^^ g x) l = (xl f l ^^ xl g l)
  | [] => rfl
  | x :: l => by
    rw [xl, xl, xl, xl_xor f g l]
    cases f x <;> cases g x <;> cases xl f l <;> cases xl g l <;> rfl
theorem xl_and (b : Bool) (f : α → Bool) : ∀ l : List α, xl (fun x => b && f x) l = (b && xl f l)
  | [] => by cases b <;> rfl
  | x :: l => by
    rw [xl, xl, xl_and b f l]
    cases b <;> simp
theorem xl_and' (b : Bool) (f : α → Bool) (l : List α) : xl (fun x => f x && b) l = (xl f l && b) := by
  rw [Bool.and_comm, ← xl_and]
  exact xl_congr fun x _ => Bool.and_comm _ _
theorem xl_comm (f : α → β → Bool) (m : List β) : ∀ l : List α, xl (fun x => xl (fun y => f x y) m) l = xl (fun y => xl (fun x => f x y) l) m
  | [] => (xl_false fun _ _ => rfl).symm
  | x :: l => by
    rw [xl, xl_comm f m l, ← xl_xor]
    rfl
theorem xl_map (g : β → α) (f : α → Bool) : ∀ l : List β, xl f (l.map g) = xl (fun x => f (g x)) l
  | [] => rfl
  | x :: l => by rw [List.map_cons, xl, xl, xl_map g f l]
theorem xl_flat (g : β → List α) (f : α → Bool) : ∀ l : List β, xl f (l.flatMap g) = xl (fun x => xl f (g x)) l
  | [] => rfl
  | x :: l => by rw [List.flatMap_cons, xl_app, xl, xl_flat g f l]
theorem xl_filter (p f : α → Bool) : ∀ l : List α, xl f (l.filter p) = xl (fun x => p x && f x) l
  | [] => rfl
  | x :: l => by
    rw [List.filter_cons, xl]
    cases h : p x
    · rw [if_neg (by simp), xl_filter p f l]; simp
    · rw [if_pos rfl, xl, xl_filter p f l]; simp
theorem xl_perm {f : α → Bool} {l m : List α} (h : List.Perm l m) : xl f l = xl f m := by
  induction h with
  | nil => rfl
  | cons x _ ih => rw [xl, xl, ih]
  | swap x y l =>
    rw [xl, xl, xl, xl, ← Bool.xor_assoc, ← Bool.xor_assoc, Bool.xor_comm (f x)]
  | trans _ _ h1 h2 => exact h1.trans h2
/-- Only one place counts. -/
theorem xl_one {f : α → Bool} : ∀ {l : List α} {c : α}, l.Nodup → c ∈ l → (∀ x ∈ l, x ≠ c → f x = false) → xl f l = f c
  | x :: l, c, hn, hc, h => by
    obtain ⟨h1, h2⟩ := List.nodup_cons.1 hn
    rcases List.mem_cons.1 hc with rfl | hc
    · rw [xl, xl_false fun y hy => h y (List.mem_cons_of_mem _ hy) fun e => h1 (e ▸ hy), Bool.xor_false]
    · rw [xl, h x List.mem_cons_self fun e => h1 (e ▸ hc), Bool.false_xor]
      exact xl_one h2 hc fun y hy => h y (List.mem_cons_of_mem _ hy)
/-- Only the places of a part count. -/
theorem xl_sub {f : α → Bool} {g : β → α} {l : List α} {m : List β} (hl : l.Nodup) (hm : (m.map g).Nodup) (hs : ∀ y ∈ m, g y ∈ l) (h : ∀ x ∈ l, x ∉ m.map g → f x = false) : xl f l = xl (fun y => f (g y)) m := by
  classical
  rw [← xl_map g f]
  have e1 : xl f l = xl f (l.filter fun x => decide (x ∈ m.map g)) := by
    rw [xl_filter]
    refine xl_congr fun x hx => ?_
    by_cases hx2 : x ∈ m.map g
    · simp [hx2]
    · rw [h x hx hx2]; simp
  rw [e1]
  refine xl_perm ((List.perm_ext_iff_of_nodup (hl.filter _) hm).2 fun x => ?_)
  rw [List.mem_filter, decide_eq_true_iff]
  refine ⟨fun k => k.2, fun k => ⟨?_, k⟩⟩
  obtain ⟨y, hy, rfl⟩ := List.mem_map.1 k
  exact hs y hy
theorem xl_rep (f : α → Bool) (d : α) : ∀ k, xl f (List.replicate (2 * k) d) = false
  | 0 => rfl
  | k + 1 => by
    rw [show 2 * (k + 1) = 2 * k + 1 + 1 by omega, List.replicate_succ, List.replicate_succ, xl, xl, xl_rep f d k]
    cases f d <;> rfl
/-- All met evenly often. -/
theorem xl_even [BEq α] [LawfulBEq α] (f : α → Bool) : ∀ (N : Nat) {l : List α}, l.length ≤ N → (∀ d ∈ l, l.count d % 2 = 0) → xl f l = false
  | _, [], _, _ => rfl
  | N + 1, d :: l, hN, h => by
    have h0 := h d List.mem_cons_self
    have hp : List.Perm (d :: l) ((d :: l).filter (fun x => x == d) ++ (d :: l).filter (fun x => !(x == d))) := (List.filter_append_perm _ _).symm
    have e1 : (d :: l).filter (fun x => x == d) = List.replicate ((d :: l).count d) d := by
      rw [List.filter_beq]
    rw [xl_perm hp, xl_app, e1, show (d :: l).count d = 2 * ((d :: l).count d / 2) by omega, xl_rep, Bool.false_xor]
    refine xl_even f N ?_ fun x hx => ?_
    · have hlt : ((d :: l).filter fun x => !(x == d)).length < (d :: l).length := by
        rw [List.length_filter_lt_length_iff_exists]
        exact ⟨d, List.mem_cons_self, by simp⟩
      simp only [List.length_cons] at hlt hN
      omega
    · obtain ⟨hx1, hx2⟩ := List.mem_filter.1 hx
      rw [List.count_filter (p := fun x => !(x == d)) hx2]
      exact h x hx1
end
/-! Rectangles on a torus, as functions. -/
/-- The way from a to b. -/
def dd (n a b : Nat) : Nat := if a ≤ b then b - a else b + n - a
/-- No other point inside. -/
def emB (n : Nat) (x : Nat → Nat) (a b : Nat) : Bool := (List.range n).all fun s => !(decide (0 < dd n a s) && (decide (dd n a s < dd n a b) && decide (dd n (x a) (x s) < dd n (x a) (x b))))
/-- A cell inside. -/
def cvB (n : Nat) (x : Nat → Nat) (a b s t : Nat) : Bool := decide (dd n a s < dd n a b) && decide (dd n (x a) t < dd n (x a) (x b))
/-- Two values exchanged. -/
def sw (x : Nat → Nat) (a b : Nat) : Nat → Nat := fun s => if s = b then x a else if s = a then x b else x s
def okQ (n : Nat) (x y : Nat → Nat) (a b c e : Nat) : Bool :=
  !(a == b) && (!(c == e) && ((List.range n).all (fun i => y i == sw (sw x a b) c e i) && (emB n x a b && emB n (sw x a b) c e)))
def dom (n : Nat) (x : Nat → Nat) (a b c e : Nat) : List Nat :=
  (List.range n).flatMap fun s => (List.range n).map fun t => (cvB n x a b s t).toNat + (cvB n (sw x a b) c e s t).toNat
/-- All quadruples. -/
def quads (n : Nat) : List (Nat × Nat × Nat × Nat) := (List.range n).flatMap fun a => (List.range n).flatMap fun b => (List.range n).flatMap fun c => (List.range n).map fun e => (a, b, c, e)
def doms (n : Nat) (x y : Nat → Nat) : List (List Nat) := ((quads n).filter fun q => okQ n x y q.1 q.2.1 q.2.2.1 q.2.2.2).map fun q => dom n x q.1 q.2.1 q.2.2.1 q.2.2.2
/-- All lists of k numbers less than m. -/
def allL (m : Nat) : Nat → List (List Nat)
  | 0 => [[]]
  | k + 1 => (List.range m).flatMap fun a => (allL m k).map fun l => a :: l
def nodB : List Nat → Bool
  | [] => true
  | a :: l => !(l.elem a) && nodB l
def evB (l : List (List Nat)) : Bool := l.all fun d => l.count d % 2 == 0
def chk (m : Nat) : Bool := ((allL m m).filter nodB).all fun p => ((allL m m).filter nodB).all fun y => (List.range m).any (fun i => p.getD i 0 == y.getD i 0) || evB (doms m (fun i => p.getD i 0) (fun i => y.getD i 0))
theorem chk3 : chk 3 = true := by decide +kernel
theorem chk4 : chk 4 = true := by decide +kernel
end Go.Proofs.YtmbbcmebdefggaaGreatDoor
namespace Go.Proofs.YtmbbcmebdefggaaGreatDoor
/-! Places in between. -/
/-- Numbers in order below n. -/
structure Inc (n m : Nat) (S : Nat → Nat) : Prop where
  lt : ∀ u, u < m → S u < n
  mono : ∀ u v, u < v → v < m → S u < S v
theorem Inc.iff {n m : Nat} {S : Nat → Nat} (h : Inc n m S) {u v : Nat} (hu : u < m) (hv : v < m) : S u < S v ↔ u < v := by
  constructor
  · intro k
    rcases Nat.lt_trichotomy u v with e | e | e
    · exact e
    · subst e; omega
    · have := h.mono v u e hu; omega
  · exact fun k => h.mono u v k hv
theorem Inc.inj {n m : Nat} {S : Nat → Nat} (h : Inc n m S) {u v : Nat} (hu : u < m) (hv : v < m) (e : S u = S v) : u = v := by
  have h1 := h.iff hu hv
  have h2 := h.iff hv hu
  omega
theorem Inc.dd {n m : Nat} {S : Nat → Nat} (h : Inc n m S) {u v j : Nat} (hu : u < m) (hv : v < m) (hj : j < m) : (dd n (S u) (S j) < dd n (S u) (S v) ↔ dd m u j < dd m u v) ∧ (0 < dd n (S u) (S j) ↔ 0 < dd m u j) := by
  have a1 := h.iff hu hv
  have a2 := h.iff hv hu
  have a3 := h.iff hu hj
  have a4 := h.iff hj hu
  have a5 := h.iff hj hv
  have a6 := h.iff hv hj
  have b1 := h.lt u hu
  have b2 := h.lt v hv
  have b3 := h.lt j hj
  unfold Go.Proofs.YtmbbcmebdefggaaGreatDoor.dd
  constructor
  · split <;> split <;> split <;> split <;> omega
  · split <;> split <;> omega
theorem Inc.cell {n m : Nat} {S : Nat → Nat} (h : Inc n m S) (hm : 0 < m) {s : Nat} (hs : s < n) : ∃ k, k < m ∧ ∀ u v, u < m → v < m → (Go.Proofs.YtmbbcmebdefggaaGreatDoor.dd n (S u) s < Go.Proofs.YtmbbcmebdefggaaGreatDoor.dd n (S u) (S v) ↔ Go.Proofs.YtmbbcmebdefggaaGreatDoor.dd m u k < Go.Proofs.YtmbbcmebdefggaaGreatDoor.dd m u v) := by
  have hc : ∃ c, c ≤ m ∧ (∀ j, j < c → S j ≤ s) ∧ ∀ j, c ≤ j → j < m → s < S j := by
    have : ∀ k, k ≤ m → ∃ c, c ≤ k ∧ (∀ j, j < c → S j ≤ s) ∧ ∀ j, c ≤ j → j < k → s < S j := by
      intro k
      induction k with
      | zero => exact fun _ => ⟨0, Nat.le_refl _, fun j hj => by omega, fun j _ hj => by omega⟩
      | succ k ih =>
        intro hk
        obtain ⟨c, h1, h2, h3⟩ := ih (by omega)
        by_cases e : S k ≤ s
        · refine ⟨k + 1, Nat.le_refl _, fun j hj => ?_, fun j hj hj2 => by omega⟩
          by_cases ej : j = k
          · subst ej; exact e
          · have := h.mono j k (by omega) (by omega); omega
        · refine ⟨c, by omega, h2, fun j hj hj2 => ?_⟩
          by_cases ej : j = k
          · subst ej; omega
          · exact h3 j hj (by omega)
    exact this m (Nat.le_refl _)
  obtain ⟨c, hc, h1, h2⟩ := hc
  refine ⟨if c = 0 then m - 1 else c - 1, by split <;> omega, fun u v hu hv => ?_⟩
  have a1 := h.iff hu hv
  have a2 := h.iff hv hu
  have b1 := h.lt u hu
  have b2 := h.lt v hv
  have c1 : S u ≤ s ↔ u < c := ⟨fun k => by
    rcases Nat.lt_or_ge u c with e | e
    · exact e
    · have := h2 u e hu; omega, h1 u⟩
  have c2 : S v ≤ s ↔ v < c := ⟨fun k => by
    rcases Nat.lt_or_ge v c with e | e
    · exact e
    · have := h2 v e hv; omega, h1 v⟩
  unfold Go.Proofs.YtmbbcmebdefggaaGreatDoor.dd
  split <;> split <;> split <;> split <;> split <;> omega
/-- A list in order as such numbers. -/
theorem inc_filter (n : Nat) (p : Nat → Bool) : Inc n ((List.range n).filter p).length fun u => ((List.range n).filter p).getD u 0 := by
  have hp : ((List.range n).filter p).Pairwise (· < ·) := List.Pairwise.filter _ List.pairwise_lt_range
  refine ⟨fun u hu => ?_, fun u v huv hv => ?_⟩
  · rw [List.getD_eq_getElem?_getD, List.getElem?_eq_getElem hu, Option.getD_some]
    have := List.getElem_mem hu
    exact List.mem_range.1 (List.mem_filter.1 this).1
  · have hu : u < ((List.range n).filter p).length := by omega
    simp only [List.getD_eq_getElem?_getD, List.getElem?_eq_getElem hv, List.getElem?_eq_getElem hu, Option.getD_some]
    exact List.pairwise_iff_getElem.1 hp u v (by omega) hv huv
theorem at_mem {l : List Nat} {u : Nat} (h : u < l.length) : l.getD u 0 ∈ l := by
  rw [List.getD_eq_getElem?_getD, List.getElem?_eq_getElem h, Option.getD_some]
  exact List.getElem_mem h
/-! What is exchanged. -/
theorem sw_a {x : Nat → Nat} {a b : Nat} (h : a ≠ b) : sw x a b a = x b := by unfold sw; rw [if_neg h, if_pos rfl]
theorem sw_b {x : Nat → Nat} {a b : Nat} : sw x a b b = x a := by unfold sw; rw [if_pos rfl]
theorem sw_o {x : Nat → Nat} {a b s : Nat} (h1 : s ≠ a) (h2 : s ≠ b) : sw x a b s = x s := by unfold sw; rw [if_neg h2, if_neg h1]
theorem okQ_iff {n : Nat} {x y : Nat → Nat} {a b c e : Nat} : okQ n x y a b c e = true ↔ a ≠ b ∧ c ≠ e ∧ (∀ i, i < n → y i = sw (sw x a b) c e i) ∧ emB n x a b = true ∧ emB n (sw x a b) c e = true := by
  unfold okQ
  simp only [Bool.and_eq_true, Bool.not_eq_true', beq_eq_false_iff_ne, ne_eq, List.all_eq_true, List.mem_range, beq_iff_eq]
theorem emB_iff {n : Nat} {x : Nat → Nat} {a b : Nat} : emB n x a b = true ↔ ∀ s, s < n → ¬ (0 < dd n a s ∧ dd n a s < dd n a b ∧ dd n (x a) (x s) < dd n (x a) (x b)) := by
  unfold emB
  simp only [List.all_eq_true, List.mem_range, Bool.not_eq_true', Bool.and_eq_false_imp, decide_eq_true_eq, decide_eq_false_iff_not]
  exact ⟨fun h s hs k => h s hs k.1 k.2.1 k.2.2, fun h s hs k1 k2 k3 => h s hs ⟨k1, k2, k3⟩⟩
theorem cvB_iff {n : Nat} {x : Nat → Nat} {a b s t : Nat} : cvB n x a b s t = true ↔ dd n a s < dd n a b ∧ dd n (x a) t < dd n (x a) (x b) := by
  unfold cvB
  rw [Bool.and_eq_true, decide_eq_true_eq, decide_eq_true_eq]
theorem sw_moved {n : Nat} {x y : Nat → Nat} (px : permF x n) (hne : ∃ i, i < n ∧ x i ≠ y i) {a b c e : Nat} (ha : a < n) (hb : b < n) (hc : c < n) (he : e < n) (hab : a ≠ b) (hce : c ≠ e) (hy : ∀ i, i < n → y i = sw (sw x a b) c e i) :
    (x a ≠ y a ∧ x b ≠ y b ∧ x c ≠ y c ∧ x e ≠ y e) ∧ (∀ i, i < n → x i ≠ y i → i = a ∨ i = b ∨ i = c ∨ i = e) ∧ ¬ ((c = a ∧ e = b) ∨ (c = b ∧ e = a)) := by
  have inj := px.2
  have nab : x a ≠ x b := fun h => hab (inj a b ha hb h)
  have nce : x c ≠ x e := fun h => hce (inj c e hc he h)
  have nac : a ≠ c → x a ≠ x c := fun h k => h (inj a c ha hc k)
  have nae : a ≠ e → x a ≠ x e := fun h k => h (inj a e ha he k)
  have nbc : b ≠ c → x b ≠ x c := fun h k => h (inj b c hb hc k)
  have nbe : b ≠ e → x b ≠ x e := fun h k => h (inj b e hb he k)
  have h3 : ¬ ((c = a ∧ e = b) ∨ (c = b ∧ e = a)) := by
    obtain ⟨i, hi, hxi⟩ := hne
    intro k
    apply hxi
    rw [hy i hi]
    unfold sw
    rcases k with ⟨rfl, rfl⟩ | ⟨rfl, rfl⟩
    · by_cases e1 : i = e
      · subst e1; simp [hab]
      · by_cases e2 : i = c
        · subst e2; simp [hab]
        · simp [e1, e2]
    · by_cases e1 : i = e
      · subst e1; simp [Ne.symm hce]
      · by_cases e2 : i = c
        · subst e2; simp [hce, Ne.symm hce]
        · simp [e1, e2]
  refine ⟨?_, fun i hi h => ?_, h3⟩
  · rw [hy a ha, hy b hb, hy c hc, hy e he]
    unfold sw
    by_cases e1 : c = a
    · subst e1
      have e2 : e ≠ b := fun k => h3 (.inl ⟨rfl, k⟩)
      simp [hab, hce, e2, e2.symm, Ne.symm hce, Ne.symm hab, nab.symm, nab, nbe e2.symm, (nbe e2.symm).symm, nce, nce.symm]
    · by_cases e2 : c = b
      · subst e2
        have e3 : e ≠ a := fun k => h3 (.inr ⟨rfl, k⟩)
        simp [hce, e3, e3.symm, Ne.symm hce, Ne.symm hab, hab, nab, nab.symm, nae e3.symm, (nae e3.symm).symm, nce, nce.symm]
      · by_cases e3 : e = a
        · subst e3
          simp [hab, Ne.symm hab, hce, Ne.symm hce, e2, Ne.symm e2, nab, nab.symm, nbc (Ne.symm e2), (nbc (Ne.symm e2)).symm, nce, nce.symm]
        · by_cases e4 : e = b
          · subst e4
            simp [hab, Ne.symm hab, hce, Ne.symm hce, e1, Ne.symm e1, nab, nab.symm, nac (Ne.symm e1), (nac (Ne.symm e1)).symm, nce, nce.symm]
          · simp [hab, hce, e1, e2, e3, e4, Ne.symm e1, Ne.symm e2, Ne.symm e3, Ne.symm e4, nab, nab.symm, nce, nce.symm]
  · by_cases e1 : i = a
    · exact .inl e1
    · by_cases e2 : i = b
      · exact .inr (.inl e2)
      · by_cases e3 : i = c
        · exact .inr (.inr (.inl e3))
        · by_cases e4 : i = e
          · exact .inr (.inr (.inr e4))
          · exfalso
            apply h
            rw [hy i hi, sw_o e3 e4, sw_o e1 e2]
/-! From the torus to a small one. -/
/-- What x does on the columns S, told by P. -/
structure Rel (n m : Nat) (S R x P : Nat → Nat) : Prop where
  lt : ∀ u, u < m → P u < m
  eq : ∀ u, u < m → x (S u) = R (P u)
section
variable {n m : Nat} {S R x P : Nat → Nat}
theorem Rel.sw (hS : Inc n m S) (h : Rel n m S R x P) {u v : Nat} (hu : u < m) (hv : v < m) : Rel n m S R (Go.Proofs.YtmbbcmebdefggaaGreatDoor.sw x (S u) (S v)) (Go.Proofs.YtmbbcmebdefggaaGreatDoor.sw P u v) := by
  refine ⟨fun j hj => ?_, fun j hj => ?_⟩
  · unfold Go.Proofs.YtmbbcmebdefggaaGreatDoor.sw
    split
    · exact h.lt u hu
    · split
      · exact h.lt v hv
      · exact h.lt j hj
  · unfold Go.Proofs.YtmbbcmebdefggaaGreatDoor.sw
    by_cases e1 : j = v
    · rw [if_pos e1, if_pos (by rw [e1])]; exact h.eq u hu
    · rw [if_neg e1, if_neg fun k => e1 (hS.inj hj hv k)]
      by_cases e2 : j = u
      · rw [if_pos e2, if_pos (by rw [e2])]; exact h.eq v hv
      · rw [if_neg e2, if_neg fun k => e2 (hS.inj hj hu k)]; exact h.eq j hj
/-- The cells of the small torus. -/
structure Cel (n m : Nat) (S κ : Nat → Nat) : Prop where
  lt : ∀ s, s < n → κ s < m
  iff : ∀ s, s < n → ∀ u v, u < m → v < m → (dd n (S u) s < dd n (S u) (S v) ↔ dd m u (κ s) < dd m u v)
theorem Inc.cel (h : Inc n m S) (hm : 0 < m) : ∃ κ, Cel n m S κ := by
  classical
  refine ⟨fun s => if hs : s < n then (h.cell hm hs).choose else 0, fun s hs => ?_, fun s hs u v hu hv => ?_⟩
  · simp only [dif_pos hs]; exact (h.cell hm hs).choose_spec.1
  · simp only [dif_pos hs]; exact (h.cell hm hs).choose_spec.2 u v hu hv
variable {κ κ' : Nat → Nat}
theorem cv_small (h : Rel n m S R x P) (hc : Cel n m S κ) (hr : Cel n m R κ') {u v s t : Nat} (hu : u < m) (hv : v < m) (hs : s < n) (ht : t < n) : cvB n x (S u) (S v) s t = cvB m P u v (κ s) (κ' t) := by
  rw [Bool.eq_iff_iff, cvB_iff, cvB_iff, h.eq u hu, h.eq v hv, hc.iff s hs u v hu hv, hr.iff t ht _ _ (h.lt u hu) (h.lt v hv)]
theorem em_small (hS : Inc n m S) (hR : Inc n m R) (h : Rel n m S R x P) (hc : Cel n m S κ) (hr : Cel n m R κ') (hx : ∀ s, s < n → x s < n) {u v : Nat} (hu : u < m) (hv : v < m) :
    emB n x (S u) (S v) = true ↔ emB m P u v = true ∧ ∀ s, s < n → (∀ j, j < m → S j ≠ s) → cvB m P u v (κ s) (κ' (x s)) = false := by
  rw [emB_iff, emB_iff]
  constructor
  · intro k
    refine ⟨fun j hj k3 => ?_, fun s hs hns => ?_⟩
    · refine k (S j) (hS.lt j hj) ⟨(hS.dd hu hv hj).2.2 k3.1, (hS.dd hu hv hj).1.2 k3.2.1, ?_⟩
      rw [h.eq u hu, h.eq v hv, h.eq j hj]
      exact (hR.dd (h.lt u hu) (h.lt v hv) (h.lt j hj)).1.2 k3.2.2
    · rw [Bool.eq_false_iff]
      intro k3
      rw [← cv_small h hc hr hu hv hs (hx s hs), cvB_iff] at k3
      refine k s hs ⟨?_, k3⟩
      have := hns u hu
      have := hS.lt u hu
      unfold dd
      split <;> omega
  · rintro ⟨k1, k2⟩ s hs ⟨k3, k4, k5⟩
    by_cases hns : ∃ j, j < m ∧ S j = s
    · obtain ⟨j, hj, rfl⟩ := hns
      rw [h.eq u hu, h.eq v hv, h.eq j hj] at k5
      exact k1 j hj ⟨(hS.dd hu hv hj).2.1 k3, (hS.dd hu hv hj).1.1 k4, (hR.dd (h.lt u hu) (h.lt v hv) (h.lt j hj)).1.1 k5⟩
    · have := k2 s hs fun j hj e => hns ⟨j, hj, e⟩
      rw [← cv_small h hc hr hu hv hs (hx s hs), Bool.eq_false_iff] at this
      exact this (cvB_iff.2 ⟨k4, k5⟩)
end
/-- How often a cell is covered. -/
def totB (n : Nat) (x : Nat → Nat) (a b c e s t : Nat) : Nat := (cvB n x a b s t).toNat + (cvB n (sw x a b) c e s t).toNat
theorem flat_cellB (f : Nat → Nat → Nat) (m : Nat) : ∀ (K k t : Nat), k < K → t < m → ((List.range K).flatMap fun s => (List.range m).map fun t => f s t).getD (k * m + t) 0 = f k t
  | 0, _, _, hk, _ => absurd hk (Nat.not_lt_zero _)
  | K + 1, k, t, hk, ht => by
    have hl : ∀ K, ((List.range K).flatMap fun s => (List.range m).map fun t => f s t).length = K * m := fun K => by
      induction K with
      | zero => simp
      | succ K ih => rw [List.range_succ, List.flatMap_append, List.length_append, ih, Nat.succ_mul]; simp
    rw [List.range_succ, List.flatMap_append, List.getD_eq_getElem?_getD]
    by_cases e : k < K
    · have h1 : k * m + t < K * m := by
        have := Nat.mul_le_mul_right m (show k + 1 ≤ K by omega)
        rw [Nat.succ_mul] at this
        omega
      rw [List.getElem?_append_left (by rw [hl]; exact h1), ← List.getD_eq_getElem?_getD]
      exact flat_cellB f m K k t e ht
    · obtain rfl : k = K := by omega
      rw [List.getElem?_append_right (by rw [hl]; omega), hl, Nat.add_sub_cancel_left]
      simp [ht]
theorem dom_at {m : Nat} {P : Nat → Nat} {a b c e k t : Nat} (hk : k < m) (ht : t < m) : (dom m P a b c e).getD (k * m + t) 0 = totB m P a b c e k t := flat_cellB (fun s t => totB m P a b c e s t) m m k t hk ht
theorem quads_xl (n : Nat) (f : Nat → Nat → Nat → Nat → Bool) : xl (fun q => f q.1 q.2.1 q.2.2.1 q.2.2.2) (quads n) = xl (fun a => xl (fun b => xl (fun c => xl (fun e => f a b c e) (List.range n)) (List.range n)) (List.range n)) (List.range n) := by
  unfold quads
  rw [xl_flat]
  refine xl_congr fun a _ => ?_
  rw [xl_flat]
  refine xl_congr fun b _ => ?_
  rw [xl_flat]
  refine xl_congr fun c _ => ?_
  rw [xl_map]
theorem allL_mem {m : Nat} : ∀ {k : Nat} {l : List Nat}, l.length = k → (∀ a ∈ l, a < m) → l ∈ allL m k
  | 0, l, h, _ => by
    have : l = [] := List.eq_nil_of_length_eq_zero h
    subst this
    exact List.mem_singleton.2 rfl
  | k + 1, [], h, _ => by cases h
  | k + 1, a :: l, h, ha => List.mem_flatMap.2 ⟨a, List.mem_range.2 (ha a List.mem_cons_self), List.mem_map.2 ⟨l, allL_mem (by simpa using h) fun b hb => ha b (List.mem_cons_of_mem _ hb), rfl⟩⟩
theorem nodB_of : ∀ {l : List Nat}, l.Nodup → nodB l = true
  | [], _ => rfl
  | a :: l, h => by
    obtain ⟨h1, h2⟩ := List.nodup_cons.1 h
    unfold nodB
    rw [nodB_of h2]
    simp [h1]
theorem chk_even {m : Nat} (hk : chk m = true) {p y : List Nat} (lp : p.length = m) (ly : y.length = m) (hp : ∀ a ∈ p, a < m) (hy : ∀ a ∈ y, a < m) (np : p.Nodup) (ny : y.Nodup) (hne : ∀ i, i < m → p.getD i 0 ≠ y.getD i 0) :
    ∀ d ∈ doms m (fun i => p.getD i 0) (fun i => y.getD i 0), (doms m (fun i => p.getD i 0) (fun i => y.getD i 0)).count d % 2 = 0 := by
  unfold chk at hk
  rw [List.all_eq_true] at hk
  have h1 := hk p (List.mem_filter.2 ⟨allL_mem lp hp, nodB_of np⟩)
  rw [List.all_eq_true] at h1
  have h2 := h1 y (List.mem_filter.2 ⟨allL_mem ly hy, nodB_of ny⟩)
  rw [Bool.or_eq_true] at h2
  rcases h2 with h2 | h2
  · rw [List.any_eq_true] at h2
    obtain ⟨i, hi, e⟩ := h2
    exact absurd (by simpa using e) (hne i (List.mem_range.1 hi))
  · unfold evB at h2
    rw [List.all_eq_true] at h2
    exact fun d hd => by simpa using h2 d hd
end Go.Proofs.YtmbbcmebdefggaaGreatDoor
namespace Go.Proofs.YtmbbcmebdefggaaGreatDoor
/-- What a list of marks' cells sees. -/
def seen (n : Nat) (x : Nat → Nat) (Mk : List (Nat × Nat)) (a b c e : Nat) : List Nat := Mk.map fun p => totB n x a b c e p.1 p.2
theorem xl_part {n : Nat} {D : List Nat} (hD : D.Nodup) (hs : ∀ s ∈ D, s < n) {f : Nat → Bool} (hf : ∀ s, s < n → s ∉ D → f s = false) : xl f (List.range n) = xl (fun u => f (D.getD u 0)) (List.range D.length) := by
  have e : (List.range D.length).map (fun u => D.getD u 0) = D := by
    refine List.ext_getElem (by simp) fun i h1 h2 => ?_
    rw [List.getElem_map, List.getElem_range, List.getD_eq_getElem?_getD, List.getElem?_eq_getElem h2, Option.getD_some]
  refine xl_sub List.nodup_range (by rw [e]; exact hD) (fun u hu => List.mem_range.2 (hs _ (at_mem (List.mem_range.1 hu)))) fun s hs hn => hf s (List.mem_range.1 hs) ?_
  rwa [e] at hn
theorem master_ne {n : Nat} {x y : Nat → Nat} (px : permF x n) (py : permF y n) (hne : ∃ i, i < n ∧ x i ≠ y i) {Mk : List (Nat × Nat)} (hMk : ∀ p ∈ Mk, p.1 < n ∧ p.2 < n) (W : List Nat → Bool) :
    xl (fun q => okQ n x y q.1 q.2.1 q.2.2.1 q.2.2.2 && W (seen n x Mk q.1 q.2.1 q.2.2.1 q.2.2.2)) (quads n) = false := by
  rw [quads_xl n fun a b c e => okQ n x y a b c e && W (seen n x Mk a b c e)]
  by_cases hex : ∃ a b c e, a < n ∧ b < n ∧ c < n ∧ e < n ∧ okQ n x y a b c e = true
  rotate_left
  · refine xl_false fun a ha => xl_false fun b hb => xl_false fun c hc => xl_false fun e he => ?_
    rw [Bool.and_eq_false_imp]
    intro k
    exact absurd ⟨a, b, c, e, List.mem_range.1 ha, List.mem_range.1 hb, List.mem_range.1 hc, List.mem_range.1 he, k⟩ hex
  obtain ⟨D, hD⟩ : ∃ D, D = (List.range n).filter fun i => !(x i == y i) := ⟨_, rfl⟩
  have memD : ∀ s, s ∈ D ↔ s < n ∧ x s ≠ y s := fun s => by rw [hD, List.mem_filter, List.mem_range]; simp
  have ndD : D.Nodup := by rw [hD]; exact List.nodup_range.filter _
  have hS : Inc n D.length fun u => D.getD u 0 := by rw [hD]; exact inc_filter n _
  have out : ∀ {a b c e : Nat}, a < n → b < n → c < n → e < n → (a ∉ D ∨ b ∉ D ∨ c ∉ D ∨ e ∉ D) → (okQ n x y a b c e && W (seen n x Mk a b c e)) = false := fun {a b c e} ha hb hc he h => by
    rw [Bool.and_eq_false_imp]
    intro k
    obtain ⟨k1, k2, k3, _, _⟩ := okQ_iff.1 k
    obtain ⟨⟨m1, m2, m3, m4⟩, _, _⟩ := sw_moved px hne ha hb hc he k1 k2 k3
    rcases h with h | h | h | h
    · exact absurd ((memD a).2 ⟨ha, m1⟩) h
    · exact absurd ((memD b).2 ⟨hb, m2⟩) h
    · exact absurd ((memD c).2 ⟨hc, m3⟩) h
    · exact absurd ((memD e).2 ⟨he, m4⟩) h
  have ltD : ∀ s ∈ D, s < n := fun s hs => ((memD s).1 hs).1
  have hm : D.length = 3 ∨ D.length = 4 := by
    obtain ⟨a, b, c, e, ha, hb, hc, he, k⟩ := hex
    obtain ⟨k1, k2, k3, _, _⟩ := okQ_iff.1 k
    obtain ⟨⟨m1, m2, m3, m4⟩, h2, h3⟩ := sw_moved px hne ha hb hc he k1 k2 k3
    have l1 : D.length ≤ [a, b, c, e].length := List.Nodup.length_le_of_subset ndD fun s hs => by
      obtain ⟨hs1, hs2⟩ := (memD s).1 hs
      rcases h2 s hs1 hs2 with rfl | rfl | rfl | rfl <;> simp
    have l2 : 3 ≤ D.length := by
      have sub : ∀ {t : Nat}, (t = a ∨ t = b ∨ t = c ∨ t = e) → t ∈ D := fun {t} h => by
        rcases h with rfl | rfl | rfl | rfl
        · exact (memD _).2 ⟨ha, m1⟩
        · exact (memD _).2 ⟨hb, m2⟩
        · exact (memD _).2 ⟨hc, m3⟩
        · exact (memD _).2 ⟨he, m4⟩
      by_cases e1 : c = a ∨ c = b
      · have e2 : e ≠ a ∧ e ≠ b := by
          constructor
          · intro k; rcases e1 with e1 | e1
            · exact k2 (by rw [e1, k])
            · exact h3 (.inr ⟨e1, k⟩)
          · intro k; rcases e1 with e1 | e1
            · exact h3 (.inl ⟨e1, k⟩)
            · exact k2 (by rw [e1, k])
        have nd : [a, b, e].Nodup := by simp [k1, e2.1.symm, e2.2.symm]
        exact List.Nodup.length_le_of_subset nd fun t ht => by
          simp only [List.mem_cons, List.not_mem_nil, or_false] at ht
          rcases ht with h | h | h
          · exact sub (.inl h)
          · exact sub (.inr (.inl h))
          · exact sub (.inr (.inr (.inr h)))
      · have e2 : c ≠ a ∧ c ≠ b := ⟨fun k => e1 (.inl k), fun k => e1 (.inr k)⟩
        have nd : [a, b, c].Nodup := by simp [k1, e2.1.symm, e2.2.symm]
        exact List.Nodup.length_le_of_subset nd fun t ht => by
          simp only [List.mem_cons, List.not_mem_nil, or_false] at ht
          rcases ht with h | h | h
          · exact sub (.inl h)
          · exact sub (.inr (.inl h))
          · exact sub (.inr (.inr (.inl h)))
    simp only [List.length_cons, List.length_nil] at l1
    omega
  have hchk : chk D.length = true := by rcases hm with e | e <;> rw [e]; exact chk3; exact chk4
  have hm0 : 0 < D.length := by omega
  -- the rows
  obtain ⟨T, hT⟩ : ∃ T, T = (List.range n).filter fun t => (D.map x).elem t := ⟨_, rfl⟩
  have memT : ∀ t, t ∈ T ↔ ∃ s ∈ D, x s = t := fun t => by
    rw [hT, List.mem_filter, List.mem_range]
    constructor
    · rintro ⟨_, h⟩
      exact List.mem_map.1 (by simpa using h)
    · rintro ⟨s, hs, rfl⟩
      exact ⟨px.1 s (ltD s hs), by simpa using ⟨s, hs, rfl⟩⟩
  have lT : T.length = D.length := by
    have nd1 : (D.map x).Nodup := by
      rw [List.nodup_iff_pairwise_ne, List.pairwise_map]
      exact List.Pairwise.imp_of_mem (fun {a b} ha hb hab e => hab (px.2 a b (ltD a ha) (ltD b hb) e)) (List.nodup_iff_pairwise_ne.1 ndD)
    have nd2 : T.Nodup := by rw [hT]; exact List.nodup_range.filter _
    have := ((List.perm_ext_iff_of_nodup nd2 nd1).2 fun t => by rw [memT, List.mem_map]).length_eq
    rw [this, List.length_map]
  have hR : Inc n D.length fun u => T.getD u 0 := by
    have := inc_filter n fun t => (D.map x).elem t
    rw [← hT, lT] at this
    exact this
  have atT : ∀ t ∈ T, ∃ k, k < D.length ∧ T.getD k 0 = t := fun t ht => by
    obtain ⟨k, hk, e⟩ := List.getElem_of_mem ht
    exact ⟨k, by rw [← lT]; exact hk, by rw [List.getD_eq_getElem?_getD, List.getElem?_eq_getElem hk, Option.getD_some, e]⟩
  -- both states, told on the small torus
  have hxT : ∀ u, u < D.length → ∃ k, k < D.length ∧ T.getD k 0 = x (D.getD u 0) := fun u hu => atT _ ((memT _).2 ⟨_, at_mem hu, rfl⟩)
  have hyT : ∀ u, u < D.length → ∃ k, k < D.length ∧ T.getD k 0 = y (D.getD u 0) := fun u hu => by
    have hs := at_mem hu
    obtain ⟨s', hs', e⟩ := surj_of_inj px.1 px.2 _ (py.1 _ (ltD _ hs))
    refine atT _ ((memT _).2 ⟨s', (memD s').2 ⟨hs', fun k => ?_⟩, e⟩)
    rw [k] at e
    have := py.2 _ _ hs' (ltD _ hs) e
    subst this
    exact ((memD _).1 hs).2 k
  have pick : ∀ (z : Nat → Nat), (∀ u, u < D.length → ∃ k, k < D.length ∧ T.getD k 0 = z (D.getD u 0)) → ∃ p : List Nat, p.length = D.length ∧ ∀ u, u < D.length → p.getD u 0 < D.length ∧ T.getD (p.getD u 0) 0 = z (D.getD u 0) := fun z hz => by
    classical
    refine ⟨(List.range D.length).map fun u => if h : u < D.length then (hz u h).choose else 0, by simp, fun u hu => ?_⟩
    have e : ((List.range D.length).map fun u => if h : u < D.length then (hz u h).choose else 0).getD u 0 = (hz u hu).choose := by
      rw [List.getD_eq_getElem?_getD, List.getElem?_map, List.getElem?_range hu]
      simp [hu]
    rw [e]
    exact (hz u hu).choose_spec
  obtain ⟨p, lp, hp⟩ := pick x hxT
  obtain ⟨y', ly, hy'⟩ := pick y hyT
  have injn : ∀ {z : Nat → Nat} {q : List Nat}, permF z n → q.length = D.length → (∀ u, u < D.length → q.getD u 0 < D.length ∧ T.getD (q.getD u 0) 0 = z (D.getD u 0)) → (∀ a ∈ q, a < D.length) ∧ q.Nodup := fun {z q} pz lq hq => by
    refine ⟨fun a ha => ?_, ?_⟩
    · obtain ⟨u, hu, rfl⟩ := List.getElem_of_mem ha
      have := (hq u (by omega)).1
      rwa [List.getD_eq_getElem?_getD, List.getElem?_eq_getElem hu, Option.getD_some] at this
    · rw [List.nodup_iff_pairwise_ne]
      refine List.pairwise_iff_getElem.2 fun i j hi hj hij e => ?_
      have h1 := (hq i (by omega)).2
      have h2 := (hq j (by omega)).2
      rw [List.getD_eq_getElem?_getD (l := q), List.getElem?_eq_getElem hi, Option.getD_some] at h1
      rw [List.getD_eq_getElem?_getD (l := q), List.getElem?_eq_getElem hj, Option.getD_some, ← e, h1] at h2
      have h3 := pz.2 _ _ (ltD _ (at_mem (show i < D.length by omega))) (ltD _ (at_mem (show j < D.length by omega))) h2
      have := hS.inj (show i < D.length by omega) (show j < D.length by omega) h3
      omega
  obtain ⟨plt, pnd⟩ := injn px lp hp
  obtain ⟨ylt, ynd⟩ := injn py ly hy'
  have hev := chk_even hchk lp ly plt ylt pnd ynd fun i hi e => by
    have h1 := (hp i hi).2
    rw [e, (hy' i hi).2] at h1
    exact ((memD _).1 (at_mem hi)).2 h1.symm
  have relX : Rel n D.length (fun u => D.getD u 0) (fun u => T.getD u 0) x (fun i => p.getD i 0) := ⟨fun u hu => (hp u hu).1, fun u hu => (hp u hu).2.symm⟩
  obtain ⟨κ, hκ⟩ := hS.cel hm0
  obtain ⟨κ', hκ'⟩ := hR.cel hm0
  -- what is asked, of the small torus' cells
  obtain ⟨G, hG⟩ : ∃ G : List Nat → Bool, G = fun dm => (List.range n).all (fun s => D.elem s || dm.getD (κ s * D.length + κ' (x s)) 0 == 0) && W (Mk.map fun q => dm.getD (κ q.1 * D.length + κ' q.2) 0) := ⟨_, rfl⟩
  have small : ∀ a b c e, a < D.length → b < D.length → c < D.length → e < D.length → (okQ n x y (D.getD a 0) (D.getD b 0) (D.getD c 0) (D.getD e 0) && W (seen n x Mk (D.getD a 0) (D.getD b 0) (D.getD c 0) (D.getD e 0))) = (okQ D.length (fun i => p.getD i 0) (fun i => y'.getD i 0) a b c e && G (dom D.length (fun i => p.getD i 0) a b c e)) := by
    intro a b c e ha hb hc he
    have r2 := relX.sw hS ha hb
    have r3 := r2.sw hS hc he
    have ltsw : ∀ s, s < n → sw x (D.getD a 0) (D.getD b 0) s < n := fun s hs => by
      unfold sw
      split
      · exact px.1 _ (hS.lt a ha)
      · split
        · exact px.1 _ (hS.lt b hb)
        · exact px.1 _ hs
    have em1 := em_small hS hR relX hκ hκ' (fun s hs => px.1 s hs) ha hb
    have em2 := em_small hS hR r2 hκ hκ' ltsw hc he
    have hseen : seen n x Mk (D.getD a 0) (D.getD b 0) (D.getD c 0) (D.getD e 0) = Mk.map fun q => (dom D.length (fun i => p.getD i 0) a b c e).getD (κ q.1 * D.length + κ' q.2) 0 := by
      unfold seen
      refine List.map_congr_left fun q hq => ?_
      obtain ⟨h1, h2⟩ := hMk q hq
      rw [dom_at (hκ.lt _ h1) (hκ'.lt _ h2)]
      unfold totB
      rw [cv_small relX hκ hκ' ha hb h1 h2, cv_small r2 hκ hκ' hc he h1 h2]
    rw [hG, hseen]
    dsimp only
    rw [← Bool.and_assoc]
    congr 1
    rw [Bool.eq_iff_iff, Bool.and_eq_true, okQ_iff, okQ_iff, em1, em2]
    have ney : ∀ {u v : Nat}, u < D.length → v < D.length → (D.getD u 0 ≠ D.getD v 0 ↔ u ≠ v) := fun {u v} hu hv => ⟨fun h k => h (by rw [k]), fun h k => h (hS.inj hu hv k)⟩
    rw [ney ha hb, ney hc he]
    have outD : ∀ s, s < n → (∀ j, j < D.length → D.getD j 0 ≠ s) → s ∉ D := fun s _ h k => by
      obtain ⟨j, hj, ej⟩ := List.getElem_of_mem k
      exact h j hj (by rw [List.getD_eq_getElem?_getD, List.getElem?_eq_getElem hj, Option.getD_some, ej])
    have inD : ∀ s, s ∉ D → ∀ j, j < D.length → D.getD j 0 ≠ s := fun s h j hj k => h (by rw [← k]; exact at_mem hj)
    have same : ∀ s, s ∉ D → sw x (D.getD a 0) (D.getD b 0) s = x s := fun s h => sw_o (fun k => h (by rw [k]; exact at_mem ha)) fun k => h (by rw [k]; exact at_mem hb)
    have same2 : ∀ s, s ∉ D → sw (sw x (D.getD a 0) (D.getD b 0)) (D.getD c 0) (D.getD e 0) s = x s := fun s h => by
      rw [sw_o (fun k => h (by rw [k]; exact at_mem hc)) fun k => h (by rw [k]; exact at_mem he)]
      exact same s h
    have ys : (∀ i, i < n → y i = sw (sw x (D.getD a 0) (D.getD b 0)) (D.getD c 0) (D.getD e 0) i) ↔ ∀ i, i < D.length → y'.getD i 0 = sw (sw (fun i => p.getD i 0) a b) c e i := by
      constructor
      · intro k i hi
        have h1 := k _ (hS.lt i hi)
        rw [r3.eq i hi, ← (hy' i hi).2] at h1
        exact hR.inj (hy' i hi).1 (r3.lt i hi) h1
      · intro k i hi
        by_cases hiD : i ∈ D
        · obtain ⟨j, hj, ej⟩ := List.getElem_of_mem hiD
          have ej' : D.getD j 0 = i := by rw [List.getD_eq_getElem?_getD, List.getElem?_eq_getElem hj, Option.getD_some, ej]
          rw [← ej', r3.eq j hj, ← (hy' j hj).2, k j hj]
        · rw [same2 i hiD]
          rcases Nat.decEq (x i) (y i) with h | h
          · exact absurd ((memD i).2 ⟨hi, h⟩) hiD
          · exact h.symm
    have oth : (∀ s, s < n → s ∉ D → (dom D.length (fun i => p.getD i 0) a b c e).getD (κ s * D.length + κ' (x s)) 0 = 0) ↔ (∀ s, s < n → (∀ j, j < D.length → D.getD j 0 ≠ s) → cvB D.length (fun i => p.getD i 0) a b (κ s) (κ' (x s)) = false) ∧ ∀ s, s < n → (∀ j, j < D.length → D.getD j 0 ≠ s) → cvB D.length (sw (fun i => p.getD i 0) a b) c e (κ s) (κ' (sw x (D.getD a 0) (D.getD b 0) s)) = false := by
      have at0 : ∀ s, s < n → ((dom D.length (fun i => p.getD i 0) a b c e).getD (κ s * D.length + κ' (x s)) 0 = 0 ↔ cvB D.length (fun i => p.getD i 0) a b (κ s) (κ' (x s)) = false ∧ cvB D.length (sw (fun i => p.getD i 0) a b) c e (κ s) (κ' (x s)) = false) := fun s hs => by
        rw [dom_at (hκ.lt s hs) (hκ'.lt _ (px.1 s hs))]
        unfold totB
        cases cvB D.length (fun i => p.getD i 0) a b (κ s) (κ' (x s)) <;> cases cvB D.length (sw (fun i => p.getD i 0) a b) c e (κ s) (κ' (x s)) <;> simp
      constructor
      · intro k
        refine ⟨fun s hs h => ((at0 s hs).1 (k s hs (outD s hs h))).1, fun s hs h => ?_⟩
        rw [same s (outD s hs h)]
        exact ((at0 s hs).1 (k s hs (outD s hs h))).2
      · rintro ⟨k1, k2⟩ s hs h
        have h2 := k2 s hs (inD s h)
        rw [same s h] at h2
        exact (at0 s hs).2 ⟨k1 s hs (inD s h), h2⟩
    have gall : ((List.range n).all (fun s => D.elem s || (dom D.length (fun i => p.getD i 0) a b c e).getD (κ s * D.length + κ' (x s)) 0 == 0) = true) ↔ ∀ s, s < n → s ∉ D → (dom D.length (fun i => p.getD i 0) a b c e).getD (κ s * D.length + κ' (x s)) 0 = 0 := by
      rw [List.all_eq_true]
      constructor
      · intro k s hs h
        have := k s (List.mem_range.2 hs)
        simp only [Bool.or_eq_true, List.elem_eq_mem, decide_eq_true_eq, beq_iff_eq] at this
        exact this.resolve_left h
      · intro k s hs
        simp only [Bool.or_eq_true, List.elem_eq_mem, decide_eq_true_eq, beq_iff_eq]
        by_cases h : s ∈ D
        · exact .inl h
        · exact .inr (k s (List.mem_range.1 hs) h)
    rw [ys, gall, oth]
    constructor
    · rintro ⟨k1, k2, k3, ⟨k4, k5⟩, k6, k7⟩
      exact ⟨⟨k1, k2, k3, k4, k6⟩, k5, k7⟩
    · rintro ⟨⟨k1, k2, k3, k4, k6⟩, k5, k7⟩
      exact ⟨k1, k2, k3, ⟨k4, k5⟩, k6, k7⟩
  have step4 : xl (fun a => xl (fun b => xl (fun c => xl (fun e => okQ n x y a b c e && W (seen n x Mk a b c e)) (List.range n)) (List.range n)) (List.range n)) (List.range n) = xl (fun a => xl (fun b => xl (fun c => xl (fun e => okQ D.length (fun i => p.getD i 0) (fun i => y'.getD i 0) a b c e && G (dom D.length (fun i => p.getD i 0) a b c e)) (List.range D.length)) (List.range D.length)) (List.range D.length)) (List.range D.length) := by
    rw [xl_part ndD ltD fun a ha hn => xl_false fun b hb => xl_false fun c hc => xl_false fun e he => out ha (List.mem_range.1 hb) (List.mem_range.1 hc) (List.mem_range.1 he) (.inl hn)]
    refine xl_congr fun a ha => ?_
    have ha' := List.mem_range.1 ha
    have ha2 := hS.lt a ha'
    rw [xl_part ndD ltD fun b hb hn => xl_false fun c hc => xl_false fun e he => out ha2 hb (List.mem_range.1 hc) (List.mem_range.1 he) (.inr (.inl hn))]
    refine xl_congr fun b hb => ?_
    have hb' := List.mem_range.1 hb
    have hb2 := hS.lt b hb'
    rw [xl_part ndD ltD fun c hc hn => xl_false fun e he => out ha2 hb2 hc (List.mem_range.1 he) (.inr (.inr (.inl hn)))]
    refine xl_congr fun c hc => ?_
    have hc' := List.mem_range.1 hc
    have hc2 := hS.lt c hc'
    rw [xl_part ndD ltD fun e he hn => out ha2 hb2 hc2 he (.inr (.inr (.inr hn)))]
    exact xl_congr fun e he => small a b c e ha' hb' hc' (List.mem_range.1 he)
  rw [step4, ← quads_xl D.length fun a b c e => okQ D.length (fun i => p.getD i 0) (fun i => y'.getD i 0) a b c e && G (dom D.length (fun i => p.getD i 0) a b c e)]
  have e5 : xl (fun q => okQ D.length (fun i => p.getD i 0) (fun i => y'.getD i 0) q.1 q.2.1 q.2.2.1 q.2.2.2 && G (dom D.length (fun i => p.getD i 0) q.1 q.2.1 q.2.2.1 q.2.2.2)) (quads D.length) = xl G (doms D.length (fun i => p.getD i 0) (fun i => y'.getD i 0)) := by
    unfold doms
    rw [xl_map, xl_filter]
  rw [e5]
  exact xl_even G _ (Nat.le_refl _) hev
end Go.Proofs.YtmbbcmebdefggaaGreatDoor
namespace Go.Proofs.YtmbbcmebdefggaaGreatDoor
theorem dd_one {n a b : Nat} (ha : a < n) (hb : b < n) (hn : 2 ≤ n) : dd n a b = 1 ↔ b = if a + 1 = n then 0 else a + 1 := by
  unfold dd
  split <;> split <;> omega
theorem dd_zero {n a b : Nat} (ha : a < n) (hb : b < n) : dd n a b = 0 ↔ a = b := by
  unfold dd
  split <;> omega
theorem dd_lt {n a b : Nat} (ha : a < n) (hb : b < n) : dd n a b < n := by
  unfold dd
  split <;> omega
/-- Either way around. -/
theorem dd_part {n a b t : Nat} (ha : a < n) (hb : b < n) (ht : t < n) (hab : a ≠ b) : (dd n a t < dd n a b ↔ ¬ dd n b t < dd n b a) := by
  unfold dd
  split <;> split <;> split <;> split <;> omega
theorem dd_in {n a b t : Nat} (ha : a < n) (hb : b < n) (ht : t < n) (hta : t ≠ a) (htb : t ≠ b) (hab : a ≠ b) : 0 < dd n a t ∧ 0 < dd n b t := by
  unfold dd
  constructor <;> split <;> omega
/-- The least step that leaves room. -/
theorem dd_next {n a b : Nat} (ha : a < n) (hb : b < n) (hab : a ≠ b) (h : dd n a b ≠ 1) : ∃ t, t < n ∧ t ≠ a ∧ t ≠ b ∧ 0 < dd n a t ∧ dd n a t < dd n a b := by
  refine ⟨if a + 1 = n then 0 else a + 1, ?_, ?_, ?_, ?_, ?_⟩
  · split <;> omega
  · unfold dd at h; split at h <;> split <;> omega
  · unfold dd at h; split at h <;> split <;> omega
  · unfold dd at h ⊢; split at h <;> split <;> split <;> omega
  · unfold dd at h ⊢; split at h <;> split <;> split <;> (try split) <;> omega
def colA (Mk : List (Nat × Nat)) (a : Nat) : List Nat := Mk.map fun p => if p.1 = a then 1 else 0
def rowA (Mk : List (Nat × Nat)) (r : Nat) : List Nat := Mk.map fun p => if p.2 = r then 1 else 0
section
variable {n : Nat} {x : Nat → Nat} {a b : Nat}
theorem back_col (px : permF x n) (ha : a < n) (hb : b < n) (hab : a ≠ b) : okQ n x x a b a b = true ↔ dd n a b = 1 := by
  have nab : x a ≠ x b := fun h => hab (px.2 a b ha hb h)
  have xa := px.1 a ha
  have xb := px.1 b hb
  rw [okQ_iff, emB_iff, emB_iff]
  constructor
  · rintro ⟨_, _, _, k1, k2⟩
    refine Classical.byContradiction fun h1 => ?_
    obtain ⟨t, ht, hta, htb, h2, h3⟩ := dd_next ha hb hab h1
    have xt := px.1 t ht
    have c1 := k1 t ht
    have c2 := k2 t ht
    rw [sw_a hab, sw_b, sw_o hta htb] at c2
    have := dd_part xa xb xt nab
    by_cases h4 : dd n (x a) (x t) < dd n (x a) (x b)
    · exact c1 ⟨h2, h3, h4⟩
    · exact c2 ⟨h2, h3, Classical.byContradiction fun h5 => h4 (this.2 h5)⟩
  · intro h1
    refine ⟨hab, hab, fun i _ => ?_, fun s _ k => by omega, fun s _ k => by omega⟩
    by_cases e1 : i = b
    · subst e1; rw [sw_b, sw_a hab]
    · by_cases e2 : i = a
      · subst e2; rw [sw_a hab, sw_b]
      · rw [sw_o e2 e1, sw_o e2 e1]
theorem back_row (px : permF x n) (ha : a < n) (hb : b < n) (hab : a ≠ b) : okQ n x x a b b a = true ↔ dd n (x a) (x b) = 1 := by
  have nab : x a ≠ x b := fun h => hab (px.2 a b ha hb h)
  have xa := px.1 a ha
  have xb := px.1 b hb
  rw [okQ_iff, emB_iff, emB_iff]
  constructor
  · rintro ⟨_, _, _, k1, k2⟩
    refine Classical.byContradiction fun h1 => ?_
    obtain ⟨r, hr, hra, hrb, h2, h3⟩ := dd_next xa xb nab h1
    obtain ⟨t, ht, rfl⟩ := surj_of_inj px.1 px.2 r hr
    have hta : t ≠ a := fun e => hra (by rw [e])
    have htb : t ≠ b := fun e => hrb (by rw [e])
    have c1 := k1 t ht
    have c2 := k2 t ht
    rw [sw_b, sw_a hab, sw_o hta htb] at c2
    have := dd_part ha hb ht hab
    have h5 := dd_in ha hb ht hta htb hab
    by_cases h4 : dd n a t < dd n a b
    · exact c1 ⟨h5.1, h4, h3⟩
    · exact c2 ⟨h5.2, Classical.byContradiction fun h6 => h4 (this.2 h6), h3⟩
  · intro h1
    have none : ∀ s, s < n → s ≠ a → ¬ dd n (x a) (x s) < dd n (x a) (x b) := fun s hs hsa k => by
      have : dd n (x a) (x s) = 0 := by omega
      exact hsa (px.2 s a hs ha ((dd_zero xa (px.1 s hs)).1 this).symm)
    refine ⟨hab, Ne.symm hab, fun i _ => ?_, fun s hs k => ?_, fun s hs k => ?_⟩
    · by_cases e1 : i = b
      · subst e1; rw [sw_a (Ne.symm hab), sw_a hab]
      · by_cases e2 : i = a
        · subst e2; rw [sw_b, sw_b]
        · rw [sw_o e1 e2, sw_o e2 e1]
    · refine none s hs (fun e => ?_) k.2.2
      subst e
      have := (dd_zero ha ha).2 rfl
      omega
    · rw [sw_b, sw_a hab] at k
      by_cases e1 : s = b
      · subst e1
        have := (dd_zero hb hb).2 rfl
        omega
      · by_cases e2 : s = a
        · subst e2
          rw [sw_a hab] at k
          omega
        · rw [sw_o e2 e1] at k
          exact none s hs e2 k.2.2
theorem seen_col (px : permF x n) (ha : a < n) (hb : b < n) (hab : a ≠ b) (h1 : dd n a b = 1) {Mk : List (Nat × Nat)} (hMk : ∀ p ∈ Mk, p.1 < n ∧ p.2 < n) : seen n x Mk a b a b = colA Mk a := by
  unfold seen colA
  refine List.map_congr_left fun p hp => ?_
  obtain ⟨h2, h3⟩ := hMk p hp
  have nab : x a ≠ x b := fun h => hab (px.2 a b ha hb h)
  have k := dd_part (px.1 a ha) (px.1 b hb) h3 nab
  have k2 := dd_zero ha h2
  unfold totB
  by_cases e : p.1 = a
  · rw [if_pos e]
    have d0 : dd n a p.1 < dd n a b := by rw [h1, k2.2 e.symm]; omega
    by_cases h4 : dd n (x a) p.2 < dd n (x a) (x b)
    · rw [show cvB n x a b p.1 p.2 = true from cvB_iff.2 ⟨d0, h4⟩, show cvB n (sw x a b) a b p.1 p.2 = false from Bool.eq_false_iff.2 fun h5 => by
        rw [cvB_iff, sw_a hab, sw_b] at h5
        exact (k.1 h4) h5.2]
      rfl
    · rw [show cvB n x a b p.1 p.2 = false from Bool.eq_false_iff.2 fun h5 => h4 (cvB_iff.1 h5).2, show cvB n (sw x a b) a b p.1 p.2 = true from by
        rw [cvB_iff, sw_a hab, sw_b]
        exact ⟨d0, Classical.byContradiction fun h6 => h4 (k.2 h6)⟩]
      rfl
  · rw [if_neg e]
    have d0 : ¬ dd n a p.1 < dd n a b := fun h => e (k2.1 (by omega)).symm
    rw [show cvB n x a b p.1 p.2 = false from Bool.eq_false_iff.2 fun h5 => d0 (cvB_iff.1 h5).1, show cvB n (sw x a b) a b p.1 p.2 = false from Bool.eq_false_iff.2 fun h5 => d0 (cvB_iff.1 h5).1]
    rfl
theorem seen_row (px : permF x n) (ha : a < n) (hb : b < n) (hab : a ≠ b) (h1 : dd n (x a) (x b) = 1) {Mk : List (Nat × Nat)} (hMk : ∀ p ∈ Mk, p.1 < n ∧ p.2 < n) : seen n x Mk a b b a = rowA Mk (x a) := by
  unfold seen rowA
  refine List.map_congr_left fun p hp => ?_
  obtain ⟨h2, h3⟩ := hMk p hp
  have k := dd_part ha hb h2 hab
  have k2 := dd_zero (px.1 a ha) h3
  unfold totB
  by_cases e : p.2 = x a
  · rw [if_pos e]
    have d0 : dd n (x a) p.2 < dd n (x a) (x b) := by rw [h1, k2.2 e.symm]; omega
    by_cases h4 : dd n a p.1 < dd n a b
    · rw [show cvB n x a b p.1 p.2 = true from cvB_iff.2 ⟨h4, d0⟩, show cvB n (sw x a b) b a p.1 p.2 = false from Bool.eq_false_iff.2 fun h5 => by
        exact (k.1 h4) (cvB_iff.1 h5).1]
      rfl
    · rw [show cvB n x a b p.1 p.2 = false from Bool.eq_false_iff.2 fun h5 => h4 (cvB_iff.1 h5).1, show cvB n (sw x a b) b a p.1 p.2 = true from by
        rw [cvB_iff, sw_b, sw_a hab]
        exact ⟨Classical.byContradiction fun h6 => h4 (k.2 h6), d0⟩]
      rfl
  · rw [if_neg e]
    have d0 : ¬ dd n (x a) p.2 < dd n (x a) (x b) := fun h => e (k2.1 (by omega)).symm
    rw [show cvB n x a b p.1 p.2 = false from Bool.eq_false_iff.2 fun h5 => d0 (cvB_iff.1 h5).2, show cvB n (sw x a b) b a p.1 p.2 = false from Bool.eq_false_iff.2 fun h5 => by
      rw [cvB_iff, sw_b, sw_a hab] at h5
      exact d0 h5.2]
    rfl
theorem back_only (px : permF x n) {c e : Nat} (ha : a < n) (hb : b < n) (h : okQ n x x a b c e = true) : a ≠ b ∧ ((c = a ∧ e = b) ∨ (c = b ∧ e = a)) := by
  obtain ⟨hab, hce, hy, _, _⟩ := okQ_iff.1 h
  have nab : x a ≠ x b := fun h => hab (px.2 a b ha hb h)
  have ka : a = c ∨ a = e := Classical.byContradiction fun k => nab (by
    have := hy a ha
    rw [sw_o (fun e1 => k (.inl e1)) (fun e1 => k (.inr e1)), sw_a hab] at this
    exact this)
  have kb : b = c ∨ b = e := Classical.byContradiction fun k => nab (by
    have := hy b hb
    rw [sw_o (fun e1 => k (.inl e1)) (fun e1 => k (.inr e1)), sw_b] at this
    exact this.symm)
  refine ⟨hab, ?_⟩
  omega
end
theorem xl_pair {n a b : Nat} (ha : a < n) (hb : b < n) {f : Nat → Nat → Bool} (h : ∀ c e, c < n → e < n → ¬ ((c = a ∧ e = b) ∨ (c = b ∧ e = a)) → f c e = false) (hab : a ≠ b) : xl (fun c => xl (fun e => f c e) (List.range n)) (List.range n) = (f a b ^^ f b a) := by
  have e1 : ∀ c, c ∈ List.range n → xl (fun e => f c e) (List.range n) = ((decide (c = a) && f a b) ^^ (decide (c = b) && f b a)) := fun c hc => by
    have hc' := List.mem_range.1 hc
    by_cases h1 : c = a
    · subst h1
      rw [xl_one List.nodup_range (List.mem_range.2 hb) fun e he hne => h c e hc' (List.mem_range.1 he) (by omega)]
      simp [hab]
    · by_cases h2 : c = b
      · subst h2
        rw [xl_one List.nodup_range (List.mem_range.2 ha) fun e he hne => h c e hc' (List.mem_range.1 he) (by omega)]
        simp [h1]
      · rw [xl_false fun e he => h c e hc' (List.mem_range.1 he) (by omega)]
        simp [h1, h2]
  rw [xl_congr e1, xl_xor]
  congr 1
  · rw [xl_one List.nodup_range (List.mem_range.2 ha) fun c _ hne => by simp [hne]]
    simp
  · rw [xl_one List.nodup_range (List.mem_range.2 hb) fun c _ hne => by simp [hne]]
    simp
theorem master_eq {n : Nat} (hn : 2 ≤ n) {x : Nat → Nat} (px : permF x n) {Mk : List (Nat × Nat)} (hMk : ∀ p ∈ Mk, p.1 < n ∧ p.2 < n) (W : List Nat → Bool) :
    xl (fun q => okQ n x x q.1 q.2.1 q.2.2.1 q.2.2.2 && W (seen n x Mk q.1 q.2.1 q.2.2.1 q.2.2.2)) (quads n) = (xl (fun a => W (colA Mk a)) (List.range n) ^^ xl (fun r => W (rowA Mk r)) (List.range n)) := by
  rw [quads_xl n fun a b c e => okQ n x x a b c e && W (seen n x Mk a b c e)]
  have e1 : ∀ a, a ∈ List.range n → ∀ b, b ∈ List.range n → xl (fun c => xl (fun e => okQ n x x a b c e && W (seen n x Mk a b c e)) (List.range n)) (List.range n) = ((decide (dd n a b = 1) && W (colA Mk a)) ^^ (decide (dd n (x a) (x b) = 1) && W (rowA Mk (x a)))) := by
    intro a ha b hb
    have ha' := List.mem_range.1 ha
    have hb' := List.mem_range.1 hb
    by_cases hab : a = b
    · subst hab
      rw [xl_false fun c _ => xl_false fun e _ => by
        rw [Bool.and_eq_false_imp]
        intro k
        exact absurd rfl (okQ_iff.1 k).1]
      have d1 : dd n a a = 0 := (dd_zero ha' ha').2 rfl
      have d2 : dd n (x a) (x a) = 0 := (dd_zero (px.1 a ha') (px.1 a ha')).2 rfl
      simp [d1, d2]
    · rw [xl_pair ha' hb' (fun c e _ _ k => by
        rw [Bool.and_eq_false_imp]
        intro k2
        exact absurd (back_only px ha' hb' k2).2 k) hab]
      congr 1
      · by_cases h1 : dd n a b = 1
        · rw [(back_col px ha' hb' hab).2 h1, seen_col px ha' hb' hab h1 hMk]
          simp [h1]
        · rw [Bool.eq_false_iff.2 fun k => h1 ((back_col px ha' hb' hab).1 k)]
          simp [h1]
      · by_cases h1 : dd n (x a) (x b) = 1
        · rw [(back_row px ha' hb' hab).2 h1, seen_row px ha' hb' hab h1 hMk]
          simp [h1]
        · rw [Bool.eq_false_iff.2 fun k => h1 ((back_row px ha' hb' hab).1 k)]
          simp [h1]
  rw [xl_congr fun a ha => xl_congr (e1 a ha)]
  rw [xl_congr fun a _ => xl_xor (fun b => decide (dd n a b = 1) && W (colA Mk a)) (fun b => decide (dd n (x a) (x b) = 1) && W (rowA Mk (x a))) (List.range n), xl_xor]
  congr 1
  · refine xl_congr fun a ha => ?_
    have ha' := List.mem_range.1 ha
    have hb : (if a + 1 = n then 0 else a + 1) < n := by split <;> omega
    rw [xl_one List.nodup_range (List.mem_range.2 hb) fun b hb' hne => by rw [decide_eq_false fun k => hne ((dd_one ha' (List.mem_range.1 hb') hn).1 k), Bool.false_and]]
    rw [(dd_one ha' hb hn).2 rfl]
    simp
  · have e2 : xl (fun a => xl (fun b => decide (dd n (x a) (x b) = 1) && W (rowA Mk (x a))) (List.range n)) (List.range n) = xl (fun a => W (rowA Mk (x a))) (List.range n) := by
      refine xl_congr fun a ha => ?_
      have ha' := List.mem_range.1 ha
      have xa := px.1 a ha'
      have hr : (if x a + 1 = n then 0 else x a + 1) < n := by split <;> omega
      obtain ⟨b, hb, e⟩ := surj_of_inj px.1 px.2 _ hr
      rw [xl_one List.nodup_range (List.mem_range.2 hb) fun b' hb' hne => by
        have hb2 := List.mem_range.1 hb'
        rw [decide_eq_false fun k => hne (px.2 b' b hb2 hb ((dd_one xa (px.1 b' hb2) hn).1 k |>.trans e.symm)), Bool.false_and]]
      rw [(dd_one xa (px.1 b hb) hn).2 e]
      simp
    rw [e2, ← xl_map x fun r => W (rowA Mk r)]
    exact xl_perm px.perm
end Go.Proofs.YtmbbcmebdefggaaGreatDoor
namespace Go.Proofs.YtmbbcmebdefggaaGreatDoor
theorem sm_pull {n c : Nat} (hc : c < n) (e : Nat → Int) : sm e n = e c + sm (fun i => if i = c then 0 else e i) n := by
  have h : sm e n = sm (fun i => if i = c then e i else 0) n + sm (fun i => if i = c then 0 else e i) n := by
    rw [← sm_add]
    refine sm_congr fun i _ => ?_
    split <;> omega
  rw [h, sm_single hc fun i _ hne => if_neg hne, if_pos rfl]
/-- How many of the first n. -/
def ct (p : Nat → Prop) [DecidablePred p] (n : Nat) : Int := sm (fun i => ind (p i)) n
theorem ct_congr {p q : Nat → Prop} [DecidablePred p] [DecidablePred q] {n : Nat} (h : ∀ i, i < n → (p i ↔ q i)) : ct p n = ct q n := sm_congr fun i hi => ind_iff (h i hi)
theorem ct_split {p q r : Nat → Prop} [DecidablePred p] [DecidablePred q] [DecidablePred r] {n : Nat} (h : ∀ i, i < n → (p i ↔ q i ∨ r i) ∧ ¬ (q i ∧ r i)) : ct p n = ct q n + ct r n := by
  unfold ct
  rw [← sm_add]
  refine sm_congr fun i hi => ?_
  obtain ⟨h1, h2⟩ := h i hi
  unfold ind
  by_cases hq : q i
  · rw [if_pos hq, if_pos (h1.2 (.inl hq)), if_neg (fun hr => h2 ⟨hq, hr⟩)]; rfl
  · by_cases hr : r i
    · rw [if_neg hq, if_pos (h1.2 (.inr hr)), if_pos hr]; rfl
    · rw [if_neg hq, if_neg hr, if_neg (fun hp => (h1.1 hp).elim hq hr)]; rfl
theorem ct_none {p : Nat → Prop} [DecidablePred p] {n : Nat} (h : ∀ i, i < n → ¬ p i) : ct p n = 0 := sm_nil fun i hi => ind_no (h i hi)
theorem ct_lt {n w : Nat} (h : w ≤ n) : ct (fun i => i < w) n = w := by
  unfold ct
  rw [sm_below]
  omega
/-- A state whose rectangle stands at the lower left corner. -/
structure Cor (n w h : Nat) (f F : Nat → Nat) : Prop where
  w0 : 0 < w
  wn : w < n
  pf : permF f n
  f0 : f 0 = 0
  fw : f w = h
  F0 : F 0 = h
  Fw : F w = 0
  rest : ∀ i, i < n → i ≠ 0 → i ≠ w → F i = f i
theorem Cor.h0 {n w h : Nat} {f F : Nat → Nat} (c : Cor n w h f F) : 0 < h := by
  have h1 := c.wn
  have h2 := c.w0
  rcases Nat.eq_zero_or_pos h with e | e
  · have := c.pf.2 0 w (by omega) h1 (by rw [c.f0, c.fw, e])
    omega
  · exact e
theorem Cor.pos {n w h : Nat} {f F : Nat → Nat} (c : Cor n w h f F) {k : Nat} (hk : k < n) (h0 : k ≠ 0) : 0 < f k := by
  rcases Nat.eq_zero_or_pos (f k) with e | e
  · exact absurd (c.pf.2 k 0 hk (by omega) (by rw [e, c.f0])) h0
  · exact e
theorem Cor.ne {n w h : Nat} {f F : Nat → Nat} (c : Cor n w h f F) {k : Nat} (hk : k < n) (h0 : k ≠ w) : f k ≠ h := fun e => h0 (c.pf.2 k w hk c.wn (by rw [e, c.fw]))
theorem Cor.lt {n w h : Nat} {f F : Nat → Nat} (c : Cor n w h f F) : jLT n f f - jLT n F F = 1 + 2 * ct (fun i => 0 < i ∧ i < w ∧ f i < h) n := by
  have hw := c.wn
  have hw0 := c.w0
  have hh := c.h0
  have hn : 0 < n := by omega
  unfold jLT
  rw [← sm_sub]
  have key : ∀ i, i < n → sm (fun k => ind (i < k ∧ f i < f k)) n - sm (fun k => ind (i < k ∧ F i < F k)) n =
      if i = 0 then ct (fun k => 0 < k) n - ct (fun k => 0 < k ∧ k ≠ w ∧ h < f k) n else if i = w then ct (fun k => w < k ∧ h < f k) n - ct (fun k => w < k) n else ind (0 < i ∧ i < w ∧ f i < h) := by
    intro i hi
    by_cases e0 : i = 0
    · subst e0
      rw [if_pos rfl]
      congr 1
      · refine sm_congr fun k hk => ind_iff ?_
        rw [c.f0]
        exact ⟨fun h => h.1, fun h => ⟨h, c.pos hk (by omega)⟩⟩
      · refine sm_congr fun k hk => ind_iff ?_
        rw [c.F0]
        by_cases ew : k = w
        · subst ew
          rw [c.Fw]
          omega
        · constructor
          · rintro ⟨h1, h2⟩
            rw [c.rest k hk (by omega) ew] at h2
            exact ⟨h1, ew, h2⟩
          · rintro ⟨h1, _, h2⟩
            exact ⟨h1, by rw [c.rest k hk (by omega) ew]; exact h2⟩
    · rw [if_neg e0]
      by_cases ew : i = w
      · subst ew
        rw [if_pos rfl]
        congr 1
        · refine sm_congr fun k hk => ind_iff ?_
          rw [c.fw]
        · refine sm_congr fun k hk => ind_iff ?_
          rw [c.Fw]
          constructor
          · exact fun h => h.1
          · intro h1
            exact ⟨h1, by rw [c.rest k hk (by omega) (by omega)]; exact c.pos hk (by omega)⟩
      · rw [if_neg ew, ← sm_sub, sm_pull hw, sm_nil, Int.add_zero]
        · rw [c.fw, c.Fw, c.rest i hi e0 ew]
          unfold ind
          rw [if_neg (show ¬ (i < w ∧ f i < 0) by omega), Int.sub_zero]
          split <;> split <;> first | rfl | omega
        · intro k hk
          split
          · rfl
          · rename_i hkw
            by_cases ek : k = 0
            · subst ek
              rw [ind_no (by omega), ind_no (by omega)]; rfl
            · rw [c.rest i hi e0 ew, c.rest k hk ek hkw]; omega
  rw [sm_congr key, sm_pull hn, sm_pull hw]
  rw [if_pos rfl, if_neg (by omega : ¬ w = 0), if_neg (by omega : ¬ w = 0), if_pos rfl]
  have e1 : sm (fun i => if i = w then 0 else if i = 0 then 0 else if i = 0 then ct (fun k => 0 < k) n - ct (fun k => 0 < k ∧ k ≠ w ∧ h < f k) n else if i = w then ct (fun k => w < k ∧ h < f k) n - ct (fun k => w < k) n else ind (0 < i ∧ i < w ∧ f i < h)) n = ct (fun i => 0 < i ∧ i < w ∧ f i < h) n := by
    refine sm_congr fun i hi => ?_
    by_cases ew : i = w
    · rw [if_pos ew, ind_no (by omega)]
    · rw [if_neg ew]
      by_cases e0 : i = 0
      · rw [if_pos e0, ind_no (by omega)]
      · rw [if_neg e0, if_neg e0, if_neg ew]
  rw [e1]
  have c1 : ct (fun k => 0 < k ∧ k ≠ w ∧ h < f k) n = ct (fun k => 0 < k ∧ k < w ∧ h < f k) n + ct (fun k => w < k ∧ h < f k) n := ct_split fun k hk => by omega
  have c2 : ct (fun k => 0 < k ∧ k < w) n = ct (fun k => 0 < k ∧ k < w ∧ h < f k) n + ct (fun i => 0 < i ∧ i < w ∧ f i < h) n := ct_split fun k hk => by
    by_cases hkw : k = w
    · omega
    · have := c.ne hk hkw
      omega
  have c3 : ct (fun k => k < w) n = ct (fun k => k < 1) n + ct (fun k => 0 < k ∧ k < w) n := ct_split fun k hk => by omega
  have c4 : ct (fun k => k < n) n = ct (fun k => k < 1) n + ct (fun k => 0 < k) n := ct_split fun k hk => by omega
  have c5 : ct (fun k => k < n) n = ct (fun k => k < w + 1) n + ct (fun k => w < k) n := ct_split fun k hk => by omega
  rw [ct_lt (by omega), ct_lt (by omega)] at c3
  rw [ct_lt (by omega), ct_lt (by omega)] at c4
  rw [ct_lt (by omega), ct_lt (by omega)] at c5
  omega
theorem Cor.le {n w h : Nat} {f F : Nat → Nat} (c : Cor n w h f F) (o : Nat → Nat) : jLE n f o - jLE n F o = ct (fun i => i < w ∧ o i < h) n := by
  have hw := c.wn
  have hw0 := c.w0
  have hn : 0 < n := by omega
  unfold jLE
  rw [← sm_sub]
  have key : ∀ i, i < n → sm (fun k => ind (i ≤ k ∧ f i ≤ o k)) n - sm (fun k => ind (i ≤ k ∧ F i ≤ o k)) n =
      if i = 0 then ct (fun k => k < n) n - ct (fun k => h ≤ o k) n else if i = w then ct (fun k => w ≤ k ∧ h ≤ o k) n - ct (fun k => w ≤ k) n else 0 := by
    intro i hi
    by_cases e0 : i = 0
    · subst e0
      rw [if_pos rfl]
      congr 1
      · refine sm_congr fun k hk => ind_iff ?_
        rw [c.f0]
        omega
      · refine sm_congr fun k hk => ind_iff ?_
        rw [c.F0]
        omega
    · rw [if_neg e0]
      by_cases ew : i = w
      · subst ew
        rw [if_pos rfl]
        congr 1
        · refine sm_congr fun k hk => ind_iff ?_
          rw [c.fw]
        · refine sm_congr fun k hk => ind_iff ?_
          rw [c.Fw]
          omega
      · rw [if_neg ew, c.rest i hi e0 ew]; omega
  rw [sm_congr key, sm_pull hn, sm_pull hw]
  rw [if_pos rfl, if_neg (by omega : ¬ w = 0), if_neg (by omega : ¬ w = 0), if_pos rfl]
  rw [sm_nil fun i _ => by
    by_cases ew : i = w
    · rw [if_pos ew]
    · rw [if_neg ew]
      by_cases e0 : i = 0
      · rw [if_pos e0]
      · rw [if_neg e0, if_neg e0, if_neg ew]]
  have c1 : ct (fun k => h ≤ o k) n = ct (fun k => k < w ∧ h ≤ o k) n + ct (fun k => w ≤ k ∧ h ≤ o k) n := ct_split fun k hk => by omega
  have c2 : ct (fun k => k < w) n = ct (fun k => k < w ∧ h ≤ o k) n + ct (fun i => i < w ∧ o i < h) n := ct_split fun k hk => by omega
  have c3 : ct (fun k => k < n) n = ct (fun k => k < w) n + ct (fun k => w ≤ k) n := ct_split fun k hk => by omega
  omega
theorem Cor.gt {n w h : Nat} {f F : Nat → Nat} (c : Cor n w h f F) (o : Nat → Nat) : jLT n o f - jLT n o F = ct (fun i => i < w ∧ o i < h) n := by
  have hw := c.wn
  have hw0 := c.w0
  unfold jLT
  rw [← sm_sub]
  refine sm_congr fun i hi => ?_
  rw [← sm_sub, sm_pull hw, sm_nil, Int.add_zero]
  · rw [c.fw, c.Fw, ind_no (show ¬ (i < w ∧ o i < 0) by omega), Int.sub_zero]
  · intro k hk
    split
    · rfl
    · rename_i hkw
      by_cases ek : k = 0
      · subst ek
        rw [ind_no (by omega), ind_no (by omega)]; rfl
      · rw [c.rest k hk ek hkw]; omega
theorem Cor.mas {n w h : Nat} {f F : Nat → Nat} (c : Cor n w h f F) (o : Nat → Nat) : mas n f o - mas n F o = 1 + 2 * ct (fun i => 0 < i ∧ i < w ∧ f i < h) n - 2 * ct (fun i => i < w ∧ o i < h) n := by
  have h1 := c.lt
  have h2 := c.le o
  have h3 := c.gt o
  unfold Go.Proofs.YtmbbcmebdefggaaGreatDoor.mas
  omega
theorem ct_cut {p : Nat → Prop} [DecidablePred p] {w : Nat} : ∀ {n : Nat}, w ≤ n → ct (fun i => i < w ∧ p i) n = ct p w
  | n, h => by
    unfold ct
    induction n with
    | zero => obtain rfl : w = 0 := by omega
              rfl
    | succ n ih =>
      by_cases e : w = n + 1
      · subst e
        exact sm_congr fun i hi => ind_iff ⟨fun h => h.2, fun h => ⟨hi, h⟩⟩
      · rw [sm, ih (by omega), ind_no (by omega)]; omega
theorem mks_ct (n : Nat) (Y : List Nat) (l b h : Nat) : ∀ w, (mks n Y l b h w : Int) = ct (fun i => upR n Y l b i < h) w
  | 0 => rfl
  | w + 1 => by
    have := mks_ct n Y l b h w
    unfold ct at this ⊢
    rw [mks, sm, ← this]
    unfold ind
    split <;> simp
theorem ins_ct {n : Nat} {x : List Nat} (p : isPerm x n) {l : Nat} (hl : l < n) (h : Nat) : ∀ m, m < n → (ins n x l (x.getD l 0) h m : Int) = ct (fun i => 0 < i ∧ upR n x l (x.getD l 0) i < h) (m + 1)
  | 0, _ => by
    unfold ct
    rw [sm, sm, ind_no (by omega)]; rfl
  | m + 1, hm => by
    have := ins_ct p hl h m (by omega)
    have h1 := up_pos p hl (k := m + 1) (by omega) hm
    unfold ct at this ⊢
    rw [ins, sm, ← this]
    unfold ind
    by_cases hu : upR n x l (x.getD l 0) (m + 1) < h
    · rw [if_pos ⟨h1, hu⟩, if_pos ⟨by omega, hu⟩]; simp
    · rw [if_neg (fun k => hu k.2), if_neg (fun k => hu k.2)]; simp
theorem rolf_up {n l b : Nat} (hl : l < n) (hb : b ≤ n) (Y : List Nat) {i : Nat} (hi : i < n) : rolf n (n - b) (n - l) (fun j => Y.getD j 0) i = upR n Y l b i := by
  unfold rolf upR
  have e : (i + n - (n - l) % n) % n = (l + i) % n := by
    by_cases h0 : l = 0
    · subst h0
      rw [Nat.sub_zero, Nat.mod_self, Nat.sub_zero, Nat.add_mod_right, Nat.zero_add]
    · rw [Nat.mod_eq_of_lt (show n - l < n by omega), show i + n - (n - l) = l + i by omega]
  rw [e, show Y.getD ((l + i) % n) 0 + n - b = Y.getD ((l + i) % n) 0 + (n - b) by omega]
theorem isPerm.permF {x : List Nat} {n : Nat} (p : isPerm x n) : permF (fun i => x.getD i 0) n := ⟨p.1, fun i k hi hk e => p.2.1 i k hi hk e⟩
theorem mod_ne {n l w : Nat} (hl : l < n) (h0 : 0 < w) (hw : w < n) : (l + w) % n ≠ l := fun e => by
  rcases Nat.lt_or_ge (l + w) n with h | h
  · rw [Nat.mod_eq_of_lt h] at e; omega
  · rw [Nat.mod_eq_sub_mod h, Nat.mod_eq_of_lt (by omega)] at e; omega
theorem led_get {n : Nat} {x : StB} {r : Rec} (h8 : n ≤ 8) (h1 : r.le < n) {i : Nat} : (led n x r).1.getD i 0 = if i = (r.le + r.wi) % n then x.1.getD r.le 0 else if i = r.le then x.1.getD ((r.le + r.wi) % n) 0 else x.1.getD i 0 := by
  have hm : (r.le + r.wi) % n < n := Nat.mod_lt _ (by omega)
  unfold led
  dsimp only
  rw [getD_set8' ((List.length_set ..).trans x.2.1) (by omega), getD_set8' x.2.1 (by omega)]
  simp only [eq_comm]
/-- A rectangle and the Maslov grading. -/
theorem mX_led {n : Nat} (h8 : n ≤ 8) {X O : List Nat} {x : StB} (p : isPerm x.1 n) {Y : List Nat} (py : isPerm Y n) {l w : Nat} (hl : l < n) (h0 : 0 < w) (hw : w < n) :
    mX n x.1 Y - mX n (led n x (recT n X O x.1 l w)).1 Y = 1 + 2 * (ins n x.1 l (x.1.getD l 0) (upR n x.1 l (x.1.getD l 0) w) (w - 1) : Int) - 2 * (mks n Y l (x.1.getD l 0) (upR n x.1 l (x.1.getD l 0) w) w : Int) := by
  have hn : 0 < n := by omega
  have hb := p.1 l hl
  have hm : (l + w) % n < n := Nat.mod_lt _ hn
  have hne := mod_ne hl h0 hw
  have p' : isPerm (led n x (recT n X O x.1 l w)).1 n := perm_swap p x.2.1 h8 hl hm
  have hget := fun i => led_get (x := x) (r := recT n X O x.1 l w) h8 hl (i := i)
  generalize (led n x (recT n X O x.1 l w)).1 = y at p' hget
  have hr1 : (recT n X O x.1 l w).le = l := rfl
  have hr2 : (recT n X O x.1 l w).wi = w := rfl
  rw [hr1, hr2] at hget
  generalize hB : x.1.getD l 0 = b at *
  obtain ⟨m, rfl⟩ : ∃ m, n = m + 1 := ⟨n - 1, by omega⟩
  have a1 : mX (m + 1) x.1 Y = mas (m + 1) (fun i => upR (m + 1) x.1 l b i) (fun i => upR (m + 1) Y l b i) := by
    unfold mX
    rw [← mas_shift p.permF py.permF (m + 1 - b) (m + 1 - l)]
    exact mas_congr (fun i hi => rolf_up hl (by omega) x.1 hi) fun i hi => rolf_up hl (by omega) Y hi
  have a2 : mX (m + 1) y Y = mas (m + 1) (fun i => upR (m + 1) y l b i) (fun i => upR (m + 1) Y l b i) := by
    unfold mX
    rw [← mas_shift p'.permF py.permF (m + 1 - b) (m + 1 - l)]
    exact mas_congr (fun i hi => rolf_up hl (by omega) y hi) fun i hi => rolf_up hl (by omega) Y hi
  have c : Cor (m + 1) w (upR (m + 1) x.1 l b w) (fun i => upR (m + 1) x.1 l b i) (fun i => upR (m + 1) y l b i) := by
    refine ⟨h0, hw, ?_, ?_, rfl, ?_, ?_, ?_⟩
    · exact permF_congr (permF_rolf p.permF (m + 1 - b) (m + 1 - l)) fun i hi => (rolf_up hl (by omega) x.1 hi).symm
    · unfold upR
      rw [Nat.add_zero, Nat.mod_eq_of_lt hl, hB, Nat.add_sub_cancel_left, Nat.mod_self]
    · unfold upR
      rw [Nat.add_zero, Nat.mod_eq_of_lt hl, hget l, if_neg (fun e => hne e.symm), if_pos rfl]
    · unfold upR
      rw [hget, if_pos rfl, Nat.add_sub_cancel_left, Nat.mod_self]
    · intro i hi h1 h2
      unfold upR
      have e1 : (l + i) % (m + 1) ≠ (l + w) % (m + 1) := fun e => h2 (by
        have := addmod_inj (v := l) (x := i) (y := w) hi hw (by rw [Nat.add_comm i l, Nat.add_comm w l]; exact e)
        exact this)
      rw [hget, if_neg e1, if_neg (mod_ne hl (by omega) hi)]
  have k := c.mas (fun i => upR (m + 1) Y l b i)
  rw [a1, a2, k]
  have k1 := ins_ct p hl (upR (m + 1) x.1 l b w) (w - 1) (by omega)
  rw [hB, show w - 1 + 1 = w by omega] at k1
  have k2 := mks_ct (m + 1) Y l b (upR (m + 1) x.1 l b w) w
  have k3 : ct (fun i => 0 < i ∧ i < w ∧ upR (m + 1) x.1 l b i < upR (m + 1) x.1 l b w) (m + 1) = ct (fun i => 0 < i ∧ upR (m + 1) x.1 l b i < upR (m + 1) x.1 l b w) w := by
    rw [← ct_cut (n := m + 1) (Nat.le_of_lt hw)]
    exact ct_congr fun i _ => by omega
  have k4 : ct (fun i => i < w ∧ upR (m + 1) Y l b i < upR (m + 1) x.1 l b w) (m + 1) = ct (fun i => upR (m + 1) Y l b i < upR (m + 1) x.1 l b w) w := ct_cut (Nat.le_of_lt hw)
  rw [k3, k4, ← k1, ← k2]
end Go.Proofs.YtmbbcmebdefggaaGreatDoor
namespace Go.Proofs.YtmbbcmebdefggaaGreatDoor
/-- The sum of two vectors. -/
def va {α : Type} (u v : α → Bool) : α → Bool := fun x => u x ^^ v x
def v0 {α : Type} : α → Bool := fun _ => false
section
variable {α β : Type}
theorem va_comm (u v : α → Bool) : va u v = va v u := funext fun x => Bool.xor_comm _ _
theorem va_assoc (u v w : α → Bool) : va (va u v) w = va u (va v w) := funext fun x => Bool.xor_assoc _ _ _
theorem va_self (u : α → Bool) : va u u = v0 := funext fun x => Bool.xor_self _
theorem va_zero (u : α → Bool) : va u v0 = u := funext fun x => Bool.xor_false _
theorem zero_va (u : α → Bool) : va v0 u = u := funext fun x => Bool.false_xor _
theorem va_back (u v : α → Bool) : va u (va u v) = v := by rw [← va_assoc, va_self, zero_va]
theorem va_cancel {u v w : α → Bool} (h : va u v = va u w) : v = w := by rw [← va_back u v, h, va_back]
theorem va_eq {u v : α → Bool} (h : va u v = v0) : u = v := by
  have := va_back u v
  rw [h, va_zero] at this
  exact this
theorem va_swap (a b c d : α → Bool) : va (va a b) (va c d) = va (va a c) (va b d) := funext fun x => by
  unfold va
  cases a x <;> cases b x <;> cases c x <;> cases d x <;> rfl
/-- A space. -/
structure Spc (U : (α → Bool) → Prop) : Prop where
  z : U v0
  add : ∀ u v, U u → U v → U (va u v)
/-- So many vectors. -/
def Crd (U : (α → Bool) → Prop) (N : Nat) : Prop := ∃ L : List (α → Bool), L.Nodup ∧ (∀ v, v ∈ L ↔ U v) ∧ L.length = N
theorem Crd.uniq {U : (α → Bool) → Prop} {N M : Nat} (h : Crd U N) (k : Crd U M) : N = M := by
  classical
  obtain ⟨L, h1, h2, rfl⟩ := h
  obtain ⟨K, k1, k2, rfl⟩ := k
  exact ((List.perm_ext_iff_of_nodup h1 k1).2 fun v => (h2 v).trans (k2 v).symm).length_eq
theorem Crd.congr {U W : (α → Bool) → Prop} {N : Nat} (h : Crd U N) (e : ∀ v, U v ↔ W v) : Crd W N := by
  obtain ⟨L, h1, h2, h3⟩ := h
  exact ⟨L, h1, fun v => (h2 v).trans (e v), h3⟩
/-- A new vector doubles the number. -/
theorem Crd.double {U : (α → Bool) → Prop} {N : Nat} (hU : Spc U) (h : Crd U N) {g : α → Bool} (hg : ¬ U g) : Crd (fun v => U v ∨ U (va g v)) (2 * N) := by
  obtain ⟨L, h1, h2, h3⟩ := h
  refine ⟨L ++ L.map (va g), ?_, fun v => ?_, ?_⟩
  · refine List.nodup_append.2 ⟨h1, ?_, fun a ha b hb e => ?_⟩
    · rw [List.nodup_iff_pairwise_ne, List.pairwise_map]
      exact List.Pairwise.imp (fun {a b} hab e => hab (va_cancel e)) (List.nodup_iff_pairwise_ne.1 h1)
    · obtain ⟨c, hc, rfl⟩ := List.mem_map.1 hb
      subst e
      have := hU.add _ _ ((h2 _).1 ha) ((h2 _).1 hc)
      rw [va_assoc, va_self, va_zero] at this
      exact hg this
  · rw [List.mem_append, List.mem_map, h2]
    constructor
    · rintro (h | ⟨c, hc, rfl⟩)
      · exact .inl h
      · exact .inr (by rw [va_back]; exact (h2 c).1 hc)
    · rintro (h | h)
      · exact .inl h
      · exact .inr ⟨va g v, (h2 _).2 h, va_back g v⟩
  · rw [List.length_append, List.length_map]; omega
/-- The vectors on a list's places. -/
def Spp (L : List α) (v : α → Bool) : Prop := ∀ x, v x = true → x ∈ L
theorem Spp.spc (L : List α) : Spc (Spp L) := by
  refine ⟨fun x h => (by cases h), fun u v hu hv x h => ?_⟩
  unfold va at h
  cases h1 : u x
  · cases h2 : v x
    · rw [h1, h2] at h; cases h
    · exact hv x h2
  · exact hu x h1
/-- The number of vectors is a power of two. -/
theorem Spc.pow : ∀ (L : List α) {U : (α → Bool) → Prop}, Spc U → (∀ v, U v → Spp L v) → ∃ d, Crd U (2 ^ d)
  | [], U, hU, hs => ⟨0, [v0], by simp, fun v => by
      rw [List.mem_singleton]
      constructor
      · rintro rfl; exact hU.z
      · intro h
        refine funext fun x => ?_
        cases e : v x
        · rfl
        · exact absurd (hs v h x e) List.not_mem_nil, rfl⟩
  | x :: L, U, hU, hs => by
    have hU0 : Spc fun v => U v ∧ v x = false := ⟨⟨hU.z, rfl⟩, fun u v hu hv => ⟨hU.add u v hu.1 hv.1, by unfold va; rw [hu.2, hv.2]; rfl⟩⟩
    obtain ⟨d, hd⟩ := Spc.pow L hU0 fun v hv y hy => by
      rcases List.mem_cons.1 (hs v hv.1 y hy) with rfl | h
      · rw [hv.2] at hy; cases hy
      · exact h
    by_cases hg : ∃ g, U g ∧ g x = true
    · obtain ⟨g, hg1, hg2⟩ := hg
      refine ⟨d + 1, ?_⟩
      rw [Nat.pow_succ, Nat.mul_comm]
      refine (hd.double hU0 (g := g) fun k => by rw [hg2] at k; cases k.2).congr fun v => ?_
      constructor
      · rintro (h | h)
        · exact h.1
        · have := hU.add _ _ hg1 h.1
          rwa [va_back] at this
      · intro h
        rcases Bool.eq_false_or_eq_true (v x) with e | e
        · exact .inr ⟨hU.add _ _ hg1 h, by unfold va; rw [hg2, e]; rfl⟩
        · exact .inl ⟨h, e⟩
    · refine ⟨d, hd.congr fun v => ⟨fun h => h.1, fun h => ⟨h, ?_⟩⟩⟩
      rcases Bool.eq_false_or_eq_true (v x) with e | e
      · exact absurd ⟨v, h, e⟩ hg
      · exact e
/-- All vectors on a list's places. -/
theorem Spp.crd : ∀ {L : List α}, L.Nodup → Crd (Spp L) (2 ^ L.length)
  | [], _ => ⟨[v0], by simp, fun v => by
      rw [List.mem_singleton]
      constructor
      · rintro rfl; exact (Spp.spc []).z
      · intro h
        refine funext fun x => ?_
        cases e : v x
        · rfl
        · exact absurd (h x e) List.not_mem_nil, rfl⟩
  | x :: L, hn => by
    classical
    obtain ⟨h1, h2⟩ := List.nodup_cons.1 hn
    rw [List.length_cons, Nat.pow_succ, Nat.mul_comm]
    refine ((Spp.crd h2).double (Spp.spc L) (g := fun y => decide (y = x)) fun k => h1 (k x (by simp))).congr fun v => ?_
    constructor
    · rintro (h | h) y hy
      · exact List.mem_cons_of_mem _ (h y hy)
      · by_cases e : y = x
        · rw [e]; exact List.mem_cons_self
        · exact List.mem_cons_of_mem _ (h y (by show (decide (y = x) ^^ v y) = true; rw [decide_eq_false e, Bool.false_xor]; exact hy))
    · intro h
      cases e : v x
      · refine .inl fun y hy => ?_
        rcases List.mem_cons.1 (h y hy) with rfl | k
        · rw [e] at hy; cases hy
        · exact k
      · refine .inr fun y hy => ?_
        have hy : (decide (y = x) ^^ v y) = true := hy
        by_cases e2 : y = x
        · rw [e2, e] at hy
          simp at hy
        · rw [decide_eq_false e2, Bool.false_xor] at hy
          rcases List.mem_cons.1 (h y hy) with k | k
          · exact absurd k e2
          · exact k
/-- Sums of products. -/
theorem Crd.prod {U P : (α → Bool) → Prop} {W Y : (β → Bool) → Prop} {a b c e : Nat} (hU : Spc U) (hW : Spc W) {f : (α → Bool) → β → Bool} (hf : ∀ u v, U u → U v → f (va u v) = va (f u) (f v))
    (ha : Crd U a) (hb : Crd W b) (hc : Crd P c) (he : Crd Y e) (hP : ∀ u, P u ↔ U u ∧ W (f u)) (hY : ∀ y, Y y ↔ ∃ u w, U u ∧ W w ∧ y = va (f u) w) : a * b = c * e := by
  classical
  obtain ⟨La, a1, a2, rfl⟩ := ha
  obtain ⟨Lb, b1, b2, rfl⟩ := hb
  obtain ⟨Lc, c1, c2, rfl⟩ := hc
  obtain ⟨Le, e1, e2, rfl⟩ := he
  -- for each sum one way to make it
  have hs : ∃ s : (β → Bool) → (α → Bool) × (β → Bool), ∀ y, Y y → U (s y).1 ∧ W (s y).2 ∧ y = va (f (s y).1) (s y).2 := by
    refine ⟨fun y => if h : Y y then (((hY y).1 h).choose, ((hY y).1 h).choose_spec.choose) else (v0, v0), fun y h => ?_⟩
    simp only [dif_pos h]
    exact ((hY y).1 h).choose_spec.choose_spec
  obtain ⟨s, hs⟩ := hs
  have f0 : f v0 = v0 := by
    have := hf v0 v0 hU.z hU.z
    rw [va_self] at this
    have h2 := va_back (f v0) (f v0)
    rw [← this, va_self] at h2
    exact h2.symm
  have p1 : (La.flatMap fun u => Lb.map fun w => (u, w)).Nodup := by
    rw [List.nodup_iff_pairwise_ne, List.pairwise_flatMap]
    refine ⟨fun u _ => ?_, List.Pairwise.imp (fun {u v} huv => ?_) (List.nodup_iff_pairwise_ne.1 a1)⟩
    · rw [List.pairwise_map]
      exact List.Pairwise.imp (fun {x y} hxy e => hxy (Prod.mk.inj e).2) (List.nodup_iff_pairwise_ne.1 b1)
    · intro x hx y hy e
      obtain ⟨_, _, rfl⟩ := List.mem_map.1 hx
      obtain ⟨_, _, rfl⟩ := List.mem_map.1 hy
      exact huv (Prod.mk.inj e).1
  have p2 : (Le.flatMap fun y => Lc.map fun p => (va p (s y).1, va (f p) (s y).2)).Nodup := by
    rw [List.nodup_iff_pairwise_ne, List.pairwise_flatMap]
    refine ⟨fun y _ => ?_, List.Pairwise.imp_of_mem (fun {y y'} hy hy' hne => ?_) (List.nodup_iff_pairwise_ne.1 e1)⟩
    · rw [List.pairwise_map]
      refine List.Pairwise.imp (fun {p q} hpq e => hpq ?_) (List.nodup_iff_pairwise_ne.1 c1)
      have := (Prod.mk.inj e).1
      rw [va_comm p, va_comm q] at this
      exact va_cancel this
    · intro x hx z hz e
      obtain ⟨p, hp, rfl⟩ := List.mem_map.1 hx
      obtain ⟨q, hq, rfl⟩ := List.mem_map.1 hz
      obtain ⟨k1, k2⟩ := Prod.mk.inj e
      have hp' := (hP p).1 ((c2 p).1 hp)
      have hq' := (hP q).1 ((c2 q).1 hq)
      have hy1 := hs y ((e2 y).1 hy)
      have hy2 := hs y' ((e2 y').1 hy')
      apply hne
      have k3 := congrArg f k1
      rw [hf _ _ hp'.1 hy1.1, hf _ _ hq'.1 hy2.1] at k3
      have k4 : va (va (f p) (f (s y).1)) (va (f p) (s y).2) = va (va (f q) (f (s y').1)) (va (f q) (s y').2) := by rw [k3, k2]
      rw [va_swap, va_self, zero_va, ← hy1.2.2, va_swap, va_self, zero_va, ← hy2.2.2] at k4
      exact k4
  have hm : ∀ z, z ∈ (La.flatMap fun u => Lb.map fun w => (u, w)) ↔ z ∈ (Le.flatMap fun y => Lc.map fun p => (va p (s y).1, va (f p) (s y).2)) := by
    rintro ⟨u, w⟩
    rw [List.mem_flatMap, List.mem_flatMap]
    constructor
    · rintro ⟨u', hu', h⟩
      obtain ⟨w', hw', e⟩ := List.mem_map.1 h
      obtain ⟨rfl, rfl⟩ := Prod.mk.inj e
      have hu := (a2 _).1 hu'
      have hw := (b2 _).1 hw'
      have hy : Y (va (f u') w') := (hY _).2 ⟨_, _, hu, hw, rfl⟩
      obtain ⟨k1, k2, k3⟩ := hs _ hy
      refine ⟨va (f u') w', (e2 _).2 hy, List.mem_map.2 ⟨va u' (s (va (f u') w')).1, (c2 _).2 ((hP _).2 ⟨hU.add _ _ hu k1, ?_⟩), ?_⟩⟩
      · rw [hf _ _ hu k1]
        have h5 : va (f u') (f (s (va (f u') w')).1) = va w' (s (va (f u') w')).2 := by
          have h6 : va (va (f u') w') (va (f (s (va (f u') w')).1) (s (va (f u') w')).2) = v0 := by rw [← k3, va_self]
          rw [va_swap] at h6
          exact va_eq h6
        rw [h5]
        exact hW.add _ _ hw k2
      · refine Prod.ext ?_ ?_
        · show va (va u' (s (va (f u') w')).1) (s (va (f u') w')).1 = u'
          rw [va_assoc, va_self, va_zero]
        · show va (f (va u' (s (va (f u') w')).1)) (s (va (f u') w')).2 = w'
          rw [hf _ _ hu k1, va_assoc, ← k3, va_back]
    · rintro ⟨y, hy, h⟩
      obtain ⟨p, hp, e⟩ := List.mem_map.1 h
      obtain ⟨rfl, rfl⟩ := Prod.mk.inj e
      obtain ⟨k1, k2, _⟩ := hs y ((e2 y).1 hy)
      have hp' := (hP p).1 ((c2 p).1 hp)
      exact ⟨_, (a2 _).2 (hU.add _ _ hp'.1 k1), List.mem_map.2 ⟨_, (b2 _).2 (hW.add _ _ hp'.2 k2), rfl⟩⟩
  have hl := ((List.perm_ext_iff_of_nodup p1 p2).2 hm).length_eq
  have l1 : ∀ (A : List (α → Bool)) (C : List (β → Bool)), (A.flatMap fun u => C.map fun w => (u, w)).length = A.length * C.length := fun A C => by
    induction A with
    | nil => simp
    | cons x A ih => rw [List.flatMap_cons, List.length_append, ih, List.length_map, List.length_cons, Nat.succ_mul]; omega
  have l2 : ∀ (A : List (β → Bool)), (A.flatMap fun y => Lc.map fun p => (va p (s y).1, va (f p) (s y).2)).length = Lc.length * A.length := fun A => by
    induction A with
    | nil => simp
    | cons x A ih => rw [List.flatMap_cons, List.length_append, ih, List.length_map, List.length_cons, Nat.mul_succ]; omega
  rw [l1, l2] at hl
  exact hl
theorem pow_inj2 {d e : Nat} (h : 2 ^ d = 2 ^ e) : d = e := by
  rcases Nat.lt_trichotomy d e with k | k | k
  · have := Nat.pow_lt_pow_right (a := 2) (by decide) k; omega
  · exact k
  · have := Nat.pow_lt_pow_right (a := 2) (by decide) k; omega
/-- The dimension. -/
def Dm (U : (α → Bool) → Prop) (d : Nat) : Prop := Crd U (2 ^ d)
theorem Dm.uniq {U : (α → Bool) → Prop} {d e : Nat} (h : Dm U d) (k : Dm U e) : d = e := pow_inj2 (Crd.uniq h k)
theorem Dm.congr {U W : (α → Bool) → Prop} {d : Nat} (h : Dm U d) (e : ∀ v, U v ↔ W v) : Dm W d := Crd.congr h e
theorem Dm.prod {U P : (α → Bool) → Prop} {W Y : (β → Bool) → Prop} {a b c e : Nat} (hU : Spc U) (hW : Spc W) {f : (α → Bool) → β → Bool} (hf : ∀ u v, U u → U v → f (va u v) = va (f u) (f v))
    (ha : Dm U a) (hb : Dm W b) (hc : Dm P c) (he : Dm Y e) (hP : ∀ u, P u ↔ U u ∧ W (f u)) (hY : ∀ y, Y y ↔ ∃ u w, U u ∧ W w ∧ y = va (f u) w) : a + b = c + e := by
  have := Crd.prod hU hW hf ha hb hc he hP hY
  rw [← Nat.pow_add, ← Nat.pow_add] at this
  exact pow_inj2 this
/-- The kernel and the image. -/
theorem Dm.img {U K : (α → Bool) → Prop} {Y : (β → Bool) → Prop} {a c e : Nat} (hU : Spc U) {f : (α → Bool) → β → Bool} (hf : ∀ u v, U u → U v → f (va u v) = va (f u) (f v))
    (ha : Dm U a) (hc : Dm K c) (he : Dm Y e) (hK : ∀ u, K u ↔ U u ∧ f u = v0) (hY : ∀ y, Y y ↔ ∃ u, U u ∧ y = f u) : a = c + e := by
  have h := Dm.prod (W := fun w => w = v0) hU ⟨rfl, fun u v hu hv => by rw [hu, hv, va_self]⟩ hf ha (b := 0) ⟨[v0], by simp, fun v => List.mem_singleton, rfl⟩ hc he hK fun y => (hY y).trans ⟨fun ⟨u, h1, h2⟩ => ⟨u, v0, h1, rfl, by rw [va_zero]; exact h2⟩, fun ⟨u, w, h1, h2, h3⟩ => ⟨u, h1, by rw [h3, h2, va_zero]⟩⟩
  omega
end
end Go.Proofs.YtmbbcmebdefggaaGreatDoor
namespace Go.Proofs.YtmbbcmebdefggaaGreatDoor
section
variable {α : Type}
/-- The vectors of a grade. -/
def Cg (L : List α) (gr : α → Int × Int) (g : Int × Int) (v : α → Bool) : Prop := ∀ x, v x = true → x ∈ L ∧ gr x = g
theorem Cg.spc (L : List α) (gr : α → Int × Int) (g : Int × Int) : Spc (Cg L gr g) := by
  refine ⟨fun x h => (by cases h), fun u v hu hv x h => ?_⟩
  unfold va at h
  cases h1 : u x
  · cases h2 : v x
    · rw [h1, h2] at h; cases h
    · exact hv x h2
  · exact hu x h1
theorem Cg.spp {L : List α} {gr : α → Int × Int} {g : Int × Int} {v : α → Bool} (h : Cg L gr g v) : Spp L v := fun x hx => (h x hx).1
def sh (g : Int × Int) (a m : Int) : Int × Int := (g.1 + a, g.2 + m)
theorem sh_sh (g : Int × Int) (a m b k : Int) : sh (sh g a m) b k = sh g (a + b) (m + k) := by unfold sh; exact Prod.ext (Int.add_assoc _ _ _) (Int.add_assoc _ _ _)
theorem sh_0 (g : Int × Int) : sh g 0 0 = g := by unfold sh; exact Prod.ext (Int.add_zero _) (Int.add_zero _)
/-- A linear operation that shifts grades. -/
structure Lin (L : List α) (gr : α → Int × Int) (a m : Int) (f : (α → Bool) → α → Bool) : Prop where
  add : ∀ u v, f (va u v) = va (f u) (f v)
  to : ∀ g v, Cg L gr g v → Cg L gr (sh g a m) (f v)
theorem Lin.zero {L : List α} {gr : α → Int × Int} {a m : Int} {f : (α → Bool) → α → Bool} (h : Lin L gr a m f) : f v0 = v0 := by
  have := h.add v0 v0
  rw [va_self] at this
  have h2 := va_back (f v0) (f v0)
  rw [← this, va_self] at h2
  exact h2.symm
def Zg (L : List α) (gr : α → Int × Int) (d : (α → Bool) → α → Bool) (g : Int × Int) (v : α → Bool) : Prop := Cg L gr g v ∧ d v = v0
def Bg (L : List α) (gr : α → Int × Int) (d : (α → Bool) → α → Bool) (g : Int × Int) (v : α → Bool) : Prop := ∃ b, Cg L gr (sh g 0 1) b ∧ v = d b
/-- The operations. -/
structure Ksz (L : List α) (gr : α → Int × Int) (d : (α → Bool) → α → Bool) (k : Nat) (D F : Nat → (α → Bool) → α → Bool) : Prop where
  ld : Lin L gr 0 (-1) d
  lD : ∀ i, i < k → Lin L gr 2 1 (D i)
  lF : ∀ i, i < k → Lin L gr (-2) (-1) (F i)
  dd : ∀ g v, Cg L gr g v → d (d v) = v0
  dD : ∀ i, i < k → ∀ g v, Cg L gr g v → d (D i v) = D i (d v)
  dF : ∀ i, i < k → ∀ g v, Cg L gr g v → d (F i v) = F i (d v)
  DD : ∀ i j, i < k → j < k → i ≠ j → ∀ g v, Zg L gr d g v → Bg L gr d (sh g 4 2) (va (D i (D j v)) (D j (D i v)))
  Dq : ∀ i, i < k → ∀ g v, Zg L gr d g v → D i (D i v) = v0
  DF : ∀ i j, i < k → j < k → i ≠ j → ∀ g v, Zg L gr d g v → Bg L gr d g (va (D i (F j v)) (F j (D i v)))
  id : ∀ i, i < k → ∀ g v, Zg L gr d g v → Bg L gr d g (va v (va (D i (F i v)) (F i (D i v))))
section
variable {L : List α} {gr : α → Int × Int} {d : (α → Bool) → α → Bool}
theorem Zg.spc (hd : Lin L gr 0 (-1) d) (g : Int × Int) : Spc (Zg L gr d g) := ⟨⟨(Cg.spc L gr g).z, hd.zero⟩, fun u v hu hv => ⟨(Cg.spc L gr g).add _ _ hu.1 hv.1, by rw [hd.add, hu.2, hv.2, va_self]⟩⟩
theorem Bg.spc (hd : Lin L gr 0 (-1) d) (g : Int × Int) : Spc (Bg L gr d g) := ⟨⟨v0, (Cg.spc L gr _).z, hd.zero.symm⟩, fun u v ⟨a, ha, e⟩ ⟨b, hb, e'⟩ => ⟨va a b, (Cg.spc L gr _).add _ _ ha hb, by rw [e, e', hd.add]⟩⟩
theorem Bg.cg (hd : Lin L gr 0 (-1) d) {g : Int × Int} {v : α → Bool} (h : Bg L gr d g v) : Cg L gr g v := by
  obtain ⟨b, hb, rfl⟩ := h
  have := hd.to _ b hb
  rwa [sh_sh, show (0 : Int) + 0 = 0 from rfl, show (1 : Int) + -1 = 0 from rfl, sh_0] at this
variable {k : Nat} {D F : Nat → (α → Bool) → α → Bool}
theorem Ksz.bz (K : Ksz L gr d k D F) {g : Int × Int} {v : α → Bool} (h : Bg L gr d g v) : Zg L gr d g v := by
  refine ⟨h.cg K.ld, ?_⟩
  obtain ⟨b, hb, rfl⟩ := h
  exact K.dd _ b hb
theorem Ksz.Db (K : Ksz L gr d k D F) {i : Nat} (hi : i < k) {g : Int × Int} {v : α → Bool} (h : Bg L gr d g v) : Bg L gr d (sh g 2 1) (D i v) := by
  obtain ⟨b, hb, rfl⟩ := h
  have := (K.lD i hi).to _ b hb
  refine ⟨D i b, ?_, (K.dD i hi _ b hb).symm⟩
  rw [sh_sh] at this ⊢
  exact this
theorem Ksz.Fb (K : Ksz L gr d k D F) {i : Nat} (hi : i < k) {g : Int × Int} {v : α → Bool} (h : Bg L gr d g v) : Bg L gr d (sh g (-2) (-1)) (F i v) := by
  obtain ⟨b, hb, rfl⟩ := h
  have := (K.lF i hi).to _ b hb
  refine ⟨F i b, ?_, (K.dF i hi _ b hb).symm⟩
  rw [sh_sh] at this ⊢
  exact this
theorem Ksz.Dz (K : Ksz L gr d k D F) {i : Nat} (hi : i < k) {g : Int × Int} {v : α → Bool} (h : Zg L gr d g v) : Zg L gr d (sh g 2 1) (D i v) := ⟨(K.lD i hi).to _ v h.1, by rw [K.dD i hi _ v h.1, h.2, (K.lD i hi).zero]⟩
theorem Ksz.Fz (K : Ksz L gr d k D F) {i : Nat} (hi : i < k) {g : Int × Int} {v : α → Bool} (h : Zg L gr d g v) : Zg L gr d (sh g (-2) (-1)) (F i v) := ⟨(K.lF i hi).to _ v h.1, by rw [K.dF i hi _ v h.1, h.2, (K.lF i hi).zero]⟩
/-- The cycles that the first i operations lead to boundaries. -/
def Zi (L : List α) (gr : α → Int × Int) (d : (α → Bool) → α → Bool) (D : Nat → (α → Bool) → α → Bool) (i : Nat) (g : Int × Int) (v : α → Bool) : Prop := Zg L gr d g v ∧ ∀ j, j < i → Bg L gr d (sh g 2 1) (D j v)
theorem Zi.spc (K : Ksz L gr d k D F) {i : Nat} (hi : i ≤ k) (g : Int × Int) : Spc (Zi L gr d D i g) :=
  ⟨⟨(Zg.spc K.ld g).z, fun j hj => by rw [(K.lD j (by omega)).zero]; exact (Bg.spc K.ld _).z⟩, fun u v hu hv => ⟨(Zg.spc K.ld g).add _ _ hu.1 hv.1, fun j hj => by rw [(K.lD j (by omega)).add]; exact (Bg.spc K.ld _).add _ _ (hu.2 j hj) (hv.2 j hj)⟩⟩
theorem Zi.spp {i : Nat} {g : Int × Int} {v : α → Bool} (h : Zi L gr d D i g v) : Spp L v := h.1.1.spp
/-- What the next operation makes of them, and boundaries. -/
theorem Ksz.step (K : Ksz L gr d k D F) {i : Nat} (hi : i < k) (g : Int × Int) (y : α → Bool) : Zi L gr d D (i + 1) (sh g 2 1) y ↔ ∃ u w, Zi L gr d D i g u ∧ Bg L gr d (sh g 2 1) w ∧ y = va (D i u) w := by
  constructor
  · rintro ⟨hz, hD⟩
    have hFy := K.Fz hi hz
    rw [sh_sh, show (2 : Int) + -2 = 0 from rfl, show (1 : Int) + -1 = 0 from rfl, sh_0] at hFy
    refine ⟨F i y, va y (D i (F i y)), ⟨hFy, fun j hj => ?_⟩, ?_, ?_⟩
    · have h1 := K.DF j i (by omega) hi (by omega) _ y hz
      have h2 := K.Fb hi (hD j (by omega))
      rw [sh_sh, show (2 : Int) + -2 = 0 from rfl, show (1 : Int) + -1 = 0 from rfl, sh_0] at h2
      have h3 := (Bg.spc K.ld _).add _ _ h1 h2
      rwa [va_assoc, va_self, va_zero] at h3
    · have h1 := K.id i hi _ y hz
      have h2 := K.Fb hi (hD i (by omega))
      rw [sh_sh, show (2 : Int) + -2 = 0 from rfl, show (1 : Int) + -1 = 0 from rfl, sh_0] at h2
      have h3 := (Bg.spc K.ld _).add _ _ h1 h2
      rwa [va_assoc, va_assoc, va_self, va_zero] at h3
    · rw [va_comm y, va_back]
  · rintro ⟨u, w, ⟨hu, hD⟩, hw, rfl⟩
    refine ⟨(Zg.spc K.ld _).add _ _ (K.Dz hi hu) (K.bz hw), fun j hj => ?_⟩
    rw [(K.lD j (by omega)).add]
    refine (Bg.spc K.ld _).add _ _ ?_ (K.Db (by omega) hw)
    by_cases e : j = i
    · subst e
      rw [K.Dq j hi _ u hu]
      exact (Bg.spc K.ld _).z
    · have h1 := K.DD j i (by omega) hi e _ u hu
      have h2 := K.Db hi (hD j (by omega))
      rw [sh_sh] at h2 ⊢
      have h3 := (Bg.spc K.ld _).add _ _ h1 h2
      rwa [va_assoc, va_self, va_zero] at h3
theorem Ksz.sub (K : Ksz L gr d k D F) {i : Nat} (hi : i ≤ k) {g : Int × Int} {v : α → Bool} (h : Bg L gr d g v) : Zi L gr d D i g v := ⟨K.bz h, fun j hj => K.Db (by omega) h⟩
/-- A dimension, chosen. -/
noncomputable def dm (U : (α → Bool) → Prop) : Nat := open Classical in if h : ∃ d, Dm U d then h.choose else 0
theorem dm_is {U : (α → Bool) → Prop} {e : Nat} (h : Dm U e) : dm U = e := by
  have hx : ∃ d, Dm U d := ⟨e, h⟩
  unfold dm
  rw [dif_pos hx]
  exact hx.choose_spec.uniq h
theorem dm_dm {U : (α → Bool) → Prop} (hU : Spc U) (hs : ∀ v, U v → Spp L v) : Dm U (dm U) := by
  obtain ⟨e, he⟩ := Spc.pow L hU hs
  rwa [dm_is he]
theorem dm_mono {U W : (α → Bool) → Prop} (hU : Spc U) (hW : Spc W) (hs : ∀ v, W v → Spp L v) (h : ∀ v, U v → W v) : dm U ≤ dm W := by
  classical
  have h1 := dm_dm hU fun v hv => hs v (h v hv)
  have h2 := dm_dm hW hs
  obtain ⟨A, a1, a2, a3⟩ := h1
  obtain ⟨C, c1, c2, c3⟩ := h2
  have := List.Nodup.length_le_of_subset a1 (l₂ := C) fun v hv => (c2 v).2 (h v ((a2 v).1 hv))
  rw [a3, c3] at this
  exact (Nat.pow_le_pow_iff_right (Nat.lt_succ_self 1)).1 this
/-- The part of the homology that the first i operations kill. -/
noncomputable def qh (L : List α) (gr : α → Int × Int) (d : (α → Bool) → α → Bool) (D : Nat → (α → Bool) → α → Bool) (i : Nat) (g : Int × Int) : Int := (dm (Zi L gr d D i g) : Int) - dm (Bg L gr d g)
theorem Ksz.q_nonneg (K : Ksz L gr d k D F) {i : Nat} (hi : i ≤ k) (g : Int × Int) : 0 ≤ qh L gr d D i g := by
  have := dm_mono (L := L) (Bg.spc K.ld g) (Zi.spc K hi g) (fun v hv => hv.spp) fun v hv => K.sub hi hv
  unfold qh
  omega
theorem Ksz.q_split (K : Ksz L gr d k D F) {i : Nat} (hi : i < k) (g : Int × Int) : qh L gr d D i g = qh L gr d D (i + 1) g + qh L gr d D (i + 1) (sh g 2 1) := by
  have h1 := dm_dm (L := L) (Zi.spc K (Nat.le_of_lt hi) g) fun v hv => hv.spp
  have h2 := dm_dm (L := L) (Bg.spc K.ld (sh g 2 1)) fun v hv => (hv.cg K.ld).spp
  have h3 := dm_dm (L := L) (Zi.spc K (show i + 1 ≤ k from hi) g) fun v hv => hv.spp
  have h4 := dm_dm (L := L) (Zi.spc K (show i + 1 ≤ k from hi) (sh g 2 1)) fun v hv => hv.spp
  have := Dm.prod (Zi.spc K (Nat.le_of_lt hi) g) (Bg.spc K.ld (sh g 2 1)) (fun u v _ _ => (K.lD i hi).add u v) h1 h2 h3 h4 (fun u => ?_) fun y => K.step hi g y
  · unfold qh
    omega
  · constructor
    · rintro ⟨hz, hD⟩
      exact ⟨⟨hz, fun j hj => hD j (by omega)⟩, hD i (by omega)⟩
    · rintro ⟨⟨hz, hD⟩, h⟩
      refine ⟨hz, fun j hj => ?_⟩
      by_cases e : j = i
      · subst e; exact h
      · exact hD j (by omega)
/-- The first of them: states, less two ranks. -/
theorem Ksz.q_zero (K : Ksz L gr d k D F) (g : Int × Int) : qh L gr d D 0 g = (dm (Cg L gr g) : Int) - dm (Bg L gr d (sh g 0 (-1))) - dm (Bg L gr d g) := by
  have h1 := dm_dm (L := L) (Cg.spc L gr g) fun v hv => hv.spp
  have h2 := dm_dm (L := L) (Zi.spc K (Nat.zero_le _) g) fun v hv => hv.spp
  have h3 := dm_dm (L := L) (Bg.spc K.ld (sh g 0 (-1))) fun v hv => (hv.cg K.ld).spp
  have := Dm.img (Cg.spc L gr g) (fun u v _ _ => K.ld.add u v) h1 h2 h3 (fun u => ⟨fun h => h.1, fun h => ⟨h, fun j hj => by omega⟩⟩) fun y => ⟨fun ⟨b, hb, e⟩ => ⟨b, by rwa [sh_sh, show (0 : Int) + 0 = 0 from rfl, show (-1 : Int) + 1 = 0 from rfl, sh_0] at hb, e⟩, fun ⟨b, hb, e⟩ => ⟨b, by rw [sh_sh, show (0 : Int) + 0 = 0 from rfl, show (-1 : Int) + 1 = 0 from rfl, sh_0]; exact hb, e⟩⟩
  unfold qh
  omega
end
end
end Go.Proofs.YtmbbcmebdefggaaGreatDoor
