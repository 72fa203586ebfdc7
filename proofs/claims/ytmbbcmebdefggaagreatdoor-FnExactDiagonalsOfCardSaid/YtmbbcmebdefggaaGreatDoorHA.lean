/- Plain: rectangles, the states they lead to, and sums of states. -/
import Derived.Test.YtmbbcmebdefggaaGreatDoorTH
import Derived.Test.YtmbbcmebdefggaaGreatDoorYB
import Derived.Test.YtmbbcmebdefggaaGreatDoorSP
import Derived.Test.YtmbbcmebdefggaaGreatDoorVA
namespace Go.Proofs.YtmbbcmebdefggaaGreatDoor
open Go SL
structure Rec where
  le : Nat
  bo : Nat
  wi : Nat
  he : Nat
  xs : Nat
  os : Nat
instance : Inhabited Rec := ⟨⟨0, 0, 0, 0, 0, 0⟩⟩
def encR (r : Rec) : List Value := [.int .i64 (r.le : Int), .int .i64 (r.bo : Int), .int .i64 (r.wi : Int), .int .i64 (r.he : Int), .int .i64 (r.xs : Int), .int .i64 (r.os : Int)]
theorem encR_len (r : Rec) : (encR r).length = 6 := rfl
theorem encR_one (r : Rec) : ∀ u ∈ encR r, u.oneCell' = true := by
  intro u hu
  simp only [encR, List.mem_cons, List.not_mem_nil, or_false] at hu
  rcases hu with rfl | rfl | rfl | rfl | rfl | rfl <;> rfl
/-- The rows from the bottom upR to a column's mark. -/
def upR (n : Nat) (Y : List Nat) (l b k : Nat) : Nat := (Y.getD ((l + k) % n) 0 + n - b) % n
def mks (n : Nat) (Y : List Nat) (l b h : Nat) : Nat → Nat
  | 0 => 0
  | w + 1 => mks n Y l b h w + if upR n Y l b w < h then 1 else 0
theorem mks_le (n : Nat) (Y : List Nat) (l b h : Nat) : ∀ w, mks n Y l b h w ≤ w
  | 0 => Nat.le_refl _
  | w + 1 => by
    have := mks_le n Y l b h w
    unfold mks
    split <;> omega
/-- Points inside of the columns 1 to m of a rectangle. -/
def ins (n : Nat) (x : List Nat) (l b h : Nat) : Nat → Nat
  | 0 => 0
  | m + 1 => ins n x l b h m + if 1 ≤ upR n x l b (m + 1) ∧ upR n x l b (m + 1) < h then 1 else 0
theorem ins_le (n : Nat) (Y : List Nat) (l b h : Nat) : ∀ w, ins n Y l b h w ≤ w
  | 0 => Nat.le_refl _
  | w + 1 => by
    have := ins_le n Y l b h w
    unfold ins
    split <;> omega
def emp (n : Nat) (x : List Nat) (l b h : Nat) : Nat → Bool
  | 0 => true
  | w + 1 => if 0 < w ∧ upR n x l b w < h then false else emp n x l b h w
def recT (n : Nat) (X O x : List Nat) (l w : Nat) : Rec :=
  ⟨l, x.getD l 0, w, upR n x l (x.getD l 0) w, mks n X l (x.getD l 0) (upR n x l (x.getD l 0) w) w, mks n O l (x.getD l 0) (upR n x l (x.getD l 0) w) w⟩
/-- All rectangles from a column, of widths 1 to m. -/
def rin (n : Nat) (X O x : List Nat) (l : Nat) : Nat → List Rec
  | 0 => []
  | m + 1 => rin n X O x l m ++ [recT n X O x l (m + 1)]
def rout (n : Nat) (X O x : List Nat) : Nat → List Rec
  | 0 => []
  | k + 1 => rout n X O x k ++ rin n X O x k (n - 1)
def isEmp (n : Nat) (x : List Nat) (r : Rec) : Bool := emp n x r.le r.bo r.he r.wi
/-- The empty ones alone. -/
def einn (n : Nat) (X O x : List Nat) (l : Nat) : Nat → List Rec
  | 0 => []
  | m + 1 => if isEmp n x (recT n X O x l (m + 1)) = true then einn n X O x l m ++ [recT n X O x l (m + 1)] else einn n X O x l m
def eout (n : Nat) (X O x : List Nat) : Nat → List Rec
  | 0 => []
  | k + 1 => eout n X O x k ++ einn n X O x k (n - 1)
theorem rin_len (n : Nat) (X O x : List Nat) (l : Nat) : ∀ m, (rin n X O x l m).length = m
  | 0 => rfl
  | m + 1 => by rw [rin, List.length_append, rin_len n X O x l m]; rfl
theorem rout_len (n : Nat) (X O x : List Nat) : ∀ k, (rout n X O x k).length = k * (n - 1)
  | 0 => by simp [rout]
  | k + 1 => by rw [rout, List.length_append, rout_len n X O x k, rin_len, Nat.succ_mul]
theorem einn_filter (n : Nat) (X O x : List Nat) (l : Nat) : ∀ m, einn n X O x l m = (rin n X O x l m).filter (isEmp n x)
  | 0 => rfl
  | m + 1 => by
    rw [einn, rin, List.filter_append, einn_filter n X O x l m]
    by_cases h : isEmp n x (recT n X O x l (m + 1)) = true
    · rw [if_pos h]; simp [List.filter_cons, h]
    · rw [if_neg h]; simp [List.filter_cons, h]
theorem eout_filter (n : Nat) (X O x : List Nat) : ∀ k, eout n X O x k = (rout n X O x k).filter (isEmp n x)
  | 0 => rfl
  | k + 1 => by rw [eout, rout, List.filter_append, eout_filter n X O x k, einn_filter]
theorem einn_len (n : Nat) (X O x : List Nat) (l m : Nat) : (einn n X O x l m).length ≤ m := by
  rw [einn_filter]
  exact Nat.le_trans (List.length_filter_le _ _) (Nat.le_of_eq (rin_len n X O x l m))
theorem eout_len (n : Nat) (X O x : List Nat) (k : Nat) : (eout n X O x k).length ≤ k * (n - 1) := by
  rw [eout_filter]
  exact Nat.le_trans (List.length_filter_le _ _) (Nat.le_of_eq (rout_len n X O x k))
theorem mem_rin {n : Nat} {X O x : List Nat} {l : Nat} {r : Rec} : ∀ {m : Nat}, r ∈ rin n X O x l m → ∃ w, 1 ≤ w ∧ w ≤ m ∧ r = recT n X O x l w
  | 0, h => by simp [rin] at h
  | m + 1, h => by
    rw [rin, List.mem_append] at h
    rcases h with h | h
    · obtain ⟨w, h1, h2, h3⟩ := mem_rin h
      exact ⟨w, h1, by omega, h3⟩
    · exact ⟨m + 1, by omega, Nat.le_refl _, List.mem_singleton.1 h⟩
theorem mem_rout {n : Nat} {X O x : List Nat} {r : Rec} : ∀ {k : Nat}, r ∈ rout n X O x k → ∃ l w, l < k ∧ 1 ≤ w ∧ w < n ∧ r = recT n X O x l w
  | 0, h => by simp [rout] at h
  | k + 1, h => by
    rw [rout, List.mem_append] at h
    rcases h with h | h
    · obtain ⟨l, w, h1, h2, h3, h4⟩ := mem_rout h
      exact ⟨l, w, by omega, h2, h3, h4⟩
    · obtain ⟨w, h1, h2, h3⟩ := mem_rin h
      exact ⟨k, w, by omega, h1, by omega, h3⟩
theorem up_pos {n : Nat} {x : List Nat} (p : isPerm x n) {l k : Nat} (hl : l < n) (h0 : 0 < k) (hk : k < n) : 1 ≤ upR n x l (x.getD l 0) k := by
  have hm : (l + k) % n < n := Nat.mod_lt _ (by omega)
  have h1 := p.1 _ hm
  have h2 := p.1 _ hl
  have hne : x.getD ((l + k) % n) 0 ≠ x.getD l 0 := fun e => by
    have e2 := p.2.1 _ _ hm hl e
    rcases Nat.lt_or_ge (l + k) n with h | h
    · rw [Nat.mod_eq_of_lt h] at e2; omega
    · rw [Nat.mod_eq_sub_mod h, Nat.mod_eq_of_lt (by omega)] at e2; omega
  unfold upR
  rcases Nat.lt_or_ge (x.getD ((l + k) % n) 0) (x.getD l 0) with h | h
  · rw [Nat.mod_eq_of_lt (by omega)]; omega
  · rw [Nat.mod_eq_sub_mod (by omega), Nat.mod_eq_of_lt (by omega)]; omega
theorem ins_emp {n : Nat} {x : List Nat} {l b h : Nat} (hp : ∀ k, 0 < k → k < n → 1 ≤ upR n x l b k) : ∀ m, m + 1 ≤ n → (ins n x l b h m = 0 ↔ emp n x l b h (m + 1) = true)
  | 0, _ => by simp [ins, emp]
  | m + 1, hm => by
    have ih := ins_emp (h := h) hp m (by omega)
    have h1 := hp (m + 1) (by omega) (by omega)
    rw [ins, emp]
    by_cases hu : upR n x l b (m + 1) < h
    · rw [if_pos ⟨h1, hu⟩, if_pos ⟨by omega, hu⟩]; simp
    · rw [if_neg (fun h => hu h.2), if_neg (fun h => hu h.2), ← ih]; omega
theorem isEmp_ins {n : Nat} {X O x : List Nat} (p : isPerm x n) {r : Rec} (hr : r ∈ rout n X O x n) : isEmp n x r = decide (ins n x r.le r.bo r.he (r.wi - 1) = 0) := by
  obtain ⟨l, w, h1, h2, h3, rfl⟩ := mem_rout hr
  have := ins_emp (h := (recT n X O x l w).he) (fun k h0 hk => up_pos p h1 h0 hk) (w - 1) (by omega)
  rw [show w - 1 + 1 = w by omega] at this
  unfold isEmp
  rw [Bool.eq_iff_iff, decide_eq_true_iff]
  exact this.symm
/-- The state to which a rectangle leads. -/
def led (n : Nat) (x : StB) (r : Rec) : StB := ⟨(x.1.set r.le (x.1.getD ((r.le + r.wi) % n) 0)).set ((r.le + r.wi) % n) (x.1.getD r.le 0), isB_set (isB_set x.2 (x.2.2 _)) (x.2.2 _)⟩
theorem led_perm {n : Nat} (h8 : n ≤ 8) {X O : List Nat} {x : StB} (p : isPerm x.1 n) {r : Rec} (hr : r ∈ rout n X O x.1 n) : isPerm (led n x r).1 n := by
  obtain ⟨l, w, h1, h2, h3, rfl⟩ := mem_rout hr
  exact perm_swap p x.2.1 h8 h1 (Nat.mod_lt _ (by omega))
def freeR (r : Rec) : Bool := r.xs == 0 && r.os == 0
/-- The states that follow, as they are met. -/
def fol (n : Nat) (X O : List Nat) (x : StB) : List StB := ((eout n X O x.1 n).filter freeR).map (led n x)
theorem fol_len (n : Nat) (X O : List Nat) (x : StB) : (fol n X O x).length ≤ n * (n - 1) := by
  unfold fol
  rw [List.length_map]
  exact Nat.le_trans (List.length_filter_le _ _) (eout_len n X O x.1 n)
/-! Sums. -/
def tfold (l : List StB) : List StB := l.foldl (fun a y => sd rkT a [y]) []
theorem asc_one (x : StB) : Asc rkT [x] := List.pairwise_singleton _ _
theorem tfold_snoc (l : List StB) (x : StB) : tfold (l ++ [x]) = sd rkT (tfold l) [x] := by unfold tfold; rw [List.foldl_append]; rfl
theorem foldl_sd : ∀ (Ls : List (List StB)) (a : List StB), Asc rkT a → (∀ l ∈ Ls, Asc rkT l) → Asc rkT (Ls.foldl (sd rkT) a) ∧ (∀ x, x ∈ Ls.foldl (sd rkT) a ↔ (a.count x + Ls.flatten.count x) % 2 = 1) ∧ (Ls.foldl (sd rkT) a).length ≤ a.length + Ls.flatten.length
  | [], a, ha, _ => ⟨ha, fun x => by
      have c1 : a.count x = if x ∈ a then 1 else 0 := ha.nodup.count
      simp only [List.foldl_nil, List.flatten_nil, List.count_nil, c1]
      by_cases h : x ∈ a <;> simp [h], by simp⟩
  | b :: Ls, a, ha, hL => by
    have hb := hL b List.mem_cons_self
    obtain ⟨h1, h2, h3⟩ := foldl_sd Ls (sd rkT a b) (sd_asc a b ha hb) fun l hl => hL l (List.mem_cons_of_mem _ hl)
    have hs := sd_len (rk := rkT) a b
    refine ⟨h1, fun x => (h2 x).trans ?_, ?_⟩
    · have c1 : a.count x = if x ∈ a then 1 else 0 := ha.nodup.count
      have c2 : b.count x = if x ∈ b then 1 else 0 := hb.nodup.count
      have c3 : (sd rkT a b).count x = if x ∈ sd rkT a b then 1 else 0 := (sd_asc a b ha hb).nodup.count
      have hm := sd_mem rkT_inj a b ha hb x
      rw [List.flatten_cons, List.count_append, c1, c2, c3]
      by_cases e1 : x ∈ a <;> by_cases e2 : x ∈ b
      · have : x ∉ sd rkT a b := fun h => hm.1 h ⟨fun _ => e2, fun _ => e1⟩
        rw [if_pos e1, if_pos e2, if_neg this]; omega
      · have : x ∈ sd rkT a b := hm.2 fun h => e2 (h.1 e1)
        rw [if_pos e1, if_neg e2, if_pos this]; omega
      · have : x ∈ sd rkT a b := hm.2 fun h => e1 (h.2 e2)
        rw [if_neg e1, if_pos e2, if_pos this]; omega
      · have : x ∉ sd rkT a b := fun h => hm.1 h ⟨fun k => absurd k e1, fun k => absurd k e2⟩
        rw [if_neg e1, if_neg e2, if_neg this, Nat.zero_add, Nat.zero_add]
    · rw [List.foldl_cons, List.flatten_cons, List.length_append]
      omega
theorem tfold_eq (l : List StB) : tfold l = (l.map fun x => [x]).foldl (sd rkT) [] := by unfold tfold; rw [List.foldl_map]
theorem flat_ones : ∀ l : List StB, (l.map fun x => [x]).flatten = l
  | [] => rfl
  | x :: l => by rw [List.map_cons, List.flatten_cons, flat_ones l]; rfl
theorem tfold_odd (l : List StB) : isOdd l (tfold l) := by
  rw [tfold_eq]
  obtain ⟨h1, h2, h3⟩ := foldl_sd (l.map fun x => [x]) [] Asc.nil fun m hm => by
    obtain ⟨x, _, rfl⟩ := List.mem_map.1 hm
    exact asc_one x
  rw [flat_ones] at h2 h3
  refine ⟨h1, fun x => (h2 x).trans ?_, ?_⟩
  · rw [List.count_nil, Nat.zero_add]
  · rw [List.length_nil, Nat.zero_add] at h3; exact h3
theorem tfold_len (l : List StB) : (tfold l).length ≤ l.length := (tfold_odd l).2.2
theorem sd_one {l : List StB} {i : Nat} {x : StB} (h : ∀ j y, j < i → l[j]? = some y → rkT y < rkT x) : sd rkT l [x] = l.take i ++ sd rkT (l.drop i) [x] := by
  induction i generalizing l with
  | zero => rfl
  | succ i ih =>
    cases l with
    | nil => rfl
    | cons y l =>
      rw [sd_lt (h 0 y (by omega) rfl), List.take_succ_cons, List.drop_succ_cons, List.cons_append, ih fun j z hj hz => h (j + 1) z (by omega) (by rw [List.getElem?_cons_succ]; exact hz)]
theorem turn_same {l : List StB} {i : Nat} {x : StB} (h : ∀ j y, j < i → l[j]? = some y → rkT y < rkT x) (hx : l[i]? = some x) : sd rkT l [x] = l.take i ++ l.drop (i + 1) := by
  rw [sd_one h, List.drop_eq_getElem_cons (List.getElem?_eq_some_iff.1 hx).1, (List.getElem?_eq_some_iff.1 hx).2, sd_eq (by omega) (by omega), sd_right]
theorem turn_more {l : List StB} {i : Nat} {x : StB} (h : ∀ j y, j < i → l[j]? = some y → rkT y < rkT x) (hx : ∀ y, l[i]? = some y → rkT x < rkT y) : sd rkT l [x] = l.take i ++ x :: l.drop i := by
  rw [sd_one h]
  rcases Nat.lt_or_ge i l.length with hi | hi
  · rw [List.drop_eq_getElem_cons hi, sd_gt (hx _ (List.getElem?_eq_getElem hi)), sd_right]
  · rw [List.drop_eq_nil_of_le hi, sd_nil]
/-- How many states there are. -/
theorem sums_len {n : Nat} (h6 : n ≤ 6) {l : List StB} (ha : Asc rkT l) (hp : ∀ x ∈ l, isPerm x.1 n) : l.length ≤ 46656 := by
  have h1 : (l.map (·.1)).Nodup := by
    rw [List.nodup_iff_pairwise_ne, List.pairwise_map]
    exact List.Pairwise.imp (fun {a b} hab e => hab (Subtype.ext e)) (List.nodup_iff_pairwise_ne.1 ha.nodup)
  have h2 := List.Nodup.length_le_of_subset h1 (l₂ := sts n) fun y hy => by
    obtain ⟨x, hx, rfl⟩ := List.mem_map.1 hy
    exact (sts_mem (by omega) _).2 ⟨hp x hx, x.2.1⟩
  have hc := stF_count n n Z8 0 0
  have h3 : n ^ n ≤ 46656 := by
    have h1 : n ^ n ≤ 6 ^ n := Nat.pow_le_pow_left h6 n
    have h2 : (6 : Nat) ^ n ≤ 6 ^ 6 := Nat.pow_le_pow_right (by decide) h6
    omega
  rw [List.length_map] at h2
  exact Nat.le_trans h2 (Nat.le_trans hc h3)
end Go.Proofs.YtmbbcmebdefggaaGreatDoor
