/- Plain: sums modulo two over lists; two rectangles one after the other on small tori, by trying all. Plain: two rectangles one after the other: what leads from a state to another one comes in pairs. Plain: the pairs of rectangles from a state to another one cancel each other, whatever is asked of the cells that they cover. Plain: two rectangles that lead back: rows and columns of the torus. Plain: how a rectangle changes the Maslov grading. Plain: spaces of functions with values modulo two: how many vectors there are, dimensions. Plain: cycles and boundaries in grades; operations that undo each other up to boundaries split the homology evenly. -/
import Derived.Test.YtmbbcmebdefggaaGreatDoorV
import Derived.Test.YtmbbcmebdefggaaGreatDoorPG
import Derived.Test.YtmbbcmebdefggaaGreatDoorHA
namespace Go.Proofs.YtmbbcmebdefggaaGreatDoor
section
variable {α β : Type}
/-- The sum modulo two over a list. -/
def xl (f : α → Bool) : List α → Bool
  | [] => false
  | x :: l => f x ^^ xl f l
theorem xl_cons (f : α → Bool) (x : α) (l : List α) : xl f (x :: l) = (f x ^^ xl f l) := rfl
theorem xl_app (f : α → Bool) : ∀ (l m : List α), xl f (l ++ m) = (xl f l ^^ xl f m)
  | [], m => by rw [List.nil_append, xl, Bool.false_xor]
  | x :: l, m => by rw [List.cons_append, xl, xl, xl_app f l m, Bool.xor_assoc]
theorem xl_congr {f g : α → Bool} : ∀ {l : List α}, (∀ x ∈ l, f x = g x) → xl f l = xl g l
  | [], _ => rfl
  | x :: l, h => by rw [xl, xl, h x List.mem_cons_self, xl_congr fun y hy => h y (List.mem_cons_of_mem _ hy)]
theorem xl_false : ∀ {l : List α} {f : α → Bool}, (∀ x ∈ l, f x = false) → xl f l = false
  | [], _, _ => rfl
  | x :: l, f, h => by rw [xl, h x List.mem_cons_self, xl_false fun y hy => h y (List.mem_cons_of_mem _ hy)]; rfl
theorem xl_xor (f g : α → Bool) : ∀ l : List α, xl (fun x => f x ^^ g x) l = (xl f l ^^ xl g l)
  | [] => rfl
  | x :: l => by
    rw [xl, xl, xl, xl_xor f g l]
    cases f x <;> cases g x <;> cases xl f l <;> cases xl g l <;> rfl
theorem xl_map (g : β → α) (f : α → Bool) : ∀ l : List β, xl f (l.map g) = xl (fun x => f (g x)) l
  | [] => rfl
  | x :: l => by rw [List.map_cons, xl, xl, xl_map g f l]
theorem xl_filter (p f : α → Bool) : ∀ l : List α, xl f (l.filter p) = xl (fun x => p x && f x) l
  | [] => rfl
  | x :: l => by
    rw [List.filter_cons, xl]
    cases h : p x
    · rw [if_neg (by simp), xl_filter p f l]; simp
    · rw [if_pos rfl, xl, xl_filter p f l]; simp
theorem xl_perm {f : α → Bool} {l m : List α} (h : List.Perm l m) : xl f l = xl f m := by
  induction h with
  | nil => rfl
  | cons x _ ih => rw [xl, xl, ih]
  | swap x y l =>
    rw [xl, xl, xl, xl, ← Bool.xor_assoc, ← Bool.xor_assoc, Bool.xor_comm (f x)]
  | trans _ _ h1 h2 => exact h1.trans h2
/-- Only one place counts. -/
theorem xl_one {f : α → Bool} : ∀ {l : List α} {c : α}, l.Nodup → c ∈ l → (∀ x ∈ l, x ≠ c → f x = false) → xl f l = f c
  | x :: l, c, hn, hc, h => by
    obtain ⟨h1, h2⟩ := List.nodup_cons.1 hn
    rcases List.mem_cons.1 hc with rfl | hc
    · rw [xl, xl_false fun y hy => h y (List.mem_cons_of_mem _ hy) fun e => h1 (e ▸ hy), Bool.xor_false]
    · rw [xl, h x List.mem_cons_self fun e => h1 (e ▸ hc), Bool.false_xor]
      exact xl_one h2 hc fun y hy => h y (List.mem_cons_of_mem _ hy)
/-- Only the places of a part count. -/
theorem xl_sub {f : α → Bool} {g : β → α} {l : List α} {m : List β} (hl : l.Nodup) (hm : (m.map g).Nodup) (hs : ∀ y ∈ m, g y ∈ l) (h : ∀ x ∈ l, x ∉ m.map g → f x = false) : xl f l = xl (fun y => f (g y)) m := by
  classical
  rw [← xl_map g f]
  have e1 : xl f l = xl f (l.filter fun x => decide (x ∈ m.map g)) := by
    rw [xl_filter]
    refine xl_congr fun x hx => ?_
    by_cases hx2 : x ∈ m.map g
    · simp [hx2]
    · rw [h x hx hx2]; simp
  rw [e1]
  refine xl_perm ((List.perm_ext_iff_of_nodup (hl.filter _) hm).2 fun x => ?_)
  rw [List.mem_filter, decide_eq_true_iff]
  refine ⟨fun k => k.2, fun k => ⟨?_, k⟩⟩
  obtain ⟨y, hy, rfl⟩ := List.mem_map.1 k
  exact hs y hy
end
/-! Rectangles on a torus, as functions. -/
/-- The way from a to b. -/
def dd (n a b : Nat) : Nat := if a ≤ b then b - a else b + n - a
/-- No other point inside. -/
def emB (n : Nat) (x : Nat → Nat) (a b : Nat) : Bool := (List.range n).all fun s => !(decide (0 < dd n a s) && (decide (dd n a s < dd n a b) && decide (dd n (x a) (x s) < dd n (x a) (x b))))
/-- A cell inside. -/
def cvB (n : Nat) (x : Nat → Nat) (a b s t : Nat) : Bool := decide (dd n a s < dd n a b) && decide (dd n (x a) t < dd n (x a) (x b))
end Go.Proofs.YtmbbcmebdefggaaGreatDoor
namespace Go.Proofs.YtmbbcmebdefggaaGreatDoor
/-! Places in between. -/
/-! What is exchanged. -/
theorem emB_iff {n : Nat} {x : Nat → Nat} {a b : Nat} : emB n x a b = true ↔ ∀ s, s < n → ¬ (0 < dd n a s ∧ dd n a s < dd n a b ∧ dd n (x a) (x s) < dd n (x a) (x b)) := by
  unfold emB
  simp only [List.all_eq_true, List.mem_range, Bool.not_eq_true', Bool.and_eq_false_imp, decide_eq_true_eq, decide_eq_false_iff_not]
  exact ⟨fun h s hs k => h s hs k.1 k.2.1 k.2.2, fun h s hs k1 k2 k3 => h s hs ⟨k1, k2, k3⟩⟩
theorem cvB_iff {n : Nat} {x : Nat → Nat} {a b s t : Nat} : cvB n x a b s t = true ↔ dd n a s < dd n a b ∧ dd n (x a) t < dd n (x a) (x b) := by
  unfold cvB
  rw [Bool.and_eq_true, decide_eq_true_eq, decide_eq_true_eq]
/-! From the torus to a small one. -/
section
variable {n m : Nat} {S R x P : Nat → Nat}
variable {κ κ' : Nat → Nat}
end
end Go.Proofs.YtmbbcmebdefggaaGreatDoor
namespace Go.Proofs.YtmbbcmebdefggaaGreatDoor
end Go.Proofs.YtmbbcmebdefggaaGreatDoor
namespace Go.Proofs.YtmbbcmebdefggaaGreatDoor
theorem dd_zero {n a b : Nat} (ha : a < n) (hb : b < n) : dd n a b = 0 ↔ a = b := by
  unfold dd
  split <;> omega
theorem dd_lt {n a b : Nat} (ha : a < n) (hb : b < n) : dd n a b < n := by
  unfold dd
  split <;> omega
section
variable {n : Nat} {x : Nat → Nat} {a b : Nat}
end
end Go.Proofs.YtmbbcmebdefggaaGreatDoor
namespace Go.Proofs.YtmbbcmebdefggaaGreatDoor
theorem sm_pull {n c : Nat} (hc : c < n) (e : Nat → Int) : sm e n = e c + sm (fun i => if i = c then 0 else e i) n := by
  have h : sm e n = sm (fun i => if i = c then e i else 0) n + sm (fun i => if i = c then 0 else e i) n := by
    rw [← sm_add]
    refine sm_congr fun i _ => ?_
    split <;> omega
  rw [h, sm_single hc fun i _ hne => if_neg hne, if_pos rfl]
/-- How many of the first n. -/
def ct (p : Nat → Prop) [DecidablePred p] (n : Nat) : Int := sm (fun i => ind (p i)) n
theorem ct_congr {p q : Nat → Prop} [DecidablePred p] [DecidablePred q] {n : Nat} (h : ∀ i, i < n → (p i ↔ q i)) : ct p n = ct q n := sm_congr fun i hi => ind_iff (h i hi)
theorem ct_split {p q r : Nat → Prop} [DecidablePred p] [DecidablePred q] [DecidablePred r] {n : Nat} (h : ∀ i, i < n → (p i ↔ q i ∨ r i) ∧ ¬ (q i ∧ r i)) : ct p n = ct q n + ct r n := by
  unfold ct
  rw [← sm_add]
  refine sm_congr fun i hi => ?_
  obtain ⟨h1, h2⟩ := h i hi
  unfold ind
  by_cases hq : q i
  · rw [if_pos hq, if_pos (h1.2 (.inl hq)), if_neg (fun hr => h2 ⟨hq, hr⟩)]; rfl
  · by_cases hr : r i
    · rw [if_neg hq, if_pos (h1.2 (.inr hr)), if_pos hr]; rfl
    · rw [if_neg hq, if_neg hr, if_neg (fun hp => (h1.1 hp).elim hq hr)]; rfl
theorem ct_none {p : Nat → Prop} [DecidablePred p] {n : Nat} (h : ∀ i, i < n → ¬ p i) : ct p n = 0 := sm_nil fun i hi => ind_no (h i hi)
theorem ct_lt {n w : Nat} (h : w ≤ n) : ct (fun i => i < w) n = w := by
  unfold ct
  rw [sm_below]
  omega
/-- A state whose rectangle stands at the lower left corner. -/
structure Cor (n w h : Nat) (f F : Nat → Nat) : Prop where
  w0 : 0 < w
  wn : w < n
  pf : permF f n
  f0 : f 0 = 0
  fw : f w = h
  F0 : F 0 = h
  Fw : F w = 0
  rest : ∀ i, i < n → i ≠ 0 → i ≠ w → F i = f i
theorem Cor.h0 {n w h : Nat} {f F : Nat → Nat} (c : Cor n w h f F) : 0 < h := by
  have h1 := c.wn
  have h2 := c.w0
  rcases Nat.eq_zero_or_pos h with e | e
  · have := c.pf.2 0 w (by omega) h1 (by rw [c.f0, c.fw, e])
    omega
  · exact e
theorem Cor.pos {n w h : Nat} {f F : Nat → Nat} (c : Cor n w h f F) {k : Nat} (hk : k < n) (h0 : k ≠ 0) : 0 < f k := by
  rcases Nat.eq_zero_or_pos (f k) with e | e
  · exact absurd (c.pf.2 k 0 hk (by omega) (by rw [e, c.f0])) h0
  · exact e
theorem Cor.ne {n w h : Nat} {f F : Nat → Nat} (c : Cor n w h f F) {k : Nat} (hk : k < n) (h0 : k ≠ w) : f k ≠ h := fun e => h0 (c.pf.2 k w hk c.wn (by rw [e, c.fw]))
theorem Cor.lt {n w h : Nat} {f F : Nat → Nat} (c : Cor n w h f F) : jLT n f f - jLT n F F = 1 + 2 * ct (fun i => 0 < i ∧ i < w ∧ f i < h) n := by
  have hw := c.wn
  have hw0 := c.w0
  have hh := c.h0
  have hn : 0 < n := by omega
  unfold jLT
  rw [← sm_sub]
  have key : ∀ i, i < n → sm (fun k => ind (i < k ∧ f i < f k)) n - sm (fun k => ind (i < k ∧ F i < F k)) n =
      if i = 0 then ct (fun k => 0 < k) n - ct (fun k => 0 < k ∧ k ≠ w ∧ h < f k) n else if i = w then ct (fun k => w < k ∧ h < f k) n - ct (fun k => w < k) n else ind (0 < i ∧ i < w ∧ f i < h) := by
    intro i hi
    by_cases e0 : i = 0
    · subst e0
      rw [if_pos rfl]
      congr 1
      · refine sm_congr fun k hk => ind_iff ?_
        rw [c.f0]
        exact ⟨fun h => h.1, fun h => ⟨h, c.pos hk (by omega)⟩⟩
      · refine sm_congr fun k hk => ind_iff ?_
        rw [c.F0]
        by_cases ew : k = w
        · subst ew
          rw [c.Fw]
          omega
        · constructor
          · rintro ⟨h1, h2⟩
            rw [c.rest k hk (by omega) ew] at h2
            exact ⟨h1, ew, h2⟩
          · rintro ⟨h1, _, h2⟩
            exact ⟨h1, by rw [c.rest k hk (by omega) ew]; exact h2⟩
    · rw [if_neg e0]
      by_cases ew : i = w
      · subst ew
        rw [if_pos rfl]
        congr 1
        · refine sm_congr fun k hk => ind_iff ?_
          rw [c.fw]
        · refine sm_congr fun k hk => ind_iff ?_
          rw [c.Fw]
          constructor
          · exact fun h => h.1
          · intro h1
            exact ⟨h1, by rw [c.rest k hk (by omega) (by omega)]; exact c.pos hk (by omega)⟩
      · rw [if_neg ew, ← sm_sub, sm_pull hw, sm_nil, Int.add_zero]
        · rw [c.fw, c.Fw, c.rest i hi e0 ew]
          unfold ind
          rw [if_neg (show ¬ (i < w ∧ f i < 0) by omega), Int.sub_zero]
          split <;> split <;> first | rfl | omega
        · intro k hk
          split
          · rfl
          · rename_i hkw
            by_cases ek : k = 0
            · subst ek
              rw [ind_no (by omega), ind_no (by omega)]; rfl
            · rw [c.rest i hi e0 ew, c.rest k hk ek hkw]; omega
  rw [sm_congr key, sm_pull hn, sm_pull hw]
  rw [if_pos rfl, if_neg (by omega : ¬ w = 0), if_neg (by omega : ¬ w = 0), if_pos rfl]
  have e1 : sm (fun i => if i = w then 0 else if i = 0 then 0 else if i = 0 then ct (fun k => 0 < k) n - ct (fun k => 0 < k ∧ k ≠ w ∧ h < f k) n else if i = w then ct (fun k => w < k ∧ h < f k) n - ct (fun k => w < k) n else ind (0 < i ∧ i < w ∧ f i < h)) n = ct (fun i => 0 < i ∧ i < w ∧ f i < h) n := by
    refine sm_congr fun i hi => ?_
    by_cases ew : i = w
    · rw [if_pos ew, ind_no (by omega)]
    · rw [if_neg ew]
      by_cases e0 : i = 0
      · rw [if_pos e0, ind_no (by omega)]
      · rw [if_neg e0, if_neg e0, if_neg ew]
  rw [e1]
  have c1 : ct (fun k => 0 < k ∧ k ≠ w ∧ h < f k) n = ct (fun k => 0 < k ∧ k < w ∧ h < f k) n + ct (fun k => w < k ∧ h < f k) n := ct_split fun k hk => by omega
  have c2 : ct (fun k => 0 < k ∧ k < w) n = ct (fun k => 0 < k ∧ k < w ∧ h < f k) n + ct (fun i => 0 < i ∧ i < w ∧ f i < h) n := ct_split fun k hk => by
    by_cases hkw : k = w
    · omega
    · have := c.ne hk hkw
      omega
  have c3 : ct (fun k => k < w) n = ct (fun k => k < 1) n + ct (fun k => 0 < k ∧ k < w) n := ct_split fun k hk => by omega
  have c4 : ct (fun k => k < n) n = ct (fun k => k < 1) n + ct (fun k => 0 < k) n := ct_split fun k hk => by omega
  have c5 : ct (fun k => k < n) n = ct (fun k => k < w + 1) n + ct (fun k => w < k) n := ct_split fun k hk => by omega
  rw [ct_lt (by omega), ct_lt (by omega)] at c3
  rw [ct_lt (by omega), ct_lt (by omega)] at c4
  rw [ct_lt (by omega), ct_lt (by omega)] at c5
  omega
theorem Cor.le {n w h : Nat} {f F : Nat → Nat} (c : Cor n w h f F) (o : Nat → Nat) : jLE n f o - jLE n F o = ct (fun i => i < w ∧ o i < h) n := by
  have hw := c.wn
  have hw0 := c.w0
  have hn : 0 < n := by omega
  unfold jLE
  rw [← sm_sub]
  have key : ∀ i, i < n → sm (fun k => ind (i ≤ k ∧ f i ≤ o k)) n - sm (fun k => ind (i ≤ k ∧ F i ≤ o k)) n =
      if i = 0 then ct (fun k => k < n) n - ct (fun k => h ≤ o k) n else if i = w then ct (fun k => w ≤ k ∧ h ≤ o k) n - ct (fun k => w ≤ k) n else 0 := by
    intro i hi
    by_cases e0 : i = 0
    · subst e0
      rw [if_pos rfl]
      congr 1
      · refine sm_congr fun k hk => ind_iff ?_
        rw [c.f0]
        omega
      · refine sm_congr fun k hk => ind_iff ?_
        rw [c.F0]
        omega
    · rw [if_neg e0]
      by_cases ew : i = w
      · subst ew
        rw [if_pos rfl]
        congr 1
        · refine sm_congr fun k hk => ind_iff ?_
          rw [c.fw]
        · refine sm_congr fun k hk => ind_iff ?_
          rw [c.Fw]
          omega
      · rw [if_neg ew, c.rest i hi e0 ew]; omega
  rw [sm_congr key, sm_pull hn, sm_pull hw]
  rw [if_pos rfl, if_neg (by omega : ¬ w = 0), if_neg (by omega : ¬ w = 0), if_pos rfl]
  rw [sm_nil fun i _ => by
    by_cases ew : i = w
    · rw [if_pos ew]
    · rw [if_neg ew]
      by_cases e0 : i = 0
      · rw [if_pos e0]
      · rw [if_neg e0, if_neg e0, if_neg ew]]
  have c1 : ct (fun k => h ≤ o k) n = ct (fun k => k < w ∧ h ≤ o k) n + ct (fun k => w ≤ k ∧ h ≤ o k) n := ct_split fun k hk => by omega
  have c2 : ct (fun k => k < w) n = ct (fun k => k < w ∧ h ≤ o k) n + ct (fun i => i < w ∧ o i < h) n := ct_split fun k hk => by omega
  have c3 : ct (fun k => k < n) n = ct (fun k => k < w) n + ct (fun k => w ≤ k) n := ct_split fun k hk => by omega
  omega
theorem Cor.gt {n w h : Nat} {f F : Nat → Nat} (c : Cor n w h f F) (o : Nat → Nat) : jLT n o f - jLT n o F = ct (fun i => i < w ∧ o i < h) n := by
  have hw := c.wn
  have hw0 := c.w0
  unfold jLT
  rw [← sm_sub]
  refine sm_congr fun i hi => ?_
  rw [← sm_sub, sm_pull hw, sm_nil, Int.add_zero]
  · rw [c.fw, c.Fw, ind_no (show ¬ (i < w ∧ o i < 0) by omega), Int.sub_zero]
  · intro k hk
    split
    · rfl
    · rename_i hkw
      by_cases ek : k = 0
      · subst ek
        rw [ind_no (by omega), ind_no (by omega)]; rfl
      · rw [c.rest k hk ek hkw]; omega
theorem Cor.mas {n w h : Nat} {f F : Nat → Nat} (c : Cor n w h f F) (o : Nat → Nat) : mas n f o - mas n F o = 1 + 2 * ct (fun i => 0 < i ∧ i < w ∧ f i < h) n - 2 * ct (fun i => i < w ∧ o i < h) n := by
  have h1 := c.lt
  have h2 := c.le o
  have h3 := c.gt o
  unfold Go.Proofs.YtmbbcmebdefggaaGreatDoor.mas
  omega
theorem ct_cut {p : Nat → Prop} [DecidablePred p] {w : Nat} : ∀ {n : Nat}, w ≤ n → ct (fun i => i < w ∧ p i) n = ct p w
  | n, h => by
    unfold ct
    induction n with
    | zero => obtain rfl : w = 0 := by omega
              rfl
    | succ n ih =>
      by_cases e : w = n + 1
      · subst e
        exact sm_congr fun i hi => ind_iff ⟨fun h => h.2, fun h => ⟨hi, h⟩⟩
      · rw [sm, ih (by omega), ind_no (by omega)]; omega
theorem mks_ct (n : Nat) (Y : List Nat) (l b h : Nat) : ∀ w, (mks n Y l b h w : Int) = ct (fun i => upR n Y l b i < h) w
  | 0 => rfl
  | w + 1 => by
    have := mks_ct n Y l b h w
    unfold ct at this ⊢
    rw [mks, sm, ← this]
    unfold ind
    split <;> simp
theorem ins_ct {n : Nat} {x : List Nat} (p : isPerm x n) {l : Nat} (hl : l < n) (h : Nat) : ∀ m, m < n → (ins n x l (x.getD l 0) h m : Int) = ct (fun i => 0 < i ∧ upR n x l (x.getD l 0) i < h) (m + 1)
  | 0, _ => by
    unfold ct
    rw [sm, sm, ind_no (by omega)]; rfl
  | m + 1, hm => by
    have := ins_ct p hl h m (by omega)
    have h1 := up_pos p hl (k := m + 1) (by omega) hm
    unfold ct at this ⊢
    rw [ins, sm, ← this]
    unfold ind
    by_cases hu : upR n x l (x.getD l 0) (m + 1) < h
    · rw [if_pos ⟨h1, hu⟩, if_pos ⟨by omega, hu⟩]; simp
    · rw [if_neg (fun k => hu k.2), if_neg (fun k => hu k.2)]; simp
theorem rolf_up {n l b : Nat} (hl : l < n) (hb : b ≤ n) (Y : List Nat) {i : Nat} (hi : i < n) : rolf n (n - b) (n - l) (fun j => Y.getD j 0) i = upR n Y l b i := by
  unfold rolf upR
  have e : (i + n - (n - l) % n) % n = (l + i) % n := by
    by_cases h0 : l = 0
    · subst h0
      rw [Nat.sub_zero, Nat.mod_self, Nat.sub_zero, Nat.add_mod_right, Nat.zero_add]
    · rw [Nat.mod_eq_of_lt (show n - l < n by omega), show i + n - (n - l) = l + i by omega]
  rw [e, show Y.getD ((l + i) % n) 0 + n - b = Y.getD ((l + i) % n) 0 + (n - b) by omega]
theorem isPerm.permF {x : List Nat} {n : Nat} (p : isPerm x n) : permF (fun i => x.getD i 0) n := ⟨p.1, fun i k hi hk e => p.2.1 i k hi hk e⟩
theorem mod_ne {n l w : Nat} (hl : l < n) (h0 : 0 < w) (hw : w < n) : (l + w) % n ≠ l := fun e => by
  rcases Nat.lt_or_ge (l + w) n with h | h
  · rw [Nat.mod_eq_of_lt h] at e; omega
  · rw [Nat.mod_eq_sub_mod h, Nat.mod_eq_of_lt (by omega)] at e; omega
theorem led_get {n : Nat} {x : StB} {r : Rec} (h8 : n ≤ 8) (h1 : r.le < n) {i : Nat} : (led n x r).1.getD i 0 = if i = (r.le + r.wi) % n then x.1.getD r.le 0 else if i = r.le then x.1.getD ((r.le + r.wi) % n) 0 else x.1.getD i 0 := by
  have hm : (r.le + r.wi) % n < n := Nat.mod_lt _ (by omega)
  unfold led
  dsimp only
  rw [getD_set8' ((List.length_set ..).trans x.2.1) (by omega), getD_set8' x.2.1 (by omega)]
  simp only [eq_comm]
/-- A rectangle and the Maslov grading. -/
theorem mX_led {n : Nat} (h8 : n ≤ 8) {X O : List Nat} {x : StB} (p : isPerm x.1 n) {Y : List Nat} (py : isPerm Y n) {l w : Nat} (hl : l < n) (h0 : 0 < w) (hw : w < n) :
    mX n x.1 Y - mX n (led n x (recT n X O x.1 l w)).1 Y = 1 + 2 * (ins n x.1 l (x.1.getD l 0) (upR n x.1 l (x.1.getD l 0) w) (w - 1) : Int) - 2 * (mks n Y l (x.1.getD l 0) (upR n x.1 l (x.1.getD l 0) w) w : Int) := by
  have hn : 0 < n := by omega
  have hb := p.1 l hl
  have hm : (l + w) % n < n := Nat.mod_lt _ hn
  have hne := mod_ne hl h0 hw
  have p' : isPerm (led n x (recT n X O x.1 l w)).1 n := perm_swap p x.2.1 h8 hl hm
  have hget := fun i => led_get (x := x) (r := recT n X O x.1 l w) h8 hl (i := i)
  generalize (led n x (recT n X O x.1 l w)).1 = y at p' hget
  have hr1 : (recT n X O x.1 l w).le = l := rfl
  have hr2 : (recT n X O x.1 l w).wi = w := rfl
  rw [hr1, hr2] at hget
  generalize hB : x.1.getD l 0 = b at *
  obtain ⟨m, rfl⟩ : ∃ m, n = m + 1 := ⟨n - 1, by omega⟩
  have a1 : mX (m + 1) x.1 Y = mas (m + 1) (fun i => upR (m + 1) x.1 l b i) (fun i => upR (m + 1) Y l b i) := by
    unfold mX
    rw [← mas_shift p.permF py.permF (m + 1 - b) (m + 1 - l)]
    exact mas_congr (fun i hi => rolf_up hl (by omega) x.1 hi) fun i hi => rolf_up hl (by omega) Y hi
  have a2 : mX (m + 1) y Y = mas (m + 1) (fun i => upR (m + 1) y l b i) (fun i => upR (m + 1) Y l b i) := by
    unfold mX
    rw [← mas_shift p'.permF py.permF (m + 1 - b) (m + 1 - l)]
    exact mas_congr (fun i hi => rolf_up hl (by omega) y hi) fun i hi => rolf_up hl (by omega) Y hi
  have c : Cor (m + 1) w (upR (m + 1) x.1 l b w) (fun i => upR (m + 1) x.1 l b i) (fun i => upR (m + 1) y l b i) := by
    refine ⟨h0, hw, ?_, ?_, rfl, ?_, ?_, ?_⟩
    · exact permF_congr (permF_rolf p.permF (m + 1 - b) (m + 1 - l)) fun i hi => (rolf_up hl (by omega) x.1 hi).symm
    · unfold upR
      rw [Nat.add_zero, Nat.mod_eq_of_lt hl, hB, Nat.add_sub_cancel_left, Nat.mod_self]
    · unfold upR
      rw [Nat.add_zero, Nat.mod_eq_of_lt hl, hget l, if_neg (fun e => hne e.symm), if_pos rfl]
    · unfold upR
      rw [hget, if_pos rfl, Nat.add_sub_cancel_left, Nat.mod_self]
    · intro i hi h1 h2
      unfold upR
      have e1 : (l + i) % (m + 1) ≠ (l + w) % (m + 1) := fun e => h2 (by
        have := addmod_inj (v := l) (x := i) (y := w) hi hw (by rw [Nat.add_comm i l, Nat.add_comm w l]; exact e)
        exact this)
      rw [hget, if_neg e1, if_neg (mod_ne hl (by omega) hi)]
  have k := c.mas (fun i => upR (m + 1) Y l b i)
  rw [a1, a2, k]
  have k1 := ins_ct p hl (upR (m + 1) x.1 l b w) (w - 1) (by omega)
  rw [hB, show w - 1 + 1 = w by omega] at k1
  have k2 := mks_ct (m + 1) Y l b (upR (m + 1) x.1 l b w) w
  have k3 : ct (fun i => 0 < i ∧ i < w ∧ upR (m + 1) x.1 l b i < upR (m + 1) x.1 l b w) (m + 1) = ct (fun i => 0 < i ∧ upR (m + 1) x.1 l b i < upR (m + 1) x.1 l b w) w := by
    rw [← ct_cut (n := m + 1) (Nat.le_of_lt hw)]
    exact ct_congr fun i _ => by omega
  have k4 : ct (fun i => i < w ∧ upR (m + 1) Y l b i < upR (m + 1) x.1 l b w) (m + 1) = ct (fun i => upR (m + 1) Y l b i < upR (m + 1) x.1 l b w) w := ct_cut (Nat.le_of_lt hw)
  rw [k3, k4, ← k1, ← k2]
end Go.Proofs.YtmbbcmebdefggaaGreatDoor
namespace Go.Proofs.YtmbbcmebdefggaaGreatDoor
/-- The sum of two vectors. -/
def va {α : Type} (u v : α → Bool) : α → Bool := fun x => u x ^^ v x
def v0 {α : Type} : α → Bool := fun _ => false
section
variable {α β : Type}
theorem va_assoc (u v w : α → Bool) : va (va u v) w = va u (va v w) := funext fun x => Bool.xor_assoc _ _ _
theorem va_self (u : α → Bool) : va u u = v0 := funext fun x => Bool.xor_self _
theorem va_zero (u : α → Bool) : va u v0 = u := funext fun x => Bool.xor_false _
theorem zero_va (u : α → Bool) : va v0 u = u := funext fun x => Bool.false_xor _
theorem va_back (u v : α → Bool) : va u (va u v) = v := by rw [← va_assoc, va_self, zero_va]
theorem va_cancel {u v w : α → Bool} (h : va u v = va u w) : v = w := by rw [← va_back u v, h, va_back]
/-- A space. -/
structure Spc (U : (α → Bool) → Prop) : Prop where
  z : U v0
  add : ∀ u v, U u → U v → U (va u v)
/-- So many vectors. -/
def Crd (U : (α → Bool) → Prop) (N : Nat) : Prop := ∃ L : List (α → Bool), L.Nodup ∧ (∀ v, v ∈ L ↔ U v) ∧ L.length = N
theorem Crd.uniq {U : (α → Bool) → Prop} {N M : Nat} (h : Crd U N) (k : Crd U M) : N = M := by
  classical
  obtain ⟨L, h1, h2, rfl⟩ := h
  obtain ⟨K, k1, k2, rfl⟩ := k
  exact ((List.perm_ext_iff_of_nodup h1 k1).2 fun v => (h2 v).trans (k2 v).symm).length_eq
theorem Crd.congr {U W : (α → Bool) → Prop} {N : Nat} (h : Crd U N) (e : ∀ v, U v ↔ W v) : Crd W N := by
  obtain ⟨L, h1, h2, h3⟩ := h
  exact ⟨L, h1, fun v => (h2 v).trans (e v), h3⟩
/-- A new vector doubles the number. -/
theorem Crd.double {U : (α → Bool) → Prop} {N : Nat} (hU : Spc U) (h : Crd U N) {g : α → Bool} (hg : ¬ U g) : Crd (fun v => U v ∨ U (va g v)) (2 * N) := by
  obtain ⟨L, h1, h2, h3⟩ := h
  refine ⟨L ++ L.map (va g), ?_, fun v => ?_, ?_⟩
  · refine List.nodup_append.2 ⟨h1, ?_, fun a ha b hb e => ?_⟩
    · rw [List.nodup_iff_pairwise_ne, List.pairwise_map]
      exact List.Pairwise.imp (fun {a b} hab e => hab (va_cancel e)) (List.nodup_iff_pairwise_ne.1 h1)
    · obtain ⟨c, hc, rfl⟩ := List.mem_map.1 hb
      subst e
      have := hU.add _ _ ((h2 _).1 ha) ((h2 _).1 hc)
      rw [va_assoc, va_self, va_zero] at this
      exact hg this
  · rw [List.mem_append, List.mem_map, h2]
    constructor
    · rintro (h | ⟨c, hc, rfl⟩)
      · exact .inl h
      · exact .inr (by rw [va_back]; exact (h2 c).1 hc)
    · rintro (h | h)
      · exact .inl h
      · exact .inr ⟨va g v, (h2 _).2 h, va_back g v⟩
  · rw [List.length_append, List.length_map]; omega
/-- The vectors on a list's places. -/
def Spp (L : List α) (v : α → Bool) : Prop := ∀ x, v x = true → x ∈ L
theorem Spp.spc (L : List α) : Spc (Spp L) := by
  refine ⟨fun x h => (by cases h), fun u v hu hv x h => ?_⟩
  unfold va at h
  cases h1 : u x
  · cases h2 : v x
    · rw [h1, h2] at h; cases h
    · exact hv x h2
  · exact hu x h1
/-- The number of vectors is a power of two. -/
theorem Spc.pow : ∀ (L : List α) {U : (α → Bool) → Prop}, Spc U → (∀ v, U v → Spp L v) → ∃ d, Crd U (2 ^ d)
  | [], U, hU, hs => ⟨0, [v0], by simp, fun v => by
      rw [List.mem_singleton]
      constructor
      · rintro rfl; exact hU.z
      · intro h
        refine funext fun x => ?_
        cases e : v x
        · rfl
        · exact absurd (hs v h x e) List.not_mem_nil, rfl⟩
  | x :: L, U, hU, hs => by
    have hU0 : Spc fun v => U v ∧ v x = false := ⟨⟨hU.z, rfl⟩, fun u v hu hv => ⟨hU.add u v hu.1 hv.1, by unfold va; rw [hu.2, hv.2]; rfl⟩⟩
    obtain ⟨d, hd⟩ := Spc.pow L hU0 fun v hv y hy => by
      rcases List.mem_cons.1 (hs v hv.1 y hy) with rfl | h
      · rw [hv.2] at hy; cases hy
      · exact h
    by_cases hg : ∃ g, U g ∧ g x = true
    · obtain ⟨g, hg1, hg2⟩ := hg
      refine ⟨d + 1, ?_⟩
      rw [Nat.pow_succ, Nat.mul_comm]
      refine (hd.double hU0 (g := g) fun k => by rw [hg2] at k; cases k.2).congr fun v => ?_
      constructor
      · rintro (h | h)
        · exact h.1
        · have := hU.add _ _ hg1 h.1
          rwa [va_back] at this
      · intro h
        rcases Bool.eq_false_or_eq_true (v x) with e | e
        · exact .inr ⟨hU.add _ _ hg1 h, by unfold va; rw [hg2, e]; rfl⟩
        · exact .inl ⟨h, e⟩
    · refine ⟨d, hd.congr fun v => ⟨fun h => h.1, fun h => ⟨h, ?_⟩⟩⟩
      rcases Bool.eq_false_or_eq_true (v x) with e | e
      · exact absurd ⟨v, h, e⟩ hg
      · exact e
/-- All vectors on a list's places. -/
theorem Spp.crd : ∀ {L : List α}, L.Nodup → Crd (Spp L) (2 ^ L.length)
  | [], _ => ⟨[v0], by simp, fun v => by
      rw [List.mem_singleton]
      constructor
      · rintro rfl; exact (Spp.spc []).z
      · intro h
        refine funext fun x => ?_
        cases e : v x
        · rfl
        · exact absurd (h x e) List.not_mem_nil, rfl⟩
  | x :: L, hn => by
    classical
    obtain ⟨h1, h2⟩ := List.nodup_cons.1 hn
    rw [List.length_cons, Nat.pow_succ, Nat.mul_comm]
    refine ((Spp.crd h2).double (Spp.spc L) (g := fun y => decide (y = x)) fun k => h1 (k x (by simp))).congr fun v => ?_
    constructor
    · rintro (h | h) y hy
      · exact List.mem_cons_of_mem _ (h y hy)
      · by_cases e : y = x
        · rw [e]; exact List.mem_cons_self
        · exact List.mem_cons_of_mem _ (h y (by show (decide (y = x) ^^ v y) = true; rw [decide_eq_false e, Bool.false_xor]; exact hy))
    · intro h
      cases e : v x
      · refine .inl fun y hy => ?_
        rcases List.mem_cons.1 (h y hy) with rfl | k
        · rw [e] at hy; cases hy
        · exact k
      · refine .inr fun y hy => ?_
        have hy : (decide (y = x) ^^ v y) = true := hy
        by_cases e2 : y = x
        · rw [e2, e] at hy
          simp at hy
        · rw [decide_eq_false e2, Bool.false_xor] at hy
          rcases List.mem_cons.1 (h y hy) with k | k
          · exact absurd k e2
          · exact k
theorem pow_inj2 {d e : Nat} (h : 2 ^ d = 2 ^ e) : d = e := by
  rcases Nat.lt_trichotomy d e with k | k | k
  · have := Nat.pow_lt_pow_right (a := 2) (by decide) k; omega
  · exact k
  · have := Nat.pow_lt_pow_right (a := 2) (by decide) k; omega
/-- The dimension. -/
def Dm (U : (α → Bool) → Prop) (d : Nat) : Prop := Crd U (2 ^ d)
theorem Dm.uniq {U : (α → Bool) → Prop} {d e : Nat} (h : Dm U d) (k : Dm U e) : d = e := pow_inj2 (Crd.uniq h k)
theorem Dm.congr {U W : (α → Bool) → Prop} {d : Nat} (h : Dm U d) (e : ∀ v, U v ↔ W v) : Dm W d := Crd.congr h e
end
end Go.Proofs.YtmbbcmebdefggaaGreatDoor
namespace Go.Proofs.YtmbbcmebdefggaaGreatDoor
section
variable {α : Type}
/-- The vectors of a grade. -/
def Cg (L : List α) (gr : α → Int × Int) (g : Int × Int) (v : α → Bool) : Prop := ∀ x, v x = true → x ∈ L ∧ gr x = g
theorem Cg.spc (L : List α) (gr : α → Int × Int) (g : Int × Int) : Spc (Cg L gr g) := by
  refine ⟨fun x h => (by cases h), fun u v hu hv x h => ?_⟩
  unfold va at h
  cases h1 : u x
  · cases h2 : v x
    · rw [h1, h2] at h; cases h
    · exact hv x h2
  · exact hu x h1
theorem Cg.spp {L : List α} {gr : α → Int × Int} {g : Int × Int} {v : α → Bool} (h : Cg L gr g v) : Spp L v := fun x hx => (h x hx).1
def sh (g : Int × Int) (a m : Int) : Int × Int := (g.1 + a, g.2 + m)
theorem sh_sh (g : Int × Int) (a m b k : Int) : sh (sh g a m) b k = sh g (a + b) (m + k) := by unfold sh; exact Prod.ext (Int.add_assoc _ _ _) (Int.add_assoc _ _ _)
theorem sh_0 (g : Int × Int) : sh g 0 0 = g := by unfold sh; exact Prod.ext (Int.add_zero _) (Int.add_zero _)
/-- A linear operation that shifts grades. -/
structure Lin (L : List α) (gr : α → Int × Int) (a m : Int) (f : (α → Bool) → α → Bool) : Prop where
  add : ∀ u v, f (va u v) = va (f u) (f v)
  to : ∀ g v, Cg L gr g v → Cg L gr (sh g a m) (f v)
theorem Lin.zero {L : List α} {gr : α → Int × Int} {a m : Int} {f : (α → Bool) → α → Bool} (h : Lin L gr a m f) : f v0 = v0 := by
  have := h.add v0 v0
  rw [va_self] at this
  have h2 := va_back (f v0) (f v0)
  rw [← this, va_self] at h2
  exact h2.symm
def Bg (L : List α) (gr : α → Int × Int) (d : (α → Bool) → α → Bool) (g : Int × Int) (v : α → Bool) : Prop := ∃ b, Cg L gr (sh g 0 1) b ∧ v = d b
section
variable {L : List α} {gr : α → Int × Int} {d : (α → Bool) → α → Bool}
theorem Bg.spc (hd : Lin L gr 0 (-1) d) (g : Int × Int) : Spc (Bg L gr d g) := ⟨⟨v0, (Cg.spc L gr _).z, hd.zero.symm⟩, fun u v ⟨a, ha, e⟩ ⟨b, hb, e'⟩ => ⟨va a b, (Cg.spc L gr _).add _ _ ha hb, by rw [e, e', hd.add]⟩⟩
theorem Bg.cg (hd : Lin L gr 0 (-1) d) {g : Int × Int} {v : α → Bool} (h : Bg L gr d g v) : Cg L gr g v := by
  obtain ⟨b, hb, rfl⟩ := h
  have := hd.to _ b hb
  rwa [sh_sh, show (0 : Int) + 0 = 0 from rfl, show (1 : Int) + -1 = 0 from rfl, sh_0] at this
variable {k : Nat} {D F : Nat → (α → Bool) → α → Bool}
/-- A dimension, chosen. -/
noncomputable def dm (U : (α → Bool) → Prop) : Nat := open Classical in if h : ∃ d, Dm U d then h.choose else 0
theorem dm_is {U : (α → Bool) → Prop} {e : Nat} (h : Dm U e) : dm U = e := by
  have hx : ∃ d, Dm U d := ⟨e, h⟩
  unfold dm
  rw [dif_pos hx]
  exact hx.choose_spec.uniq h
theorem dm_dm {U : (α → Bool) → Prop} (hU : Spc U) (hs : ∀ v, U v → Spp L v) : Dm U (dm U) := by
  obtain ⟨e, he⟩ := Spc.pow L hU hs
  rwa [dm_is he]
theorem dm_mono {U W : (α → Bool) → Prop} (hU : Spc U) (hW : Spc W) (hs : ∀ v, W v → Spp L v) (h : ∀ v, U v → W v) : dm U ≤ dm W := by
  classical
  have h1 := dm_dm hU fun v hv => hs v (h v hv)
  have h2 := dm_dm hW hs
  obtain ⟨A, a1, a2, a3⟩ := h1
  obtain ⟨C, c1, c2, c3⟩ := h2
  have := List.Nodup.length_le_of_subset a1 (l₂ := C) fun v hv => (c2 v).2 (h v ((a2 v).1 hv))
  rw [a3, c3] at this
  exact (Nat.pow_le_pow_iff_right (Nat.lt_succ_self 1)).1 this
end
end
end Go.Proofs.YtmbbcmebdefggaaGreatDoor
