/- Plain: operations on states that count empty rectangles with given marks inside, and how they commute. Plain: the marks of a grid; what the operations do to grades; a knot's operations undo each other. Plain: the operations on states of a knot split its homology. Plain: the boundary as an operation; ranks by leading places are dimensions of boundaries. Plain: a knot has an odd number of states with some Alexander number. Plain: Alexander numbers as sums; a knot has an odd number of states of some Alexander number. -/
import Derived.Test.YtmbbcmebdefggaaGreatDoorVH
import Derived.Test.YtmbbcmebdefggaaGreatDoorPG
import Derived.Test.YtmbbcmebdefggaaGreatDoorWC
import Derived.Test.YtmbbcmebdefggaaGreatDoorVA
namespace Go.Proofs.YtmbbcmebdefggaaGreatDoor
/-! What two rectangles see together. -/
/-- Of the marks just those of T are covered. -/
def has (Mk : List (Nat × Nat)) (c : Nat × Nat → Bool) (T : List (Nat × Nat)) : Bool := Mk.all fun p => c p == T.elem p
section
variable {Mk : List (Nat × Nat)} {p q : Nat × Nat}
end
/-! The operations. -/
def fx (x : StB) : Nat → Nat := fun i => x.1.getD i 0
def swB (x : StB) (a b : Nat) : StB := ⟨(x.1.set a (x.1.getD b 0)).set b (x.1.getD a 0), isB_set (isB_set x.2 (x.2.2 _)) (x.2.2 _)⟩
/-- All states. -/
structure AllSt (n : Nat) (L : List StB) : Prop where
  nd : L.Nodup
  mem : ∀ x, x ∈ L ↔ isPerm x.1 n
theorem swB_perm {n : Nat} (h8 : n ≤ 8) {x : StB} (h : isPerm x.1 n) {a b : Nat} (ha : a < n) (hb : b < n) : isPerm (swB x a b).1 n := perm_swap h x.2.1 h8 ha hb
def recB (n : Nat) (Mk T : List (Nat × Nat)) (x : StB) (a b : Nat) : Bool := !(a == b) && (emB n (fx x) a b && has Mk (fun p => cvB n (fx x) a b p.1 p.2) T)
def opM (n : Nat) (Mk T : List (Nat × Nat)) (x z : StB) : Bool := xl (fun a => xl (fun b => recB n Mk T x a b && decide (z = swB x a b)) (List.range n)) (List.range n)
section
variable {n : Nat} {L : List StB} {Mk : List (Nat × Nat)}
theorem opM_in (h8 : n ≤ 8) (hL : AllSt n L) {T : List (Nat × Nat)} {x z : StB} (hx : x ∈ L) (hz : z ∉ L) : opM n Mk T x z = false :=
  xl_false fun a ha => xl_false fun b hb => by
    rw [decide_eq_false fun e => hz (by rw [e]; exact (hL.mem _).2 (swB_perm h8 ((hL.mem x).1 hx) (List.mem_range.1 ha) (List.mem_range.1 hb))), Bool.and_false]
/-- On vectors. -/
def op (n : Nat) (Mk : List (Nat × Nat)) (L : List StB) (T : List (Nat × Nat)) (v : StB → Bool) : StB → Bool := fun y => xl (fun x => v x && opM n Mk T x y) L
theorem op_add (T : List (Nat × Nat)) (u v : StB → Bool) : op n Mk L T (va u v) = va (op n Mk L T u) (op n Mk L T v) := funext fun y => by
  unfold op
  show _ = (_ ^^ _)
  rw [← xl_xor]
  refine xl_congr fun x _ => ?_
  unfold va
  cases u x <;> cases v x <;> cases opM n Mk T x y <;> rfl
theorem op_out (h8 : n ≤ 8) (hL : AllSt n L) (T : List (Nat × Nat)) (v : StB → Bool) {y : StB} (hy : y ∉ L) : op n Mk L T v y = false := xl_false fun x hx => by rw [opM_in h8 hL hx hy, Bool.and_false]
end
end Go.Proofs.YtmbbcmebdefggaaGreatDoor
namespace Go.Proofs.YtmbbcmebdefggaaGreatDoor
/-! The marks. -/
def mrk (Y : List Nat) (s : Nat) : Nat × Nat := (s, Y.getD s 0)
def marks (n : Nat) (X O : List Nat) : List (Nat × Nat) := (List.range n).map (mrk X) ++ (List.range n).map (mrk O)
section
variable {n : Nat} {X O : List Nat}
theorem mem_marks {p : Nat × Nat} : p ∈ marks n X O ↔ ∃ s, s < n ∧ (p = mrk X s ∨ p = mrk O s) := by
  unfold marks
  rw [List.mem_append, List.mem_map, List.mem_map]
  constructor
  · rintro (⟨s, hs, rfl⟩ | ⟨s, hs, rfl⟩)
    · exact ⟨s, List.mem_range.1 hs, .inl rfl⟩
    · exact ⟨s, List.mem_range.1 hs, .inr rfl⟩
  · rintro ⟨s, hs, rfl | rfl⟩
    · exact .inl ⟨s, List.mem_range.2 hs, rfl⟩
    · exact .inr ⟨s, List.mem_range.2 hs, rfl⟩
/-- A grid: both are orders, and differ everywhere. -/
structure Grd (n : Nat) (X O : List Nat) : Prop where
  h2 : 2 ≤ n
  h8 : n ≤ 8
  pX : isPerm X n
  pO : isPerm O n
  ne : ∀ i, i < n → X.getD i 0 ≠ O.getD i 0
theorem okG.grd (g : okG (n : Int) X O) : Grd n X O := by
  obtain ⟨h1, h2, h3, h4⟩ := g
  simp only [Int.toNat_natCast] at h2 h3 h4
  exact ⟨by omega, by omega, h2, h3, h4⟩
/-! Grades. -/
theorem dd_mod {a b : Nat} (ha : a < n) (hb : b < n) : (b + n - a) % n = dd n a b := by
  unfold dd
  split
  · rw [show b + n - a = (b - a) + n by omega, Nat.add_mod_right, Nat.mod_eq_of_lt (by omega)]
  · rw [Nat.mod_eq_of_lt (by omega)]
theorem dd_add {a k : Nat} (ha : a < n) (hk : k < n) : dd n a ((a + k) % n) = k := by
  rcases Nat.lt_or_ge (a + k) n with h | h
  · rw [Nat.mod_eq_of_lt h]; unfold dd; split <;> omega
  · rw [Nat.mod_eq_sub_mod h, Nat.mod_eq_of_lt (by omega)]; unfold dd; split <;> omega
theorem add_dd {a b : Nat} (ha : a < n) (hb : b < n) : (a + dd n a b) % n = b := by
  unfold dd
  split
  · rw [show a + (b - a) = b by omega, Nat.mod_eq_of_lt hb]
  · rw [show a + (b + n - a) = b + n by omega, Nat.add_mod_right, Nat.mod_eq_of_lt hb]
theorem upR_dd {Y : List Nat} (pY : isPerm Y n) {a b k : Nat} (hn : 0 < n) (hb : b < n) : upR n Y a b k = dd n b (Y.getD ((a + k) % n) 0) := by
  unfold upR
  exact dd_mod hb (pY.1 _ (Nat.mod_lt _ hn))
theorem emp_iff (x : List Nat) (l b h : Nat) : ∀ w, emp n x l b h w = true ↔ ∀ k, 0 < k → k < w → ¬ upR n x l b k < h
  | 0 => by simp [emp]
  | w + 1 => by
    rw [emp]
    constructor
    · intro k j h0 hj
      split at k
      · cases k
      · rename_i hn
        by_cases e : j = w
        · subst e
          exact fun h1 => hn ⟨h0, h1⟩
        · exact (emp_iff x l b h w).1 k j h0 (by omega)
    · intro k
      rw [if_neg fun h1 => k w h1.1 (Nat.lt_succ_self w) h1.2]
      exact (emp_iff x l b h w).2 fun j h0 hj => k j h0 (by omega)
/-- Of a list of marks those of one kind. -/
def cMk (n : Nat) (Y : List Nat) (T : List (Nat × Nat)) : Int := ct (fun s => mrk Y s ∈ T) n
theorem cnt_nil (Y : List Nat) : cMk n Y [] = 0 := ct_none fun s _ h => by cases h
theorem mX_sw (g : Grd n X O) {Mk T : List (Nat × Nat)} {x : StB} (p : isPerm x.1 n) {a b : Nat} (ha : a < n) (hb : b < n) (hr : recB n Mk T x a b = true) {Y : List Nat} (pY : isPerm Y n) (hY : ∀ s, s < n → mrk Y s ∈ Mk) :
    mX n x.1 Y - mX n (swB x a b).1 Y = 1 - 2 * cMk n Y T := by
  unfold recB at hr
  simp only [Bool.and_eq_true, Bool.not_eq_true', beq_eq_false_iff_ne, ne_eq] at hr
  obtain ⟨hab, hem, hh⟩ := hr
  have h8 := g.h8
  have hn : 0 < n := by have := g.h2; omega
  have w0 : 0 < dd n a b := by
    rcases Nat.eq_zero_or_pos (dd n a b) with e | e
    · exact absurd ((dd_zero ha hb).1 e) hab
    · exact e
  have wn := dd_lt ha hb
  have e1 := add_dd ha hb
  have k := mX_led h8 (X := X) (O := O) p pY ha w0 wn
  have hled : led n x (recT n X O x.1 a (dd n a b)) = swB x a b := by
    unfold led swB
    refine Subtype.ext ?_
    show (x.1.set a (x.1.getD ((a + dd n a b) % n) 0)).set ((a + dd n a b) % n) (x.1.getD a 0) = _
    rw [e1]
  rw [hled] at k
  have xa := p.1 a ha
  have hin : ins n x.1 a (x.1.getD a 0) (upR n x.1 a (x.1.getD a 0) (dd n a b)) (dd n a b - 1) = 0 := by
    refine (ins_emp (fun j h0 hj => up_pos p ha h0 hj) (dd n a b - 1) (by omega)).2 ?_
    rw [show dd n a b - 1 + 1 = dd n a b by omega]
    refine (emp_iff x.1 a _ _ _).2 fun j h0 hj hlt => ?_
    rw [upR_dd p hn xa, upR_dd p hn xa, e1] at hlt
    have hj2 : (a + j) % n < n := Nat.mod_lt _ hn
    refine emB_iff.1 hem _ hj2 ⟨?_, ?_, hlt⟩
    · rw [dd_add ha (by omega)]; exact h0
    · rw [dd_add ha (by omega)]; exact hj
  have hmk : (mks n Y a (x.1.getD a 0) (upR n x.1 a (x.1.getD a 0) (dd n a b)) (dd n a b) : Int) = cMk n Y T := by
    rw [mks_ct, ← ct_cut (n := n) (Nat.le_of_lt wn)]
    unfold cMk
    have hperm : permF (fun i => (a + i) % n) n := ⟨fun i _ => Nat.mod_lt _ hn, fun i j hi hj e => by
      have h1 := dd_add ha hi
      have h2 := dd_add ha hj
      rw [show (a + i) % n = (a + j) % n from e] at h1
      exact h1.symm.trans h2⟩
    unfold ct
    rw [← sm_perm hperm fun s => ind (mrk Y s ∈ T)]
    refine sm_congr fun j hj => ind_iff ?_
    have hj2 : (a + j) % n < n := Nat.mod_lt _ hn
    have hc := List.all_eq_true.1 hh _ (hY _ hj2)
    rw [beq_iff_eq] at hc
    have hc : cvB n (fx x) a b (mrk Y ((a + j) % n)).1 (mrk Y ((a + j) % n)).2 = T.elem (mrk Y ((a + j) % n)) := hc
    have hc2 : cvB n (fx x) a b (mrk Y ((a + j) % n)).1 (mrk Y ((a + j) % n)).2 = true ↔ mrk Y ((a + j) % n) ∈ T := by
      rw [hc]; simp
    rw [← hc2, cvB_iff]
    show (j < dd n a b ∧ upR n Y a (x.1.getD a 0) j < upR n x.1 a (x.1.getD a 0) (dd n a b)) ↔ dd n a ((a + j) % n) < dd n a b ∧ dd n (x.1.getD a 0) (Y.getD ((a + j) % n) 0) < dd n (x.1.getD a 0) (x.1.getD b 0)
    rw [dd_add ha hj, upR_dd pY hn xa, upR_dd p hn xa, e1]
  rw [hin, hmk] at k
  omega
theorem opM_true {Mk T : List (Nat × Nat)} {x z : StB} (h : opM n Mk T x z = true) : ∃ a b, a < n ∧ b < n ∧ recB n Mk T x a b = true ∧ z = swB x a b := by
  refine Classical.byContradiction fun k => ?_
  have : opM n Mk T x z = false := xl_false fun a ha => xl_false fun b hb => by
    rw [Bool.and_eq_false_imp]
    intro h1
    rw [decide_eq_false_iff_not]
    exact fun h2 => k ⟨a, b, List.mem_range.1 ha, List.mem_range.1 hb, h1, h2⟩
  rw [this] at h
  cases h
end
end Go.Proofs.YtmbbcmebdefggaaGreatDoor
namespace Go.Proofs.YtmbbcmebdefggaaGreatDoor
theorem xl_ex {α : Type} {f : α → Bool} : ∀ {l : List α}, xl f l = true → ∃ x ∈ l, f x = true
  | [], h => by cases h
  | x :: l, h => by
    cases e : f x
    · rw [xl, e, Bool.false_xor] at h
      obtain ⟨y, hy, k⟩ := xl_ex h
      exact ⟨y, List.mem_cons_of_mem _ hy, k⟩
    · exact ⟨x, List.mem_cons_self, e⟩
/-- A state's grade. -/
def grP (n : Nat) (X O : List Nat) (x : StB) : Int × Int := (mX n x.1 O - mX n x.1 X - n + 1, mX n x.1 O)
section
variable {n : Nat} {X O : List Nat} {L : List StB}
theorem op_lin (g : Grd n X O) (hL : AllSt n L) (T : List (Nat × Nat)) : Lin L (grP n X O) (2 * (cMk n O T - cMk n X T)) (2 * cMk n O T - 1) (op n (marks n X O) L T) := by
  refine ⟨op_add T, fun gg v hv y hy => ?_⟩
  by_cases hyL : y ∈ L
  rotate_left
  · rw [op_out g.h8 hL T v hyL] at hy; cases hy
  refine ⟨hyL, ?_⟩
  obtain ⟨x, hx, k⟩ := xl_ex hy
  rw [Bool.and_eq_true] at k
  obtain ⟨a, b, ha, hb, hr, rfl⟩ := opM_true k.2
  have p := (hL.mem x).1 hx
  have k1 := mX_sw g p ha hb hr g.pO fun s hs => mem_marks.2 ⟨s, hs, .inr rfl⟩
  have k2 := mX_sw g p ha hb hr g.pX fun s hs => mem_marks.2 ⟨s, hs, .inl rfl⟩
  rw [← (hv x k.1).2]
  unfold grP sh
  refine Prod.ext ?_ ?_ <;> dsimp only <;> omega
theorem lin0 (g : Grd n X O) (hL : AllSt n L) : Lin L (grP n X O) 0 (-1) (op n (marks n X O) L []) := by
  have := op_lin g hL []
  rwa [cnt_nil, cnt_nil] at this
/-! Sums of operations. -/
theorem op_zero {Mk : List (Nat × Nat)} (T : List (Nat × Nat)) : op n Mk L T v0 = v0 := funext fun y => xl_false fun x _ => Bool.false_and _
end
end Go.Proofs.YtmbbcmebdefggaaGreatDoor
namespace Go.Proofs.YtmbbcmebdefggaaGreatDoor
/-- A list as a vector. -/
def vc (l : List StB) : StB → Bool := fun x => decide (x ∈ l)
theorem vc_nil : vc [] = v0 := funext fun x => by unfold vc; simp [v0]
theorem vc_sd {a b : List StB} (ha : Asc rkT a) (hb : Asc rkT b) : vc (sd rkT a b) = va (vc a) (vc b) := funext fun x => by
  unfold vc va
  have := sd_mem rkT_inj a b ha hb x
  by_cases h1 : x ∈ a <;> by_cases h2 : x ∈ b <;> simp [this, h1, h2]
theorem vc_inj {a b : List StB} (ha : Asc rkT a) (hb : Asc rkT b) (h : vc a = vc b) : a = b := Asc.ext ha hb fun x => by
  have := congrFun h x
  unfold vc at this
  exact decide_eq_decide.1 this
theorem vc_sm : ∀ {S : List (List StB)}, AscL rkT S → ∀ y, vc (smL rkT S) y = xl (fun l => vc l y) S
  | [], _, y => by
    show vc [] y = false
    rw [vc_nil]; rfl
  | s :: S, h, y => by
    have h' : AscL rkT S := fun g hg => h g (List.mem_cons_of_mem _ hg)
    rw [smL_cons, vc_sd (h s List.mem_cons_self) (smL_asc h'), xl_cons, ← vc_sm h' y]
    rfl
/-! The rectangles as they are listed. -/
theorem xl_snoc {α : Type} (f : α → Bool) (l : List α) (x : α) : xl f (l ++ [x]) = (xl f l ^^ f x) := by
  rw [xl_app, xl, xl, Bool.xor_false]
theorem xl_rin (n : Nat) (X O x : List Nat) (l : Nat) (f : Rec → Bool) : ∀ m, xl f (rin n X O x l m) = xl (fun w => f (recT n X O x l (w + 1))) (List.range m)
  | 0 => rfl
  | m + 1 => by rw [rin, xl_snoc, xl_rin n X O x l f m, List.range_succ, xl_snoc]
theorem xl_rout (n : Nat) (X O x : List Nat) (f : Rec → Bool) : ∀ k, xl f (rout n X O x k) = xl (fun l => xl f (rin n X O x l (n - 1))) (List.range k)
  | 0 => rfl
  | k + 1 => by rw [rout, xl_app, xl_rout n X O x f k, List.range_succ, xl_snoc]
theorem xl_count (z : StB) : ∀ l : List StB, xl (fun y => decide (z = y)) l = decide (l.count z % 2 = 1)
  | [] => rfl
  | x :: l => by
    rw [xl, xl_count z l, List.count_cons]
    by_cases e : z = x
    · subst e
      rw [decide_eq_true rfl, Bool.true_xor, if_pos (by simp)]
      by_cases h : l.count z % 2 = 1
      · rw [decide_eq_true h, decide_eq_false (by omega)]; rfl
      · rw [decide_eq_false h, decide_eq_true (by omega)]; rfl
    · rw [decide_eq_false e, Bool.false_xor, if_neg (fun k => e (eq_of_beq k).symm), Nat.add_zero]
theorem mks_zero (n : Nat) (Y : List Nat) (l b h : Nat) : ∀ w, mks n Y l b h w = 0 ↔ ∀ k, k < w → ¬ upR n Y l b k < h
  | 0 => by simp [mks]
  | w + 1 => by
    rw [mks]
    constructor
    · intro k j hj
      by_cases e : j = w
      · subst e
        intro h1
        rw [if_pos h1] at k
        omega
      · exact (mks_zero n Y l b h w).1 (by omega) j (by omega)
    · intro k
      rw [if_neg (k w (Nat.lt_succ_self w)), (mks_zero n Y l b h w).2 fun j hj => k j (by omega)]
section
variable {n : Nat} {X O : List Nat} {L : List StB}
theorem rec_same (g : Grd n X O) {x : StB} (p : isPerm x.1 n) {a w : Nat} (ha : a < n) (w0 : 0 < w) (wn : w < n) : (isEmp n x.1 (recT n X O x.1 a w) && freeR (recT n X O x.1 a w)) = recB n (marks n X O) [] x a ((a + w) % n) := by
  have hn : 0 < n := by omega
  have hb : (a + w) % n < n := Nat.mod_lt _ hn
  have xa := p.1 a ha
  have hd := dd_add ha wn
  have hne : ¬ a = (a + w) % n := fun e => mod_ne ha w0 wn e.symm
  have cv : ∀ {Y : List Nat}, isPerm Y n → (mks n Y a (x.1.getD a 0) (upR n x.1 a (x.1.getD a 0) w) w = 0 ↔ ∀ s, s < n → cvB n (fx x) a ((a + w) % n) s (Y.getD s 0) = false) := fun {Y} pY => by
    rw [mks_zero]
    constructor
    · intro k s hs
      rw [Bool.eq_false_iff]
      intro k2
      obtain ⟨k3, k4⟩ := cvB_iff.1 k2
      rw [hd] at k3
      refine k (dd n a s) k3 ?_
      rw [upR_dd pY hn xa, upR_dd p hn xa, add_dd ha hs]
      exact k4
    · intro k j hj hlt
      have hj2 : (a + j) % n < n := Nat.mod_lt _ hn
      have := k _ hj2
      rw [Bool.eq_false_iff] at this
      refine this (cvB_iff.2 ⟨?_, ?_⟩)
      · rw [dd_add ha (by omega), hd]; exact hj
      · rw [upR_dd pY hn xa, upR_dd p hn xa] at hlt
        exact hlt
  rw [Bool.eq_iff_iff]
  unfold recB freeR isEmp recT
  dsimp only
  simp only [Bool.and_eq_true, Bool.not_eq_true', beq_eq_false_iff_ne, ne_eq, beq_iff_eq, cv g.pX, cv g.pO]
  rw [emp_iff, emB_iff]
  have he : (∀ k, 0 < k → k < w → ¬ upR n x.1 a (x.1.getD a 0) k < upR n x.1 a (x.1.getD a 0) w) ↔ ∀ s, s < n → ¬ (0 < dd n a s ∧ dd n a s < dd n a ((a + w) % n) ∧ dd n (fx x a) (fx x s) < dd n (fx x a) (fx x ((a + w) % n))) := by
    constructor
    · rintro k s hs ⟨k1, k2, k3⟩
      rw [hd] at k2
      refine k _ k1 k2 ?_
      rw [upR_dd p hn xa, upR_dd p hn xa, add_dd ha hs]
      exact k3
    · intro k j j0 hj hlt
      have hj2 : (a + j) % n < n := Nat.mod_lt _ hn
      refine k _ hj2 ⟨?_, ?_, ?_⟩
      · rw [dd_add ha (by omega)]; exact j0
      · rw [dd_add ha (by omega), hd]; exact hj
      · rw [upR_dd p hn xa, upR_dd p hn xa] at hlt
        exact hlt
  rw [he]
  have hh : has (marks n X O) (fun q => cvB n (fx x) a ((a + w) % n) q.1 q.2) [] = true ↔ (∀ s, s < n → cvB n (fx x) a ((a + w) % n) s (X.getD s 0) = false) ∧ ∀ s, s < n → cvB n (fx x) a ((a + w) % n) s (O.getD s 0) = false := by
    unfold has
    rw [List.all_eq_true]
    simp only [List.elem_nil, beq_false, Bool.not_eq_true']
    constructor
    · intro k
      exact ⟨fun s hs => k _ (mem_marks.2 ⟨s, hs, .inl rfl⟩), fun s hs => k _ (mem_marks.2 ⟨s, hs, .inr rfl⟩)⟩
    · rintro ⟨k1, k2⟩ q hq
      obtain ⟨s, hs, rfl | rfl⟩ := mem_marks.1 hq
      · exact k1 s hs
      · exact k2 s hs
  rw [hh]
  constructor
  · rintro ⟨k1, k2, k3⟩
    exact ⟨hne, k1, k2, k3⟩
  · rintro ⟨_, k1, k2, k3⟩
    exact ⟨k1, k2, k3⟩
/-- What follows a state, as the operation. -/
theorem opM_fol (g : Grd n X O) {x : StB} (p : isPerm x.1 n) (z : StB) : opM n (marks n X O) [] x z = vc (tfold (fol n X O x)) z := by
  have h1 : vc (tfold (fol n X O x)) z = xl (fun y => decide (z = y)) (fol n X O x) := by
    rw [xl_count]
    unfold vc
    exact decide_eq_decide.2 ((tfold_odd _).2.1 z)
  rw [h1]
  unfold fol
  rw [xl_map, xl_filter, eout_filter, xl_filter, xl_rout]
  unfold opM
  refine xl_congr fun a ha => ?_
  have ha' := List.mem_range.1 ha
  have h2 := g.h2
  rw [xl_rin]
  have hs := xl_sub (f := fun b => recB n (marks n X O) [] x a b && decide (z = swB x a b)) (g := fun w => (a + (w + 1)) % n) (l := List.range n) (m := List.range (n - 1)) List.nodup_range ?_ (fun w _ => List.mem_range.2 (Nat.mod_lt _ (by omega))) ?_
  · rw [hs]
    refine xl_congr fun w hw => ?_
    have hw' := List.mem_range.1 hw
    have := rec_same g p ha' (show 0 < w + 1 by omega) (show w + 1 < n by omega)
    rw [← this]
    have hl : led n x (recT n X O x.1 a (w + 1)) = swB x a ((a + (w + 1)) % n) := rfl
    rw [hl, Bool.and_assoc]
  · rw [List.nodup_iff_pairwise_ne, List.pairwise_map]
    refine List.Pairwise.imp_of_mem (fun {u v} hu hv hne e => hne ?_) (List.nodup_iff_pairwise_ne.1 List.nodup_range)
    have hu' := List.mem_range.1 hu
    have hv' := List.mem_range.1 hv
    have e1 := dd_add ha' (show u + 1 < n by omega)
    have e2 := dd_add ha' (show v + 1 < n by omega)
    rw [e] at e1
    omega
  · intro b hb hnb
    have hb' := List.mem_range.1 hb
    have e : a = b := by
      refine Classical.byContradiction fun hab => hnb (List.mem_map.2 ⟨dd n a b - 1, List.mem_range.2 ?_, ?_⟩)
      · have := dd_lt ha' hb'
        have := fun k => hab ((dd_zero ha' hb').1 k)
        omega
      · have h0 : dd n a b ≠ 0 := fun k => hab ((dd_zero ha' hb').1 k)
        rw [show dd n a b - 1 + 1 = dd n a b by omega, add_dd ha' hb']
    subst e
    unfold recB
    rw [beq_self_eq_true]
    rfl
/-- The images of some states. -/
def imgs (n : Nat) (X O : List Nat) (S : List StB) : List (List StB) := S.map fun x => tfold (fol n X O x)
theorem imgs_asc (S : List StB) : AscL rkT (imgs n X O S) := fun l hl => by
  obtain ⟨x, _, rfl⟩ := List.mem_map.1 hl
  exact (tfold_odd _).1
theorem op_vec (g : Grd n X O) (hL : AllSt n L) (b : StB → Bool) : op n (marks n X O) L [] b = vc (smL rkT (imgs n X O (L.filter b))) := funext fun y => by
  rw [vc_sm (imgs_asc _)]
  unfold imgs op
  rw [xl_map, xl_filter]
  refine xl_congr fun x hx => ?_
  rw [opM_fol g ((hL.mem x).1 hx)]
/-- Boundaries are what the images span. -/
theorem Bg_spn (g : Grd n X O) (hL : AllSt n L) {gg : Int × Int} {S : List StB} (hS : ∀ x, x ∈ S ↔ x ∈ L ∧ grP n X O x = sh gg 0 1) (v : StB → Bool) : Bg L (grP n X O) (op n (marks n X O) L []) gg v ↔ ∃ l, Spn rkT (imgs n X O S) l ∧ v = vc l := by
  constructor
  · rintro ⟨b, hb, rfl⟩
    refine ⟨_, ⟨imgs n X O (L.filter b), fun l hl => ?_, rfl⟩, op_vec g hL b⟩
    obtain ⟨x, hx, rfl⟩ := List.mem_map.1 hl
    obtain ⟨h1, h2⟩ := List.mem_filter.1 hx
    exact List.mem_map.2 ⟨x, (hS x).2 (hb x h2), rfl⟩
  · rintro ⟨l, ⟨T, hT, rfl⟩, rfl⟩
    induction T with
    | nil =>
      refine ⟨v0, (Cg.spc L _ _).z, ?_⟩
      rw [op_zero]
      exact vc_nil
    | cons t T ih =>
      obtain ⟨b, hb, e⟩ := ih fun s hs => hT s (List.mem_cons_of_mem _ hs)
      obtain ⟨x, hx, rfl⟩ := List.mem_map.1 (hT t List.mem_cons_self)
      have ha : AscL rkT T := fun s hs => imgs_asc S s (hT s (List.mem_cons_of_mem _ hs))
      have hxL := ((hS x).1 hx).1
      refine ⟨va (fun y => decide (y = x)) b, (Cg.spc L _ _).add _ _ (fun y hy => ?_) hb, ?_⟩
      · rw [decide_eq_true_eq] at hy
        subst hy
        exact (hS y).1 hx
      · rw [smL_cons, vc_sd (tfold_odd _).1 (smL_asc ha), e, op_add]
        congr 1
        refine funext fun y => ?_
        unfold op
        rw [xl_one hL.nd hxL fun z _ hne => by show (decide (z = x) && _) = false; rw [decide_eq_false hne, Bool.false_and]]
        show _ = (decide (x = x) && opM n (marks n X O) [] x y)
        rw [decide_eq_true rfl, Bool.true_and, opM_fol g ((hL.mem x).1 hxL)]
/-- A family with different leading places: the dimension of its span. -/
theorem Ech.dm : ∀ {B : List (List StB)}, Ech rkT B → Dm (fun v => ∃ l, Spn rkT B l ∧ v = vc l) B.length
  | [], _ => ⟨[v0], by simp, fun v => by
      rw [List.mem_singleton]
      constructor
      · rintro rfl
        exact ⟨[], Spn.nil _, vc_nil.symm⟩
      · rintro ⟨l, ⟨S, hS, rfl⟩, rfl⟩
        cases S with
        | nil => exact vc_nil
        | cons s S => exact absurd (hS s List.mem_cons_self) List.not_mem_nil, rfl⟩
  | b :: B, h => by
    have hB := h.sub (List.sublist_cons_self b B)
    have ih := Ech.dm hB
    have sp : Spc fun v => ∃ l, Spn rkT B l ∧ v = vc l := ⟨⟨[], Spn.nil _, vc_nil.symm⟩, fun u v ⟨k, hk, e⟩ ⟨l, hl, e'⟩ => ⟨_, Spn.sd rkT_inj hB.asc hk hl, by rw [vc_sd (hk.asc hB.asc) (hl.asc hB.asc), e, e']⟩⟩
    have hba := h.asc b List.mem_cons_self
    have hnew : ¬ ∃ l, Spn rkT B l ∧ vc b = vc l := by
      rintro ⟨l, hl, e⟩
      have e2 := vc_inj hba (hl.asc hB.asc) e
      subst e2
      have := hB.nothing rkT_inj hl fun c hc k => (List.pairwise_cons.1 h.pw).1 c hc k.symm
      exact h.ne b List.mem_cons_self this
    have hd := Crd.double sp ih hnew
    unfold Dm
    rw [List.length_cons, Nat.pow_succ, Nat.mul_comm]
    refine hd.congr fun v => ?_
    constructor
    · rintro (⟨l, hl, rfl⟩ | ⟨l, hl, e⟩)
      · exact ⟨l, Spn.mono rkT_inj h.asc (fun c hc => Spn.one (List.mem_cons_of_mem _ hc)) hl, rfl⟩
      · refine ⟨sd rkT b l, Spn.sd rkT_inj h.asc (Spn.one List.mem_cons_self) (Spn.mono rkT_inj h.asc (fun c hc => Spn.one (List.mem_cons_of_mem _ hc)) hl), ?_⟩
        rw [vc_sd hba (hl.asc hB.asc), ← e, va_back]
    · rintro ⟨l, hl, rfl⟩
      obtain ⟨u, hu, e⟩ := hl.split rkT_inj h.asc
      rcases e with e | e
      · exact .inl ⟨u, hu, by rw [e]⟩
      · exact .inr ⟨u, hu, by rw [e, vc_sd hba (hu.asc hB.asc), va_back]⟩
theorem states_dm (hL : AllSt n L) {gg : Int × Int} {S : List StB} (nd : S.Nodup) (hS : ∀ x, x ∈ S ↔ x ∈ L ∧ grP n X O x = gg) : dm (Cg L (grP n X O) gg) = S.length := by
  refine dm_is ((Spp.crd nd).congr fun v => ?_)
  constructor
  · intro h x hx
    exact (hS x).1 (h x hx)
  · intro h x hx
    exact (hS x).2 (h x hx)
end
end Go.Proofs.YtmbbcmebdefggaaGreatDoor
namespace Go.Proofs.YtmbbcmebdefggaaGreatDoor
/-! Sums that a pairing cancels. -/
section
variable {n : Nat} {L : List StB}
/-! Numbers whose differences are told. -/
/-! Products modulo two. -/
end
end Go.Proofs.YtmbbcmebdefggaaGreatDoor
namespace Go.Proofs.YtmbbcmebdefggaaGreatDoor
section
variable {n : Nat} {X O : List Nat}
variable {L : List StB}
end
end Go.Proofs.YtmbbcmebdefggaaGreatDoor
