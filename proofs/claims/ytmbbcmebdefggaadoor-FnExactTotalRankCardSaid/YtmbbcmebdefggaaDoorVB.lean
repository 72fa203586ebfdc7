/- Plain: how a rectangle changes the Maslov grading. -/
import Derived.Test.YtmbbcmebdefggaaDoorPG
import Derived.Test.YtmbbcmebdefggaaDoorHA
namespace Go.Proofs.YtmbbcmebdefggaaDoor
theorem sm_pull {n c : Nat} (hc : c < n) (e : Nat → Int) : sm e n = e c + sm (fun i => if i = c then 0 else e i) n := by
  have h : sm e n = sm (fun i => if i = c then e i else 0) n + sm (fun i => if i = c then 0 else e i) n := by
    rw [← sm_add]
    refine sm_congr fun i _ => ?_
    split <;> omega
  rw [h, sm_single hc fun i _ hne => if_neg hne, if_pos rfl]
/-- How many of the first n. -/
def ct (p : Nat → Prop) [DecidablePred p] (n : Nat) : Int := sm (fun i => ind (p i)) n
theorem ct_congr {p q : Nat → Prop} [DecidablePred p] [DecidablePred q] {n : Nat} (h : ∀ i, i < n → (p i ↔ q i)) : ct p n = ct q n := sm_congr fun i hi => ind_iff (h i hi)
theorem ct_split {p q r : Nat → Prop} [DecidablePred p] [DecidablePred q] [DecidablePred r] {n : Nat} (h : ∀ i, i < n → (p i ↔ q i ∨ r i) ∧ ¬ (q i ∧ r i)) : ct p n = ct q n + ct r n := by
  unfold ct
  rw [← sm_add]
  refine sm_congr fun i hi => ?_
  obtain ⟨h1, h2⟩ := h i hi
  unfold ind
  by_cases hq : q i
  · rw [if_pos hq, if_pos (h1.2 (.inl hq)), if_neg (fun hr => h2 ⟨hq, hr⟩)]; rfl
  · by_cases hr : r i
    · rw [if_neg hq, if_pos (h1.2 (.inr hr)), if_pos hr]; rfl
    · rw [if_neg hq, if_neg hr, if_neg (fun hp => (h1.1 hp).elim hq hr)]; rfl
theorem ct_none {p : Nat → Prop} [DecidablePred p] {n : Nat} (h : ∀ i, i < n → ¬ p i) : ct p n = 0 := sm_nil fun i hi => ind_no (h i hi)
theorem ct_lt {n w : Nat} (h : w ≤ n) : ct (fun i => i < w) n = w := by
  unfold ct
  rw [sm_below]
  omega
/-- A state whose rectangle stands at the lower left corner. -/
structure Cor (n w h : Nat) (f F : Nat → Nat) : Prop where
  w0 : 0 < w
  wn : w < n
  pf : permF f n
  f0 : f 0 = 0
  fw : f w = h
  F0 : F 0 = h
  Fw : F w = 0
  rest : ∀ i, i < n → i ≠ 0 → i ≠ w → F i = f i
theorem Cor.h0 {n w h : Nat} {f F : Nat → Nat} (c : Cor n w h f F) : 0 < h := by
  have h1 := c.wn
  have h2 := c.w0
  rcases Nat.eq_zero_or_pos h with e | e
  · have := c.pf.2 0 w (by omega) h1 (by rw [c.f0, c.fw, e])
    omega
  · exact e
theorem Cor.pos {n w h : Nat} {f F : Nat → Nat} (c : Cor n w h f F) {k : Nat} (hk : k < n) (h0 : k ≠ 0) : 0 < f k := by
  rcases Nat.eq_zero_or_pos (f k) with e | e
  · exact absurd (c.pf.2 k 0 hk (by omega) (by rw [e, c.f0])) h0
  · exact e
theorem Cor.ne {n w h : Nat} {f F : Nat → Nat} (c : Cor n w h f F) {k : Nat} (hk : k < n) (h0 : k ≠ w) : f k ≠ h := fun e => h0 (c.pf.2 k w hk c.wn (by rw [e, c.fw]))
theorem Cor.lt {n w h : Nat} {f F : Nat → Nat} (c : Cor n w h f F) : jLT n f f - jLT n F F = 1 + 2 * ct (fun i => 0 < i ∧ i < w ∧ f i < h) n := by
  have hw := c.wn
  have hw0 := c.w0
  have hh := c.h0
  have hn : 0 < n := by omega
  unfold jLT
  rw [← sm_sub]
  have key : ∀ i, i < n → sm (fun k => ind (i < k ∧ f i < f k)) n - sm (fun k => ind (i < k ∧ F i < F k)) n =
      if i = 0 then ct (fun k => 0 < k) n - ct (fun k => 0 < k ∧ k ≠ w ∧ h < f k) n else if i = w then ct (fun k => w < k ∧ h < f k) n - ct (fun k => w < k) n else ind (0 < i ∧ i < w ∧ f i < h) := by
    intro i hi
    by_cases e0 : i = 0
    · subst e0
      rw [if_pos rfl]
      congr 1
      · refine sm_congr fun k hk => ind_iff ?_
        rw [c.f0]
        exact ⟨fun h => h.1, fun h => ⟨h, c.pos hk (by omega)⟩⟩
      · refine sm_congr fun k hk => ind_iff ?_
        rw [c.F0]
        by_cases ew : k = w
        · subst ew
          rw [c.Fw]
          omega
        · constructor
          · rintro ⟨h1, h2⟩
            rw [c.rest k hk (by omega) ew] at h2
            exact ⟨h1, ew, h2⟩
          · rintro ⟨h1, _, h2⟩
            exact ⟨h1, by rw [c.rest k hk (by omega) ew]; exact h2⟩
    · rw [if_neg e0]
      by_cases ew : i = w
      · subst ew
        rw [if_pos rfl]
        congr 1
        · refine sm_congr fun k hk => ind_iff ?_
          rw [c.fw]
        · refine sm_congr fun k hk => ind_iff ?_
          rw [c.Fw]
          constructor
          · exact fun h => h.1
          · intro h1
            exact ⟨h1, by rw [c.rest k hk (by omega) (by omega)]; exact c.pos hk (by omega)⟩
      · rw [if_neg ew, ← sm_sub, sm_pull hw, sm_nil, Int.add_zero]
        · rw [c.fw, c.Fw, c.rest i hi e0 ew]
          unfold ind
          rw [if_neg (show ¬ (i < w ∧ f i < 0) by omega), Int.sub_zero]
          split <;> split <;> first | rfl | omega
        · intro k hk
          split
          · rfl
          · rename_i hkw
            by_cases ek : k = 0
            · subst ek
              rw [ind_no (by omega), ind_no (by omega)]; rfl
            · rw [c.rest i hi e0 ew, c.rest k hk ek hkw]; omega
  rw [sm_congr key, sm_pull hn, sm_pull hw]
  rw [if_pos rfl, if_neg (by omega : ¬ w = 0), if_neg (by omega : ¬ w = 0), if_pos rfl]
  have e1 : sm (fun i => if i = w then 0 else if i = 0 then 0 else if i = 0 then ct (fun k => 0 < k) n - ct (fun k => 0 < k ∧ k ≠ w ∧ h < f k) n else if i = w then ct (fun k => w < k ∧ h < f k) n - ct (fun k => w < k) n else ind (0 < i ∧ i < w ∧ f i < h)) n = ct (fun i => 0 < i ∧ i < w ∧ f i < h) n := by
    refine sm_congr fun i hi => ?_
    by_cases ew : i = w
    · rw [if_pos ew, ind_no (by omega)]
    · rw [if_neg ew]
      by_cases e0 : i = 0
      · rw [if_pos e0, ind_no (by omega)]
      · rw [if_neg e0, if_neg e0, if_neg ew]
  rw [e1]
  have c1 : ct (fun k => 0 < k ∧ k ≠ w ∧ h < f k) n = ct (fun k => 0 < k ∧ k < w ∧ h < f k) n + ct (fun k => w < k ∧ h < f k) n := ct_split fun k hk => by omega
  have c2 : ct (fun k => 0 < k ∧ k < w) n = ct (fun k => 0 < k ∧ k < w ∧ h < f k) n + ct (fun i => 0 < i ∧ i < w ∧ f i < h) n := ct_split fun k hk => by
    by_cases hkw : k = w
    · omega
    · have := c.ne hk hkw
      omega
  have c3 : ct (fun k => k < w) n = ct (fun k => k < 1) n + ct (fun k => 0 < k ∧ k < w) n := ct_split fun k hk => by omega
  have c4 : ct (fun k => k < n) n = ct (fun k => k < 1) n + ct (fun k => 0 < k) n := ct_split fun k hk => by omega
  have c5 : ct (fun k => k < n) n = ct (fun k => k < w + 1) n + ct (fun k => w < k) n := ct_split fun k hk => by omega
  rw [ct_lt (by omega), ct_lt (by omega)] at c3
  rw [ct_lt (by omega), ct_lt (by omega)] at c4
  rw [ct_lt (by omega), ct_lt (by omega)] at c5
  omega
theorem Cor.le {n w h : Nat} {f F : Nat → Nat} (c : Cor n w h f F) (o : Nat → Nat) : jLE n f o - jLE n F o = ct (fun i => i < w ∧ o i < h) n := by
  have hw := c.wn
  have hw0 := c.w0
  have hn : 0 < n := by omega
  unfold jLE
  rw [← sm_sub]
  have key : ∀ i, i < n → sm (fun k => ind (i ≤ k ∧ f i ≤ o k)) n - sm (fun k => ind (i ≤ k ∧ F i ≤ o k)) n =
      if i = 0 then ct (fun k => k < n) n - ct (fun k => h ≤ o k) n else if i = w then ct (fun k => w ≤ k ∧ h ≤ o k) n - ct (fun k => w ≤ k) n else 0 := by
    intro i hi
    by_cases e0 : i = 0
    · subst e0
      rw [if_pos rfl]
      congr 1
      · refine sm_congr fun k hk => ind_iff ?_
        rw [c.f0]
        omega
      · refine sm_congr fun k hk => ind_iff ?_
        rw [c.F0]
        omega
    · rw [if_neg e0]
      by_cases ew : i = w
      · subst ew
        rw [if_pos rfl]
        congr 1
        · refine sm_congr fun k hk => ind_iff ?_
          rw [c.fw]
        · refine sm_congr fun k hk => ind_iff ?_
          rw [c.Fw]
          omega
      · rw [if_neg ew, c.rest i hi e0 ew]; omega
  rw [sm_congr key, sm_pull hn, sm_pull hw]
  rw [if_pos rfl, if_neg (by omega : ¬ w = 0), if_neg (by omega : ¬ w = 0), if_pos rfl]
  rw [sm_nil fun i _ => by
    by_cases ew : i = w
    · rw [if_pos ew]
    · rw [if_neg ew]
      by_cases e0 : i = 0
      · rw [if_pos e0]
      · rw [if_neg e0, if_neg e0, if_neg ew]]
  have c1 : ct (fun k => h ≤ o k) n = ct (fun k => k < w ∧ h ≤ o k) n + ct (fun k => w ≤ k ∧ h ≤ o k) n := ct_split fun k hk => by omega
  have c2 : ct (fun k => k < w) n = ct (fun k => k < w ∧ h ≤ o k) n + ct (fun i => i < w ∧ o i < h) n := ct_split fun k hk => by omega
  have c3 : ct (fun k => k < n) n = ct (fun k => k < w) n + ct (fun k => w ≤ k) n := ct_split fun k hk => by omega
  omega
theorem Cor.gt {n w h : Nat} {f F : Nat → Nat} (c : Cor n w h f F) (o : Nat → Nat) : jLT n o f - jLT n o F = ct (fun i => i < w ∧ o i < h) n := by
  have hw := c.wn
  have hw0 := c.w0
  unfold jLT
  rw [← sm_sub]
  refine sm_congr fun i hi => ?_
  rw [← sm_sub, sm_pull hw, sm_nil, Int.add_zero]
  · rw [c.fw, c.Fw, ind_no (show ¬ (i < w ∧ o i < 0) by omega), Int.sub_zero]
  · intro k hk
    split
    · rfl
    · rename_i hkw
      by_cases ek : k = 0
      · subst ek
        rw [ind_no (by omega), ind_no (by omega)]; rfl
      · rw [c.rest k hk ek hkw]; omega
theorem Cor.mas {n w h : Nat} {f F : Nat → Nat} (c : Cor n w h f F) (o : Nat → Nat) : mas n f o - mas n F o = 1 + 2 * ct (fun i => 0 < i ∧ i < w ∧ f i < h) n - 2 * ct (fun i => i < w ∧ o i < h) n := by
  have h1 := c.lt
  have h2 := c.le o
  have h3 := c.gt o
  unfold Go.Proofs.YtmbbcmebdefggaaDoor.mas
  omega
theorem ct_cut {p : Nat → Prop} [DecidablePred p] {w : Nat} : ∀ {n : Nat}, w ≤ n → ct (fun i => i < w ∧ p i) n = ct p w
  | n, h => by
    unfold ct
    induction n with
    | zero => obtain rfl : w = 0 := by omega
              rfl
    | succ n ih =>
      by_cases e : w = n + 1
      · subst e
        exact sm_congr fun i hi => ind_iff ⟨fun h => h.2, fun h => ⟨hi, h⟩⟩
      · rw [sm, ih (by omega), ind_no (by omega)]; omega
theorem mks_ct (n : Nat) (Y : List Nat) (l b h : Nat) : ∀ w, (mks n Y l b h w : Int) = ct (fun i => upR n Y l b i < h) w
  | 0 => rfl
  | w + 1 => by
    have := mks_ct n Y l b h w
    unfold ct at this ⊢
    rw [mks, sm, ← this]
    unfold ind
    split <;> simp
theorem ins_ct {n : Nat} {x : List Nat} (p : isPerm x n) {l : Nat} (hl : l < n) (h : Nat) : ∀ m, m < n → (ins n x l (x.getD l 0) h m : Int) = ct (fun i => 0 < i ∧ upR n x l (x.getD l 0) i < h) (m + 1)
  | 0, _ => by
    unfold ct
    rw [sm, sm, ind_no (by omega)]; rfl
  | m + 1, hm => by
    have := ins_ct p hl h m (by omega)
    have h1 := up_pos p hl (k := m + 1) (by omega) hm
    unfold ct at this ⊢
    rw [ins, sm, ← this]
    unfold ind
    by_cases hu : upR n x l (x.getD l 0) (m + 1) < h
    · rw [if_pos ⟨h1, hu⟩, if_pos ⟨by omega, hu⟩]; simp
    · rw [if_neg (fun k => hu k.2), if_neg (fun k => hu k.2)]; simp
theorem rolf_up {n l b : Nat} (hl : l < n) (hb : b ≤ n) (Y : List Nat) {i : Nat} (hi : i < n) : rolf n (n - b) (n - l) (fun j => Y.getD j 0) i = upR n Y l b i := by
  unfold rolf upR
  have e : (i + n - (n - l) % n) % n = (l + i) % n := by
    by_cases h0 : l = 0
    · subst h0
      rw [Nat.sub_zero, Nat.mod_self, Nat.sub_zero, Nat.add_mod_right, Nat.zero_add]
    · rw [Nat.mod_eq_of_lt (show n - l < n by omega), show i + n - (n - l) = l + i by omega]
  rw [e, show Y.getD ((l + i) % n) 0 + n - b = Y.getD ((l + i) % n) 0 + (n - b) by omega]
theorem isPerm.permF {x : List Nat} {n : Nat} (p : isPerm x n) : permF (fun i => x.getD i 0) n := ⟨p.1, fun i k hi hk e => p.2.1 i k hi hk e⟩
theorem mod_ne {n l w : Nat} (hl : l < n) (h0 : 0 < w) (hw : w < n) : (l + w) % n ≠ l := fun e => by
  rcases Nat.lt_or_ge (l + w) n with h | h
  · rw [Nat.mod_eq_of_lt h] at e; omega
  · rw [Nat.mod_eq_sub_mod h, Nat.mod_eq_of_lt (by omega)] at e; omega
theorem led_get {n : Nat} {x : StB} {r : Rec} (h8 : n ≤ 8) (h1 : r.le < n) {i : Nat} : (led n x r).1.getD i 0 = if i = (r.le + r.wi) % n then x.1.getD r.le 0 else if i = r.le then x.1.getD ((r.le + r.wi) % n) 0 else x.1.getD i 0 := by
  have hm : (r.le + r.wi) % n < n := Nat.mod_lt _ (by omega)
  unfold led
  dsimp only
  rw [getD_set8' ((List.length_set ..).trans x.2.1) (by omega), getD_set8' x.2.1 (by omega)]
  simp only [eq_comm]
/-- A rectangle and the Maslov grading. -/
theorem mX_led {n : Nat} (h8 : n ≤ 8) {X O : List Nat} {x : StB} (p : isPerm x.1 n) {Y : List Nat} (py : isPerm Y n) {l w : Nat} (hl : l < n) (h0 : 0 < w) (hw : w < n) :
    mX n x.1 Y - mX n (led n x (recT n X O x.1 l w)).1 Y = 1 + 2 * (ins n x.1 l (x.1.getD l 0) (upR n x.1 l (x.1.getD l 0) w) (w - 1) : Int) - 2 * (mks n Y l (x.1.getD l 0) (upR n x.1 l (x.1.getD l 0) w) w : Int) := by
  have hn : 0 < n := by omega
  have hb := p.1 l hl
  have hm : (l + w) % n < n := Nat.mod_lt _ hn
  have hne := mod_ne hl h0 hw
  have p' : isPerm (led n x (recT n X O x.1 l w)).1 n := perm_swap p x.2.1 h8 hl hm
  have hget := fun i => led_get (x := x) (r := recT n X O x.1 l w) h8 hl (i := i)
  generalize (led n x (recT n X O x.1 l w)).1 = y at p' hget
  have hr1 : (recT n X O x.1 l w).le = l := rfl
  have hr2 : (recT n X O x.1 l w).wi = w := rfl
  rw [hr1, hr2] at hget
  generalize hB : x.1.getD l 0 = b at *
  obtain ⟨m, rfl⟩ : ∃ m, n = m + 1 := ⟨n - 1, by omega⟩
  have a1 : mX (m + 1) x.1 Y = mas (m + 1) (fun i => upR (m + 1) x.1 l b i) (fun i => upR (m + 1) Y l b i) := by
    unfold mX
    rw [← mas_shift p.permF py.permF (m + 1 - b) (m + 1 - l)]
    exact mas_congr (fun i hi => rolf_up hl (by omega) x.1 hi) fun i hi => rolf_up hl (by omega) Y hi
  have a2 : mX (m + 1) y Y = mas (m + 1) (fun i => upR (m + 1) y l b i) (fun i => upR (m + 1) Y l b i) := by
    unfold mX
    rw [← mas_shift p'.permF py.permF (m + 1 - b) (m + 1 - l)]
    exact mas_congr (fun i hi => rolf_up hl (by omega) y hi) fun i hi => rolf_up hl (by omega) Y hi
  have c : Cor (m + 1) w (upR (m + 1) x.1 l b w) (fun i => upR (m + 1) x.1 l b i) (fun i => upR (m + 1) y l b i) := by
    refine ⟨h0, hw, ?_, ?_, rfl, ?_, ?_, ?_⟩
    · exact permF_congr (permF_rolf p.permF (m + 1 - b) (m + 1 - l)) fun i hi => (rolf_up hl (by omega) x.1 hi).symm
    · unfold upR
      rw [Nat.add_zero, Nat.mod_eq_of_lt hl, hB, Nat.add_sub_cancel_left, Nat.mod_self]
    · unfold upR
      rw [Nat.add_zero, Nat.mod_eq_of_lt hl, hget l, if_neg (fun e => hne e.symm), if_pos rfl]
    · unfold upR
      rw [hget, if_pos rfl, Nat.add_sub_cancel_left, Nat.mod_self]
    · intro i hi h1 h2
      unfold upR
      have e1 : (l + i) % (m + 1) ≠ (l + w) % (m + 1) := fun e => h2 (by
        have := addmod_inj (v := l) (x := i) (y := w) hi hw (by rw [Nat.add_comm i l, Nat.add_comm w l]; exact e)
        exact this)
      rw [hget, if_neg e1, if_neg (mod_ne hl (by omega) hi)]
  have k := c.mas (fun i => upR (m + 1) Y l b i)
  rw [a1, a2, k]
  have k1 := ins_ct p hl (upR (m + 1) x.1 l b w) (w - 1) (by omega)
  rw [hB, show w - 1 + 1 = w by omega] at k1
  have k2 := mks_ct (m + 1) Y l b (upR (m + 1) x.1 l b w) w
  have k3 : ct (fun i => 0 < i ∧ i < w ∧ upR (m + 1) x.1 l b i < upR (m + 1) x.1 l b w) (m + 1) = ct (fun i => 0 < i ∧ upR (m + 1) x.1 l b i < upR (m + 1) x.1 l b w) w := by
    rw [← ct_cut (n := m + 1) (Nat.le_of_lt hw)]
    exact ct_congr fun i _ => by omega
  have k4 : ct (fun i => i < w ∧ upR (m + 1) Y l b i < upR (m + 1) x.1 l b w) (m + 1) = ct (fun i => upR (m + 1) Y l b i < upR (m + 1) x.1 l b w) w := ct_cut (Nat.le_of_lt hw)
  rw [k3, k4, ← k1, ← k2]
end Go.Proofs.YtmbbcmebdefggaaDoor
