/- Plain laws: finite sums; numbers of pairs of points; the Maslov grading does not change if a grid and a state are shifted. Plain: sums of small numbers; the Maslov grading of marks. -/
import Derived.Test.YtmbbcmebdefggaaGreatDoorPC
import Derived.Test.YtmbbcmebdefggaaGreatDoorV
namespace Go.Proofs.YtmbbcmebdefggaaGreatDoor
/-- The sum of the first n values. -/
def sm (f : Nat → Int) : Nat → Int
  | 0 => 0
  | n + 1 => sm f n + f n
theorem sm_congr {f g : Nat → Int} : ∀ {n : Nat}, (∀ i, i < n → f i = g i) → sm f n = sm g n
  | 0, _ => rfl
  | n + 1, h => by rw [sm, sm, sm_congr fun i hi => h i (by omega), h n (by omega)]
theorem sm_add (f g : Nat → Int) : ∀ n, sm (fun i => f i + g i) n = sm f n + sm g n
  | 0 => rfl
  | n + 1 => by rw [sm, sm, sm, sm_add f g n]; omega
theorem sm_sub (f g : Nat → Int) : ∀ n, sm (fun i => f i - g i) n = sm f n - sm g n
  | 0 => rfl
  | n + 1 => by rw [sm, sm, sm, sm_sub f g n]; omega
theorem sm_zero : ∀ n, sm (fun _ => 0) n = 0
  | 0 => rfl
  | n + 1 => by rw [sm, sm_zero n]; rfl
theorem sm_const (c : Int) : ∀ n, sm (fun _ => c) n = n * c
  | 0 => by simp [sm]
  | n + 1 => by rw [sm, sm_const c n, Int.natCast_add, Int.add_mul]; simp
theorem sm_comm (f : Nat → Nat → Int) (n : Nat) : ∀ m, sm (fun i => sm (fun k => f i k) n) m = sm (fun k => sm (fun i => f i k) m) n
  | 0 => by simp only [sm, sm_zero]
  | m + 1 => by rw [sm, sm_comm f n m, ← sm_add]; rfl
theorem sm_head (f : Nat → Int) : ∀ n, sm f (n + 1) = f 0 + sm (fun i => f (i + 1)) n
  | 0 => by simp [sm]
  | n + 1 => by rw [sm, sm_head f n, sm]; omega
/-- One place alone. -/
theorem sm_single {n c : Nat} {f : Nat → Int} (hc : c < n) (h : ∀ i, i < n → i ≠ c → f i = 0) : sm f n = f c := by
  induction n with
  | zero => omega
  | succ n ih =>
    rw [sm]
    by_cases e : c = n
    · subst e
      rw [sm_congr (g := fun _ => 0) fun i hi => h i (by omega) (by omega), sm_zero, Int.zero_add]
    · rw [ih (by omega) fun i hi hne => h i (by omega) hne, h n (by omega) (fun e' => e e'.symm), Int.add_zero]
/-- The numbers less than n in some order. -/
def permF (f : Nat → Nat) (n : Nat) : Prop := (∀ i, i < n → f i < n) ∧ ∀ i k, i < n → k < n → f i = f k → i = k
def ind (p : Prop) [Decidable p] : Int := if p then 1 else 0
theorem ind_iff {p q : Prop} [Decidable p] [Decidable q] (h : p ↔ q) : ind p = ind q := by
  unfold ind
  by_cases hp : p
  · rw [if_pos hp, if_pos (h.1 hp)]
  · rw [if_neg hp, if_neg (fun k => hp (h.2 k))]
theorem ind_no {p : Prop} [Decidable p] (h : ¬ p) : ind p = 0 := if_neg h
theorem ind_yes {p : Prop} [Decidable p] (h : p) : ind p = 1 := if_pos h
theorem sm_nil {f : Nat → Int} {n : Nat} (h : ∀ i, i < n → f i = 0) : sm f n = 0 := (sm_congr h).trans (sm_zero n)
theorem sm_list (f : Nat → Int) : ∀ n, sm f n = ((List.range n).map f).sum
  | 0 => rfl
  | n + 1 => by rw [sm, sm_list f n, List.range_succ, List.map_append, List.sum_append]; simp
theorem sum_perm {l m : List Int} (h : List.Perm l m) : l.sum = m.sum := by
  induction h with
  | nil => rfl
  | cons x _ ih => rw [List.sum_cons, List.sum_cons, ih]
  | swap x y l => rw [List.sum_cons, List.sum_cons, List.sum_cons, List.sum_cons]; omega
  | trans _ _ h1 h2 => exact h1.trans h2
theorem permF.perm {f : Nat → Nat} {n : Nat} (h : permF f n) : List.Perm ((List.range n).map f) (List.range n) := by
  have hnd : ((List.range n).map f).Nodup := by
    rw [List.nodup_iff_pairwise_ne, List.pairwise_map]
    refine List.Pairwise.imp_of_mem ?_ (List.nodup_iff_pairwise_ne.1 (List.nodup_range (n := n)))
    intro a b ha hb hab e
    exact hab (h.2 a b (by simpa using ha) (by simpa using hb) e)
  refine (List.perm_ext_iff_of_nodup hnd List.nodup_range).2 fun a => ⟨fun ha => ?_, fun ha => ?_⟩
  · obtain ⟨i, hi, rfl⟩ := List.mem_map.1 ha
    exact List.mem_range.2 (h.1 i (by simpa using hi))
  · obtain ⟨j, hj, e⟩ := surj_of_inj h.1 h.2 a (by simpa using ha)
    exact List.mem_map.2 ⟨j, by simpa using hj, e⟩
/-- Sums in another order. -/
theorem sm_perm {f : Nat → Nat} {n : Nat} (h : permF f n) (F : Nat → Int) : sm (fun i => F (f i)) n = sm F n := by
  rw [sm_list, sm_list]
  have := sum_perm (h.perm.map F)
  rw [← this, List.map_map]
  rfl
theorem sm_below (t : Nat) : ∀ n, sm (fun r => ind (r < t)) n = ((min t n : Nat) : Int)
  | 0 => by simp [sm]
  | n + 1 => by
    rw [sm, sm_below t n]
    unfold ind
    split <;> omega
theorem sm_cnt {f : Nat → Nat} {n t : Nat} (h : permF f n) (ht : t ≤ n) : sm (fun k => ind (f k < t)) n = t := by
  rw [sm_perm h (fun r => ind (r < t)), sm_below]; omega
theorem ind_not {p q : Prop} [Decidable p] [Decidable q] (h : q ↔ ¬ p) : ind q = 1 - ind p := by
  unfold ind
  by_cases hp : p
  · rw [if_pos hp, if_neg (fun k => (h.1 k) hp)]; rfl
  · rw [if_neg hp, if_pos (h.2 hp)]; rfl
theorem sm_not {p q : Nat → Prop} [∀ i, Decidable (p i)] [∀ i, Decidable (q i)] (n : Nat) (h : ∀ i, i < n → (q i ↔ ¬ p i)) : sm (fun i => ind (q i)) n = n - sm (fun i => ind (p i)) n := by
  rw [sm_congr (g := fun i => 1 - ind (p i)) fun i hi => ind_not (h i hi), sm_sub, sm_const]; omega
/-! Pairs. -/
def jLT (n : Nat) (f g : Nat → Nat) : Int := sm (fun i => sm (fun k => ind (i < k ∧ f i < g k)) n) n
def jLE (n : Nat) (f g : Nat → Nat) : Int := sm (fun i => sm (fun k => ind (i ≤ k ∧ f i ≤ g k)) n) n
def mas (n : Nat) (x o : Nat → Nat) : Int := jLT n x x - jLE n x o - jLT n o x + jLT n o o + 1
/-- A list turned around by one place, n = m + 1. -/
def rf (m : Nat) (f : Nat → Nat) : Nat → Nat := fun i => if i = 0 then f m else f (i - 1)
def up (n : Nat) (f : Nat → Nat) : Nat → Nat := fun i => (f i + 1) % n
theorem rf_zero (m : Nat) (f : Nat → Nat) : rf m f 0 = f m := rfl
theorem rf_succ (m : Nat) (f : Nat → Nat) (i : Nat) : rf m f (i + 1) = f i := by rw [rf, if_neg (by omega)]; rfl
theorem jLT_rf (m : Nat) (f g : Nat → Nat) : jLT (m + 1) (rf m f) (rf m g) = jLT (m + 1) f g + sm (fun k => ind (f m < g k)) m - sm (fun i => ind (f i < g m)) m := by
  have e1 : jLT (m + 1) (rf m f) (rf m g) = sm (fun k => ind (f m < g k)) m + sm (fun i => sm (fun k => ind (i < k ∧ f i < g k)) m) m := by
    unfold jLT
    rw [sm_head]
    congr 1
    · rw [sm_head, show ind (0 < 0 ∧ rf m f 0 < rf m g 0) = 0 from if_neg (by omega), Int.zero_add]
      exact sm_congr fun k _ => ind_iff (by rw [rf_zero, rf_succ]; omega)
    · refine sm_congr fun i _ => ?_
      rw [sm_head, show ind (i + 1 < 0 ∧ rf m f (i + 1) < rf m g 0) = 0 from if_neg (by omega), Int.zero_add]
      exact sm_congr fun k _ => ind_iff (by rw [rf_succ, rf_succ]; omega)
  have e2 : jLT (m + 1) f g = sm (fun i => sm (fun k => ind (i < k ∧ f i < g k)) m) m + sm (fun i => ind (f i < g m)) m := by
    unfold jLT
    rw [sm]
    have e0 : sm (fun k => ind (m < k ∧ f m < g k)) (m + 1) = 0 := by
      exact sm_nil fun k hk => ind_no (by omega)
    rw [e0, Int.add_zero, ← sm_add]
    refine sm_congr fun i hi => ?_
    rw [sm]
    congr 1
    exact ind_iff (by omega)
  omega
theorem jLE_rf (m : Nat) (f g : Nat → Nat) : jLE (m + 1) (rf m f) (rf m g) = jLE (m + 1) f g + sm (fun k => ind (f m ≤ g k)) m - sm (fun i => ind (f i ≤ g m)) m := by
  have e1 : jLE (m + 1) (rf m f) (rf m g) = ind (f m ≤ g m) + sm (fun k => ind (f m ≤ g k)) m + sm (fun i => sm (fun k => ind (i ≤ k ∧ f i ≤ g k)) m) m := by
    unfold jLE
    rw [sm_head]
    congr 1
    · rw [sm_head]
      congr 1
      · exact ind_iff (by rw [rf_zero, rf_zero]; omega)
      · exact sm_congr fun k _ => ind_iff (by rw [rf_zero, rf_succ]; omega)
    · refine sm_congr fun i _ => ?_
      rw [sm_head, show ind (i + 1 ≤ 0 ∧ rf m f (i + 1) ≤ rf m g 0) = 0 from if_neg (by omega), Int.zero_add]
      exact sm_congr fun k _ => ind_iff (by rw [rf_succ, rf_succ]; omega)
  have e2 : jLE (m + 1) f g = sm (fun i => sm (fun k => ind (i ≤ k ∧ f i ≤ g k)) m) m + sm (fun i => ind (f i ≤ g m)) m + ind (f m ≤ g m) := by
    unfold jLE
    rw [sm]
    have e0 : sm (fun k => ind (m ≤ k ∧ f m ≤ g k)) (m + 1) = ind (f m ≤ g m) := by
      rw [sm, sm_nil fun k hk => ind_no (by omega), Int.zero_add]
      exact ind_iff (by omega)
    rw [e0, ← sm_add]
    congr 1
    refine sm_congr fun i hi => ?_
    rw [sm]
    congr 1
    exact ind_iff (by omega)
  omega
theorem mas_rf {m : Nat} {x o : Nat → Nat} (hx : permF x (m + 1)) (ho : permF o (m + 1)) : mas (m + 1) (rf m x) (rf m o) = mas (m + 1) x o := by
  unfold mas
  rw [jLT_rf, jLT_rf, jLT_rf, jLE_rf]
  have ha := hx.1 m (by omega)
  have hb := ho.1 m (by omega)
  have x1 := sm_cnt hx (show x m ≤ m + 1 by omega)
  have x2 := sm_cnt hx (show x m + 1 ≤ m + 1 by omega)
  have x3 := sm_cnt hx (show o m + 1 ≤ m + 1 by omega)
  have o1 := sm_cnt ho (show o m ≤ m + 1 by omega)
  have o2 := sm_cnt ho (show o m + 1 ≤ m + 1 by omega)
  have o3 := sm_cnt ho (show x m ≤ m + 1 by omega)
  rw [sm] at x1 x2 x3 o1 o2 o3
  have y1 := sm_not (p := fun k => x k < x m + 1) (q := fun k => x m < x k) m (fun k _ => by omega)
  have y2 := sm_not (p := fun k => o k < o m + 1) (q := fun k => o m < o k) m (fun k _ => by omega)
  have y3 := sm_not (p := fun k => o k < x m) (q := fun k => x m ≤ o k) m (fun k _ => by omega)
  have y4 := sm_not (p := fun k => x k < o m + 1) (q := fun k => o m < x k) m (fun k _ => by omega)
  have z1 : sm (fun i => ind (x i ≤ o m)) m = sm (fun i => ind (x i < o m + 1)) m := sm_congr fun i _ => ind_iff (by omega)
  rw [show ind (x m < x m) = 0 from if_neg (by omega)] at x1
  rw [show ind (x m < x m + 1) = 1 from if_pos (by omega)] at x2
  rw [show ind (o m < o m) = 0 from if_neg (by omega)] at o1
  rw [show ind (o m < o m + 1) = 1 from if_pos (by omega)] at o2
  have w1 : ind (o m < x m) = 1 - ind (x m < o m + 1) := ind_not (by omega)
  omega
/-- An inverse. -/
structure invF (f fi : Nat → Nat) (n : Nat) : Prop where
  perm : permF f n
  iperm : permF fi n
  left : ∀ r, r < n → f (fi r) = r
  right : ∀ i, i < n → fi (f i) = i
theorem jLT_inv {n : Nat} {f g fi gi : Nat → Nat} (hf : invF f fi n) (hg : invF g gi n) : jLT n f g = jLT n fi gi := by
  unfold jLT
  rw [← sm_perm hf.iperm (fun i => sm (fun k => ind (i < k ∧ f i < g k)) n)]
  refine sm_congr fun r hr => ?_
  rw [← sm_perm hg.iperm (fun k => ind (fi r < k ∧ f (fi r) < g k))]
  refine sm_congr fun s hs => ind_iff ?_
  rw [hf.left r hr, hg.left s hs]
  omega
theorem jLE_inv {n : Nat} {f g fi gi : Nat → Nat} (hf : invF f fi n) (hg : invF g gi n) : jLE n f g = jLE n fi gi := by
  unfold jLE
  rw [← sm_perm hf.iperm (fun i => sm (fun k => ind (i ≤ k ∧ f i ≤ g k)) n)]
  refine sm_congr fun r hr => ?_
  rw [← sm_perm hg.iperm (fun k => ind (fi r ≤ k ∧ f (fi r) ≤ g k))]
  refine sm_congr fun s hs => ind_iff ?_
  rw [hf.left r hr, hg.left s hs]
  omega
theorem mas_inv {n : Nat} {x o xi oi : Nat → Nat} (hx : invF x xi n) (ho : invF o oi n) : mas n x o = mas n xi oi := by
  unfold mas
  rw [jLT_inv hx hx, jLE_inv hx ho, jLT_inv ho hx, jLT_inv ho ho]
theorem permF.inv {f : Nat → Nat} {n : Nat} (h : permF f n) : ∃ fi, invF f fi n := by
  have hs := surj_of_inj h.1 h.2
  refine ⟨fun r => if hr : r < n then Classical.choose (hs r hr) else 0, h, ?_, ?_, ?_⟩
  · have key : ∀ r (hr : r < n), Classical.choose (hs r hr) < n ∧ f (Classical.choose (hs r hr)) = r := fun r hr => Classical.choose_spec (hs r hr)
    refine ⟨fun r hr => ?_, fun r s hr hs' e => ?_⟩
    · simp only [dif_pos hr]; exact (key r hr).1
    · simp only [dif_pos hr, dif_pos hs'] at e
      rw [← (key r hr).2, ← (key s hs').2, e]
  · intro r hr
    simp only [dif_pos hr]
    exact (Classical.choose_spec (hs r hr)).2
  · intro i hi
    have hr := h.1 i hi
    simp only [dif_pos hr]
    exact h.2 _ _ (Classical.choose_spec (hs (f i) hr)).1 hi (Classical.choose_spec (hs (f i) hr)).2
theorem up_val {m a : Nat} (h : a < m + 1) : (a + 1) % (m + 1) = if a = m then 0 else a + 1 := by
  split
  · rename_i e; subst e; exact Nat.mod_self _
  · exact Nat.mod_eq_of_lt (by omega)
theorem permF_rf {m : Nat} {f : Nat → Nat} (h : permF f (m + 1)) : permF (rf m f) (m + 1) := by
  refine ⟨fun i hi => ?_, fun i k hi hk e => ?_⟩
  · unfold rf; split <;> exact h.1 _ (by omega)
  · unfold rf at e
    split at e <;> split at e
    · omega
    · have := h.2 _ _ (by omega) (by omega) e; omega
    · have := h.2 _ _ (by omega) (by omega) e; omega
    · have := h.2 _ _ (by omega) (by omega) e; omega
theorem permF_up {m : Nat} {f : Nat → Nat} (h : permF f (m + 1)) : permF (up (m + 1) f) (m + 1) := by
  refine ⟨fun i _ => Nat.mod_lt _ (by omega), fun i k hi hk e => ?_⟩
  unfold up at e
  have a := h.1 i hi
  have b := h.1 k hk
  rw [up_val a, up_val b] at e
  refine h.2 i k hi hk ?_
  split at e <;> split at e <;> omega
theorem up_inv {m : Nat} {f fi : Nat → Nat} (h : invF f fi (m + 1)) : invF (up (m + 1) f) (rf m fi) (m + 1) := by
  refine ⟨permF_up h.perm, permF_rf h.iperm, fun r hr => ?_, fun i hi => ?_⟩
  · unfold up rf
    split
    · rename_i e; subst e; rw [h.left m (by omega), Nat.mod_self]
    · rw [h.left _ (by omega), show r - 1 + 1 = r by omega, Nat.mod_eq_of_lt hr]
  · unfold up
    have a := h.perm.1 i hi
    rw [up_val a]
    split
    · rename_i e; rw [rf_zero, ← e, h.right i hi]
    · rw [rf_succ, h.right i hi]
theorem mas_up {m : Nat} {x o : Nat → Nat} (hx : permF x (m + 1)) (ho : permF o (m + 1)) : mas (m + 1) (up (m + 1) x) (up (m + 1) o) = mas (m + 1) x o := by
  obtain ⟨xi, hxi⟩ := hx.inv
  obtain ⟨oi, hoi⟩ := ho.inv
  rw [mas_inv (up_inv hxi) (up_inv hoi), mas_rf hxi.iperm hoi.iperm, ← mas_inv hxi hoi]
/-! Shifts by any numbers are made of these. -/
def rolf (n v u : Nat) (f : Nat → Nat) : Nat → Nat := fun i => (f ((i + n - u % n) % n) + v) % n
theorem rolf_u {m v u : Nat} {f : Nat → Nat} {i : Nat} (hi : i < m + 1) : rolf (m + 1) v (u + 1) f i = rf m (rolf (m + 1) v u f) i := by
  have hn : 0 < m + 1 := by omega
  have key : (i + (m + 1) - (u + 1) % (m + 1)) % (m + 1) = ((if i = 0 then m else i - 1) + (m + 1) - u % (m + 1)) % (m + 1) := by
    refine addmod_inj (v := u + 1) (back_lt hn) (back_lt hn) ?_
    rw [back_to hn hi, ← Nat.add_assoc, Nat.add_mod _ 1, back_to hn (by split <;> omega)]
    by_cases e : i = 0
    · subst e
      rw [if_pos rfl]
      by_cases hm : m = 0
      · subst hm; rfl
      · rw [Nat.mod_eq_of_lt (show 1 < m + 1 by omega), Nat.mod_self]
    · rw [if_neg e, Nat.mod_eq_of_lt (show 1 < m + 1 by omega), show i - 1 + 1 = i by omega, Nat.mod_eq_of_lt hi]
  unfold rolf
  rw [key]
  unfold rf
  split <;> rfl
theorem rolf_v {n v u : Nat} {f : Nat → Nat} {i : Nat} : rolf n (v + 1) u f i = up n (rolf n v u f) i := by
  unfold rolf up
  rw [Nat.mod_add_mod, Nat.add_assoc]
theorem rolf_0 {n : Nat} {f : Nat → Nat} {i : Nat} (h : permF f n) (hi : i < n) : rolf n 0 0 f i = f i := by
  unfold rolf
  rw [Nat.zero_mod, Nat.sub_zero, Nat.add_mod_right, Nat.mod_eq_of_lt hi, Nat.add_zero, Nat.mod_eq_of_lt (h.1 i hi)]
theorem permF_congr {n : Nat} {f g : Nat → Nat} (h : permF f n) (e : ∀ i, i < n → g i = f i) : permF g n :=
  ⟨fun i hi => by rw [e i hi]; exact h.1 i hi, fun i k hi hk he => h.2 i k hi hk (by rw [← e i hi, ← e k hk, he])⟩
theorem permF_rolf {m : Nat} {f : Nat → Nat} (h : permF f (m + 1)) : ∀ v u, permF (rolf (m + 1) v u f) (m + 1)
  | 0, 0 => permF_congr h fun i hi => rolf_0 h hi
  | 0, u + 1 => permF_congr (permF_rf (permF_rolf h 0 u)) fun i hi => rolf_u hi
  | v + 1, u => permF_congr (permF_up (permF_rolf h v u)) fun i _ => rolf_v
theorem shift_inv {α : Type} {m : Nat} {Φ : (Nat → Nat) → (Nat → Nat) → α} (hc : ∀ f f' g g', (∀ i, i < m + 1 → f' i = f i) → (∀ i, i < m + 1 → g' i = g i) → Φ f' g' = Φ f g)
    (hr : ∀ f g, permF f (m + 1) → permF g (m + 1) → Φ (rf m f) (rf m g) = Φ f g) (hu : ∀ f g, permF f (m + 1) → permF g (m + 1) → Φ (up (m + 1) f) (up (m + 1) g) = Φ f g)
    {f g : Nat → Nat} (hf : permF f (m + 1)) (hg : permF g (m + 1)) : ∀ v u, Φ (rolf (m + 1) v u f) (rolf (m + 1) v u g) = Φ f g
  | 0, 0 => hc _ _ _ _ (fun i hi => rolf_0 hf hi) (fun i hi => rolf_0 hg hi)
  | 0, u + 1 => by
    rw [hc (rf m (rolf (m + 1) 0 u f)) _ (rf m (rolf (m + 1) 0 u g)) _ (fun i hi => rolf_u hi) (fun i hi => rolf_u hi), hr _ _ (permF_rolf hf 0 u) (permF_rolf hg 0 u), shift_inv hc hr hu hf hg 0 u]
  | v + 1, u => by
    rw [hc (up (m + 1) (rolf (m + 1) v u f)) _ (up (m + 1) (rolf (m + 1) v u g)) _ (fun i hi => rolf_v) (fun i hi => rolf_v), hu _ _ (permF_rolf hf v u) (permF_rolf hg v u), shift_inv hc hr hu hf hg v u]
theorem mas_congr {n : Nat} {x x' o o' : Nat → Nat} (hx : ∀ i, i < n → x' i = x i) (ho : ∀ i, i < n → o' i = o i) : mas n x' o' = mas n x o := by
  have a : ∀ {f f' g g' : Nat → Nat}, (∀ i, i < n → f' i = f i) → (∀ i, i < n → g' i = g i) → jLT n f' g' = jLT n f g := fun hf hg =>
    sm_congr fun i hi => sm_congr fun k hk => by rw [hf i hi, hg k hk]
  have b : ∀ {f f' g g' : Nat → Nat}, (∀ i, i < n → f' i = f i) → (∀ i, i < n → g' i = g i) → jLE n f' g' = jLE n f g := fun hf hg =>
    sm_congr fun i hi => sm_congr fun k hk => by rw [hf i hi, hg k hk]
  unfold mas
  rw [a hx hx, b hx ho, a ho hx, a ho ho]
theorem mas_shift {m : Nat} {x o : Nat → Nat} (hx : permF x (m + 1)) (ho : permF o (m + 1)) (v u : Nat) : mas (m + 1) (rolf (m + 1) v u x) (rolf (m + 1) v u o) = mas (m + 1) x o :=
  shift_inv (Φ := mas (m + 1)) (fun _ _ _ _ h k => mas_congr h k) (fun _ _ => mas_rf) (fun _ _ => mas_up) hx ho v u
end Go.Proofs.YtmbbcmebdefggaaGreatDoor
namespace Go.Proofs.YtmbbcmebdefggaaGreatDoor
theorem nn_le {n : Nat} (h8 : n ≤ 8) : n * n ≤ 64 := Nat.mul_le_mul h8 h8
theorem sm_bd {f : Nat → Int} (h : ∀ i, 0 ≤ f i ∧ f i ≤ 1) : ∀ n : Nat, 0 ≤ sm f n ∧ sm f n ≤ n
  | 0 => by simp [sm]
  | n + 1 => by
    have := sm_bd h n
    have := h n
    rw [sm]
    omega
def mX (n : Nat) (X O : List Nat) : Int := mas n (fun i => X.getD i 0) (fun i => O.getD i 0)
end Go.Proofs.YtmbbcmebdefggaaGreatDoor
