/- Plain laws: lists of marks that hold the numbers less than n in some order. Values: bytes, numbers, grids as lists; what their cells read. Plain: lists of things of s cells each, one after the other. -/
import Derived.Test.YtmbbcmebdefggaaGreatDoorSlT
import Init
namespace Go.Proofs.YtmbbcmebdefggaaGreatDoor
/-- The first n entries are the numbers less than n in some order, all others 0. -/
def isPerm (X : List Nat) (n : Nat) : Prop :=
  (∀ j, j < n → X.getD j 0 < n) ∧ (∀ j k, j < n → k < n → X.getD j 0 = X.getD k 0 → j = k) ∧ (∀ j, n ≤ j → X.getD j 0 = 0)
theorem inj_of_surj {f : Nat → Nat} {n : Nat} (h : ∀ v, v < n → ∃ j, j < n ∧ f j = v) : ∀ j k, j < n → k < n → f j = f k → j = k := by
  intro j k hj hk he
  refine Classical.byContradiction fun hne => ?_
  have hl : ((List.range n).erase k).length = n - 1 := by rw [List.length_erase_of_mem (by simpa using hk)]; simp
  have hsub : List.range n ⊆ ((List.range n).erase k).map f := fun v hv => by
    obtain ⟨i, hi, hf⟩ := h v (by simpa using hv)
    by_cases hik : i = k
    · exact List.mem_map.2 ⟨j, (List.Nodup.mem_erase_iff List.nodup_range).2 ⟨hne, by simpa using hj⟩, by rw [he, ← hik, hf]⟩
    · exact List.mem_map.2 ⟨i, (List.Nodup.mem_erase_iff List.nodup_range).2 ⟨hik, by simpa using hi⟩, hf⟩
  have := List.Nodup.length_le_of_subset List.nodup_range hsub
  simp only [List.length_map, hl, List.length_range] at this
  omega
theorem surj_of_inj {f : Nat → Nat} {n : Nat} (hb : ∀ j, j < n → f j < n) (h : ∀ j k, j < n → k < n → f j = f k → j = k) : ∀ v, v < n → ∃ j, j < n ∧ f j = v := by
  intro v hv
  refine Classical.byContradiction fun hne => ?_
  have hnd : ((List.range n).map f).Nodup := by
    rw [List.nodup_iff_pairwise_ne, List.pairwise_map]
    refine List.Pairwise.imp_of_mem ?_ (List.nodup_iff_pairwise_ne.1 (List.nodup_range (n := n)))
    intro a b ha hb' hab e
    exact hab (h a b (by simpa using ha) (by simpa using hb') e)
  have hsub : (List.range n).map f ⊆ (List.range n).erase v := fun u hu => by
    obtain ⟨j, hj, rfl⟩ := List.mem_map.1 hu
    have hj' : j < n := by simpa using hj
    exact (List.Nodup.mem_erase_iff List.nodup_range).2 ⟨fun e => hne ⟨j, hj', e⟩, by simpa using hb j hj'⟩
  have := List.Nodup.length_le_of_subset hnd hsub
  rw [List.length_erase_of_mem (by simpa using hv)] at this
  simp only [List.length_map, List.length_range] at this
  omega
/-- What spec.l01Perm has seen after i rounds. -/
def okp (X : List Nat) (n i : Nat) : Prop :=
  (∀ j, j < i → j < n → X.getD j 0 < n) ∧ (∀ j k, j < i → k < i → j < n → k < n → X.getD j 0 = X.getD k 0 → j = k) ∧ (∀ j, j < i → n ≤ j → X.getD j 0 = 0)
theorem okp_zero (X : List Nat) (n : Nat) : okp X n 0 := ⟨by omega, by omega, by omega⟩
theorem okp_end {X : List Nat} {n : Nat} (hX : X.length = 8) (hn : n ≤ 8) : okp X n 8 ↔ isPerm X n := by
  refine ⟨fun ⟨h1, h2, h3⟩ => ⟨fun j hj => h1 j (by omega) hj, fun j k hj hk => h2 j k (by omega) (by omega) hj hk, fun j hj => ?_⟩, fun ⟨h1, h2, h3⟩ => ⟨fun j _ hj => h1 j hj, fun j k _ _ hj hk => h2 j k hj hk, fun j _ hj => h3 j hj⟩⟩
  by_cases h8 : j < 8
  · exact h3 j h8 hj
  · simp [List.getD_eq_getElem?_getD, List.getElem?_eq_none (show X.length ≤ j by omega)]
/-- The entries met. -/
def metp (X : List Nat) (n i : Nat) (M : List Bool) : Prop := M.length = 8 ∧ ∀ v, v < 8 → (M.getD v false = true ↔ ∃ j, j < i ∧ j < n ∧ X.getD j 0 = v)
theorem metp_zero (X : List Nat) (n : Nat) : metp X n 0 (List.replicate 8 false) := ⟨rfl, fun v hv => by
  have : (List.replicate 8 false).getD v false = false := by rw [List.getD_eq_getElem?_getD, List.getElem?_replicate]; split <;> rfl
  rw [this]
  exact ⟨(fun h => by cases h), fun ⟨j, hj, _⟩ => absurd hj (Nat.not_lt_zero j)⟩⟩
theorem metp_skip {X : List Nat} {n i : Nat} {M : List Bool} (h : metp X n i M) (hi : n ≤ i) : metp X n (i + 1) M :=
  ⟨h.1, fun v hv => (h.2 v hv).trans ⟨fun ⟨j, a, b, c⟩ => ⟨j, by omega, b, c⟩, fun ⟨j, a, b, c⟩ => ⟨j, by omega, b, c⟩⟩⟩
theorem metp_put {X : List Nat} {n i : Nat} {M : List Bool} (h : metp X n i M) (hi : i < n) (hv : X.getD i 0 < 8) : metp X n (i + 1) (M.set (X.getD i 0) true) := by
  refine ⟨by simpa using h.1, fun v hv' => ?_⟩
  have hlen := h.1
  by_cases e : X.getD i 0 = v
  · subst e
    simp only [List.getD_eq_getElem?_getD, List.getElem?_set_self (show X[i]?.getD 0 < M.length by simpa [List.getD_eq_getElem?_getD] using (by omega : X.getD i 0 < M.length)), Option.getD_some, true_iff]
    exact ⟨i, by omega, hi, by simp⟩
  · rw [List.getD_eq_getElem?_getD, List.getElem?_set_ne e, ← List.getD_eq_getElem?_getD, h.2 v hv']
    refine ⟨fun ⟨j, a, b, c⟩ => ⟨j, by omega, b, c⟩, fun ⟨j, a, b, c⟩ => ⟨j, ?_, b, c⟩⟩
    rcases Nat.lt_or_ge j i with h' | h'
    · exact h'
    · have : j = i := by omega
      subst this
      exact absurd c e
theorem okp_skip {X : List Nat} {n i : Nat} (h : okp X n i) (hi : n ≤ i) (h0 : X.getD i 0 = 0) : okp X n (i + 1) :=
  ⟨fun j hj hn => h.1 j (by omega) hn, fun j k hj hk hn hn' => h.2.1 j k (by omega) (by omega) hn hn', fun j hj hn => by
    rcases Nat.lt_or_ge j i with h' | h'
    · exact h.2.2 j h' hn
    · have : j = i := by omega
      subst this; exact h0⟩
theorem okp_put {X : List Nat} {n i : Nat} {M : List Bool} (h : okp X n i) (hm : metp X n i M) (hi : i < n) (hn8 : n ≤ 8) (hlt : X.getD i 0 < n) (hf : M.getD (X.getD i 0) false = false) : okp X n (i + 1) := by
  have hno : ∀ j, j < i → j < n → X.getD j 0 ≠ X.getD i 0 := fun j hj hjn e => by
    have := (hm.2 (X.getD i 0) (by omega)).2 ⟨j, hj, hjn, e⟩
    rw [hf] at this; cases this
  refine ⟨fun j hj hn => ?_, fun j k hj hk hjn hkn e => ?_, fun j hj hn => h.2.2 j (by omega) hn⟩
  · rcases Nat.lt_or_ge j i with h' | h'
    · exact h.1 j h' hn
    · have : j = i := by omega
      subst this; exact hlt
  · rcases Nat.lt_or_ge j i with h' | h' <;> rcases Nat.lt_or_ge k i with h'' | h''
    · exact h.2.1 j k h' h'' hjn hkn e
    · have : k = i := by omega
      subst this; exact absurd e (hno j h' hjn)
    · have : j = i := by omega
      subst this; exact absurd e.symm (hno k h'' hkn)
    · omega
theorem okp_no_range {X : List Nat} {n i : Nat} (hi : i < n) (h : ¬ X.getD i 0 < n) : ¬ isPerm X n := fun hp => h (hp.1 i hi)
theorem okp_no_met {X : List Nat} {n i : Nat} {M : List Bool} (hm : metp X n i M) (hi : i < n) (hn8 : n ≤ 8) (hf : M.getD (X.getD i 0) false = true) : ¬ isPerm X n := fun hp => by
  obtain ⟨j, hj, hjn, e⟩ := (hm.2 _ (by have := hp.1 i hi; omega)).1 hf
  have := hp.2.1 j i hjn hi e
  omega
/-- What impl.isOrder has seen after i rounds. -/
def oko (X : List Nat) (n i seen : Nat) : Prop := (∀ j, j < i → X.getD j 0 < n ∧ (n ≤ j → X.getD j 0 = 0)) ∧ ∀ v, seen.testBit v = true ↔ ∃ j, j < i ∧ j < n ∧ X.getD j 0 = v
theorem oko_zero (X : List Nat) (n : Nat) : oko X n 0 0 := ⟨by omega, fun v => by simp⟩
theorem oko_lt {X : List Nat} {n i seen : Nat} (h : oko X n i seen) (hn : n ≤ 8) : seen < 2 ^ 8 := by
  refine Nat.lt_pow_two_of_testBit seen fun v hv => ?_
  cases hb : seen.testBit v with
  | false => rfl
  | true =>
    obtain ⟨j, hj, hjn, e⟩ := (h.2 v).1 hb
    have := (h.1 j hj).1
    omega
theorem oko_skip {X : List Nat} {n i seen : Nat} (h : oko X n i seen) (hi : n ≤ i) (h0 : X.getD i 0 = 0) (hlt : X.getD i 0 < n) : oko X n (i + 1) seen := by
  refine ⟨fun j hj => ?_, fun v => (h.2 v).trans ⟨fun ⟨j, a, b, c⟩ => ⟨j, by omega, b, c⟩, fun ⟨j, a, b, c⟩ => ⟨j, by omega, b, c⟩⟩⟩
  rcases Nat.lt_or_ge j i with h' | h'
  · exact h.1 j h'
  · have : j = i := by omega
    subst this; exact ⟨hlt, fun _ => h0⟩
theorem oko_put {X : List Nat} {n i seen : Nat} (h : oko X n i seen) (hi : i < n) (hlt : X.getD i 0 < n) : oko X n (i + 1) (seen ||| 2 ^ X.getD i 0) := by
  refine ⟨fun j hj => ?_, fun v => ?_⟩
  · rcases Nat.lt_or_ge j i with h' | h'
    · exact h.1 j h'
    · have : j = i := by omega
      subst this; exact ⟨hlt, fun _ => by omega⟩
  · rw [Nat.testBit_or, Bool.or_eq_true, h.2 v, Nat.testBit_two_pow]
    refine ⟨fun hh => ?_, fun ⟨j, a, b, c⟩ => ?_⟩
    · rcases hh with ⟨j, a, b, c⟩ | hh
      · exact ⟨j, by omega, b, c⟩
      · exact ⟨i, by omega, hi, by simpa using hh⟩
    · rcases Nat.lt_or_ge j i with h' | h'
      · exact .inl ⟨j, h', b, c⟩
      · have : j = i := by omega
        subst this; exact .inr (by simpa using c)
theorem oko_end {X : List Nat} {n seen : Nat} (hX : X.length = 8) (hn : n ≤ 8) (h : oko X n 8 seen) : seen = 2 ^ n - 1 ↔ isPerm X n := by
  constructor
  · intro e
    subst e
    refine ⟨fun j hj => (h.1 j (by omega)).1, inj_of_surj (f := fun j => X.getD j 0) fun v hv => ?_, fun j hj => ?_⟩
    · obtain ⟨j, _, hjn, e⟩ := (h.2 v).1 (by rw [Nat.testBit_two_pow_sub_one]; simpa using hv)
      exact ⟨j, hjn, e⟩
    · by_cases h8 : j < 8
      · exact (h.1 j h8).2 hj
      · simp [List.getD_eq_getElem?_getD, List.getElem?_eq_none (show X.length ≤ j by omega)]
  · intro hp
    refine Nat.eq_of_testBit_eq fun v => ?_
    rw [Nat.testBit_two_pow_sub_one, Bool.eq_iff_iff, h.2 v, decide_eq_true_eq]
    refine ⟨fun ⟨j, _, hj, e⟩ => ?_, fun hv => ?_⟩
    · rw [← e]; exact hp.1 j hj
    · obtain ⟨j, hj, e⟩ := surj_of_inj (f := fun j => X.getD j 0) hp.1 hp.2.1 v hv
      exact ⟨j, by omega, hj, e⟩
theorem oko_no {X : List Nat} {n i : Nat} (hpos : 0 < n) (h : (n ≤ i ∧ X.getD i 0 ≠ 0) ∨ n ≤ X.getD i 0) : ¬ isPerm X n := fun hp => by
  rcases h with ⟨h1, h2⟩ | h1
  · exact h2 (hp.2.2 i h1)
  · by_cases hi : i < n
    · have := hp.1 i hi; omega
    · have := hp.2.2 i (by omega); omega
end Go.Proofs.YtmbbcmebdefggaaGreatDoor
namespace Go.Proofs.YtmbbcmebdefggaaGreatDoor
open Go Go.RowKit SL
def u8s (l : List Nat) : List Value := l.map fun (x : Nat) => .int .u8 (x : Int)
def i64s (l : List Nat) : List Value := l.map fun (x : Nat) => .int .i64 (x : Int)
def bls (l : List Bool) : List Value := l.map .bool
def gv (n : Int) (X O : List Nat) : List Value := .int .i64 n :: (u8s X ++ u8s O)
abbrev Z8 : List Nat := List.replicate 8 0
abbrev F8 : List Bool := List.replicate 8 false
theorem u8s_len (L : List Nat) : (u8s L).length = L.length := by simp [u8s]
theorem i64s_len (L : List Nat) : (i64s L).length = L.length := by simp [i64s]
theorem bls_len (L : List Bool) : (bls L).length = L.length := by simp [bls]
theorem u8s_one (l : List Nat) : ∀ u ∈ u8s l, u.oneCell' = true := by simp [u8s, Value.oneCell']
theorem i64s_one (l : List Nat) : ∀ u ∈ i64s l, u.oneCell' = true := by simp [i64s, Value.oneCell']
theorem ones_of {l : List Value} (h : l.all (·.oneCell') = true) : ∀ u ∈ l, u.oneCell' = true := fun u hu => List.all_eq_true.1 h u hu
theorem gv_one (n : Int) (X O : List Nat) : ∀ u ∈ gv n X O, u.oneCell' = true := by
  intro u hu
  rcases List.mem_cons.1 hu with rfl | hu
  · rfl
  · rcases List.mem_append.1 hu with hu | hu <;> exact u8s_one _ u hu
theorem u8s_get {l : List Nat} {k : Nat} (h : k < l.length) : (u8s l)[k]? = some (.int .u8 ((l.getD k 0 : Nat) : Int)) := by
  simp [u8s, List.getD_eq_getElem?_getD, h]
theorem i64s_get {l : List Nat} {k : Nat} (h : k < l.length) : (i64s l)[k]? = some (.int .i64 ((l.getD k 0 : Nat) : Int)) := by
  simp [i64s, List.getD_eq_getElem?_getD, h]
theorem bls_get {l : List Bool} {k : Nat} (h : k < l.length) : (bls l)[k]? = some (.bool (l.getD k false)) := by
  simp [bls, List.getD_eq_getElem?_getD, h]
theorem u8s_at {l : List Nat} {k : Nat} (h : k < l.length) : (u8s l)[0 + k * 1]? = some (.int .u8 ((l.getD k 0 : Nat) : Int)) := by
  rw [show 0 + k * 1 = k by omega]; exact u8s_get h
theorem i64s_at {l : List Nat} {k : Nat} (h : k < l.length) : (i64s l)[0 + k * 1]? = some (.int .i64 ((l.getD k 0 : Nat) : Int)) := by
  rw [show 0 + k * 1 = k by omega]; exact i64s_get h
theorem bls_at {l : List Bool} {k : Nat} (h : k < l.length) : (bls l)[0 + k * 1]? = some (.bool (l.getD k false)) := by
  rw [show 0 + k * 1 = k by omega]; exact bls_get h
theorem u8s_set {L : List Nat} {j k : Nat} : (u8s L).set (0 + j * 1) (.int .u8 (k : Int)) = u8s (L.set j k) := by
  rw [show 0 + j * 1 = j by omega, u8s, u8s, List.map_set]
theorem i64s_set {L : List Nat} {j k : Nat} : (i64s L).set (0 + j * 1) (.int .i64 (k : Int)) = i64s (L.set j k) := by
  rw [show 0 + j * 1 = j by omega, i64s, i64s, List.map_set]
theorem bls_set {L : List Bool} {j : Nat} {b : Bool} : (bls L).set (0 + j * 1) (.bool b) = bls (L.set j b) := by
  rw [show 0 + j * 1 = j by omega, bls, bls, List.map_set]
theorem gv_X {n : Int} {X O : List Nat} {k : Nat} (hX : X.length = 8) (h : k < 8) : (gv n X O)[0 + 1 + k * 1]? = some (.int .u8 ((X.getD k 0 : Nat) : Int)) := by
  rw [show 0 + 1 + k * 1 = k + 1 by omega, gv, List.getElem?_cons_succ, List.getElem?_append_left (by simp [u8s, hX, h]), u8s_get (by omega)]
theorem gv_O {n : Int} {X O : List Nat} {k : Nat} (hX : X.length = 8) (hO : O.length = 8) (h : k < 8) : (gv n X O)[0 + 9 + k * 1]? = some (.int .u8 ((O.getD k 0 : Nat) : Int)) := by
  rw [show 0 + 9 + k * 1 = (k + 8) + 1 by omega, gv, List.getElem?_cons_succ, List.getElem?_append_right (by simp [u8s, hX]), show k + 8 - (u8s X).length = k by simp [u8s, hX], u8s_get (by omega)]
theorem gv_len {n : Int} {X O : List Nat} (hX : X.length = 8) (hO : O.length = 8) : (gv n X O).length = 17 := by simp [gv, u8s, hX, hO]
theorem gv_arrX {n : Int} {X O : List Nat} (hX : X.length = 8) : ((gv n X O).drop (0 + 1)).take 8 = u8s X := by
  rw [gv, Nat.zero_add, List.drop_succ_cons, List.drop_zero, List.take_left' (by rw [u8s_len, hX])]
theorem gv_arrO {n : Int} {X O : List Nat} (hX : X.length = 8) (hO : O.length = 8) : ((gv n X O).drop (0 + 9)).take 8 = u8s O := by
  rw [gv, Nat.zero_add, List.drop_succ_cons, List.drop_left' (by rw [u8s_len, hX]), List.take_of_length_le (by rw [u8s_len, hO]; exact Nat.le_refl _)]
theorem boolF {p : Prop} {i : Decidable p} (h : ¬ p) : Value.bool false = .bool (@decide p i) := by rw [decide_eq_false h]
theorem boolT {p : Prop} {i : Decidable p} (h : p) : Value.bool true = .bool (@decide p i) := by rw [decide_eq_true h]
theorem boolE {p q : Prop} {i : Decidable p} {j : Decidable q} (h : p ↔ q) : Value.bool (@decide p i) = .bool (@decide q j) := by
  by_cases hp : p
  · rw [decide_eq_true hp, decide_eq_true (h.1 hp)]
  · rw [decide_eq_false hp, decide_eq_false (fun hq => hp (h.2 hq))]
theorem gv_setN {n m : Int} {X O : List Nat} : (gv n X O).set (0 + 0) (.int .i64 m) = gv m X O := rfl
theorem gv_putX {n : Int} {X O Y : List Nat} (hX : X.length = 8) : (gv n X O).take (0 + 1) ++ (Value.agg (u8s Y).toArray).cells.toList ++ (gv n X O).drop (0 + 1 + 8) = gv n Y O := by
  simp only [gv, Value.cells, Nat.zero_add, List.take_succ_cons, List.take_zero, List.drop_succ_cons, show 1 + 8 = 8 + 1 from rfl]
  rw [List.drop_left' (by rw [u8s_len, hX])]; rfl
theorem gv_putO {n : Int} {X O Y : List Nat} (hX : X.length = 8) (hO : O.length = 8) : (gv n X O).take (0 + 9) ++ (Value.agg (u8s Y).toArray).cells.toList ++ (gv n X O).drop (0 + 9 + 8) = gv n X Y := by
  simp only [gv, Value.cells, Nat.zero_add, show 9 = 8 + 1 from rfl, show 8 + 1 + 8 = 16 + 1 from rfl, List.take_succ_cons, List.drop_succ_cons]
  rw [List.take_left' (by rw [u8s_len, hX]), List.drop_of_length_le (by simp [u8s_len, hX, hO]), List.append_nil]; rfl
theorem gv_partX {n : Int} {X O : List Nat} (_hX : X.length = 8) : ∀ i v, (u8s X)[i]? = some v → (gv n X O)[0 + 1 + i]? = some v := fun i v h => by
  have hi : i < (u8s X).length := (List.getElem?_eq_some_iff.1 h).1
  rw [show 0 + 1 + i = i + 1 by omega, gv, List.getElem?_cons_succ, List.getElem?_append_left hi, h]
theorem gv_partO {n : Int} {X O : List Nat} (hX : X.length = 8) (_hO : O.length = 8) : ∀ i v, (u8s O)[i]? = some v → (gv n X O)[0 + 9 + i]? = some v := fun i v h => by
  rw [show 0 + 9 + i = (8 + i) + 1 by omega, gv, List.getElem?_cons_succ, List.getElem?_append_right (by rw [u8s_len]; omega), u8s_len, hX, Nat.add_sub_cancel_left, h]
theorem list8_ext {X M : List Nat} (hX : X.length = 8) (hM : M.length = 8) (h : ∀ i, i < 8 → M.getD i 0 = X.getD i 0) : M = X := by
  refine List.ext_getElem (by omega) fun i h1 h2 => ?_
  have := h i (by omega)
  simpa [List.getD_eq_getElem?_getD, h1, h2] using this
theorem set_getD {M : List Nat} {k i v : Nat} (hk : k < M.length) : (M.set k v).getD i 0 = if i = k then v else M.getD i 0 := by
  by_cases e : i = k
  · subst e; simp [List.getD_eq_getElem?_getD, hk]
  · rw [if_neg e, List.getD_eq_getElem?_getD, List.getElem?_set_ne (fun h => e h.symm), ← List.getD_eq_getElem?_getD]
def isNums (xs : List Value) : Prop := ∀ j, j < xs.length → ∃ z : Int, xs[j]? = some (.int .i64 z)
/-- The grids. -/
def okG (n : Int) (X O : List Nat) : Prop := (2 ≤ n ∧ n ≤ 8) ∧ isPerm X n.toNat ∧ isPerm O n.toNat ∧ ∀ i, i < n.toNat → X.getD i 0 ≠ O.getD i 0
theorem okG_loop {X O : List Nat} {m : Nat} (h2 : 2 ≤ m) (h8 : m ≤ 8) (hX : isPerm X m) (hO : isPerm O m) (h : ∀ i, i < m → X.getD i 0 ≠ O.getD i 0) : okG (m : Int) X O :=
  ⟨by omega, by simpa using hX, by simpa using hO, by simpa using h⟩
theorem okG_nat {n : Int} {X O : List Nat} (g : okG n X O) : ∃ m : Nat, n = (m : Int) := ⟨n.toNat, by have := g.1; omega⟩
/-- A number that is a byte. -/
def isB (l : List Nat) : Prop := l.length = 8 ∧ ∀ i, l.getD i 0 < 256
theorem wrap64_nat {a : Nat} (h : a < 256) : IntKind.i64.wrap (a : Int) = (a : Int) := wrap_in (by omega)
end Go.Proofs.YtmbbcmebdefggaaGreatDoor
namespace Go.Proofs.YtmbbcmebdefggaaGreatDoor
open Go
section
variable {α : Type} {enc : α → List Value} {s : Nat}
theorem fl_len (hs : ∀ x, (enc x).length = s) (l : List α) : (l.flatMap enc).length = l.length * s := by
  induction l with
  | nil => simp
  | cons x l ih => rw [List.flatMap_cons, List.length_append, ih, hs, List.length_cons, Nat.add_mul]; omega
theorem fl_one (h1 : ∀ x, ∀ u ∈ enc x, u.oneCell' = true) (l : List α) : ∀ u ∈ l.flatMap enc, u.oneCell' = true := fun u hu => by
  obtain ⟨x, _, h⟩ := List.mem_flatMap.1 hu
  exact h1 x u h
theorem fl_drop (hs : ∀ x, (enc x).length = s) : ∀ (l : List α) (i : Nat), (l.flatMap enc).drop (i * s) = (l.drop i).flatMap enc
  | l, 0 => by rw [Nat.zero_mul]; rfl
  | [], i + 1 => by simp
  | y :: l, i + 1 => by
    rw [List.flatMap_cons, show (i + 1) * s = (enc y).length + i * s by rw [hs, Nat.add_mul]; omega, List.drop_append, List.drop_eq_nil_of_le (by omega), List.nil_append, Nat.add_sub_cancel_left, List.drop_succ_cons]
    exact fl_drop hs l i
theorem fl_take (hs : ∀ x, (enc x).length = s) : ∀ (l : List α) (i : Nat), (l.flatMap enc).take (i * s) = (l.take i).flatMap enc
  | l, 0 => by rw [Nat.zero_mul]; simp
  | [], i + 1 => by simp
  | y :: l, i + 1 => by
    rw [List.flatMap_cons, show (i + 1) * s = (enc y).length + i * s by rw [hs, Nat.add_mul]; omega, List.take_length_add_append, List.take_succ_cons, List.flatMap_cons, fl_take hs l i]
theorem fl_at (hs : ∀ x, (enc x).length = s) {l : List α} {j : Nat} {x : α} (h : l[j]? = some x) : ((l.flatMap enc).drop (j * s)).take s = enc x := by
  rw [fl_drop hs, List.drop_eq_getElem_cons (List.getElem?_eq_some_iff.1 h).1, (List.getElem?_eq_some_iff.1 h).2, List.flatMap_cons, List.take_left' (hs x)]
theorem fl_snoc {l : List α} {x : α} : l.flatMap enc ++ enc x = (l ++ [x]).flatMap enc := by rw [List.flatMap_append]; simp
/-- The single cells, of things of s cells. -/
theorem fl_cell (hs : ∀ x, (enc x).length = s) {l : List α} {j t : Nat} {x : α} {v : Value} (h : l[j]? = some x) (ht : (enc x)[t]? = some v) : (l.flatMap enc)[j * s + t]? = some v := by
  have h1 := fl_at hs h
  have h2 : ((l.flatMap enc).drop (j * s))[t]? = some v := by
    have hlt : t < s := by rw [← hs x]; exact (List.getElem?_eq_some_iff.1 ht).1
    rw [← List.getElem?_take_of_lt hlt, h1, ht]
  rwa [List.getElem?_drop] at h2
end
/-- States: eight bytes. -/
abbrev StB : Type := { x : List Nat // isB x }
theorem isB_zero : isB Z8 := ⟨rfl, fun i => by
  rw [List.getD_eq_getElem?_getD, List.getElem?_replicate]
  split <;> simp⟩
instance : Inhabited StB := ⟨⟨Z8, isB_zero⟩⟩
def encS (x : StB) : List Value := u8s x.1
theorem encS_len (x : StB) : (encS x).length = 8 := (u8s_len x.1).trans x.2.1
theorem encS_one (x : StB) : ∀ u ∈ encS x, u.oneCell' = true := u8s_one x.1
end Go.Proofs.YtmbbcmebdefggaaGreatDoor
