/- Plain laws: lists of marks that hold the numbers less than n in some order. -/
import Init
namespace Go.Proofs.YtmbbcmebdefggaaDoor
/-- The first n entries are the numbers less than n in some order, all others 0. -/
def isPerm (X : List Nat) (n : Nat) : Prop :=
  (∀ j, j < n → X.getD j 0 < n) ∧ (∀ j k, j < n → k < n → X.getD j 0 = X.getD k 0 → j = k) ∧ (∀ j, n ≤ j → X.getD j 0 = 0)
theorem inj_of_surj {f : Nat → Nat} {n : Nat} (h : ∀ v, v < n → ∃ j, j < n ∧ f j = v) : ∀ j k, j < n → k < n → f j = f k → j = k := by
  intro j k hj hk he
  refine Classical.byContradiction fun hne => ?_
  have hl : ((List.range n).erase k).length = n - 1 := by rw [List.length_erase_of_mem (by simpa using hk)]; simp
  have hsub : List.range n ⊆ ((List.range n).erase k).map f := fun v hv => by
    obtain ⟨i, hi, hf⟩ := h v (by simpa using hv)
    by_cases hik : i = k
    · exact List.mem_map.2 ⟨j, (List.Nodup.mem_erase_iff List.nodup_range).2 ⟨hne, by simpa using hj⟩, by rw [he, ← hik, hf]⟩
    · exact List.mem_map.2 ⟨i, (List.Nodup.mem_erase_iff List.nodup_range).2 ⟨hik, by simpa using hi⟩, hf⟩
  have := List.Nodup.length_le_of_subset List.nodup_range hsub
  simp only [List.length_map, hl, List.length_range] at this
  omega
theorem surj_of_inj {f : Nat → Nat} {n : Nat} (hb : ∀ j, j < n → f j < n) (h : ∀ j k, j < n → k < n → f j = f k → j = k) : ∀ v, v < n → ∃ j, j < n ∧ f j = v := by
  intro v hv
  refine Classical.byContradiction fun hne => ?_
  have hnd : ((List.range n).map f).Nodup := by
    rw [List.nodup_iff_pairwise_ne, List.pairwise_map]
    refine List.Pairwise.imp_of_mem ?_ (List.nodup_iff_pairwise_ne.1 (List.nodup_range (n := n)))
    intro a b ha hb' hab e
    exact hab (h a b (by simpa using ha) (by simpa using hb') e)
  have hsub : (List.range n).map f ⊆ (List.range n).erase v := fun u hu => by
    obtain ⟨j, hj, rfl⟩ := List.mem_map.1 hu
    have hj' : j < n := by simpa using hj
    exact (List.Nodup.mem_erase_iff List.nodup_range).2 ⟨fun e => hne ⟨j, hj', e⟩, by simpa using hb j hj'⟩
  have := List.Nodup.length_le_of_subset hnd hsub
  rw [List.length_erase_of_mem (by simpa using hv)] at this
  simp only [List.length_map, List.length_range] at this
  omega
/-- What spec.l01Perm has seen after i rounds. -/
def okp (X : List Nat) (n i : Nat) : Prop :=
  (∀ j, j < i → j < n → X.getD j 0 < n) ∧ (∀ j k, j < i → k < i → j < n → k < n → X.getD j 0 = X.getD k 0 → j = k) ∧ (∀ j, j < i → n ≤ j → X.getD j 0 = 0)
theorem okp_zero (X : List Nat) (n : Nat) : okp X n 0 := ⟨by omega, by omega, by omega⟩
theorem okp_end {X : List Nat} {n : Nat} (hX : X.length = 8) (hn : n ≤ 8) : okp X n 8 ↔ isPerm X n := by
  refine ⟨fun ⟨h1, h2, h3⟩ => ⟨fun j hj => h1 j (by omega) hj, fun j k hj hk => h2 j k (by omega) (by omega) hj hk, fun j hj => ?_⟩, fun ⟨h1, h2, h3⟩ => ⟨fun j _ hj => h1 j hj, fun j k _ _ hj hk => h2 j k hj hk, fun j _ hj => h3 j hj⟩⟩
  by_cases h8 : j < 8
  · exact h3 j h8 hj
  · simp [List.getD_eq_getElem?_getD, List.getElem?_eq_none (show X.length ≤ j by omega)]
theorem okp_mono {X : List Nat} {n i j : Nat} (h : okp X n j) (hij : i ≤ j) : okp X n i :=
  ⟨fun a ha => h.1 a (by omega), fun a b ha hb => h.2.1 a b (by omega) (by omega), fun a ha => h.2.2 a (by omega)⟩
/-- The entries met. -/
def metp (X : List Nat) (n i : Nat) (M : List Bool) : Prop := M.length = 8 ∧ ∀ v, v < 8 → (M.getD v false = true ↔ ∃ j, j < i ∧ j < n ∧ X.getD j 0 = v)
theorem metp_zero (X : List Nat) (n : Nat) : metp X n 0 (List.replicate 8 false) := ⟨rfl, fun v hv => by
  have : (List.replicate 8 false).getD v false = false := by rw [List.getD_eq_getElem?_getD, List.getElem?_replicate]; split <;> rfl
  rw [this]
  exact ⟨(fun h => by cases h), fun ⟨j, hj, _⟩ => absurd hj (Nat.not_lt_zero j)⟩⟩
theorem metp_skip {X : List Nat} {n i : Nat} {M : List Bool} (h : metp X n i M) (hi : n ≤ i) : metp X n (i + 1) M :=
  ⟨h.1, fun v hv => (h.2 v hv).trans ⟨fun ⟨j, a, b, c⟩ => ⟨j, by omega, b, c⟩, fun ⟨j, a, b, c⟩ => ⟨j, by omega, b, c⟩⟩⟩
theorem metp_put {X : List Nat} {n i : Nat} {M : List Bool} (h : metp X n i M) (hi : i < n) (hv : X.getD i 0 < 8) : metp X n (i + 1) (M.set (X.getD i 0) true) := by
  refine ⟨by simpa using h.1, fun v hv' => ?_⟩
  have hlen := h.1
  by_cases e : X.getD i 0 = v
  · subst e
    simp only [List.getD_eq_getElem?_getD, List.getElem?_set_self (show X[i]?.getD 0 < M.length by simpa [List.getD_eq_getElem?_getD] using (by omega : X.getD i 0 < M.length)), Option.getD_some, true_iff]
    exact ⟨i, by omega, hi, by simp⟩
  · rw [List.getD_eq_getElem?_getD, List.getElem?_set_ne e, ← List.getD_eq_getElem?_getD, h.2 v hv']
    refine ⟨fun ⟨j, a, b, c⟩ => ⟨j, by omega, b, c⟩, fun ⟨j, a, b, c⟩ => ⟨j, ?_, b, c⟩⟩
    rcases Nat.lt_or_ge j i with h' | h'
    · exact h'
    · have : j = i := by omega
      subst this
      exact absurd c e
theorem okp_skip {X : List Nat} {n i : Nat} (h : okp X n i) (hi : n ≤ i) (h0 : X.getD i 0 = 0) : okp X n (i + 1) :=
  ⟨fun j hj hn => h.1 j (by omega) hn, fun j k hj hk hn hn' => h.2.1 j k (by omega) (by omega) hn hn', fun j hj hn => by
    rcases Nat.lt_or_ge j i with h' | h'
    · exact h.2.2 j h' hn
    · have : j = i := by omega
      subst this; exact h0⟩
theorem okp_put {X : List Nat} {n i : Nat} {M : List Bool} (h : okp X n i) (hm : metp X n i M) (hi : i < n) (hn8 : n ≤ 8) (hlt : X.getD i 0 < n) (hf : M.getD (X.getD i 0) false = false) : okp X n (i + 1) := by
  have hno : ∀ j, j < i → j < n → X.getD j 0 ≠ X.getD i 0 := fun j hj hjn e => by
    have := (hm.2 (X.getD i 0) (by omega)).2 ⟨j, hj, hjn, e⟩
    rw [hf] at this; cases this
  refine ⟨fun j hj hn => ?_, fun j k hj hk hjn hkn e => ?_, fun j hj hn => h.2.2 j (by omega) hn⟩
  · rcases Nat.lt_or_ge j i with h' | h'
    · exact h.1 j h' hn
    · have : j = i := by omega
      subst this; exact hlt
  · rcases Nat.lt_or_ge j i with h' | h' <;> rcases Nat.lt_or_ge k i with h'' | h''
    · exact h.2.1 j k h' h'' hjn hkn e
    · have : k = i := by omega
      subst this; exact absurd e (hno j h' hjn)
    · have : j = i := by omega
      subst this; exact absurd e.symm (hno k h'' hkn)
    · omega
theorem okp_no_range {X : List Nat} {n i : Nat} (hi : i < n) (h : ¬ X.getD i 0 < n) : ¬ isPerm X n := fun hp => h (hp.1 i hi)
theorem okp_no_met {X : List Nat} {n i : Nat} {M : List Bool} (hm : metp X n i M) (hi : i < n) (hn8 : n ≤ 8) (hf : M.getD (X.getD i 0) false = true) : ¬ isPerm X n := fun hp => by
  obtain ⟨j, hj, hjn, e⟩ := (hm.2 _ (by have := hp.1 i hi; omega)).1 hf
  have := hp.2.1 j i hjn hi e
  omega
/-- What impl.isOrder has seen after i rounds. -/
def oko (X : List Nat) (n i seen : Nat) : Prop := (∀ j, j < i → X.getD j 0 < n ∧ (n ≤ j → X.getD j 0 = 0)) ∧ ∀ v, seen.testBit v = true ↔ ∃ j, j < i ∧ j < n ∧ X.getD j 0 = v
theorem oko_zero (X : List Nat) (n : Nat) : oko X n 0 0 := ⟨by omega, fun v => by simp⟩
theorem oko_lt {X : List Nat} {n i seen : Nat} (h : oko X n i seen) (hn : n ≤ 8) : seen < 2 ^ 8 := by
  refine Nat.lt_pow_two_of_testBit seen fun v hv => ?_
  cases hb : seen.testBit v with
  | false => rfl
  | true =>
    obtain ⟨j, hj, hjn, e⟩ := (h.2 v).1 hb
    have := (h.1 j hj).1
    omega
theorem oko_skip {X : List Nat} {n i seen : Nat} (h : oko X n i seen) (hi : n ≤ i) (h0 : X.getD i 0 = 0) (hlt : X.getD i 0 < n) : oko X n (i + 1) seen := by
  refine ⟨fun j hj => ?_, fun v => (h.2 v).trans ⟨fun ⟨j, a, b, c⟩ => ⟨j, by omega, b, c⟩, fun ⟨j, a, b, c⟩ => ⟨j, by omega, b, c⟩⟩⟩
  rcases Nat.lt_or_ge j i with h' | h'
  · exact h.1 j h'
  · have : j = i := by omega
    subst this; exact ⟨hlt, fun _ => h0⟩
theorem oko_put {X : List Nat} {n i seen : Nat} (h : oko X n i seen) (hi : i < n) (hlt : X.getD i 0 < n) : oko X n (i + 1) (seen ||| 2 ^ X.getD i 0) := by
  refine ⟨fun j hj => ?_, fun v => ?_⟩
  · rcases Nat.lt_or_ge j i with h' | h'
    · exact h.1 j h'
    · have : j = i := by omega
      subst this; exact ⟨hlt, fun _ => by omega⟩
  · rw [Nat.testBit_or, Bool.or_eq_true, h.2 v, Nat.testBit_two_pow]
    refine ⟨fun hh => ?_, fun ⟨j, a, b, c⟩ => ?_⟩
    · rcases hh with ⟨j, a, b, c⟩ | hh
      · exact ⟨j, by omega, b, c⟩
      · exact ⟨i, by omega, hi, by simpa using hh⟩
    · rcases Nat.lt_or_ge j i with h' | h'
      · exact .inl ⟨j, h', b, c⟩
      · have : j = i := by omega
        subst this; exact .inr (by simpa using c)
theorem oko_end {X : List Nat} {n seen : Nat} (hX : X.length = 8) (hn : n ≤ 8) (h : oko X n 8 seen) : seen = 2 ^ n - 1 ↔ isPerm X n := by
  constructor
  · intro e
    subst e
    refine ⟨fun j hj => (h.1 j (by omega)).1, inj_of_surj (f := fun j => X.getD j 0) fun v hv => ?_, fun j hj => ?_⟩
    · obtain ⟨j, _, hjn, e⟩ := (h.2 v).1 (by rw [Nat.testBit_two_pow_sub_one]; simpa using hv)
      exact ⟨j, hjn, e⟩
    · by_cases h8 : j < 8
      · exact (h.1 j h8).2 hj
      · simp [List.getD_eq_getElem?_getD, List.getElem?_eq_none (show X.length ≤ j by omega)]
  · intro hp
    refine Nat.eq_of_testBit_eq fun v => ?_
    rw [Nat.testBit_two_pow_sub_one, Bool.eq_iff_iff, h.2 v, decide_eq_true_eq]
    refine ⟨fun ⟨j, _, hj, e⟩ => ?_, fun hv => ?_⟩
    · rw [← e]; exact hp.1 j hj
    · obtain ⟨j, hj, e⟩ := surj_of_inj (f := fun j => X.getD j 0) hp.1 hp.2.1 v hv
      exact ⟨j, by omega, hj, e⟩
theorem oko_no {X : List Nat} {n i : Nat} (hpos : 0 < n) (h : (n ≤ i ∧ X.getD i 0 ≠ 0) ∨ n ≤ X.getD i 0) : ¬ isPerm X n := fun hp => by
  rcases h with ⟨h1, h2⟩ | h1
  · exact h2 (hp.2.2 i h1)
  · by_cases hi : i < n
    · have := hp.1 i hi; omega
    · have := hp.2.2 i (by omega); omega
end Go.Proofs.YtmbbcmebdefggaaDoor
