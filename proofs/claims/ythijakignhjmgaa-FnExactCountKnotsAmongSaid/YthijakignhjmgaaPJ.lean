/- Plain laws: what the search for components has marked. -/
import Derived.Test.YthijakignhjmgaaPI
namespace Go.Proofs.Ythijakignhjmgaa
def zc (L : List Nat) : Nat := (L.filter (· == 0)).length
theorem zc_set : ∀ {L : List Nat} {k v : Nat}, k < L.length → L.getD k 0 = 0 → v ≠ 0 → zc (L.set k v) < zc L
  | [], _, _, h, _, _ => by simp at h
  | x :: L, 0, v, _, h0, hv => by
    have : x = 0 := by simpa using h0
    subst this
    simp [zc, hv]
  | x :: L, k + 1, v, h, h0, hv => by
    have ih := zc_set (L := L) (k := k) (v := v) (by simpa using h) (by simpa using h0) hv
    unfold zc at ih ⊢
    rw [List.set_cons_succ]
    by_cases e : x = 0
    · subst e; simpa using ih
    · simpa [e] using ih
/-- All that is met from columns less than i is marked, with numbers of at most c; so many orbits have been met. -/
structure cov (σ : Nat → Nat) (n i : Nat) (L : List Nat) (c : Nat) : Prop where
  len : L.length = 8
  mark : ∀ m, m < n → (L.getD m 0 ≠ 0 ↔ ∃ j, j < i ∧ rch σ j m)
  le : ∀ m, L.getD m 0 ≤ c
  many : c = ((List.range i).filter fun j => @decide (isRep σ j) (Classical.propDecidable _)).length
theorem cov_zero (σ : Nat → Nat) (n : Nat) : cov σ n 0 Z8 0 := by
  have : ∀ m, Z8.getD m 0 = 0 := fun m => by
    rw [List.getD_eq_getElem?_getD, List.getElem?_replicate]; split <;> rfl
  exact ⟨rfl, fun m _ => ⟨fun h => absurd (this m) h, fun ⟨j, hj, _⟩ => by omega⟩, fun m => by rw [this]; exact Nat.le_refl _, rfl⟩
theorem cov_le {σ : Nat → Nat} {n i c : Nat} {L : List Nat} (h : cov σ n i L c) : c ≤ i := by
  rw [h.many]
  exact Nat.le_trans (List.length_filter_le _ _) (by simp)
theorem filt_yes {σ : Nat → Nat} {i : Nat} (h : isRep σ i) : ((List.range (i + 1)).filter fun j => @decide (isRep σ j) (Classical.propDecidable _)).length = ((List.range i).filter fun j => @decide (isRep σ j) (Classical.propDecidable _)).length + 1 := by
  rw [List.range_succ, List.filter_append, List.length_append]
  simp [h]
theorem filt_no {σ : Nat → Nat} {i : Nat} (h : ¬ isRep σ i) : ((List.range (i + 1)).filter fun j => @decide (isRep σ j) (Classical.propDecidable _)).length = ((List.range i).filter fun j => @decide (isRep σ j) (Classical.propDecidable _)).length := by
  rw [List.range_succ, List.filter_append, List.length_append]
  simp [h]
theorem cov_old {σ : Nat → Nat} {n i c : Nat} {L : List Nat} (hσ : permF σ n) (hi : i < n) (h : cov σ n i L c) (hm : L.getD i 0 ≠ 0) : cov σ n (i + 1) L c := by
  obtain ⟨j, hj, hr⟩ := (h.mark i hi).1 hm
  refine ⟨h.len, fun m hm' => (h.mark m hm').trans ⟨fun ⟨k, hk, hk'⟩ => ⟨k, by omega, hk'⟩, fun ⟨k, hk, hk'⟩ => ?_⟩, h.le, ?_⟩
  · by_cases e : k = i
    · subst e; exact ⟨j, hj, rch_trans hr hk'⟩
    · exact ⟨k, by omega, hk'⟩
  · rw [h.many, filt_no]
    intro a
    obtain ⟨t, ht⟩ := rch_symm hσ (show j < n by omega) hr
    have := a t
    omega
/-- Along the orbit of i: after t steps. -/
structure alo (σ : Nat → Nat) (n i : Nat) (L : List Nat) (c t : Nat) : Prop where
  len : L.length = 8
  mark : ∀ m, m < n → (L.getD m 0 ≠ 0 ↔ (∃ j, j < i ∧ rch σ j m) ∨ ∃ s, s < t ∧ it σ s i = m)
  le : ∀ m, L.getD m 0 ≤ c
theorem alo_start {σ : Nat → Nat} {n i c : Nat} {L : List Nat} (h : cov σ n i L c) : alo σ n i L (c + 1) 0 :=
  ⟨h.len, fun m hm => (h.mark m hm).trans ⟨fun h => .inl h, fun h => h.elim id fun ⟨s, hs, _⟩ => by omega⟩, fun m => Nat.le_succ_of_le (h.le m)⟩
theorem alo_step {σ : Nat → Nat} {n i c t : Nat} {L : List Nat} (hσ : permF σ n) (h8 : n ≤ 8) (hi : i < n) (hc : 0 < c) (h : alo σ n i L c t) : alo σ n i (L.set (it σ t i) c) c (t + 1) := by
  have hk := it_lt hσ hi t
  have hl := h.len
  refine ⟨by rw [List.length_set]; exact h.len, fun m hm => ?_, fun m => ?_⟩
  · rw [set_getD (by omega)]
    by_cases e : m = it σ t i
    · rw [if_pos e]
      exact ⟨fun _ => .inr ⟨t, by omega, e.symm⟩, fun _ => by omega⟩
    · rw [if_neg e, h.mark m hm]
      refine ⟨fun g => g.imp id fun ⟨s, hs, hs'⟩ => ⟨s, by omega, hs'⟩, fun g => g.imp id fun ⟨s, hs, hs'⟩ => ⟨s, ?_, hs'⟩⟩
      by_cases e' : s = t
      · subst e'; exact absurd hs'.symm e
      · omega
  · rw [set_getD (by omega)]
    split
    · exact Nat.le_refl _
    · exact h.le m
theorem alo_end {σ : Nat → Nat} {n i c t : Nat} {L L0 : List Nat} (hσ : permF σ n) (hi : i < n) (h0 : cov σ n i L0 c) (hz : L0.getD i 0 = 0) (h : alo σ n i L (c + 1) t) (hm : L.getD (it σ t i) 0 ≠ 0) : cov σ n (i + 1) L (c + 1) := by
  have hno : ¬ ∃ j, j < i ∧ rch σ j i := fun k => by
    have := (h0.mark i hi).2 k
    exact this hz
  have hper : ∃ p, 0 < p ∧ p ≤ t ∧ it σ p i = i := by
    rcases (h.mark _ (it_lt hσ hi t)).1 hm with ⟨j, hj, hr⟩ | ⟨s, hs, e⟩
    · exact absurd ⟨j, hj, rch_trans hr (rch_symm hσ hi ⟨t, rfl⟩)⟩ hno
    · refine ⟨t - s, by omega, by omega, ?_⟩
      have : it σ t i = it σ s (it σ (t - s) i) := by rw [← it_add]; congr 1; omega
      rw [this] at e
      exact (it_inj hσ hi (it_lt hσ hi _) s e).symm
  obtain ⟨p, hp, hpt, e⟩ := hper
  have hrep : isRep σ i := fun q => by
    refine Nat.le_of_not_lt fun hlt => hno ⟨it σ q i, hlt, rch_symm hσ hi ⟨q, rfl⟩⟩
  refine ⟨h.len, fun m hm' => (h.mark m hm').trans ⟨fun g => ?_, fun ⟨j, hj, hr⟩ => ?_⟩, h.le, ?_⟩
  · rcases g with ⟨j, hj, hr⟩ | ⟨s, hs, hr⟩
    · exact ⟨j, by omega, hr⟩
    · exact ⟨i, by omega, ⟨s, hr⟩⟩
  · by_cases ej : j = i
    · subst ej
      obtain ⟨q, rfl⟩ := hr
      refine .inr ⟨q % p, Nat.lt_of_lt_of_le (Nat.mod_lt _ hp) hpt, ?_⟩
      have : it σ q j = it σ (q % p + p * (q / p)) j := by rw [Nat.mod_add_div]
      rw [this, it_add, it_mul e]
    · exact .inl ⟨j, by omega, hr⟩
  · rw [filt_yes hrep, h0.many]
theorem cov_end {σ : Nat → Nat} {n c : Nat} {L : List Nat} (h : cov σ n n L c) : c = nrep σ n ∧ (∀ m, m < n → L.getD m 0 ≠ 0) :=
  ⟨h.many, fun m hm => (h.mark m hm).2 ⟨m, hm, rch_refl σ m⟩⟩
/-- Each of the first k entries less by one. -/
def decs (L : List Nat) : Nat → List Nat
  | 0 => L
  | k + 1 => (decs L k).set k (L.getD k 0 - 1)
theorem decs_len (L : List Nat) : ∀ k, (decs L k).length = L.length
  | 0 => rfl
  | k + 1 => by rw [decs, List.length_set, decs_len L k]
theorem decs_get (L : List Nat) {j : Nat} (hj : j < L.length) : ∀ k, (decs L k).getD j 0 = if j < k then L.getD j 0 - 1 else L.getD j 0
  | 0 => by rw [if_neg (by omega)]; rfl
  | k + 1 => by
    by_cases hk : k < L.length
    · rw [decs, set_getD (by rw [decs_len]; exact hk), decs_get L hj k]
      by_cases e : j = k
      · subst e; rw [if_pos rfl, if_pos (by omega)]
      · rw [if_neg e]
        by_cases h : j < k
        · rw [if_pos h, if_pos (by omega)]
        · rw [if_neg h, if_neg (by omega)]
    · rw [decs, List.set_eq_of_length_le (by rw [decs_len]; omega), decs_get L hj k, if_pos (by omega), if_pos (by omega)]
end Go.Proofs.Ythijakignhjmgaa
