/- Plain laws: writhe and cusps of a grid are told by Maslov gradings of its marks. Plain laws: orbits of a permutation, how many there are, and what a search for them has marked. Plain laws: what the search for components has marked. The column behind a column; how many components. -/
import Derived.Test.YtmbbcmebdefggaaGreatDoorPG
import Derived.Test.YtmbbcmebdefggaaGreatDoorWC
namespace Go.Proofs.YtmbbcmebdefggaaGreatDoor
section
variable {n : Nat} {x xi o oi : Nat → Nat}
/-! Numbers of corners. -/
/-! Pairs of equal rows. -/
/-! The writhe. -/
end
end Go.Proofs.YtmbbcmebdefggaaGreatDoor
namespace Go.Proofs.YtmbbcmebdefggaaGreatDoor
def it (σ : Nat → Nat) : Nat → Nat → Nat
  | 0, i => i
  | t + 1, i => σ (it σ t i)
theorem it_add (σ : Nat → Nat) (i : Nat) (s : Nat) : ∀ t, it σ (t + s) i = it σ t (it σ s i)
  | 0 => by rw [Nat.zero_add]; rfl
  | t + 1 => by rw [show t + 1 + s = (t + s) + 1 by omega, it, it, it_add σ i s t]
theorem it_lt {σ : Nat → Nat} {n : Nat} (h : permF σ n) {i : Nat} (hi : i < n) : ∀ t, it σ t i < n
  | 0 => hi
  | t + 1 => h.1 _ (it_lt h hi t)
theorem it_inj {σ : Nat → Nat} {n : Nat} (h : permF σ n) {i k : Nat} (hi : i < n) (hk : k < n) : ∀ t, it σ t i = it σ t k → i = k
  | 0, e => e
  | t + 1, e => it_inj h hi hk t (h.2 _ _ (it_lt h hi t) (it_lt h hk t) e)
theorem it_period {σ : Nat → Nat} {n : Nat} (h : permF σ n) {i : Nat} (hi : i < n) : ∃ p, 0 < p ∧ it σ p i = i := by
  refine Classical.byContradiction fun hno => ?_
  have hd : ∀ s t, s < t → it σ s i ≠ it σ t i := fun s t hst e => by
    refine hno ⟨t - s, by omega, ?_⟩
    have : it σ t i = it σ s (it σ (t - s) i) := by rw [← it_add]; congr 1; omega
    rw [this] at e
    exact (it_inj h hi (it_lt h hi _) s e).symm
  have hnd : ((List.range (n + 1)).map fun t => it σ t i).Nodup := by
    rw [List.nodup_iff_pairwise_ne, List.pairwise_map]
    refine List.Pairwise.imp ?_ (List.pairwise_lt_range (n := n + 1))
    intro a b hab
    exact hd a b hab
  have := List.Nodup.length_le_of_subset hnd (l₂ := List.range n) fun a ha => by
    obtain ⟨t, _, rfl⟩ := List.mem_map.1 ha
    exact List.mem_range.2 (it_lt h hi t)
  simp at this
  omega
theorem it_mul {σ : Nat → Nat} {i p : Nat} (hp : it σ p i = i) : ∀ t, it σ (p * t) i = i
  | 0 => rfl
  | t + 1 => by rw [Nat.mul_add, Nat.mul_one, it_add, hp, it_mul hp t]
/-- k is met from i. -/
def rch (σ : Nat → Nat) (i k : Nat) : Prop := ∃ t, it σ t i = k
theorem rch_refl (σ : Nat → Nat) (i : Nat) : rch σ i i := ⟨0, rfl⟩
theorem rch_trans {σ : Nat → Nat} {i k l : Nat} (h : rch σ i k) (g : rch σ k l) : rch σ i l := by
  obtain ⟨s, rfl⟩ := h
  obtain ⟨t, rfl⟩ := g
  exact ⟨t + s, it_add σ i s t⟩
theorem rch_symm {σ : Nat → Nat} {n : Nat} (hσ : permF σ n) {i k : Nat} (hi : i < n) (h : rch σ i k) : rch σ k i := by
  obtain ⟨t, rfl⟩ := h
  obtain ⟨p, hp, e⟩ := it_period hσ hi
  refine ⟨p * t - t, ?_⟩
  rw [← it_add]
  have : p * t - t + t = p * t := by
    have : t ≤ p * t := Nat.le_mul_of_pos_left t hp
    omega
  rw [this, it_mul e]
/-- The least of its orbit. -/
def isRep (σ : Nat → Nat) (i : Nat) : Prop := ∀ t, i ≤ it σ t i
open Classical in
noncomputable def repsU (σ : Nat → Nat) (n : Nat) : List Nat := (List.range n).filter fun i => decide (isRep σ i)
noncomputable def nrep (σ : Nat → Nat) (n : Nat) : Nat := (repsU σ n).length
theorem mem_reps {σ : Nat → Nat} {n i : Nat} : i ∈ repsU σ n ↔ i < n ∧ isRep σ i := by
  unfold repsU
  simp
theorem least_in {σ : Nat → Nat} {n : Nat} (hσ : permF σ n) {i : Nat} (hi : i < n) : ∃ m, m < n ∧ rch σ i m ∧ isRep σ m := by
  have : ∀ b, ∀ i, i < n → i ≤ b → ∃ m, m < n ∧ rch σ i m ∧ isRep σ m := by
    intro b
    induction b with
    | zero => intro i hi hb; exact ⟨i, hi, rch_refl σ i, fun t => by omega⟩
    | succ b ih =>
      intro i hi hb
      by_cases h : isRep σ i
      · exact ⟨i, hi, rch_refl σ i, h⟩
      · obtain ⟨t, ht⟩ := Classical.not_forall.1 h
        obtain ⟨m, h1, h2, h3⟩ := ih (it σ t i) (it_lt hσ hi t) (by omega)
        exact ⟨m, h1, rch_trans ⟨t, rfl⟩ h2, h3⟩
  exact this i i hi (Nat.le_refl _)
/-- The column behind a column. -/
structure isNext (n : Nat) (x o σ : Nat → Nat) : Prop where
  lt : ∀ i, i < n → σ i < n
  at_ : ∀ i, i < n → x (σ i) = o i
theorem isNext.perm {n : Nat} {x o σ : Nat → Nat} (h : isNext n x o σ) (ho : permF o n) : permF σ n :=
  ⟨h.lt, fun i k hi hk e => ho.2 i k hi hk (by rw [← h.at_ i hi, ← h.at_ k hk, e])⟩
end Go.Proofs.YtmbbcmebdefggaaGreatDoor
namespace Go.Proofs.YtmbbcmebdefggaaGreatDoor
def zc (L : List Nat) : Nat := (L.filter (· == 0)).length
theorem zc_set : ∀ {L : List Nat} {k v : Nat}, k < L.length → L.getD k 0 = 0 → v ≠ 0 → zc (L.set k v) < zc L
  | [], _, _, h, _, _ => by simp at h
  | x :: L, 0, v, _, h0, hv => by
    have : x = 0 := by simpa using h0
    subst this
    simp [zc, hv]
  | x :: L, k + 1, v, h, h0, hv => by
    have ih := zc_set (L := L) (k := k) (v := v) (by simpa using h) (by simpa using h0) hv
    unfold zc at ih ⊢
    rw [List.set_cons_succ]
    by_cases e : x = 0
    · subst e; simpa using ih
    · simpa [e] using ih
/-- All that is met from columns less than i is marked, with numbers of at most c; so many orbits have been met. -/
structure cov (σ : Nat → Nat) (n i : Nat) (L : List Nat) (c : Nat) : Prop where
  len : L.length = 8
  mark : ∀ m, m < n → (L.getD m 0 ≠ 0 ↔ ∃ j, j < i ∧ rch σ j m)
  le : ∀ m, L.getD m 0 ≤ c
  many : c = ((List.range i).filter fun j => @decide (isRep σ j) (Classical.propDecidable _)).length
theorem cov_zero (σ : Nat → Nat) (n : Nat) : cov σ n 0 Z8 0 := by
  have : ∀ m, Z8.getD m 0 = 0 := fun m => by
    rw [List.getD_eq_getElem?_getD, List.getElem?_replicate]; split <;> rfl
  exact ⟨rfl, fun m _ => ⟨fun h => absurd (this m) h, fun ⟨j, hj, _⟩ => by omega⟩, fun m => by rw [this]; exact Nat.le_refl _, rfl⟩
theorem cov_le {σ : Nat → Nat} {n i c : Nat} {L : List Nat} (h : cov σ n i L c) : c ≤ i := by
  rw [h.many]
  exact Nat.le_trans (List.length_filter_le _ _) (by simp)
theorem repF_yes {σ : Nat → Nat} {i : Nat} (h : isRep σ i) : ((List.range (i + 1)).filter fun j => @decide (isRep σ j) (Classical.propDecidable _)).length = ((List.range i).filter fun j => @decide (isRep σ j) (Classical.propDecidable _)).length + 1 := by
  rw [List.range_succ, List.filter_append, List.length_append]
  simp [h]
theorem repF_no {σ : Nat → Nat} {i : Nat} (h : ¬ isRep σ i) : ((List.range (i + 1)).filter fun j => @decide (isRep σ j) (Classical.propDecidable _)).length = ((List.range i).filter fun j => @decide (isRep σ j) (Classical.propDecidable _)).length := by
  rw [List.range_succ, List.filter_append, List.length_append]
  simp [h]
theorem cov_old {σ : Nat → Nat} {n i c : Nat} {L : List Nat} (hσ : permF σ n) (hi : i < n) (h : cov σ n i L c) (hm : L.getD i 0 ≠ 0) : cov σ n (i + 1) L c := by
  obtain ⟨j, hj, hr⟩ := (h.mark i hi).1 hm
  refine ⟨h.len, fun m hm' => (h.mark m hm').trans ⟨fun ⟨k, hk, hk'⟩ => ⟨k, by omega, hk'⟩, fun ⟨k, hk, hk'⟩ => ?_⟩, h.le, ?_⟩
  · by_cases e : k = i
    · subst e; exact ⟨j, hj, rch_trans hr hk'⟩
    · exact ⟨k, by omega, hk'⟩
  · rw [h.many, repF_no]
    intro a
    obtain ⟨t, ht⟩ := rch_symm hσ (show j < n by omega) hr
    have := a t
    omega
/-- Along the orbit of i: after t steps. -/
structure alo (σ : Nat → Nat) (n i : Nat) (L : List Nat) (c t : Nat) : Prop where
  len : L.length = 8
  mark : ∀ m, m < n → (L.getD m 0 ≠ 0 ↔ (∃ j, j < i ∧ rch σ j m) ∨ ∃ s, s < t ∧ it σ s i = m)
  le : ∀ m, L.getD m 0 ≤ c
theorem alo_start {σ : Nat → Nat} {n i c : Nat} {L : List Nat} (h : cov σ n i L c) : alo σ n i L (c + 1) 0 :=
  ⟨h.len, fun m hm => (h.mark m hm).trans ⟨fun h => .inl h, fun h => h.elim id fun ⟨s, hs, _⟩ => by omega⟩, fun m => Nat.le_succ_of_le (h.le m)⟩
theorem alo_step {σ : Nat → Nat} {n i c t : Nat} {L : List Nat} (hσ : permF σ n) (h8 : n ≤ 8) (hi : i < n) (hc : 0 < c) (h : alo σ n i L c t) : alo σ n i (L.set (it σ t i) c) c (t + 1) := by
  have hk := it_lt hσ hi t
  have hl := h.len
  refine ⟨by rw [List.length_set]; exact h.len, fun m hm => ?_, fun m => ?_⟩
  · rw [set_getD (by omega)]
    by_cases e : m = it σ t i
    · rw [if_pos e]
      exact ⟨fun _ => .inr ⟨t, by omega, e.symm⟩, fun _ => by omega⟩
    · rw [if_neg e, h.mark m hm]
      refine ⟨fun g => g.imp id fun ⟨s, hs, hs'⟩ => ⟨s, by omega, hs'⟩, fun g => g.imp id fun ⟨s, hs, hs'⟩ => ⟨s, ?_, hs'⟩⟩
      by_cases e' : s = t
      · subst e'; exact absurd hs'.symm e
      · omega
  · rw [set_getD (by omega)]
    split
    · exact Nat.le_refl _
    · exact h.le m
theorem alo_end {σ : Nat → Nat} {n i c t : Nat} {L L0 : List Nat} (hσ : permF σ n) (hi : i < n) (h0 : cov σ n i L0 c) (hz : L0.getD i 0 = 0) (h : alo σ n i L (c + 1) t) (hm : L.getD (it σ t i) 0 ≠ 0) : cov σ n (i + 1) L (c + 1) := by
  have hno : ¬ ∃ j, j < i ∧ rch σ j i := fun k => by
    have := (h0.mark i hi).2 k
    exact this hz
  have hper : ∃ p, 0 < p ∧ p ≤ t ∧ it σ p i = i := by
    rcases (h.mark _ (it_lt hσ hi t)).1 hm with ⟨j, hj, hr⟩ | ⟨s, hs, e⟩
    · exact absurd ⟨j, hj, rch_trans hr (rch_symm hσ hi ⟨t, rfl⟩)⟩ hno
    · refine ⟨t - s, by omega, by omega, ?_⟩
      have : it σ t i = it σ s (it σ (t - s) i) := by rw [← it_add]; congr 1; omega
      rw [this] at e
      exact (it_inj hσ hi (it_lt hσ hi _) s e).symm
  obtain ⟨p, hp, hpt, e⟩ := hper
  have hrep : isRep σ i := fun q => by
    refine Nat.le_of_not_lt fun hlt => hno ⟨it σ q i, hlt, rch_symm hσ hi ⟨q, rfl⟩⟩
  refine ⟨h.len, fun m hm' => (h.mark m hm').trans ⟨fun g => ?_, fun ⟨j, hj, hr⟩ => ?_⟩, h.le, ?_⟩
  · rcases g with ⟨j, hj, hr⟩ | ⟨s, hs, hr⟩
    · exact ⟨j, by omega, hr⟩
    · exact ⟨i, by omega, ⟨s, hr⟩⟩
  · by_cases ej : j = i
    · subst ej
      obtain ⟨q, rfl⟩ := hr
      refine .inr ⟨q % p, Nat.lt_of_lt_of_le (Nat.mod_lt _ hp) hpt, ?_⟩
      have : it σ q j = it σ (q % p + p * (q / p)) j := by rw [Nat.mod_add_div]
      rw [this, it_add, it_mul e]
    · exact .inl ⟨j, by omega, hr⟩
  · rw [repF_yes hrep, h0.many]
theorem cov_end {σ : Nat → Nat} {n c : Nat} {L : List Nat} (h : cov σ n n L c) : c = nrep σ n ∧ (∀ m, m < n → L.getD m 0 ≠ 0) :=
  ⟨h.many, fun m hm => (h.mark m hm).2 ⟨m, hm, rch_refl σ m⟩⟩
/-- Each of the first k entries less by one. -/
def decs (L : List Nat) : Nat → List Nat
  | 0 => L
  | k + 1 => (decs L k).set k (L.getD k 0 - 1)
theorem decs_len (L : List Nat) : ∀ k, (decs L k).length = L.length
  | 0 => rfl
  | k + 1 => by rw [decs, List.length_set, decs_len L k]
theorem decs_get (L : List Nat) {j : Nat} (hj : j < L.length) : ∀ k, (decs L k).getD j 0 = if j < k then L.getD j 0 - 1 else L.getD j 0
  | 0 => by rw [if_neg (by omega)]; rfl
  | k + 1 => by
    by_cases hk : k < L.length
    · rw [decs, set_getD (by rw [decs_len]; exact hk), decs_get L hj k]
      by_cases e : j = k
      · subst e; rw [if_pos rfl, if_pos (by omega)]
      · rw [if_neg e]
        by_cases h : j < k
        · rw [if_pos h, if_pos (by omega)]
        · rw [if_neg h, if_neg (by omega)]
    · rw [decs, List.set_eq_of_length_le (by rw [decs_len]; omega), decs_get L hj k, if_pos (by omega), if_pos (by omega)]
end Go.Proofs.YtmbbcmebdefggaaGreatDoor
namespace Go.Proofs.YtmbbcmebdefggaaGreatDoor
def nxt (n : Nat) (X O : List Nat) : Nat → Nat := fun i => (plc X n).getD (O.getD i 0) 0
theorem permF_of {n : Nat} {X : List Nat} (p : isPerm X n) : permF (fun i => X.getD i 0) n := ⟨p.1, p.2.1⟩
theorem nxt_next {n : Nat} {X O : List Nat} (g : okG (n : Int) X O) : isNext n (fun i => X.getD i 0) (fun i => O.getD i 0) (nxt n X O) := by
  obtain ⟨⟨h2, h8⟩, pX, pO, hne⟩ := g
  simp only [Int.toNat_natCast] at pX pO
  refine ⟨fun i hi => plc_lt pX (by omega) (pO.1 i hi), fun i hi => ?_⟩
  show X.getD ((plc X n).getD (O.getD i 0) 0) 0 = O.getD i 0
  rw [plc_pos pX (by omega) (pO.1 i hi)]
  exact (pX.posF_spec (pO.1 i hi)).2
theorem nxt_perm {n : Nat} {X O : List Nat} (g : okG (n : Int) X O) : permF (nxt n X O) n :=
  (nxt_next g).perm (permF_of (by have := g.2.2.1; simpa using this))
/-- How many components a grid has. -/
noncomputable def comps (n : Nat) (X O : List Nat) : Nat := nrep (nxt n X O) n
end Go.Proofs.YtmbbcmebdefggaaGreatDoor
