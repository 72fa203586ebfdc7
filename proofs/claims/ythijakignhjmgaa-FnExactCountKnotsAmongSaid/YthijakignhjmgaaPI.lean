/- Plain laws: orbits of a permutation, how many there are, and what a search for them has marked. -/
import Derived.Test.YthijakignhjmgaaPH
namespace Go.Proofs.Ythijakignhjmgaa
def it (σ : Nat → Nat) : Nat → Nat → Nat
  | 0, i => i
  | t + 1, i => σ (it σ t i)
theorem it_add (σ : Nat → Nat) (i : Nat) (s : Nat) : ∀ t, it σ (t + s) i = it σ t (it σ s i)
  | 0 => by rw [Nat.zero_add]; rfl
  | t + 1 => by rw [show t + 1 + s = (t + s) + 1 by omega, it, it, it_add σ i s t]
theorem it_lt {σ : Nat → Nat} {n : Nat} (h : permF σ n) {i : Nat} (hi : i < n) : ∀ t, it σ t i < n
  | 0 => hi
  | t + 1 => h.1 _ (it_lt h hi t)
theorem it_inj {σ : Nat → Nat} {n : Nat} (h : permF σ n) {i k : Nat} (hi : i < n) (hk : k < n) : ∀ t, it σ t i = it σ t k → i = k
  | 0, e => e
  | t + 1, e => it_inj h hi hk t (h.2 _ _ (it_lt h hi t) (it_lt h hk t) e)
theorem it_period {σ : Nat → Nat} {n : Nat} (h : permF σ n) {i : Nat} (hi : i < n) : ∃ p, 0 < p ∧ it σ p i = i := by
  refine Classical.byContradiction fun hno => ?_
  have hd : ∀ s t, s < t → it σ s i ≠ it σ t i := fun s t hst e => by
    refine hno ⟨t - s, by omega, ?_⟩
    have : it σ t i = it σ s (it σ (t - s) i) := by rw [← it_add]; congr 1; omega
    rw [this] at e
    exact (it_inj h hi (it_lt h hi _) s e).symm
  have hnd : ((List.range (n + 1)).map fun t => it σ t i).Nodup := by
    rw [List.nodup_iff_pairwise_ne, List.pairwise_map]
    refine List.Pairwise.imp ?_ (List.pairwise_lt_range (n := n + 1))
    intro a b hab
    exact hd a b hab
  have := List.Nodup.length_le_of_subset hnd (l₂ := List.range n) fun a ha => by
    obtain ⟨t, _, rfl⟩ := List.mem_map.1 ha
    exact List.mem_range.2 (it_lt h hi t)
  simp at this
  omega
theorem it_mul {σ : Nat → Nat} {i p : Nat} (hp : it σ p i = i) : ∀ t, it σ (p * t) i = i
  | 0 => rfl
  | t + 1 => by rw [Nat.mul_add, Nat.mul_one, it_add, hp, it_mul hp t]
/-- k is met from i. -/
def rch (σ : Nat → Nat) (i k : Nat) : Prop := ∃ t, it σ t i = k
theorem rch_refl (σ : Nat → Nat) (i : Nat) : rch σ i i := ⟨0, rfl⟩
theorem rch_trans {σ : Nat → Nat} {i k l : Nat} (h : rch σ i k) (g : rch σ k l) : rch σ i l := by
  obtain ⟨s, rfl⟩ := h
  obtain ⟨t, rfl⟩ := g
  exact ⟨t + s, it_add σ i s t⟩
theorem rch_symm {σ : Nat → Nat} {n : Nat} (hσ : permF σ n) {i k : Nat} (hi : i < n) (h : rch σ i k) : rch σ k i := by
  obtain ⟨t, rfl⟩ := h
  obtain ⟨p, hp, e⟩ := it_period hσ hi
  refine ⟨p * t - t, ?_⟩
  rw [← it_add]
  have : p * t - t + t = p * t := by
    have : t ≤ p * t := Nat.le_mul_of_pos_left t hp
    omega
  rw [this, it_mul e]
/-- The least of its orbit. -/
def isRep (σ : Nat → Nat) (i : Nat) : Prop := ∀ t, i ≤ it σ t i
open Classical in
noncomputable def repsU (σ : Nat → Nat) (n : Nat) : List Nat := (List.range n).filter fun i => decide (isRep σ i)
noncomputable def nrep (σ : Nat → Nat) (n : Nat) : Nat := (repsU σ n).length
theorem mem_reps {σ : Nat → Nat} {n i : Nat} : i ∈ repsU σ n ↔ i < n ∧ isRep σ i := by
  unfold repsU
  simp
theorem least_in {σ : Nat → Nat} {n : Nat} (hσ : permF σ n) {i : Nat} (hi : i < n) : ∃ m, m < n ∧ rch σ i m ∧ isRep σ m := by
  have : ∀ b, ∀ i, i < n → i ≤ b → ∃ m, m < n ∧ rch σ i m ∧ isRep σ m := by
    intro b
    induction b with
    | zero => intro i hi hb; exact ⟨i, hi, rch_refl σ i, fun t => by omega⟩
    | succ b ih =>
      intro i hi hb
      by_cases h : isRep σ i
      · exact ⟨i, hi, rch_refl σ i, h⟩
      · obtain ⟨t, ht⟩ := Classical.not_forall.1 h
        obtain ⟨m, h1, h2, h3⟩ := ih (it σ t i) (it_lt hσ hi t) (by omega)
        exact ⟨m, h1, rch_trans ⟨t, rfl⟩ h2, h3⟩
  exact this i i hi (Nat.le_refl _)
theorem rep_unique {σ : Nat → Nat} {n : Nat} (hσ : permF σ n) {i k : Nat} (hi : i < n) (a : isRep σ i) (b : isRep σ k) (h : rch σ i k) : i = k := by
  obtain ⟨s, hs⟩ := h
  obtain ⟨t, ht⟩ := rch_symm hσ hi ⟨s, hs⟩
  have h1 := a s
  have h2 := b t
  omega
theorem nrep_le {σ τ ρ : Nat → Nat} {n : Nat} (hσ : permF σ n) (hτ : permF τ n) (hρ : permF ρ n) (hc : ∀ i, i < n → ρ (σ i) = τ (ρ i)) : nrep σ n ≤ nrep τ n := by
  have hit : ∀ i, i < n → ∀ t, ρ (it σ t i) = it τ t (ρ i) := fun i hi t => by
    induction t with
    | zero => rfl
    | succ t ih => rw [it, it, hc _ (it_lt hσ hi t), ih]
  have hm : ∀ i, i < n → ∃ m, m < n ∧ rch τ (ρ i) m ∧ isRep τ m := fun i hi => least_in hτ (hρ.1 i hi)
  let φ : Nat → Nat := fun i => if hi : i < n then Classical.choose (hm i hi) else 0
  have hφ : ∀ i, i < n → φ i < n ∧ rch τ (ρ i) (φ i) ∧ isRep τ (φ i) := fun i hi => by
    have := Classical.choose_spec (hm i hi)
    simp only [φ, dif_pos hi]
    exact this
  have hnd : ((repsU σ n).map φ).Nodup := by
    rw [List.nodup_iff_pairwise_ne, List.pairwise_map]
    have h0 : (repsU σ n).Nodup := List.Sublist.nodup List.filter_sublist List.nodup_range
    refine List.Pairwise.imp_of_mem ?_ (List.nodup_iff_pairwise_ne.1 h0)
    intro a b ha hb hab e
    obtain ⟨ha, ra⟩ := mem_reps.1 ha
    obtain ⟨hb, rb⟩ := mem_reps.1 hb
    have h1 := (hφ a ha).2.1
    have h2 := rch_symm hτ (hρ.1 b hb) (hφ b hb).2.1
    rw [e] at h1
    obtain ⟨t, ht⟩ := rch_trans h1 h2
    rw [← hit a ha t] at ht
    exact hab (rep_unique hσ ha ra rb ⟨t, hρ.2 _ _ (it_lt hσ ha t) hb ht⟩)
  have := List.Nodup.length_le_of_subset hnd (l₂ := repsU τ n) fun a ha => by
    obtain ⟨i, hi, rfl⟩ := List.mem_map.1 ha
    have := hφ i (mem_reps.1 hi).1
    exact mem_reps.2 ⟨this.1, this.2.2⟩
  rw [List.length_map] at this
  exact this
theorem nrep_conj {σ τ ρ : Nat → Nat} {n : Nat} (hσ : permF σ n) (hτ : permF τ n) (hρ : permF ρ n) (hc : ∀ i, i < n → ρ (σ i) = τ (ρ i)) : nrep σ n = nrep τ n := by
  obtain ⟨ρi, hi⟩ := hρ.inv
  refine Nat.le_antisymm (nrep_le hσ hτ hρ hc) (nrep_le hτ hσ hi.iperm fun k hk => ?_)
  have h1 := hi.iperm.1 k hk
  have := hc (ρi k) h1
  rw [hi.left k hk] at this
  rw [← this, hi.right _ (hσ.1 _ h1)]
theorem nrep_congr {σ τ : Nat → Nat} {n : Nat} (hσ : permF σ n) (h : ∀ i, i < n → τ i = σ i) : nrep τ n = nrep σ n :=
  (nrep_conj hσ (permF_congr hσ h) (ρ := fun i => i) ⟨fun i hi => hi, fun i k _ _ e => e⟩ fun i hi => (h i hi).symm).symm
/-- The column behind a column. -/
structure isNext (n : Nat) (x o σ : Nat → Nat) : Prop where
  lt : ∀ i, i < n → σ i < n
  at_ : ∀ i, i < n → x (σ i) = o i
theorem isNext.perm {n : Nat} {x o σ : Nat → Nat} (h : isNext n x o σ) (ho : permF o n) : permF σ n :=
  ⟨h.lt, fun i k hi hk e => ho.2 i k hi hk (by rw [← h.at_ i hi, ← h.at_ k hk, e])⟩
theorem nrep_rf {m : Nat} {x o σ τ : Nat → Nat} (hx : permF x (m + 1)) (ho : permF o (m + 1)) (h : isNext (m + 1) x o σ) (k : isNext (m + 1) (rf m x) (rf m o) τ) : nrep τ (m + 1) = nrep σ (m + 1) := by
  have hτ := k.perm (permF_rf ho)
  have hσ := h.perm ho
  refine (nrep_conj hσ hτ (ρ := fun i => (i + 1) % (m + 1)) (permF_up (f := fun i => i) ⟨fun i hi => hi, fun i k _ _ e => e⟩) fun i hi => ?_).symm
  have hs := h.lt i hi
  have hi' : (i + 1) % (m + 1) < m + 1 := Nat.mod_lt _ (by omega)
  refine (permF_rf hx).2 _ _ (Nat.mod_lt _ (by omega)) (k.lt _ hi') ?_
  rw [k.at_ _ hi']
  have hr : ∀ (f : Nat → Nat) j, j < m + 1 → rf m f ((j + 1) % (m + 1)) = f j := fun f j hj => by
    rw [up_val hj]
    split
    · rename_i e; rw [rf_zero, e]
    · exact rf_succ m f j
  rw [hr x _ hs, hr o _ hi, h.at_ i hi]
theorem nrep_up {m : Nat} {x o σ τ : Nat → Nat} (hx : permF x (m + 1)) (ho : permF o (m + 1)) (h : isNext (m + 1) x o σ) (k : isNext (m + 1) (up (m + 1) x) (up (m + 1) o) τ) : nrep τ (m + 1) = nrep σ (m + 1) := by
  refine nrep_congr (h.perm ho) fun i hi => ?_
  have a := k.at_ i hi
  unfold up at a
  refine hx.2 _ _ (k.lt i hi) (h.lt i hi) ?_
  rw [h.at_ i hi]
  have b := hx.1 _ (k.lt i hi)
  have c := ho.1 i hi
  rw [up_val b, up_val c] at a
  split at a <;> split at a <;> omega
/-- How many orbits, told by the marks alone. -/
noncomputable def ncomp (n : Nat) (x o : Nat → Nat) : Nat := nrep (Function.comp (fun r => if h : ∃ i, i < n ∧ x i = r then Classical.choose h else 0) o) n
theorem ncomp_next {n : Nat} {x o : Nat → Nat} (hx : permF x n) (ho : permF o n) : isNext n x o (Function.comp (fun r => if h : ∃ i, i < n ∧ x i = r then Classical.choose h else 0) o) := by
  have hs := surj_of_inj hx.1 hx.2
  have key : ∀ i, i < n → ∃ k, k < n ∧ x k = o i := fun i hi => hs _ (ho.1 i hi)
  refine ⟨fun i hi => ?_, fun i hi => ?_⟩
  · simp only [Function.comp, dif_pos (key i hi)]
    exact (Classical.choose_spec (key i hi)).1
  · simp only [Function.comp, dif_pos (key i hi)]
    exact (Classical.choose_spec (key i hi)).2
theorem ncomp_eq {n : Nat} {x o σ : Nat → Nat} (hx : permF x n) (ho : permF o n) (h : isNext n x o σ) : nrep σ n = ncomp n x o := by
  have k := ncomp_next hx ho
  exact nrep_congr (k.perm ho) fun i hi => hx.2 _ _ (h.lt i hi) (k.lt i hi) (by rw [h.at_ i hi, k.at_ i hi])
theorem ncomp_congr {n : Nat} {x x' o o' : Nat → Nat} (hx : permF x n) (ho : permF o n) (ex : ∀ i, i < n → x' i = x i) (eo : ∀ i, i < n → o' i = o i) : ncomp n x' o' = ncomp n x o := by
  have k := ncomp_next (permF_congr hx ex) (permF_congr ho eo)
  exact ncomp_eq hx ho ⟨k.lt, fun i hi => by rw [← ex _ (k.lt i hi), k.at_ i hi, eo i hi]⟩
theorem ncomp_shift {m : Nat} {x o : Nat → Nat} (hx : permF x (m + 1)) (ho : permF o (m + 1)) : ∀ v u, ncomp (m + 1) (rolf (m + 1) v u x) (rolf (m + 1) v u o) = ncomp (m + 1) x o
  | 0, 0 => ncomp_congr hx ho (fun i hi => rolf_0 hx hi) (fun i hi => rolf_0 ho hi)
  | 0, u + 1 => by
    have px := permF_rolf hx 0 u
    have po := permF_rolf ho 0 u
    rw [ncomp_congr (permF_rf px) (permF_rf po) (fun i hi => rolf_u hi) (fun i hi => rolf_u hi), ← ncomp_shift hx ho 0 u]
    exact nrep_rf px po (ncomp_next px po) (ncomp_next (permF_rf px) (permF_rf po))
  | v + 1, u => by
    have px := permF_rolf hx v u
    have po := permF_rolf ho v u
    rw [ncomp_congr (permF_up px) (permF_up po) (fun i hi => rolf_v) (fun i hi => rolf_v), ← ncomp_shift hx ho v u]
    exact nrep_up px po (ncomp_next px po) (ncomp_next (permF_up px) (permF_up po))
end Go.Proofs.Ythijakignhjmgaa
