/- Plain laws: the first returns of a permutation to a part that every orbit meets have as many orbits; the ends of a braid have as many cycles as the grid has components. -/
import Derived.Test.YtgjmeipmejifgaaBB
import Derived.Test.YtgjmeipmejifgaaCO
namespace Go.Proofs.Ytgjmeipmejifgaa
theorem len_le {A B : List Nat} (hA : A.Nodup) (φ : Nat → Nat) (hφ : ∀ a ∈ A, φ a ∈ B) (hinj : ∀ a ∈ A, ∀ b ∈ A, φ a = φ b → a = b) : A.length ≤ B.length := by
  have hnd : (A.map φ).Nodup := by
    rw [List.nodup_iff_pairwise_ne, List.pairwise_map]
    refine List.Pairwise.imp_of_mem ?_ (List.nodup_iff_pairwise_ne.1 hA)
    intro a b ha hb hab e
    exact hab (hinj a ha b hb e)
  have := List.Nodup.length_le_of_subset hnd (l₂ := B) fun x hx => by
    obtain ⟨a, ha, rfl⟩ := List.mem_map.1 hx
    exact hφ a ha
  rwa [List.length_map] at this
structure FirstRet (σ E ρ : Nat → Nat) (n m : Nat) : Prop where
  perm : permF σ n
  lt : ∀ j, j < m → E j < m
  rlt : ∀ j, j < m → ρ j < n
  rinj : ∀ j k, j < m → k < m → ρ j = ρ k → j = k
  ret : ∀ j, j < m → ∃ t, 0 < t ∧ ρ (E j) = it σ t (ρ j) ∧ ∀ s, 0 < s → s < t → ∀ k, k < m → it σ s (ρ j) ≠ ρ k
  meet : ∀ i, i < n → ∃ k, k < m ∧ rch σ i (ρ k)
section
variable {σ E ρ : Nat → Nat} {n m : Nat}
theorem FirstRet.permE (h : FirstRet σ E ρ n m) : permF E m := by
  have key : ∀ {j k t s : Nat}, j < m → k < m → t ≤ s → 0 < t → it σ s (ρ k) = it σ t (ρ j) → (∀ x, 0 < x → x < s → ∀ l, l < m → it σ x (ρ k) ≠ ρ l) → j = k := by
    intro j k t s hj hk hts ht e f
    have e1 : it σ s (ρ k) = it σ t (it σ (s - t) (ρ k)) := by rw [← it_add]; congr 1; omega
    rw [e1] at e
    have e2 := it_inj h.perm (it_lt h.perm (h.rlt k hk) _) (h.rlt j hj) t e
    by_cases hst : s = t
    · subst hst
      rw [Nat.sub_self] at e2
      exact (h.rinj k j hk hj e2).symm
    · exact absurd e2 (f (s - t) (by omega) (by omega) j hj)
  refine ⟨h.lt, fun j k hj hk e => ?_⟩
  obtain ⟨t, t0, et, ft⟩ := h.ret j hj
  obtain ⟨s, s0, es, fs⟩ := h.ret k hk
  have e' : it σ s (ρ k) = it σ t (ρ j) := by rw [← es, ← et]; exact congrArg ρ e.symm
  rcases Nat.le_total t s with hts | hts
  · exact key hj hk hts t0 e' fs
  · exact (key hk hj hts s0 e'.symm ft).symm
theorem FirstRet.toE (h : FirstRet σ E ρ n m) : ∀ b t, t ≤ b → ∀ i k, i < m → k < m → it σ t (ρ i) = ρ k → rch E i k := by
  intro b
  induction b with
  | zero =>
    intro t ht i k hi hk e
    obtain rfl : t = 0 := by omega
    rw [h.rinj i k hi hk e]
    exact rch_refl E k
  | succ b ih =>
    intro t ht i k hi hk e
    by_cases h0 : t = 0
    · subst h0
      rw [h.rinj i k hi hk e]
      exact rch_refl E k
    · obtain ⟨s, s0, es, fs⟩ := h.ret i hi
      have hst : s ≤ t := by
        refine Classical.byContradiction fun hn => ?_
        exact fs t (by omega) (by omega) k hk e
      have e1 : it σ (t - s) (ρ (E i)) = ρ k := by rw [es, ← it_add, ← e]; congr 1; omega
      exact rch_trans (k := E i) ⟨1, rfl⟩ (ih (t - s) (by omega) (E i) k (h.lt i hi) hk e1)
theorem FirstRet.ofE (h : FirstRet σ E ρ n m) {i : Nat} (hi : i < m) : ∀ t, rch σ (ρ i) (ρ (it E t i))
  | 0 => rch_refl σ _
  | t + 1 => by
    obtain ⟨s, _, es, _⟩ := h.ret _ (it_lt h.permE hi t)
    exact rch_trans (h.ofE hi t) ⟨s, es.symm⟩
theorem FirstRet.nrep_eq (h : FirstRet σ E ρ n m) : nrep E m = nrep σ n := by
  have pE := h.permE
  have nd : ∀ (τ : Nat → Nat) k, (repsU τ k).Nodup := fun τ k => List.Sublist.nodup List.filter_sublist List.nodup_range
  refine Nat.le_antisymm ?_ ?_
  · have hm : ∀ i, i < m → ∃ l, l < n ∧ rch σ (ρ i) l ∧ isRep σ l := fun i hi => least_in h.perm (h.rlt i hi)
    let φ : Nat → Nat := fun i => if hi : i < m then Classical.choose (hm i hi) else 0
    have hφ : ∀ i, i < m → φ i < n ∧ rch σ (ρ i) (φ i) ∧ isRep σ (φ i) := fun i hi => by
      have := Classical.choose_spec (hm i hi)
      simp only [φ, dif_pos hi]
      exact this
    refine len_le (nd E m) φ (fun a ha => ?_) (fun a ha b hb e => ?_)
    · have := hφ a (mem_reps.1 ha).1
      exact mem_reps.2 ⟨this.1, this.2.2⟩
    · obtain ⟨ha, ra⟩ := mem_reps.1 ha
      obtain ⟨hb, rb⟩ := mem_reps.1 hb
      have h1 := (hφ a ha).2.1
      have h2 := rch_symm h.perm (h.rlt b hb) (hφ b hb).2.1
      rw [e] at h1
      obtain ⟨t, ht⟩ := rch_trans h1 h2
      exact rep_unique pE ha ra rb (h.toE t t (Nat.le_refl _) a b ha hb ht)
  · have hm : ∀ i, i < n → ∃ l, l < m ∧ rch σ i (ρ l) ∧ isRep E l := fun i hi => by
      obtain ⟨k, hk, hik⟩ := h.meet i hi
      obtain ⟨l, hl, ⟨t, rfl⟩, hr⟩ := least_in pE hk
      exact ⟨_, hl, rch_trans hik (h.ofE hk t), hr⟩
    let φ : Nat → Nat := fun i => if hi : i < n then Classical.choose (hm i hi) else 0
    have hφ : ∀ i, i < n → φ i < m ∧ rch σ i (ρ (φ i)) ∧ isRep E (φ i) := fun i hi => by
      have := Classical.choose_spec (hm i hi)
      simp only [φ, dif_pos hi]
      exact this
    refine len_le (nd σ n) φ (fun a ha => ?_) (fun a ha b hb e => ?_)
    · have := hφ a (mem_reps.1 ha).1
      exact mem_reps.2 ⟨this.1, this.2.2⟩
    · obtain ⟨ha, ra⟩ := mem_reps.1 ha
      obtain ⟨hb, rb⟩ := mem_reps.1 hb
      have h1 := (hφ a ha).2.1
      have h2 := rch_symm h.perm hb (hφ b hb).2.1
      rw [e] at h1
      exact rep_unique h.perm ha ra rb (rch_trans h1 h2)
end
theorem covS_zero {n x o : Nat} (h2 : 2 ≤ n) (h8 : n ≤ 8) (hx : x < n) (ho : o < n) (hne : x ≠ o) : covS n x o 0 ↔ x < o := by
  unfold covS
  obtain rfl | rfl | rfl | rfl | rfl | rfl | rfl : n = 2 ∨ n = 3 ∨ n = 4 ∨ n = 5 ∨ n = 6 ∨ n = 7 ∨ n = 8 := by omega
  all_goals omega
theorem mem_strS0 {n : Nat} {X O : List Nat} (g : okG (n : Int) X O) {r : Nat} : r ∈ strS n X O 0 n ↔ r < n ∧ posF X n r < posF O n r := by
  obtain ⟨⟨h2, h8⟩, pX, pO, hne⟩ := g
  simp only [Int.toNat_natCast] at pX pO hne
  unfold strS
  rw [List.mem_filter, List.mem_range, decide_eq_true_eq]
  refine and_congr_right fun hr => ?_
  have sX := pX.posF_spec hr
  have sO := pO.posF_spec hr
  refine covS_zero (by omega) (by omega) sX.1 sO.1 fun e => ?_
  have := hne _ sX.1
  rw [sX.2, e, sO.2] at this
  exact this rfl
theorem nxt_ne {n : Nat} {X O : List Nat} (g : okG (n : Int) X O) {i : Nat} (hi : i < n) : nxt n X O i ≠ i := fun e => by
  have h := (nxt_next g).at_ i hi
  rw [e] at h
  exact g.2.2.2 i (by simpa using hi) h
theorem trk_inv {n : Nat} {X O : List Nat} (g : okG (n : Int) X O) {e : Nat} (he : e < n) : ∀ i, i ≤ n →
    ∃ t, trk X O i (X.getD e 0) = X.getD (it (nxt n X O) t e) 0 ∧ (∀ l, 0 < l → l < t → it (nxt n X O) (l - 1) e < it (nxt n X O) l e) ∧
      ((t = 0 ∧ i ≤ e) ∨ (0 < t ∧ it (nxt n X O) (t - 1) e < i ∧ (i ≤ it (nxt n X O) t e ∨ it (nxt n X O) t e < it (nxt n X O) (t - 1) e)))
  | 0, _ => ⟨0, rfl, fun l h1 h2 => by omega, .inl ⟨rfl, Nat.zero_le _⟩⟩
  | i + 1, hi => by
    obtain ⟨t, h1, h2, h3⟩ := trk_inv g he i (by omega)
    have hc := it_lt (nxt_perm g) he t
    have pX : isPerm X n := by have := g.2.1; simpa using this
    have hne := nxt_ne g (show i < n by omega)
    have hat := (nxt_next g).at_ i (by omega)
    rw [trk, h1]
    by_cases hci : it (nxt n X O) t e = i
    · refine ⟨t + 1, ?_, fun l l0 l1 => ?_, .inr ⟨by omega, ?_, ?_⟩⟩
      · rw [hci, if_pos rfl, it, hci]
        exact hat.symm
      · by_cases hlt : l = t
        · subst hlt
          rcases h3 with ⟨a, _⟩ | ⟨_, b, _⟩ <;> omega
        · exact h2 l l0 (by omega)
      · rw [Nat.add_sub_cancel, hci]; omega
      · rw [Nat.add_sub_cancel, it, hci]; omega
    · have hX : X.getD (it (nxt n X O) t e) 0 ≠ X.getD i 0 := fun e' => hci (pX.2.1 _ _ hc (by omega) e')
      rw [if_neg hX]
      refine ⟨t, rfl, h2, ?_⟩
      rcases h3 with ⟨a, b⟩ | ⟨a, b, c⟩
      · subst a
        have : it (nxt n X O) 0 e = e := rfl
        exact .inl ⟨rfl, by omega⟩
      · exact .inr ⟨a, by omega, by omega⟩
theorem getD_mem {L : List Nat} {j : Nat} (h : j < L.length) : L.getD j 0 ∈ L := by
  rw [List.getD_eq_getElem?_getD, List.getElem?_eq_getElem h]
  exact List.getElem_mem h
theorem mem_getD {L : List Nat} {r : Nat} (h : r ∈ L) : ∃ k, k < L.length ∧ L.getD k 0 = r := by
  obtain ⟨k, hk, rfl⟩ := List.getElem_of_mem h
  exact ⟨k, hk, by rw [List.getD_eq_getElem?_getD, List.getElem?_eq_getElem hk]; rfl⟩
/-- As many cycles as components. -/
theorem cycles_comps {n : Nat} {X O : List Nat} (g : okG (n : Int) X O) (E : Nat → Nat)
    (hE : ∀ j, j < (strS n X O 0 n).length → E j < (strS n X O 0 n).length ∧ (strS n X O 0 n).getD (E j) 0 = trk X O n ((strS n X O 0 n).getD j 0)) :
    permF E (strS n X O 0 n).length ∧ nrep E (strS n X O 0 n).length = comps n X O := by
  have pX : isPerm X n := by have := g.2.1; simpa using this
  have pO : isPerm O n := by have := g.2.2.1; simpa using this
  have hS : ∀ j, j < (strS n X O 0 n).length → (strS n X O 0 n).getD j 0 < n ∧ posF X n ((strS n X O 0 n).getD j 0) < posF O n ((strS n X O 0 n).getD j 0) := fun j hj => (mem_strS0 g).1 (getD_mem hj)
  have hx : ∀ j, j < (strS n X O 0 n).length → posF X n ((strS n X O 0 n).getD j 0) < n ∧ X.getD (posF X n ((strS n X O 0 n).getD j 0)) 0 = (strS n X O 0 n).getD j 0 := fun j hj => pX.posF_spec (hS j hj).1
  have fr : FirstRet (nxt n X O) E (fun j => posF X n ((strS n X O 0 n).getD j 0)) n (strS n X O 0 n).length := by
    refine ⟨nxt_perm g, fun j hj => (hE j hj).1, fun j hj => (hx j hj).1, fun j k hj hk e => ?_, fun j hj => ?_, fun i hi => ?_⟩
    · have e' : posF X n ((strS n X O 0 n).getD j 0) = posF X n ((strS n X O 0 n).getD k 0) := e
      have h1 := (hx j hj).2
      rw [e', (hx k hk).2] at h1
      rw [List.getD_eq_getElem?_getD, List.getD_eq_getElem?_getD, List.getElem?_eq_getElem hj, List.getElem?_eq_getElem hk] at h1
      have hnd := List.pairwise_iff_getElem.1 (List.nodup_iff_pairwise_ne.1 (strS_nodup n X O 0))
      rcases Nat.lt_trichotomy j k with h | h | h
      · exact absurd h1.symm (hnd j k hj hk h)
      · exact h
      · exact absurd h1 (hnd k j hk hj h)
    · have hxj := hx j hj
      obtain ⟨t, h1, h2, h3⟩ := trk_inv g hxj.1 n (Nat.le_refl _)
      rw [hxj.2] at h1
      have hc := it_lt (nxt_perm g) hxj.1 t
      refine ⟨t, ?_, ?_, fun s s0 s1 k hk e => ?_⟩
      · rcases h3 with ⟨_, b⟩ | ⟨a, _⟩
        · have := hxj.1; omega
        · exact a
      · show posF X n _ = _
        rw [(hE j hj).2, h1, pX.posF_eq hc]
      · have e' : it (nxt n X O) s (posF X n ((strS n X O 0 n).getD j 0)) = posF X n ((strS n X O 0 n).getD k 0) := e
        have hup := h2 s s0 s1
        have hp := it_lt (nxt_perm g) hxj.1 (s - 1)
        have hstep : it (nxt n X O) s (posF X n ((strS n X O 0 n).getD j 0)) = nxt n X O (it (nxt n X O) (s - 1) (posF X n ((strS n X O 0 n).getD j 0))) := by
          conv => lhs; rw [show s = (s - 1) + 1 by omega, it]
        have hat := (nxt_next g).at_ _ hp
        rw [← hstep, e'] at hat
        have hat' : X.getD (posF X n ((strS n X O 0 n).getD k 0)) 0 = O.getD (it (nxt n X O) (s - 1) (posF X n ((strS n X O 0 n).getD j 0))) 0 := hat
        rw [(hx k hk).2] at hat'
        have h4 := (hS k hk).2
        rw [← e', hat', pO.posF_eq hp] at h4
        omega
    · obtain ⟨l, hl, hil, hr⟩ := least_in (nxt_perm g) hi
      obtain ⟨p, hp, ep⟩ := it_period (nxt_perm g) hl
      have hs := it_lt (nxt_perm g) hl (p - 1)
      have hσ : nxt n X O (it (nxt n X O) (p - 1) l) = l := by
        conv => rhs; rw [← ep, show p = (p - 1) + 1 by omega, it]
      have hle := hr (p - 1)
      have hne := nxt_ne g hs
      rw [hσ] at hne
      have hat := (nxt_next g).at_ _ hs
      rw [hσ] at hat
      have hat' : X.getD l 0 = O.getD (it (nxt n X O) (p - 1) l) 0 := hat
      have hm : X.getD l 0 ∈ strS n X O 0 n := (mem_strS0 g).2 ⟨pX.1 l hl, by
        rw [pX.posF_eq hl, hat', pO.posF_eq hs]; omega⟩
      obtain ⟨k, hk, ek⟩ := mem_getD hm
      refine ⟨k, hk, ?_⟩
      show rch _ i (posF X n _)
      rw [ek, pX.posF_eq hl]
      exact hil
  exact ⟨fr.permE, fr.nrep_eq⟩
end Go.Proofs.Ytgjmeipmejifgaa
