/- Plain laws: the ends of a braid are the first returns of a grid's columns; as many cycles as components. -/
import Derived.Test.YtgjmeipmejifgaaBA
namespace Go.Proofs.Ytgjmeipmejifgaa
theorem swp_map {L : List Nat} {z : Int} (f : Nat → Nat) (h1 : 1 ≤ z.natAbs) (h2 : z.natAbs < L.length) : swp (L.map f) z = (swp L z).map f := by
  unfold swp
  have e : ∀ k, k < L.length → (L.map f).getD k 0 = f (L.getD k 0) := fun k hk => by
    rw [List.getD_eq_getElem?_getD, List.getD_eq_getElem?_getD, List.getElem?_map, List.getElem?_eq_getElem hk]; rfl
  rw [e _ (by omega), e _ h2, List.map_set, List.map_set]
theorem foldl_swp_len (W : List Int) : ∀ L : List Nat, (W.foldl swp L).length = L.length := by
  induction W with
  | nil => exact fun L => rfl
  | cons z W ih => exact fun L => by rw [List.foldl_cons, ih, swp_len]
theorem foldl_swp_map {m : Nat} (f : Nat → Nat) : ∀ (W : List Int) (L : List Nat), L.length = m → (∀ z ∈ W, 1 ≤ z.natAbs ∧ z.natAbs < m) → W.foldl swp (L.map f) = (W.foldl swp L).map f
  | [], L, _, _ => rfl
  | z :: W, L, hl, h => by
    have hz := h z (by simp)
    rw [List.foldl_cons, List.foldl_cons, swp_map f hz.1 (by omega)]
    exact foldl_swp_map f W _ (by rw [swp_len, hl]) (fun y hy => h y (by simp [hy]))
/-- The row of a strand, gap by gap. -/
def trk (X O : List Nat) : Nat → Nat → Nat
  | 0, r => r
  | i + 1, r => if trk X O i r = X.getD i 0 then O.getD i 0 else trk X O i r
theorem seg_step {n : Nat} {X O : List Nat} {i : Nat} (g : okG (n : Int) X O) (hi : i < n) :
    (seg n X O i).foldl swp ((strS n X O i n).map fun r => if r = X.getD i 0 then O.getD i 0 else r) = strS n X O ((i + 1) % n) n := by
  obtain ⟨⟨h2, h8⟩, pX, pO, hne⟩ := g
  simp only [Int.toNat_natCast] at pX pO hne
  have key : ∀ r, r < n → posF X n r < n ∧ posF O n r < n ∧ posF X n r ≠ posF O n r := fun r hr => by
    have sX := pX.posF_spec hr
    have sO := pO.posF_spec hr
    refine ⟨sX.1, sO.1, fun e => ?_⟩
    have := hne _ sX.1
    rw [sX.2, e, sO.2] at this
    exact this rfl
  have hA := pX.1 i hi
  have hC := pO.1 i hi
  have eA := pX.posF_eq hi
  have eC := pO.posF_eq hi
  have kA := key _ hA
  have kC := key _ hC
  rw [eA] at kA
  rw [eC] at kC
  refine gap_step hA hC (hne i hi) (fun r => decide (covS n (posF X n r) (posF O n r) i)) (fun r => decide (covS n (posF X n r) (posF O n r) ((i + 1) % n))) ?_ ?_ ?_ ?_ fun r hr h1 h2' => ?_
  · rw [decide_eq_true_eq, eA]; exact (covS_X (by omega) (by omega) kA.2.1 hi kA.2.2).1
  · rw [decide_eq_false_iff_not, eC]; exact (covS_O (by omega) (by omega) kC.1 hi kC.2.2).1
  · rw [decide_eq_false_iff_not, eA]; exact (covS_X (by omega) (by omega) kA.2.1 hi kA.2.2).2
  · rw [decide_eq_true_eq, eC]; exact (covS_O (by omega) (by omega) kC.1 hi kC.2.2).2
  · have kr := key r hr
    refine decide_eq_decide.2 (covS_step (by omega) (by omega) kr.1 kr.2.1 hi kr.2.2 (fun e => h1 ?_) (fun e => h2' ?_))
    · rw [← (pX.posF_spec hr).2, e]
    · rw [← (pO.posF_spec hr).2, e]
theorem track {n : Nat} {X O : List Nat} (g : okG (n : Int) X O) : ∀ i, i ≤ n →
    strS n X O (i % n) n = ((word n X O i).foldl swp (List.range (strS n X O 0 n).length)).map fun j => trk X O i ((strS n X O 0 n).getD j 0)
  | 0, _ => by
    rw [Nat.zero_mod]
    show _ = (List.range _).map fun j => (strS n X O 0 n).getD j 0
    refine List.ext_getElem? fun k => ?_
    rw [List.getElem?_map]
    by_cases hk : k < (strS n X O 0 n).length
    · rw [List.getElem?_range hk, List.getElem?_eq_getElem hk]
      simp [List.getD_eq_getElem?_getD, hk]
    · rw [List.getElem?_eq_none (by omega), List.getElem?_eq_none (by simpa using hk)]; rfl
  | i + 1, hi => by
    have ih := track g i (by omega)
    rw [Nat.mod_eq_of_lt (show i < n by omega)] at ih
    have hs := seg_step g (show i < n by omega)
    rw [← hs, word, List.foldl_append, ih, List.map_map]
    exact foldl_swp_map _ (seg n X O i) _ (by rw [foldl_swp_len, List.length_range]) (seg_letters g (by omega))
theorem nodup_of_map {α β : Type} {f : α → β} : ∀ {l : List α}, (l.map f).Nodup → l.Nodup
  | [], _ => List.nodup_nil
  | a :: l, h => by
    rw [List.map_cons, List.nodup_cons] at h
    exact List.nodup_cons.2 ⟨fun hm => h.1 (List.mem_map_of_mem hm), nodup_of_map h.2⟩
theorem outF_at {m : Nat} {L : List Nat} (hl : L.length = m) (hd : L.Nodup) (hb : ∀ k, k < m → L.getD k 0 < m) : ∀ a, a ≤ m → ∀ k, k < a → (outF m L a).getD (L.getD k 0) 0 = k
  | 0, _, k, hk => by omega
  | a + 1, ha, k, hk => by
    have hla := outF_len m L a
    have hba := hb a (by omega)
    rw [outF]
    by_cases e : k = a
    · subst e
      rw [List.getD_eq_getElem?_getD, List.getElem?_set_self (by omega)]; rfl
    · have hne : L.getD a 0 ≠ L.getD k 0 := fun e' => by
        rw [List.getD_eq_getElem?_getD, List.getD_eq_getElem?_getD, List.getElem?_eq_getElem (by omega), List.getElem?_eq_getElem (by omega)] at e'
        exact List.pairwise_iff_getElem.1 (List.nodup_iff_pairwise_ne.1 hd) k a (by omega) (by omega) (by omega) e'.symm
      rw [List.getD_eq_getElem?_getD, List.getElem?_set_ne hne, ← List.getD_eq_getElem?_getD]
      exact outF_at hl hd hb a (by omega) k (by omega)
/-- Every number below m is in a list of m different ones. -/
theorem hit {m : Nat} {L : List Nat} (hl : L.length = m) (hd : L.Nodup) (hb : ∀ k, k < m → L.getD k 0 < m) {j : Nat} (hj : j < m) : ∃ k, k < m ∧ L.getD k 0 = j := by
  have hsub : L ⊆ List.range m := fun x hx => by
    obtain ⟨k, hk, rfl⟩ := List.getElem_of_mem hx
    have := hb k (by omega)
    rw [List.getD_eq_getElem?_getD, List.getElem?_eq_getElem hk] at this
    exact List.mem_range.2 this
  have hmem : j ∈ L := by
    refine Classical.byContradiction fun hn => ?_
    have hc : (j :: L).Nodup := List.nodup_cons.2 ⟨hn, hd⟩
    have := List.Nodup.length_le_of_subset hc (l₂ := List.range m) fun x hx => by
      rcases List.mem_cons.1 hx with rfl | hx
      · exact List.mem_range.2 hj
      · exact hsub hx
    simp at this
    omega
  obtain ⟨k, hk, rfl⟩ := List.getElem_of_mem hmem
  exact ⟨k, by omega, by rw [List.getD_eq_getElem?_getD, List.getElem?_eq_getElem hk]; rfl⟩
theorem strS_nodup (n : Nat) (X O : List Nat) (i : Nat) : (strS n X O i n).Nodup := List.Sublist.nodup List.filter_sublist List.nodup_range
/-- The ends tell where the rows of the first gap come out. -/
theorem ends_spec {n : Nat} {X O : List Nat} (g : okG (n : Int) X O) {j : Nat} (hj : j < (strS n X O 0 n).length) :
    (outF (strS n X O 0 n).length (swps (strS n X O 0 n).length (word n X O n) (word n X O n).length) (strS n X O 0 n).length).getD j 0 < (strS n X O 0 n).length ∧
    (strS n X O 0 n).getD ((outF (strS n X O 0 n).length (swps (strS n X O 0 n).length (word n X O n) (word n X O n).length) (strS n X O 0 n).length).getD j 0) 0 = trk X O n ((strS n X O 0 n).getD j 0) := by
  have ht := track g n (Nat.le_refl _)
  rw [Nat.mod_self] at ht
  have hw := word_letters g n (Nat.le_refl _)
  have hll := swps_len (strS n X O 0 n).length (word n X O n) (word n X O n).length
  have hlt := swps_lt hw (word n X O n).length (Nat.le_refl _)
  have hdef : swps (strS n X O 0 n).length (word n X O n) (word n X O n).length = (word n X O n).foldl swp (List.range (strS n X O 0 n).length) := by unfold swps; rw [List.take_length]
  rw [← hdef] at ht
  have hnd := strS_nodup n X O 0
  generalize swps (strS n X O 0 n).length (word n X O n) (word n X O n).length = L at *
  generalize strS n X O 0 n = S at *
  rw [ht] at hnd
  have hd := nodup_of_map hnd
  obtain ⟨k, hk, rfl⟩ := hit hll hd hlt hj
  rw [outF_at hll hd hlt _ (Nat.le_refl _) k hk]
  refine ⟨hk, ?_⟩
  have h1 : S.getD k 0 = (L.map fun j => trk X O n (S.getD j 0)).getD k 0 := by rw [← ht]
  rw [h1, List.getD_eq_getElem?_getD, List.getElem?_map, List.getElem?_eq_getElem (by omega), List.getD_eq_getElem?_getD (l := L), List.getElem?_eq_getElem (by omega)]
  rfl
end Go.Proofs.Ytgjmeipmejifgaa
