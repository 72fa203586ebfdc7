/- Plain laws: letters are less than the number of strands. -/
import Derived.Test.YtgjmeipmejifgaaPN
import Derived.Test.YtgjmeipmejifgaaWG
namespace Go.Proofs.Ytgjmeipmejifgaa
theorem cnt_lt {L : List Nat} {r : Nat} (h : r ∈ L) : cnt L r < L.length := by
  unfold cnt
  refine Nat.lt_of_le_of_ne (List.length_filter_le _ _) fun e => ?_
  have := (List.length_filter_eq_length_iff.1 e) r h
  simp at this
theorem bel_X {n : Nat} {X O : List Nat} {i : Nat} (g : okG (n : Int) X O) (hi : i < n) : bel n X O i (X.getD i 0) < (strS n X O 0 n).length := by
  have hl := strS_len g i hi
  obtain ⟨⟨h2, h8⟩, pX, pO, hne⟩ := g
  simp only [Int.toNat_natCast] at pX pO hne
  have hA := pX.1 i hi
  have eA := pX.posF_eq hi
  have sO := pO.posF_spec hA
  rw [← hl]
  refine cnt_lt (List.mem_filter.2 ⟨by simpa using hA, ?_⟩)
  rw [decide_eq_true_eq, eA]
  refine (covS_X (by omega) (by omega) sO.1 hi fun e => ?_).1
  have := hne i hi
  rw [e] at this
  exact this (by rw [sO.2, ← e])
theorem bel_O {n : Nat} {X O : List Nat} {i : Nat} (g : okG (n : Int) X O) (hi : i < n) : bel n X O ((i + 1) % n) (O.getD i 0) < (strS n X O 0 n).length := by
  have hm : (i + 1) % n < n := Nat.mod_lt _ (by omega)
  have hl := strS_len g _ hm
  obtain ⟨⟨h2, h8⟩, pX, pO, hne⟩ := g
  simp only [Int.toNat_natCast] at pX pO hne
  have hC := pO.1 i hi
  have eC := pO.posF_eq hi
  have sX := pX.posF_spec hC
  rw [← hl]
  refine cnt_lt (List.mem_filter.2 ⟨by simpa using hC, ?_⟩)
  rw [decide_eq_true_eq, eC]
  refine (covS_O (by omega) (by omega) sX.1 hi fun e => ?_).2
  have := hne i hi
  rw [← e] at this
  exact this (by rw [sX.2, e])
theorem seg_letters {n : Nat} {X O : List Nat} {i : Nat} (g : okG (n : Int) X O) (hi : i < n) : ∀ z ∈ seg n X O i, 1 ≤ z.natAbs ∧ z.natAbs < (strS n X O 0 n).length := by
  have h1 := bel_X g hi
  have h2 := bel_O g hi
  intro z hz
  unfold seg at hz
  split at hz
  · obtain ⟨t, ht, rfl⟩ := List.mem_map.1 hz
    have : t < _ := List.mem_range.1 ht
    omega
  · obtain ⟨t, ht, rfl⟩ := List.mem_map.1 hz
    have : t < _ := List.mem_range.1 ht
    omega
theorem word_letters {n : Nat} {X O : List Nat} (g : okG (n : Int) X O) : ∀ k, k ≤ n → ∀ z ∈ word n X O k, 1 ≤ z.natAbs ∧ z.natAbs < (strS n X O 0 n).length
  | 0, _ => by simp [word]
  | k + 1, hk => fun z hz => by
    rcases List.mem_append.1 hz with hz | hz
    · exact word_letters g k (by omega) z hz
    · exact seg_letters g (by omega) z hz
/-! Swaps, and where they lead. -/
def swp (L : List Nat) (z : Int) : List Nat := (L.set z.natAbs (L.getD (z.natAbs - 1) 0)).set (z.natAbs - 1) (L.getD z.natAbs 0)
theorem swp_len {L : List Nat} {z : Int} : (swp L z).length = L.length := by simp [swp]
def swps (m : Nat) (W : List Int) (k : Nat) : List Nat := (W.take k).foldl swp (List.range m)
theorem swps_succ {m : Nat} {W : List Int} {k : Nat} (h : k < W.length) : swps m W (k + 1) = swp (swps m W k) (W.getD k 0) := by
  unfold swps
  rw [List.take_add_one, List.foldl_append]
  simp [List.getD_eq_getElem?_getD, h]
theorem swps_len (m : Nat) (W : List Int) (k : Nat) : (swps m W k).length = m := by
  unfold swps
  generalize W.take k = V
  have : ∀ (V : List Int) (L : List Nat), (V.foldl swp L).length = L.length := by
    intro V
    induction V with
    | nil => intro L; rfl
    | cons z V ih => intro L; rw [List.foldl_cons, ih, swp_len]
  rw [this]; simp
theorem swp_lt {m : Nat} {L : List Nat} {z : Int} (hl : L.length = m) (hz : z.natAbs < m) (h : ∀ j, j < m → L.getD j 0 < m) : ∀ j, j < m → (swp L z).getD j 0 < m := by
  intro j hj
  unfold swp
  rw [set_getD (by rw [List.length_set]; omega)]
  split
  · exact h _ hz
  · rw [set_getD (by omega)]
    split
    · exact h _ (by omega)
    · exact h j hj
theorem swps_lt {m : Nat} {W : List Int} (hW : ∀ z ∈ W, 1 ≤ z.natAbs ∧ z.natAbs < m) : ∀ k, k ≤ W.length → ∀ j, j < m → (swps m W k).getD j 0 < m
  | 0, _, j, hj => by simp [swps, List.getD_eq_getElem?_getD, hj]
  | k + 1, hk, j, hj => by
    have hz : W.getD k 0 ∈ W := by
      rw [List.getD_eq_getElem?_getD, List.getElem?_eq_getElem (by omega), Option.getD_some]
      exact List.getElem_mem _
    rw [swps_succ (by omega)]
    exact swp_lt (swps_len _ _ _) (hW _ hz).2 (swps_lt hW k (by omega)) j hj
def outF (m : Nat) (L : List Nat) : Nat → List Nat
  | 0 => List.replicate m 0
  | k + 1 => (outF m L k).set (L.getD k 0) k
theorem outF_len (m : Nat) (L : List Nat) : ∀ k, (outF m L k).length = m
  | 0 => by simp [outF]
  | k + 1 => by simp [outF, outF_len m L k]
end Go.Proofs.Ytgjmeipmejifgaa
