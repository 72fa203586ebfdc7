/- Plain laws: each gap has equally many strands; letters are less than their number. -/
import Derived.Test.YtlgoepajebnilaaWG
namespace Go.Proofs.Ytlgoepajebnilaa
theorem covS_step {n x o i : Nat} (h2 : 2 ≤ n) (h8 : n ≤ 8) (hx : x < n) (ho : o < n) (hi : i < n) (hne : x ≠ o) (hxi : x ≠ i) (hoi : o ≠ i) : covS n x o i ↔ covS n x o ((i + 1) % n) := by
  unfold covS
  obtain rfl | rfl | rfl | rfl | rfl | rfl | rfl : n = 2 ∨ n = 3 ∨ n = 4 ∨ n = 5 ∨ n = 6 ∨ n = 7 ∨ n = 8 := by omega
  all_goals omega
theorem covS_X {n o i : Nat} (h2 : 2 ≤ n) (h8 : n ≤ 8) (ho : o < n) (hi : i < n) (hne : i ≠ o) : covS n i o i ∧ ¬ covS n i o ((i + 1) % n) := by
  unfold covS
  obtain rfl | rfl | rfl | rfl | rfl | rfl | rfl : n = 2 ∨ n = 3 ∨ n = 4 ∨ n = 5 ∨ n = 6 ∨ n = 7 ∨ n = 8 := by omega
  all_goals omega
theorem covS_O {n x i : Nat} (h2 : 2 ≤ n) (h8 : n ≤ 8) (hx : x < n) (hi : i < n) (hne : x ≠ i) : ¬ covS n x i i ∧ covS n x i ((i + 1) % n) := by
  unfold covS
  obtain rfl | rfl | rfl | rfl | rfl | rfl | rfl : n = 2 ∨ n = 3 ∨ n = 4 ∨ n = 5 ∨ n = 6 ∨ n = 7 ∨ n = 8 := by omega
  all_goals omega
theorem countP_at {n A : Nat} (hA : A < n) (p : Nat → Bool) : (List.range n).countP p = (if p A then 1 else 0) + (List.range n).countP (fun r => p r && r != A) := by
  induction n with
  | zero => omega
  | succ n ih =>
    rw [List.range_succ, List.countP_append, List.countP_append]
    by_cases e : A = n
    · subst e
      have h0 : (List.range A).countP p = (List.range A).countP (fun r => p r && r != A) := by
        refine List.countP_congr fun r hr => ?_
        have : r < A := by simpa using hr
        have hne : r ≠ A := by omega
        simp [hne]
      rw [h0]
      cases hp : p A <;> simp [hp, Nat.add_comm]
    · rw [ih (by omega)]
      have hne : n ≠ A := fun h => e h.symm
      have : [n].countP p = [n].countP (fun r => p r && r != A) := by
        cases hp : p n <;> simp [hp, hne]
      rw [this]
      omega
theorem countP_swap {n A C : Nat} (hA : A < n) (hC : C < n) (hne : A ≠ C) (p p' : Nat → Bool) (h1 : p A = true) (h2 : p C = false) (h3 : p' A = false) (h4 : p' C = true) (h : ∀ r, r < n → r ≠ A → r ≠ C → p r = p' r) :
    (List.range n).countP p = (List.range n).countP p' := by
  rw [countP_at hA p, countP_at hC p', h1, h4]
  congr 1
  refine List.countP_congr fun r hr => ?_
  have hr : r < n := by simpa using hr
  by_cases eA : r = A
  · subst eA; simp [h3]
  · by_cases eC : r = C
    · subst eC; simp [h2]
    · rw [h r hr eA eC]; simp [eA, eC]
theorem strS_len_step {n : Nat} {X O : List Nat} {i : Nat} (g : okG (n : Int) X O) (hi : i < n) : (strS n X O ((i + 1) % n) n).length = (strS n X O i n).length := by
  obtain ⟨⟨h2, h8⟩, pX, pO, hne⟩ := g
  simp only [Int.toNat_natCast] at pX pO hne
  have key : ∀ r, r < n → posF X n r < n ∧ posF O n r < n ∧ posF X n r ≠ posF O n r := fun r hr => by
    have sX := pX.posF_spec hr
    have sO := pO.posF_spec hr
    refine ⟨sX.1, sO.1, fun e => ?_⟩
    have := hne _ sX.1
    rw [sX.2, e, sO.2] at this
    exact this rfl
  have hA := pX.1 i hi
  have hC := pO.1 i hi
  have eA := pX.posF_eq hi
  have eC := pO.posF_eq hi
  have kA := key _ hA
  have kC := key _ hC
  rw [eA] at kA
  rw [eC] at kC
  unfold strS
  rw [← List.countP_eq_length_filter, ← List.countP_eq_length_filter]
  symm
  refine countP_swap hA hC (hne i hi) _ _ ?_ ?_ ?_ ?_ fun r hr h1 h2' => ?_
  · rw [decide_eq_true_eq, eA]; exact (covS_X (by omega) (by omega) kA.2.1 hi kA.2.2).1
  · rw [decide_eq_false_iff_not, eC]; exact (covS_O (by omega) (by omega) kC.1 hi kC.2.2).1
  · rw [decide_eq_false_iff_not, eA]; exact (covS_X (by omega) (by omega) kA.2.1 hi kA.2.2).2
  · rw [decide_eq_true_eq, eC]; exact (covS_O (by omega) (by omega) kC.1 hi kC.2.2).2
  · have kr := key r hr
    refine decide_eq_decide.2 (covS_step (by omega) (by omega) kr.1 kr.2.1 hi kr.2.2 (fun e => h1 ?_) (fun e => h2' ?_))
    · rw [← (pX.posF_spec hr).2, e]
    · rw [← (pO.posF_spec hr).2, e]
theorem strS_len {n : Nat} {X O : List Nat} (g : okG (n : Int) X O) : ∀ i, i < n → (strS n X O i n).length = (strS n X O 0 n).length
  | 0, _ => rfl
  | i + 1, hi => by
    have := strS_len_step g (i := i) (by omega)
    rw [Nat.mod_eq_of_lt hi] at this
    rw [this]
    exact strS_len g i (by omega)
theorem cnt_lt {L : List Nat} {r : Nat} (h : r ∈ L) : cnt L r < L.length := by
  unfold cnt
  refine Nat.lt_of_le_of_ne (List.length_filter_le _ _) fun e => ?_
  have := (List.length_filter_eq_length_iff.1 e) r h
  simp at this
theorem bel_X {n : Nat} {X O : List Nat} {i : Nat} (g : okG (n : Int) X O) (hi : i < n) : bel n X O i (X.getD i 0) < (strS n X O 0 n).length := by
  have hl := strS_len g i hi
  obtain ⟨⟨h2, h8⟩, pX, pO, hne⟩ := g
  simp only [Int.toNat_natCast] at pX pO hne
  have hA := pX.1 i hi
  have eA := pX.posF_eq hi
  have sO := pO.posF_spec hA
  rw [← hl]
  refine cnt_lt (List.mem_filter.2 ⟨by simpa using hA, ?_⟩)
  rw [decide_eq_true_eq, eA]
  refine (covS_X (by omega) (by omega) sO.1 hi fun e => ?_).1
  have := hne i hi
  rw [e] at this
  exact this (by rw [sO.2, ← e])
theorem bel_O {n : Nat} {X O : List Nat} {i : Nat} (g : okG (n : Int) X O) (hi : i < n) : bel n X O ((i + 1) % n) (O.getD i 0) < (strS n X O 0 n).length := by
  have hm : (i + 1) % n < n := Nat.mod_lt _ (by omega)
  have hl := strS_len g _ hm
  obtain ⟨⟨h2, h8⟩, pX, pO, hne⟩ := g
  simp only [Int.toNat_natCast] at pX pO hne
  have hC := pO.1 i hi
  have eC := pO.posF_eq hi
  have sX := pX.posF_spec hC
  rw [← hl]
  refine cnt_lt (List.mem_filter.2 ⟨by simpa using hC, ?_⟩)
  rw [decide_eq_true_eq, eC]
  refine (covS_O (by omega) (by omega) sX.1 hi fun e => ?_).2
  have := hne i hi
  rw [← e] at this
  exact this (by rw [sX.2, e])
theorem seg_letters {n : Nat} {X O : List Nat} {i : Nat} (g : okG (n : Int) X O) (hi : i < n) : ∀ z ∈ seg n X O i, 1 ≤ z.natAbs ∧ z.natAbs < (strS n X O 0 n).length := by
  have h1 := bel_X g hi
  have h2 := bel_O g hi
  intro z hz
  unfold seg at hz
  split at hz
  · obtain ⟨t, ht, rfl⟩ := List.mem_map.1 hz
    have : t < _ := List.mem_range.1 ht
    omega
  · obtain ⟨t, ht, rfl⟩ := List.mem_map.1 hz
    have : t < _ := List.mem_range.1 ht
    omega
theorem word_letters {n : Nat} {X O : List Nat} (g : okG (n : Int) X O) : ∀ k, k ≤ n → ∀ z ∈ word n X O k, 1 ≤ z.natAbs ∧ z.natAbs < (strS n X O 0 n).length
  | 0, _ => by simp [word]
  | k + 1, hk => fun z hz => by
    rcases List.mem_append.1 hz with hz | hz
    · exact word_letters g k (by omega) z hz
    · exact seg_letters g (by omega) z hz
/-! Swaps, and where they lead. -/
def swp (L : List Nat) (z : Int) : List Nat := (L.set z.natAbs (L.getD (z.natAbs - 1) 0)).set (z.natAbs - 1) (L.getD z.natAbs 0)
theorem swp_len {L : List Nat} {z : Int} : (swp L z).length = L.length := by simp [swp]
def swps (m : Nat) (W : List Int) (k : Nat) : List Nat := (W.take k).foldl swp (List.range m)
theorem swps_succ {m : Nat} {W : List Int} {k : Nat} (h : k < W.length) : swps m W (k + 1) = swp (swps m W k) (W.getD k 0) := by
  unfold swps
  rw [List.take_add_one, List.foldl_append]
  simp [List.getD_eq_getElem?_getD, h]
theorem swps_len (m : Nat) (W : List Int) (k : Nat) : (swps m W k).length = m := by
  unfold swps
  generalize W.take k = V
  have : ∀ (V : List Int) (L : List Nat), (V.foldl swp L).length = L.length := by
    intro V
    induction V with
    | nil => intro L; rfl
    | cons z V ih => intro L; rw [List.foldl_cons, ih, swp_len]
  rw [this]; simp
theorem swp_lt {m : Nat} {L : List Nat} {z : Int} (hl : L.length = m) (hz : z.natAbs < m) (h : ∀ j, j < m → L.getD j 0 < m) : ∀ j, j < m → (swp L z).getD j 0 < m := by
  intro j hj
  unfold swp
  rw [set_getD (by rw [List.length_set]; omega)]
  split
  · exact h _ hz
  · rw [set_getD (by omega)]
    split
    · exact h _ (by omega)
    · exact h j hj
theorem swps_lt {m : Nat} {W : List Int} (hW : ∀ z ∈ W, 1 ≤ z.natAbs ∧ z.natAbs < m) : ∀ k, k ≤ W.length → ∀ j, j < m → (swps m W k).getD j 0 < m
  | 0, _, j, hj => by simp [swps, List.getD_eq_getElem?_getD, hj]
  | k + 1, hk, j, hj => by
    have hz : W.getD k 0 ∈ W := by
      rw [List.getD_eq_getElem?_getD, List.getElem?_eq_getElem (by omega), Option.getD_some]
      exact List.getElem_mem _
    rw [swps_succ (by omega)]
    exact swp_lt (swps_len _ _ _) (hW _ hz).2 (swps_lt hW k (by omega)) j hj
def outF (m : Nat) (L : List Nat) : Nat → List Nat
  | 0 => List.replicate m 0
  | k + 1 => (outF m L k).set (L.getD k 0) k
theorem outF_len (m : Nat) (L : List Nat) : ∀ k, (outF m L k).length = m
  | 0 => by simp [outF]
  | k + 1 => by simp [outF, outF_len m L k]
end Go.Proofs.Ytlgoepajebnilaa
