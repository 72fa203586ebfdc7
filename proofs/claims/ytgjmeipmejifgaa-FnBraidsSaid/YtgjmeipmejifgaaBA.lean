/- Plain laws: what letters do to lists; strands from gap to gap. -/
import Derived.Test.YtgjmeipmejifgaaPB
import Derived.Test.YtgjmeipmejifgaaPI
namespace Go.Proofs.Ytgjmeipmejifgaa
theorem getD_mid {A C : List Nat} {x d : Nat} : (A ++ x :: C).getD A.length d = x := by
  rw [List.getD_eq_getElem?_getD, List.getElem?_append_right (Nat.le_refl _), Nat.sub_self]; rfl
theorem setMid {A C : List Nat} {x y : Nat} : (A ++ x :: C).set A.length y = A ++ y :: C := by
  rw [List.set_append_right _ _ (Nat.le_refl _), Nat.sub_self]; rfl
theorem swp_mid {A C : List Nat} {x y : Nat} {z : Int} (hz : z.natAbs = A.length + 1) : swp (A ++ x :: y :: C) z = A ++ y :: x :: C := by
  unfold swp
  rw [hz, Nat.add_sub_cancel, getD_mid]
  have e : A ++ x :: y :: C = (A ++ [x]) ++ y :: C := by simp
  have l : (A ++ [x]).length = A.length + 1 := by simp
  have h1 : (A ++ x :: y :: C).getD (A.length + 1) 0 = y := by rw [e, ← l, getD_mid]
  have h2 : (A ++ x :: y :: C).set (A.length + 1) x = A ++ x :: x :: C := by rw [e, ← l, setMid]; simp
  rw [h1, h2, setMid]
theorem mvU (A : List Nat) (x : Nat) : ∀ (j : Nat) (B C : List Nat), B.length = j → (segU A.length j).foldl swp (A ++ x :: (B ++ C)) = A ++ (B ++ x :: C)
  | 0, B, C, h => by
    rw [List.eq_nil_of_length_eq_zero h]; rfl
  | j + 1, B, C, h => by
    obtain ⟨B', y, rfl⟩ : ∃ B' y, B = B' ++ [y] := ⟨B.dropLast, B.getLast (by intro e; simp [e] at h), (List.dropLast_concat_getLast _).symm⟩
    have hB : B'.length = j := by simpa using h
    rw [segU_succ, List.foldl_append, show B' ++ [y] ++ C = B' ++ (y :: C) by simp, mvU A x j B' (y :: C) hB]
    show swp (A ++ (B' ++ x :: y :: C)) _ = _
    rw [← List.append_assoc, swp_mid (by rw [List.length_append]; omega)]
    simp
theorem mvD (x : Nat) : ∀ (j : Nat) (A B C : List Nat), B.length = j → (segD (A.length + j) j).foldl swp (A ++ (B ++ x :: C)) = A ++ x :: (B ++ C)
  | 0, A, B, C, h => by
    rw [List.eq_nil_of_length_eq_zero h]; rfl
  | j + 1, A, B, C, h => by
    obtain ⟨y, B', rfl⟩ : ∃ y B', B = y :: B' := by
      cases B with
      | nil => simp at h
      | cons y B' => exact ⟨y, B', rfl⟩
    have hB : B'.length = j := by simpa using h
    have := mvD x j (A ++ [y]) B' C hB
    have hl : (A ++ [y]).length + j = A.length + (j + 1) := by simp; omega
    rw [hl] at this
    rw [segD_succ, List.foldl_append, show A ++ (y :: B' ++ x :: C) = (A ++ [y]) ++ (B' ++ x :: C) by simp, this]
    show swp (A ++ [y] ++ x :: (B' ++ C)) _ = _
    rw [show A ++ [y] ++ x :: (B' ++ C) = A ++ y :: x :: (B' ++ C) by simp, swp_mid (by omega)]
    simp
theorem range_split {n a : Nat} (h : a < n) : List.range n = List.range a ++ a :: List.range' (a + 1) (n - (a + 1)) := by
  have e : n = a + (1 + (n - (a + 1))) := by omega
  rw [List.range_eq_range', List.range_eq_range']
  conv => lhs; rw [e]
  rw [← List.range'_append_1, Nat.zero_add]
  congr 1
  rw [Nat.add_comm 1, List.range'_succ]
theorem filter_range_split {n a : Nat} (h : a < n) (p : Nat → Bool) (hp : p a = true) : (List.range n).filter p = (List.range a).filter p ++ a :: (List.range' (a + 1) (n - (a + 1))).filter p := by
  rw [range_split h, List.filter_append, List.filter_cons_of_pos hp]
theorem cnt_filter {n r : Nat} (hr : r ≤ n) (p : Nat → Bool) : cnt ((List.range n).filter p) r = ((List.range r).filter p).length := by
  unfold cnt
  rw [List.filter_filter]
  have e : n = r + (n - r) := by omega
  rw [List.range_eq_range', List.range_eq_range', e, ← List.range'_append_1, List.filter_append, Nat.zero_add]
  have h1 : (List.range' r (n - r)).filter (fun x => decide (x < r) && p x) = [] := by
    rw [List.filter_eq_nil_iff]
    intro a ha
    have := (List.mem_range'_1.1 ha).1
    simp; omega
  have h2 : (List.range' 0 r).filter (fun x => decide (x < r) && p x) = (List.range' 0 r).filter p := by
    refine List.filter_congr fun a ha => ?_
    have := (List.mem_range'_1.1 ha).2
    simp; omega
  rw [h1, h2, List.append_nil]
/-- One list of rows to the next: the row a ends, the row c begins. -/
theorem gap_step {n a c : Nat} (ha : a < n) (hc : c < n) (hne : a ≠ c) (p p' : Nat → Bool) (h1 : p a = true) (h2 : p c = false) (h3 : p' a = false) (h4 : p' c = true) (h : ∀ r, r < n → r ≠ a → r ≠ c → p r = p' r) :
    (if a < c then segU (cnt ((List.range n).filter p) a) (cnt ((List.range n).filter p') c - cnt ((List.range n).filter p) a)
      else segD (cnt ((List.range n).filter p) a) (cnt ((List.range n).filter p) a - cnt ((List.range n).filter p') c)).foldl swp (((List.range n).filter p).map fun r => if r = a then c else r) = (List.range n).filter p' := by
  have hmap : ((List.range n).filter p).map (fun r => if r = a then c else r) = (List.range a).filter p ++ c :: (List.range' (a + 1) (n - (a + 1))).filter p := by
    rw [filter_range_split ha p h1, List.map_append, List.map_cons, if_pos rfl]
    congr 1
    · refine (List.map_congr_left fun r hr => ?_).trans (List.map_id _)
      have := List.mem_range.1 (List.mem_filter.1 hr).1
      rw [if_neg (by omega)]; rfl
    · congr 1
      refine (List.map_congr_left fun r hr => ?_).trans (List.map_id _)
      have := (List.mem_range'_1.1 (List.mem_filter.1 hr).1).1
      rw [if_neg (by omega)]; rfl
  rw [hmap, cnt_filter (by omega) p, cnt_filter (by omega) p', filter_range_split hc p' h4]
  by_cases hlt : a < c
  · rw [if_pos hlt]
    have e1 : (List.range c).filter p' = (List.range a).filter p ++ (List.range' (a + 1) (c - (a + 1))).filter p := by
      rw [range_split hlt, List.filter_append, List.filter_cons_of_neg (by simp [h3])]
      congr 1
      · exact List.filter_congr fun r hr => (h r (by have := List.mem_range.1 hr; omega) (by have := List.mem_range.1 hr; omega) (by have := List.mem_range.1 hr; omega)).symm
      · exact List.filter_congr fun r hr => by
          have := List.mem_range'_1.1 hr
          exact (h r (by omega) (by omega) (by omega)).symm
    have e2 : (List.range' (a + 1) (n - (a + 1))).filter p = (List.range' (a + 1) (c - (a + 1))).filter p ++ (List.range' (c + 1) (n - (c + 1))).filter p' := by
      have e : n - (a + 1) = (c - (a + 1)) + (1 + (n - (c + 1))) := by omega
      rw [e, ← List.range'_append_1, List.filter_append, show a + 1 + (c - (a + 1)) = c by omega, Nat.add_comm 1, List.range'_succ, List.filter_cons_of_neg (by simp [h2])]
      congr 1
      exact List.filter_congr fun r hr => by
        have := List.mem_range'_1.1 hr
        exact h r (by omega) (by omega) (by omega)
    rw [e1, e2, List.length_append, Nat.add_sub_cancel_left, mvU _ c _ _ _ rfl, List.append_assoc]
  · rw [if_neg hlt]
    have hlt : c < a := by omega
    have e1 : (List.range a).filter p = (List.range c).filter p' ++ (List.range' (c + 1) (a - (c + 1))).filter p' := by
      rw [range_split hlt, List.filter_append, List.filter_cons_of_neg (by simp [h2])]
      congr 1
      · exact List.filter_congr fun r hr => h r (by have := List.mem_range.1 hr; omega) (by have := List.mem_range.1 hr; omega) (by have := List.mem_range.1 hr; omega)
      · exact List.filter_congr fun r hr => by
          have := List.mem_range'_1.1 hr
          exact h r (by omega) (by omega) (by omega)
    have e2 : (List.range' (c + 1) (n - (c + 1))).filter p' = (List.range' (c + 1) (a - (c + 1))).filter p' ++ (List.range' (a + 1) (n - (a + 1))).filter p := by
      have e : n - (c + 1) = (a - (c + 1)) + (1 + (n - (a + 1))) := by omega
      rw [e, ← List.range'_append_1, List.filter_append, show c + 1 + (a - (c + 1)) = a by omega, Nat.add_comm 1, List.range'_succ, List.filter_cons_of_neg (by simp [h3])]
      congr 1
      exact List.filter_congr fun r hr => by
        have := List.mem_range'_1.1 hr
        exact (h r (by omega) (by omega) (by omega)).symm
    rw [e1, e2, List.length_append, Nat.add_sub_cancel_left, List.append_assoc, mvD c _ _ _ _ rfl]
end Go.Proofs.Ytgjmeipmejifgaa
