/- Plain: corners by columns and rows; two of each in the mosaic of a grid. -/
import Derived.Test.YthijakignhjmgaaNC
import Derived.Test.YthijakignhjmgaaNB
namespace Go.Proofs.Ythijakignhjmgaa
open Go Go.RowKit SL
def colP (c : Nat → Nat → Bool) (k m : Nat) : List Nat := (List.range m).filter fun r => c r k
def rowP (c : Nat → Nat → Bool) (k m : Nat) : List Nat := (List.range m).filter fun i => c k i
theorem colP_succ (c : Nat → Nat → Bool) (k m : Nat) : colP c k (m + 1) = colP c k m ++ if c m k = true then [m] else [] := by
  unfold colP
  rw [List.range_succ, List.filter_append]
  by_cases h : c m k <;> simp [h]
theorem rowP_succ (c : Nat → Nat → Bool) (k m : Nat) : rowP c k (m + 1) = rowP c k m ++ if c k m = true then [m] else [] := by
  unfold rowP
  rw [List.range_succ, List.filter_append]
  by_cases h : c k m <;> simp [h]
theorem colP_len (c : Nat → Nat → Bool) (k m : Nat) : (colP c k m).length ≤ m := Nat.le_trans (List.length_filter_le _ _) (by rw [List.length_range]; exact Nat.le_refl _)
theorem rowP_len (c : Nat → Nat → Bool) (k m : Nat) : (rowP c k m).length ≤ m := Nat.le_trans (List.length_filter_le _ _) (by rw [List.length_range]; exact Nat.le_refl _)
abbrev LN : Type := List (Value × List Nat)
/-- The columns' corners, the cells before (r, i) having been seen; the rows'. -/
def colOK (n : Nat) (c : Nat → Nat → Bool) (r i : Nat) (L : LN) : Prop := L.length = n ∧ ∀ k p, L[k]? = some p → p.2 = colP c k (if k < i then r + 1 else r)
def rowOK (n : Nat) (c : Nat → Nat → Bool) (r i : Nat) (L : LN) : Prop := L.length = n ∧ ∀ k p, L[k]? = some p → p.2 = rowP c k (if k < r then n else if k = r then i else 0)
theorem colOK.skip {n r i : Nat} {c : Nat → Nat → Bool} {L : LN} (h : colOK n c r i L) (hc : c r i = false) : colOK n c r (i + 1) L := ⟨h.1, fun k p hp => by
  rw [h.2 k p hp]
  by_cases e : k = i
  · subst e
    rw [if_neg (by omega), if_pos (by omega), colP_succ, hc, if_neg (by decide), List.append_nil]
  · by_cases e2 : k < i
    · rw [if_pos e2, if_pos (by omega)]
    · rw [if_neg e2, if_neg (by omega)]⟩
theorem rowOK.skip {n r i : Nat} {c : Nat → Nat → Bool} {L : LN} (h : rowOK n c r i L) (hc : c r i = false) : rowOK n c r (i + 1) L := ⟨h.1, fun k p hp => by
  rw [h.2 k p hp]
  by_cases e : k < r
  · rw [if_pos e, if_pos e]
  · rw [if_neg e, if_neg e]
    by_cases e2 : k = r
    · subst e2
      rw [if_pos rfl, if_pos rfl, rowP_succ, hc, if_neg (by decide), List.append_nil]
    · rw [if_neg e2, if_neg e2]⟩
theorem getq {A C : LN} {q : Value × List Nat} {k : Nat} {p : Value × List Nat} (h : (A ++ q :: C)[k]? = some p) : (k = A.length ∧ p = q) ∨ (k ≠ A.length ∧ ∀ q', (A ++ q' :: C)[k]? = some p) := by
  by_cases e : k = A.length
  · subst e
    rw [List.getElem?_append_right (Nat.le_refl _), Nat.sub_self] at h
    cases h
    exact .inl ⟨rfl, rfl⟩
  · refine .inr ⟨e, fun q' => ?_⟩
    rw [← h]
    by_cases e2 : k < A.length
    · rw [List.getElem?_append_left e2, List.getElem?_append_left e2]
    · rw [List.getElem?_append_right (by omega), List.getElem?_append_right (by omega)]
      obtain ⟨m, hm⟩ : ∃ m, k - A.length = m + 1 := ⟨k - A.length - 1, by omega⟩
      rw [hm, List.getElem?_cons_succ, List.getElem?_cons_succ]
theorem colOK.put {n r i : Nat} {c : Nat → Nat → Bool} {A C : LN} {p : Value × List Nat} {v : Value} (h : colOK n c r i (A ++ p :: C)) (hA : A.length = i) (hc : c r i = true) : colOK n c r (i + 1) (A ++ (v, p.2 ++ [r]) :: C) := by
  refine ⟨by have := h.1; simp only [List.length_append, List.length_cons] at this ⊢; exact this, fun k q hq => ?_⟩
  rcases getq hq with ⟨rfl, rfl⟩ | ⟨hk, hq⟩
  · have h2 := h.2 A.length p (by simp)
    rw [if_neg (by omega)] at h2
    dsimp only
    rw [if_pos (by omega), colP_succ, hA, hc, if_pos rfl, ← hA, h2]
  · rw [h.2 k q (hq p)]
    by_cases e2 : k < i
    · rw [if_pos e2, if_pos (by omega)]
    · rw [if_neg e2, if_neg (by omega)]
theorem rowOK.put {n r i : Nat} {c : Nat → Nat → Bool} {A C : LN} {p : Value × List Nat} {v : Value} (h : rowOK n c r i (A ++ p :: C)) (hA : A.length = r) (hc : c r i = true) : rowOK n c r (i + 1) (A ++ (v, p.2 ++ [i]) :: C) := by
  refine ⟨by have := h.1; simp only [List.length_append, List.length_cons] at this ⊢; exact this, fun k q hq => ?_⟩
  rcases getq hq with ⟨rfl, rfl⟩ | ⟨hk, hq⟩
  · have h2 := h.2 A.length p (by simp)
    rw [if_neg (by omega), if_pos hA] at h2
    dsimp only
    rw [if_neg (by omega), if_pos hA, rowP_succ, hA, hc, if_pos rfl, ← hA, h2]
  · rw [h.2 k q (hq p)]
    by_cases e2 : k < r
    · rw [if_pos e2, if_pos e2]
    · rw [if_neg e2, if_neg e2, if_neg (by omega), if_neg (by omega)]
theorem colOK.start (n : Nat) (c : Nat → Nat → Bool) : colOK n c 0 0 (List.replicate n (.slice none 0 0, [])) := ⟨List.length_replicate, fun k p hp => by
  rw [List.eq_of_mem_replicate (List.mem_of_getElem? hp), if_neg (by omega)]; rfl⟩
theorem rowOK.start (n : Nat) (c : Nat → Nat → Bool) : rowOK n c 0 0 (List.replicate n (.slice none 0 0, [])) := ⟨List.length_replicate, fun k p hp => by
  rw [List.eq_of_mem_replicate (List.mem_of_getElem? hp), if_neg (by omega)]
  split <;> rfl⟩
theorem colOK.down {n r : Nat} {c : Nat → Nat → Bool} {L : LN} (h : colOK n c r n L) : colOK n c (r + 1) 0 L := ⟨h.1, fun k p hp => by
  have hk := (List.getElem?_eq_some_iff.1 hp).1
  rw [h.1] at hk
  rw [h.2 k p hp, if_pos hk, if_neg (by omega)]⟩
theorem rowOK.down {n r : Nat} {c : Nat → Nat → Bool} {L : LN} (h : rowOK n c r n L) : rowOK n c (r + 1) 0 L := ⟨h.1, fun k p hp => by
  rw [h.2 k p hp]
  by_cases e : k < r
  · rw [if_pos e, if_pos (by omega)]
  · rw [if_neg e]
    by_cases e2 : k = r
    · rw [if_pos e2, if_pos (by omega)]
    · rw [if_neg e2, if_neg (by omega), ite_self]⟩
theorem splitN {L : LN} {i : Nat} (h : i < L.length) : ∃ A p C, L = A ++ p :: C ∧ A.length = i := ⟨L.take i, L[i], L.drop (i + 1), by rw [← List.drop_eq_getElem_cons h, List.take_append_drop], by rw [List.length_take]; omega⟩
theorem two_list {l : List Nat} (h : l.length = 2) : l = [l.getD 0 0, l.getD 1 0] := by
  match l, h with
  | [_, _], _ => rfl
theorem sort2 {p : Nat → Bool} {n : Nat} (h : ((List.range n).filter p).length = 2) : (((List.range n).filter p).getD 0 0 < ((List.range n).filter p).getD 1 0 ∧ ((List.range n).filter p).getD 1 0 < n) ∧ ∀ r, r < n → (p r = true ↔ r = ((List.range n).filter p).getD 0 0 ∨ r = ((List.range n).filter p).getD 1 0) := by
  have hm : ∀ r, r ∈ (List.range n).filter p ↔ r < n ∧ p r = true := fun r => by rw [List.mem_filter, List.mem_range]
  have hs : ((List.range n).filter p).Pairwise (· < ·) := List.Pairwise.filter _ List.pairwise_lt_range
  generalize (List.range n).filter p = l at h hm hs
  have e := two_list h
  generalize l.getD 0 0 = a at *
  generalize l.getD 1 0 = b at *
  subst e
  have hab : a < b := List.rel_of_pairwise_cons hs (List.mem_singleton.2 rfl)
  have hb := (hm b).1 (by simp)
  refine ⟨⟨hab, hb.1⟩, fun r hr => ?_⟩
  have h1 := hm r
  simp only [List.mem_cons, List.not_mem_nil, or_false] at h1
  exact ⟨fun k => h1.2 ⟨hr, k⟩, fun k => (h1.1 k).2⟩
theorem filter2 {p : Nat → Bool} {n x y : Nat} (hx : x < n) (hy : y < n) (hne : x ≠ y) (h : ∀ r, r < n → (p r = true ↔ r = x ∨ r = y)) : ((List.range n).filter p).length = 2 := by
  have hp : ((List.range n).filter p).Perm [x, y] := by
    refine (List.perm_ext_iff_of_nodup (List.nodup_range.filter _) (by simp [hne])).2 fun r => ?_
    rw [List.mem_filter, List.mem_range]
    simp only [List.mem_cons, List.not_mem_nil, or_false]
    constructor
    · intro k
      exact (h r k.1).1 k.2
    · intro k
      have hr : r < n := by omega
      exact ⟨hr, (h r hr).2 k⟩
  exact hp.length_eq
abbrev aC (c : Nat → Nat → Bool) (n k : Nat) : Nat := (colP c k n).getD 0 0
abbrev bC (c : Nat → Nat → Bool) (n k : Nat) : Nat := (colP c k n).getD 1 0
abbrev pR (c : Nat → Nat → Bool) (n k : Nat) : Nat := (rowP c k n).getD 0 0
abbrev qR (c : Nat → Nat → Bool) (n k : Nat) : Nat := (rowP c k n).getD 1 0
theorem two_of {n : Nat} {c : Nat → Nat → Bool} (h : ∀ k, k < n → (colP c k n).length = 2 ∧ (rowP c k n).length = 2) : Two n c (aC c n) (bC c n) (pR c n) (qR c n) where
  ab := fun i hi => (sort2 (h i hi).1).1
  col := fun i r hi hr => (sort2 (p := fun r => c r i) (h i hi).1).2 r hr
  pq := fun r hr => (sort2 (h r hr).2).1
  row := fun r i hr hi => (sort2 (p := fun i => c r i) (h r hr).2).2 i hi
theorem tile_cor {n : Nat} {X O : List Nat} {r i : Nat} : (1 ≤ tile n X O r i ∧ tile n X O r i ≤ 4) ↔ r = X.getD i 0 ∨ r = O.getD i 0 := by
  unfold tile
  by_cases h1 : r = X.getD i 0
  · rw [if_pos h1]
    have : kdX n X O i r ≤ 3 := kindS_le
    exact ⟨fun _ => .inl h1, fun _ => ⟨by omega, by omega⟩⟩
  · rw [if_neg h1]
    by_cases h2 : r = O.getD i 0
    · rw [if_pos h2]
      have : kdO n X O i r ≤ 3 := kindS_le
      exact ⟨fun _ => .inr h2, fun _ => ⟨by omega, by omega⟩⟩
    · rw [if_neg h2]
      refine ⟨fun k => ?_, fun k => k.elim (fun e => absurd e h1) (fun e => absurd e h2)⟩
      exfalso
      revert k
      unfold tileB
      split
      · omega
      · split
        · omega
        · split <;> omega
theorem mos_two {n : Nat} {X O : List Nat} (g : okG (n : Int) X O) : ∀ k, k < n → (colP (crT n (mosT n (tile n X O))) k n).length = 2 ∧ (rowP (crT n (mosT n (tile n X O))) k n).length = 2 := by
  obtain ⟨⟨g1, g2⟩, pX, pO, gne⟩ := g
  rw [Int.toNat_natCast] at pX pO gne
  have hall := mosT_all (n := n) (f := tile n X O) (by omega)
  have hc : ∀ r i, r < n → i < n → (crT n (mosT n (tile n X O)) r i = true ↔ r = X.getD i 0 ∨ r = O.getD i 0) := fun r i hr hi => by
    unfold crT
    rw [decide_eq_true_iff, hall.2.1 r i hr hi]
    exact tile_cor
  intro k hk
  constructor
  · exact filter2 (x := X.getD k 0) (y := O.getD k 0) (pX.1 k hk) (pO.1 k hk) (gne k hk) fun r hr => hc r k hr hk
  · obtain ⟨x, hx, ex⟩ := surj_of_inj pX.1 pX.2.1 k hk
    obtain ⟨y, hy, ey⟩ := surj_of_inj pO.1 pO.2.1 k hk
    refine filter2 (x := x) (y := y) hx hy (fun e => ?_) fun i hi => ?_
    · subst e
      exact gne x hx (ex.trans ey.symm)
    · rw [hc k i hk hi]
      constructor
      · rintro (e | e)
        · exact .inl (pX.2.1 i x hi hx (e.symm.trans ex.symm))
        · exact .inr (pO.2.1 i y hi hy (e.symm.trans ey.symm))
      · rintro (rfl | rfl)
        · exact .inl ex.symm
        · exact .inr ey.symm
/-- Where a column or a row has other than two corners, no grid has the mosaic. -/
theorem endG_err {n : Nat} {T : List Nat} (h : ¬ ∀ k, k < n → (colP (crT n T) k n).length = 2 ∧ (rowP (crT n T) k n).length = 2) (s : Option WS) : endG n T s = .tuple #[.agg (gv 0 Z8 Z8).toArray, .int .i64 5] := by
  match s with
  | none => rfl
  | some (X, O, D) =>
    refine if_neg fun k => h ?_
    rw [← k.2]
    exact mos_two k.1
theorem endG_ok {n : Nat} {T : List Nat} (h8 : n ≤ 8) (h : ∀ k, k < n → (colP (crT n T) k n).length = 2 ∧ (rowP (crT n T) k n).length = 2) : gridS n (crT n T) (Z8, Z8, F8) n = some (gridI n (aC (crT n T) n) (bC (crT n T) n) (pR (crT n T) n) (qR (crT n T) n) (Z8, Z8, F8) n) :=
  ((two_of h).grid h8 (s0 := (Z8, Z8, F8)) rfl (fun k => by
    show F8.getD k false = false
    unfold F8
    rw [List.getD_eq_getElem?_getD, List.getElem?_replicate]
    split <;> rfl) n (Nat.le_refl _)).1
theorem lens_iff {n : Nat} {c : Nat → Nat → Bool} {LC LR : LN} (hC : colOK n c n 0 LC) (hR : rowOK n c n 0 LR) : (∃ p ∈ LC ++ LR, p.2.length ≠ 2) ↔ ¬ ∀ k, k < n → (colP c k n).length = 2 ∧ (rowP c k n).length = 2 := by
  have h1 : ∀ k p, LC[k]? = some p → p.2 = colP c k n := fun k p h => by
    have := hC.2 k p h
    rwa [if_neg (Nat.not_lt_zero _)] at this
  have h2 : ∀ k p, LR[k]? = some p → k < n ∧ p.2 = rowP c k n := fun k p h => by
    have h3 := (List.getElem?_eq_some_iff.1 h).1
    rw [hR.1] at h3
    have := hR.2 k p h
    rw [if_pos h3] at this
    exact ⟨h3, this⟩
  constructor
  · rintro ⟨p, hp, hl⟩ k
    rcases List.mem_append.1 hp with hp | hp
    · obtain ⟨j, hj, e⟩ := List.getElem_of_mem hp
      have h3 := h1 j p (by rw [List.getElem?_eq_getElem hj, e])
      rw [hC.1] at hj
      rw [h3] at hl
      exact hl (k j hj).1
    · obtain ⟨j, hj, e⟩ := List.getElem_of_mem hp
      have h3 := h2 j p (by rw [List.getElem?_eq_getElem hj, e])
      rw [h3.2] at hl
      exact hl (k j h3.1).2
  · intro k
    refine Classical.byContradiction fun hn => k fun j hj => ?_
    have e1 : LC[j]? = some (LC[j]'(by rw [hC.1]; exact hj)) := List.getElem?_eq_getElem _
    have e2 : LR[j]? = some (LR[j]'(by rw [hR.1]; exact hj)) := List.getElem?_eq_getElem _
    constructor
    · refine Classical.byContradiction fun hl => hn ⟨_, List.mem_append.2 (.inl (List.mem_of_getElem? e1)), ?_⟩
      rw [h1 _ _ e1]; exact hl
    · refine Classical.byContradiction fun hl => hn ⟨_, List.mem_append.2 (.inr (List.mem_of_getElem? e2)), ?_⟩
      rw [(h2 _ _ e2).2]; exact hl
end Go.Proofs.Ythijakignhjmgaa
