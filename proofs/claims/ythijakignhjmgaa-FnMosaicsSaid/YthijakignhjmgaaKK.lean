/- Plain: the walk over the corners of a mosaic, as both texts take it. -/
import Derived.Test.YthijakignhjmgaaPE
namespace Go.Proofs.Ythijakignhjmgaa
/-- The greatest number less than k of which p holds, or -1. -/
def lastOf (p : Nat → Bool) : Nat → Int
  | 0 => -1
  | k + 1 => if p k then (k : Int) else lastOf p k
/-- The least of the last m numbers less than n of which p holds, or -1. -/
def lowD (p : Nat → Bool) (n : Nat) : Nat → Int
  | 0 => -1
  | m + 1 => if p (n - (m + 1)) then ((n - (m + 1) : Nat) : Int) else lowD p n m
theorem lastOf_eq {p : Nat → Bool} {k : Nat} (hp : p k = true) : ∀ {n : Nat}, k < n → (∀ j, k < j → j < n → p j = false) → lastOf p n = (k : Int)
  | 0, h, _ => absurd h (Nat.not_lt_zero _)
  | n + 1, h, hu => by
    unfold lastOf
    by_cases e : k = n
    · subst e; rw [if_pos hp]
    · rw [if_neg (by rw [hu n (by omega) (Nat.lt_succ_self n)]; decide)]
      exact lastOf_eq hp (by omega) fun j h1 h2 => hu j h1 (by omega)
theorem lastOf_bd (p : Nat → Bool) : ∀ n : Nat, lastOf p n = -1 ∨ ∃ k : Nat, lastOf p n = (k : Int) ∧ k < n ∧ p k = true
  | 0 => .inl rfl
  | n + 1 => by
    unfold lastOf
    by_cases h : p n = true
    · rw [if_pos h]; exact .inr ⟨n, rfl, Nat.lt_succ_self n, h⟩
    · rw [if_neg h]
      rcases lastOf_bd p n with e | ⟨k, e, hk, hp⟩
      · exact .inl e
      · exact .inr ⟨k, e, by omega, hp⟩
theorem lowD_eq {p : Nat → Bool} {n k : Nat} (hp : p k = true) (hk : k < n) (hu : ∀ j, j < k → p j = false) : ∀ {m : Nat}, m ≤ n → n - m ≤ k → lowD p n m = (k : Int)
  | 0, _, h => by omega
  | m + 1, hm, h => by
    unfold lowD
    by_cases e : k = n - (m + 1)
    · rw [← e, if_pos hp]
    · rw [if_neg (by rw [hu (n - (m + 1)) (by omega)]; decide)]
      exact lowD_eq hp hk hu (by omega) (by omega)
theorem lowD_bd (p : Nat → Bool) (n : Nat) : ∀ m : Nat, m ≤ n → lowD p n m = -1 ∨ ∃ k : Nat, lowD p n m = (k : Int) ∧ k < n ∧ p k = true
  | 0, _ => .inl rfl
  | m + 1, hm => by
    unfold lowD
    by_cases h : p (n - (m + 1)) = true
    · rw [if_pos h]; exact .inr ⟨_, rfl, by omega, h⟩
    · rw [if_neg h]; exact lowD_bd p n m (by omega)
/-- The other corner of a column; of a row. -/
def oC (n : Nat) (c : Nat → Nat → Bool) (i r : Nat) : Int := lastOf (fun k => decide (k ≠ r) && c k i) n
def oR (n : Nat) (c : Nat → Nat → Bool) (r i : Nat) : Int := lastOf (fun k => decide (k ≠ i) && c r k) n
abbrev WS : Type := List Nat × List Nat × List Bool
/-- The reference's walk along a component. -/
def alongS (n : Nat) (c : Nat → Nat → Bool) (st row : Nat) : Nat → Nat → Nat → WS → Bool × WS
  | 0, _, _, s => (false, s)
  | f + 1, i, r, (X, O, D) =>
    if D.getD i false = true then (decide (i = st ∧ r = row), (X, O, D))
    else if oC n c i r < 0 then (false, (X.set i r, O, D.set i true))
    else if oR n c (oC n c i r).toNat i < 0 then (false, (X.set i r, O.set i (oC n c i r).toNat, D.set i true))
    else alongS n c st row f (oR n c (oC n c i r).toNat i).toNat (oC n c i r).toNat (X.set i r, O.set i (oC n c i r).toNat, D.set i true)
/-- The reference's walk from all columns less than k. -/
def gridS (n : Nat) (c : Nat → Nat → Bool) (s0 : WS) : Nat → Option WS
  | 0 => some s0
  | k + 1 => match gridS n c s0 k with
    | none => none
    | some s =>
      if s.2.2.getD k false = true then some s
      else if lowD (fun r => c r k) n n < 0 then none
      else if (alongS n c k (lowD (fun r => c r k) n n).toNat (n + 1) k (lowD (fun r => c r k) n n).toNat s).1 = true then some (alongS n c k (lowD (fun r => c r k) n n).toNat (n + 1) k (lowD (fun r => c r k) n n).toNat s).2 else none
/-- The program's walk along a component, where each column has the corners a and b, each row p and q. -/
def walkI (a b p q : Nat → Nat) : Nat → Nat → Nat → WS → WS
  | 0, _, _, s => s
  | f + 1, i, r, (X, O, D) =>
    if D.getD i false = true then (X, O, D)
    else walkI a b p q f (p (a i + b i - r) + q (a i + b i - r) - i) (a i + b i - r) (X.set i r, O.set i (a i + b i - r), D.set i true)
def gridI (n : Nat) (a b p q : Nat → Nat) (s0 : WS) : Nat → WS
  | 0 => s0
  | k + 1 => walkI a b p q (n + 1) k (a k) (gridI n a b p q s0 k)
/-- Two corners to a column and to a row. -/
structure Two (n : Nat) (c : Nat → Nat → Bool) (a b p q : Nat → Nat) : Prop where
  ab : ∀ i, i < n → a i < b i ∧ b i < n
  col : ∀ i r, i < n → r < n → (c r i = true ↔ r = a i ∨ r = b i)
  pq : ∀ r, r < n → p r < q r ∧ q r < n
  row : ∀ r i, r < n → i < n → (c r i = true ↔ i = p r ∨ i = q r)
section
variable {n : Nat} {c : Nat → Nat → Bool} {a b p q : Nat → Nat}
def cor (n : Nat) (c : Nat → Nat → Bool) (u : Nat × Nat) : Prop := u.1 < n ∧ u.2 < n ∧ c u.2 u.1 = true
def nxtC (a b p q : Nat → Nat) (u : Nat × Nat) : Nat × Nat := (p (a u.1 + b u.1 - u.2) + q (a u.1 + b u.1 - u.2) - u.1, a u.1 + b u.1 - u.2)
theorem Two.oc (h : Two n c a b p q) {i r : Nat} (hi : i < n) (hr : r < n) (hc : c r i = true) : a i + b i - r < n ∧ a i + b i - r ≠ r ∧ c (a i + b i - r) i = true ∧ a i + b i - (a i + b i - r) = r ∧ oC n c i r = ((a i + b i - r : Nat) : Int) := by
  have h1 := h.ab i hi
  have h2 := (h.col i r hi hr).1 hc
  have h3 : c (a i + b i - r) i = true := (h.col i _ hi (by omega)).2 (by omega)
  refine ⟨by omega, by omega, h3, by omega, ?_⟩
  unfold oC
  refine lastOf_eq ?_ (by omega) fun j h4 h5 => ?_
  · rw [h3, Bool.and_true, decide_eq_true_iff]; omega
  · rw [Bool.and_eq_false_iff, decide_eq_false_iff_not]
    by_cases e : j = r
    · exact .inl fun k => k e
    · right
      rw [Bool.eq_false_iff]
      intro k
      have := (h.col i j hi h5).1 k
      omega
theorem Two.xr (h : Two n c a b p q) {i r : Nat} (hi : i < n) (hr : r < n) (hc : c r i = true) : p r + q r - i < n ∧ p r + q r - i ≠ i ∧ c r (p r + q r - i) = true ∧ p r + q r - (p r + q r - i) = i ∧ oR n c r i = ((p r + q r - i : Nat) : Int) := by
  have h1 := h.pq r hr
  have h2 := (h.row r i hr hi).1 hc
  have h3 : c r (p r + q r - i) = true := (h.row r _ hr (by omega)).2 (by omega)
  refine ⟨by omega, by omega, h3, by omega, ?_⟩
  unfold oR
  refine lastOf_eq ?_ (by omega) fun j h4 h5 => ?_
  · rw [h3, Bool.and_true, decide_eq_true_iff]; omega
  · rw [Bool.and_eq_false_iff, decide_eq_false_iff_not]
    by_cases e : j = i
    · exact .inl fun k => k e
    · right
      rw [Bool.eq_false_iff]
      intro k
      have := (h.row r j hr h5).1 k
      omega
theorem Two.nxt (h : Two n c a b p q) {u : Nat × Nat} (hu : cor n c u) : cor n c (nxtC a b p q u) := by
  obtain ⟨h1, h2, h3⟩ := hu
  obtain ⟨k1, _, k3, _, _⟩ := h.oc h1 h2 h3
  obtain ⟨m1, _, m3, _, _⟩ := h.xr h1 k1 k3
  exact ⟨m1, k1, m3⟩
theorem Two.inj (h : Two n c a b p q) {u v : Nat × Nat} (hu : cor n c u) (hv : cor n c v) (e : nxtC a b p q u = nxtC a b p q v) : u = v := by
  obtain ⟨u1, u2⟩ := u
  obtain ⟨v1, v2⟩ := v
  obtain ⟨h1, h2, h3⟩ := hu
  obtain ⟨h4, h5, h6⟩ := hv
  unfold nxtC at e
  injection e with e1 e2
  dsimp only at *
  obtain ⟨k1, _, k3, k4, _⟩ := h.oc h1 h2 h3
  obtain ⟨l1, _, l3, l4, _⟩ := h.oc h4 h5 h6
  obtain ⟨_, _, _, m4, _⟩ := h.xr h1 k1 k3
  obtain ⟨_, _, _, o4, _⟩ := h.xr h4 l1 l3
  rw [e2] at e1 m4
  rw [e1] at m4
  have e3 : u1 = v1 := m4.symm.trans o4
  subst e3
  rw [Prod.mk.injEq]
  exact ⟨rfl, by rw [← k4, ← l4, e2]⟩
def Path (st : Nat × Nat) (f : Nat × Nat → Nat × Nat) : List (Nat × Nat) → Nat × Nat → Prop
  | [], u => u = st
  | v :: V, u => u = f v ∧ Path st f V v
theorem Path.suf {st : Nat × Nat} {f : Nat × Nat → Nat × Nat} {y : Nat × Nat} {L2 : List (Nat × Nat)} : ∀ {L1 : List (Nat × Nat)} {u : Nat × Nat}, Path st f (L1 ++ y :: L2) u → Path st f L2 y
  | [], _, h => h.2
  | _ :: _, _, h => h.2.suf
/-- A walk that comes to a column that it has met is at its start. -/
theorem Two.back (h : Two n c a b p q) {st u : Nat × Nat} {V : List (Nat × Nat)} (hP : Path st (nxtC a b p q) V u) (hn : (V.map (·.1)).Nodup) (hV : ∀ v ∈ V, cor n c v) (hu : cor n c u) (hm : u.1 ∈ V.map (·.1)) : u = st := by
  obtain ⟨w, hw, e⟩ := List.mem_map.1 hm
  cases V with
  | nil => exact absurd hw List.not_mem_nil
  | cons v V =>
    have hv := hV v List.mem_cons_self
    have huf := hP.1
    rw [List.map_cons, List.nodup_cons] at hn
    obtain ⟨L1, L2, hL⟩ := List.append_of_mem hw
    have hwc := hV w hw
    by_cases er : w = u
    · subst er
      have hsuf : Path st (nxtC a b p q) L2 w := Path.suf (L1 := L1) (u := w) (by rw [← hL]; exact hP)
      cases L2 with
      | nil => exact hsuf
      | cons z L2 =>
        have hz : z ∈ V := by
          cases L1 with
          | nil => simp only [List.nil_append, List.cons.injEq] at hL; rw [hL.2]; exact List.mem_cons_self
          | cons y L1 => simp only [List.cons_append, List.cons.injEq] at hL; rw [hL.2]; simp
        have := h.inj (hV z (List.mem_cons_of_mem _ hz)) hv (hsuf.1.symm.trans huf)
        exact absurd (List.mem_map.2 ⟨z, hz, by rw [this]⟩) hn.1
    · exfalso
      obtain ⟨h1, h2, h3⟩ := hv
      obtain ⟨k1, k2, k3, k4, _⟩ := h.oc h1 h2 h3
      obtain ⟨m1, m2, m3, m4, _⟩ := h.xr h1 k1 k3
      have eu1 : u.1 = p (a v.1 + b v.1 - v.2) + q (a v.1 + b v.1 - v.2) - v.1 := by rw [huf]; rfl
      have eu2 : u.2 = a v.1 + b v.1 - v.2 := by rw [huf]; rfl
      have hne : w.2 ≠ u.2 := fun k => er (Prod.ext e k)
      have hwu : a w.1 + b w.1 - w.2 = u.2 := by
        have j1 := (h.col w.1 w.2 hwc.1 hwc.2.1).1 hwc.2.2
        have j2 := (h.col u.1 u.2 hu.1 hu.2.1).1 hu.2.2
        rw [← e] at j2
        omega
      rcases List.eq_nil_or_concat L1 with rfl | ⟨L0, y, rfl⟩
      · simp only [List.nil_append, List.cons.injEq] at hL
        rw [← hL.1] at e
        rw [← eu1] at m2
        exact m2 e.symm
      · rw [List.concat_eq_append, List.append_assoc] at hL
        have hy : y = nxtC a b p q w := (Path.suf (L1 := L0) (u := u) (L2 := w :: L2) (y := y) (by rw [hL] at hP; exact hP)).1
        have hy1 : y.1 = v.1 := by
          rw [hy]
          unfold nxtC
          dsimp only
          rw [hwu, e, eu2, eu1]
          exact m4
        have hyv : y = v := by
          cases L0 with
          | nil => simp only [List.nil_append, List.cons_append, List.cons.injEq] at hL; exact hL.1.symm
          | cons z L0 =>
            simp only [List.cons_append, List.cons.injEq] at hL
            have : y ∈ V := by rw [hL.2]; simp
            exact absurd (List.mem_map.2 ⟨y, this, hy1⟩) hn.1
        have : y.2 = u.2 := by rw [hy]; exact hwu
        rw [hyv] at this
        omega
/-- Columns met, that hold with each corner the other one of its row. -/
def shut (n : Nat) (c : Nat → Nat → Bool) (D : List Bool) : Prop := ∀ r i j, r < n → i < n → j < n → c r i = true → c r j = true → D.getD i false = true → D.getD j false = true
theorem setB_getD {D : List Bool} {i k : Nat} (h : i < D.length) : (D.set i true).getD k false = true ↔ D.getD k false = true ∨ k = i := by
  rw [List.getD_eq_getElem?_getD, List.getD_eq_getElem?_getD, List.getElem?_set]
  by_cases e : i = k
  · subst e; simp [h]
  · rw [if_neg e]
    exact ⟨.inl, fun k' => k'.resolve_right fun k2 => e k2.symm⟩
theorem Two.other (h : Two n c a b p q) {r i j : Nat} (hr : r < n) (hi : i < n) (hj : j < n) (h1 : c r i = true) (h2 : c r j = true) (hne : j ≠ i) : j = p r + q r - i := by
  have k1 := (h.row r i hr hi).1 h1
  have k2 := (h.row r j hr hj).1 h2
  omega
theorem Two.closed (h : Two n c a b p q) {st u : Nat × Nat} {V : List (Nat × Nat)} (hP : Path st (nxtC a b p q) V u) (hV : ∀ v ∈ V, cor n c v) (hu : u = st) (hVne : V ≠ []) {r i j : Nat} (hr : r < n) (hi : i < n) (hj : j < n) (h1 : c r i = true) (h2 : c r j = true) (hne : j ≠ i) (hm : i ∈ V.map (·.1)) : j ∈ V.map (·.1) ∨ j = u.1 := by
  obtain ⟨w, hw, rfl⟩ := List.mem_map.1 hm
  have hj' := h.other hr hi hj h1 h2 hne
  have hwc := hV w hw
  obtain ⟨L1, L2, hL⟩ := List.append_of_mem hw
  have k1 := (h.col w.1 r hi hr).1 h1
  have k2 := (h.col w.1 w.2 hi hwc.2.1).1 hwc.2.2
  by_cases e : r = w.2
  · subst e
    have hsuf : Path st (nxtC a b p q) L2 w := Path.suf (L1 := L1) (u := u) (by rw [← hL]; exact hP)
    have key : ∀ v ∈ V, w = nxtC a b p q v → j ∈ V.map (·.1) := fun v hv ev => by
      obtain ⟨v1, v2, v3⟩ := hV v hv
      obtain ⟨o1, _, o3, _, _⟩ := h.oc v1 v2 v3
      obtain ⟨_, _, _, x4, _⟩ := h.xr v1 o1 o3
      have e1 : w.1 = p (a v.1 + b v.1 - v.2) + q (a v.1 + b v.1 - v.2) - v.1 := by rw [ev]; rfl
      have e2 : w.2 = a v.1 + b v.1 - v.2 := by rw [ev]; rfl
      refine List.mem_map.2 ⟨v, hv, ?_⟩
      rw [hj', e2, e1]
      exact x4.symm
    cases L2 with
    | nil =>
      have ew : w = u := (show w = st from hsuf).trans hu.symm
      cases V with
      | nil => exact absurd rfl hVne
      | cons v V => exact .inl (key v List.mem_cons_self (ew.trans hP.1))
    | cons z L2 => exact .inl (key z (by rw [hL]; simp) hsuf.1)
  · have er : r = a w.1 + b w.1 - w.2 := by omega
    have hnx : (nxtC a b p q w).1 = j := by
      rw [hj']
      unfold nxtC
      dsimp only
      rw [← er]
    rcases List.eq_nil_or_concat L1 with rfl | ⟨L0, y, rfl⟩
    · right
      rw [List.nil_append] at hL
      rw [hL] at hP
      rw [hP.1]
      exact hnx.symm
    · left
      rw [List.concat_eq_append, List.append_assoc] at hL
      have hy : y = nxtC a b p q w := (Path.suf (L1 := L0) (u := u) (L2 := w :: L2) (y := y) (by rw [hL] at hP; exact hP)).1
      exact List.mem_map.2 ⟨y, by rw [hL]; simp, by rw [hy]; exact hnx⟩
theorem Two.along (h : Two n c a b p q) {st row : Nat} (D0 : List Bool) (hD0 : shut n c D0) (hs0 : D0.getD st false = false) (h8 : n ≤ 8) : ∀ (f : Nat) (V : List (Nat × Nat)) (i r : Nat) (X O : List Nat) (D : List Bool), Path (st, row) (nxtC a b p q) V (i, r) → (V.map (·.1)).Nodup → (∀ v ∈ V, cor n c v) → (∀ v ∈ V, D0.getD v.1 false = false) → cor n c (i, r) → D.length = 8 →
    (∀ k, D.getD k false = true ↔ D0.getD k false = true ∨ k ∈ V.map (·.1)) → n < f + V.length →
    ∃ X' O' D', alongS n c st row f i r (X, O, D) = (true, (X', O', D')) ∧ walkI a b p q f i r (X, O, D) = (X', O', D') ∧ shut n c D' ∧ D'.length = 8 ∧ (∀ k, D0.getD k false = true → D'.getD k false = true) ∧ D'.getD st false = true
  | 0, V, i, r, X, O, D, _, hn, hV, _, _, _, _, hf => by
    exfalso
    have h1 := List.Nodup.length_le_of_subset hn (l₂ := List.range n) fun k hk => by
      obtain ⟨v, hv, rfl⟩ := List.mem_map.1 hk
      exact List.mem_range.2 (hV v hv).1
    rw [List.length_map, List.length_range] at h1
    omega
  | f + 1, V, i, r, X, O, D, hP, hn, hV, hV0, hu, hl, hD, hf => by
    unfold alongS walkI
    by_cases hd : D.getD i false = true
    · rw [if_pos hd, if_pos hd]
      have hVne : V ≠ [] := fun e => by
        subst e
        have e1 : (i, r) = (st, row) := hP
        injection e1 with e2 _
        rcases (hD i).1 hd with k | k
        · rw [e2, hs0] at k; cases k
        · exact absurd k List.not_mem_nil
      have hm : i ∈ V.map (·.1) := by
        rcases (hD i).1 hd with k | k
        · exfalso
          cases V with
          | nil => exact hVne rfl
          | cons v V =>
            obtain ⟨v1, v2, v3⟩ := hV v List.mem_cons_self
            obtain ⟨k1, _, k3, _, _⟩ := h.oc v1 v2 v3
            have huf : (i, r) = nxtC a b p q v := hP.1
            have er : r = a v.1 + b v.1 - v.2 := congrArg (·.2) huf
            have h5 := hD0 r i v.1 hu.2.1 hu.1 v1 hu.2.2 (by rw [er]; exact k3) k
            rw [hV0 v List.mem_cons_self] at h5
            cases h5
        · exact k
      have hb := h.back hP hn hV hu hm
      refine ⟨X, O, D, ?_, rfl, fun r' i' j' hr hi hj h1 h2 h3 => ?_, hl, fun k hk => (hD k).2 (.inl hk), ?_⟩
      · injection hb with e1 e2
        rw [decide_eq_true ⟨e1, e2⟩]
      · by_cases hne : j' = i'
        · rw [hne]; exact h3
        · rcases (hD i').1 h3 with k | k
          · exact (hD j').2 (.inl (hD0 r' i' j' hr hi hj h1 h2 k))
          · rcases h.closed hP hV hb hVne hr hi hj h1 h2 hne k with m | m
            · exact (hD j').2 (.inr m)
            · rw [m]; exact hd
      · injection hb with e1 e2
        rw [← e1]; exact hd
    · obtain ⟨k1, _, k3, _, k5⟩ := h.oc hu.1 hu.2.1 hu.2.2
      obtain ⟨_, _, _, _, m5⟩ := h.xr hu.1 k1 k3
      dsimp only at k1 k3 k5 m5
      rw [if_neg hd, if_neg hd, k5, if_neg (by omega), Int.toNat_natCast, m5, if_neg (by omega), Int.toNat_natCast]
      have hni : i ∉ V.map (·.1) := fun k => hd ((hD i).2 (.inr k))
      refine h.along D0 hD0 hs0 h8 f ((i, r) :: V) _ _ _ _ _ ⟨rfl, hP⟩ (List.nodup_cons.2 ⟨hni, hn⟩) (fun v hv => ?_) (fun v hv => ?_) (h.nxt hu) (by rw [List.length_set]; exact hl) (fun k => ?_) (by rw [List.length_cons]; omega)
      · rcases List.mem_cons.1 hv with rfl | hv
        · exact hu
        · exact hV v hv
      · rcases List.mem_cons.1 hv with rfl | hv
        · rw [Bool.eq_false_iff]
          exact fun k => hd ((hD _).2 (.inl k))
        · exact hV0 v hv
      · have hi8 : i < D.length := by have := hu.1; dsimp only at this; omega
        rw [setB_getD hi8, hD k, List.map_cons, List.mem_cons]
        constructor
        · rintro ((m | m) | m)
          · exact .inl m
          · exact .inr (.inr m)
          · exact .inr (.inl m)
        · rintro (m | m | m)
          · exact .inl (.inl m)
          · exact .inr m
          · exact .inl (.inr m)
theorem Two.low (h : Two n c a b p q) {k : Nat} (hk : k < n) : lowD (fun r => c r k) n n = ((a k : Nat) : Int) := by
  have h1 := h.ab k hk
  refine lowD_eq (p := fun r => c r k) (k := a k) ((h.col k (a k) hk (by omega)).2 (.inl rfl)) (by omega) (fun j hj => ?_) (Nat.le_refl _) (by omega)
  rw [Bool.eq_false_iff]
  intro e
  have := (h.col k j hk (by omega)).1 e
  omega
/-- Where each column and row has two corners, both walks leave the same. -/
theorem Two.grid (h : Two n c a b p q) (h8 : n ≤ 8) {s0 : WS} (hl0 : s0.2.2.length = 8) (hs0 : ∀ k, s0.2.2.getD k false = false) : ∀ k, k ≤ n → gridS n c s0 k = some (gridI n a b p q s0 k) ∧ shut n c (gridI n a b p q s0 k).2.2 ∧ (gridI n a b p q s0 k).2.2.length = 8
  | 0, _ => by
    refine ⟨rfl, fun r i j _ _ _ _ _ e => ?_, hl0⟩
    have e' : s0.2.2.getD i false = true := e
    rw [hs0 i] at e'
    cases e'
  | k + 1, hk => by
    obtain ⟨h1, h2, h3⟩ := h.grid h8 hl0 hs0 k (by omega)
    have hak := h.ab k (by omega)
    unfold gridS gridI
    rw [h1]
    dsimp only
    rw [h.low (show k < n by omega), Int.toNat_natCast]
    clear h1
    generalize gridI n a b p q s0 k = s at h2 h3 ⊢
    obtain ⟨X, O, D⟩ := s
    dsimp only at h2 h3 ⊢
    by_cases hd : D.getD k false = true
    · rw [if_pos hd]
      unfold walkI
      rw [if_pos hd]
      exact ⟨rfl, h2, h3⟩
    · rw [if_neg hd, if_neg (by omega)]
      obtain ⟨X', O', D', e1, e2, e3, e4, _, _⟩ := h.along (row := a k) D h2 (Bool.eq_false_iff.2 hd) h8 (n + 1) [] k (a k) X O D rfl List.nodup_nil (fun v hv => absurd hv List.not_mem_nil) (fun v hv => absurd hv List.not_mem_nil) ⟨by omega, by dsimp only; omega, (h.col k (a k) (by omega) (by omega)).2 (.inl rfl)⟩ h3 (fun j => by simp) (by simp)
      rw [e1, e2, if_pos rfl]
      exact ⟨rfl, e3, e4⟩
end
end Go.Proofs.Ythijakignhjmgaa
