/- Plain: the canonical grid of a canonical grid; grids made smaller. -/
import Derived.Test.YtflleelfkknfaaaLD
namespace Go.Proofs.Ytflleelfkknfaaa
open Go Go.RowKit SL
theorem rol_rol {n v u v' u' : Nat} {X : List Nat} (hn : 0 < n) (h8 : n ≤ 8) : rol n v u (rol n v' u' X n) n = rol n ((v' + v) % n) ((u' + u) % n) X n := by
  refine list8_ext (rol_len ..) (rol_len ..) fun i _ => ?_
  by_cases h : i < n
  · obtain ⟨k, hk, e1⟩ : ∃ k, k < n ∧ (k + u) % n = i := ⟨(i + n - u % n) % n, Nat.mod_lt _ hn, back_to hn h⟩
    obtain ⟨j, hj, e2⟩ : ∃ j, j < n ∧ (j + u') % n = k := ⟨(k + n - u' % n) % n, Nat.mod_lt _ hn, back_to hn hk⟩
    have a1 : (rol n v u (rol n v' u' X n) n).getD i 0 = ((rol n v' u' X n).getD k 0 + v) % n := by rw [← e1]; exact rol_to hn h8 hk
    have a2 : (rol n v' u' X n).getD k 0 = (X.getD j 0 + v') % n := by rw [← e2]; exact rol_to hn h8 hj
    have e3 : (j + (u' + u) % n) % n = i := by rw [Nat.add_mod_mod, ← Nat.add_assoc, ← Nat.mod_add_mod, e2, e1]
    have a3 : (rol n ((v' + v) % n) ((u' + u) % n) X n).getD i 0 = (X.getD j 0 + (v' + v) % n) % n := by
      have := rol_to (v := (v' + v) % n) (u := (u' + u) % n) (X := X) hn h8 hj
      rw [e3] at this
      exact this
    rw [a1, a2, a3, Nat.mod_add_mod, Nat.add_mod_mod, Nat.add_assoc]
  · rw [rol_out hn h8 (by omega), rol_out hn h8 (by omega)]
theorem can_can {n : Nat} {X O : List Nat} (g : okG (n : Int) X O) : can n (can n (X, O)) = can n (X, O) := by
  have hg := g.1
  have h2 : 2 ≤ n := by omega
  have h8 : n ≤ 8 := by omega
  have hn : 0 < n := by omega
  have pX := g.2.1
  simp only [Int.toNat_natCast] at pX
  obtain ⟨⟨v, u, hv, hu, e⟩, hmin⟩ := can_min (g := (X, O)) h2 h8 pX
  have gc : okG (n : Int) (can n (X, O)).1 (can n (X, O)).2 ∧ isB (can n (X, O)).1 ∧ isB (can n (X, O)).2 := cS_ok (k := n - 1) g
  generalize can n (X, O) = c at *
  have p1 := gc.1.2.1
  have p2 := gc.1.2.2.1
  simp only [Int.toNat_natCast] at p1 p2
  refine isMin_unique h2 h8 (can_min h2 h8 p1) ⟨⟨0, 0, hn, hn, ?_⟩, fun a b ha hb => ?_⟩
  · rw [rolG, rol_zero h2 h8 p1 gc.2.1.1, rol_zero h2 h8 p2 gc.2.2.1]
  · have e2 : rolG n a b c = rolG n ((v + a) % n) ((u + b) % n) (X, O) := by
      rw [e]
      unfold rolG
      rw [rol_rol hn h8, rol_rol hn h8]
    rw [e2]
    exact hmin _ _ (Nat.mod_lt _ hn) (Nat.mod_lt _ hn)
theorem canB_idem {p : GridB} (h : okB p) : canB (canB p) = canB p := by
  have h1 := canB_val h
  have h2 := canB_val (canB_spec h).1
  obtain ⟨n, X, O, b, rfl, g⟩ := okB_nat h
  dsimp only at h1
  rw [Int.toNat_natCast] at h1
  rw [h1.1, Int.toNat_natCast, h1.2, can_can g, ← h1.2] at h2
  exact Subtype.ext (Prod.ext (h2.1.trans h1.1.symm) (Prod.ext (congrArg Prod.fst h2.2) (congrArg Prod.snd h2.2)))
theorem nb_can {g y : GridB} (hg : okB g) (h : y ∈ nbL g) : canB y = y := by
  obtain ⟨_, v, u, hv, hu, m, hm, rfl⟩ := nbL_ok h
  exact canB_idem (resB_spec (rolB_spec hg hv hu).1 hm).1
theorem fld_ext : ∀ (l : List GridB) (S F : List GridB) (q : RSt), fld (some (S, F)) l = some q → ∃ T, q = (S ++ T, F ++ T) ∧ ∀ y ∈ T, y ∈ l
  | [], S, F, q, e => ⟨[], by cases e; simp, fun _ h => by cases h⟩
  | x :: l, S, F, q, e => by
    have e1 : fld (some (S, F)) (x :: l) = fld (addG (some (S, F)) x) l := rfl
    rw [e1] at e
    by_cases hx : x ∈ S
    · rw [addG_old hx] at e
      obtain ⟨T, h1, h2⟩ := fld_ext l S F q e
      exact ⟨T, h1, fun y hy => List.mem_cons_of_mem _ (h2 y hy)⟩
    · by_cases hl : S.length < 300
      · rw [addG_new hx hl] at e
        obtain ⟨T, h1, h2⟩ := fld_ext l _ _ q e
        refine ⟨x :: T, by rw [h1]; simp, fun y hy => ?_⟩
        rcases List.mem_cons.1 hy with rfl | hy
        · exact List.mem_cons_self
        · exact List.mem_cons_of_mem _ (h2 y hy)
      · rw [addG_full hx hl, fld_none] at e
        cases e
theorem rnd_ext {q q' : RSt} (h : rnd q = some q') : q'.1 = q.1 ++ q'.2 ∧ ∀ y ∈ q'.2, ∃ g ∈ q.2, y ∈ nbL g := by
  obtain ⟨T, rfl, h2⟩ := fld_ext _ _ _ _ h
  exact ⟨rfl, fun y hy => List.mem_flatMap.1 (h2 y hy)⟩
theorem rnds_can {p : GridB} (hp : okB p) (hc : canB p = p) : ∀ {k : Nat} {q : RSt}, rnds p k = some q → ∀ y ∈ q.1, canB y = y
  | 0, q, e, y, hy => by
    cases e
    obtain rfl := List.mem_singleton.1 hy
    exact hc
  | k + 1, q, e, y, hy => by
    cases e1 : rnds p k with
    | none => rw [rnds_none e1 (Nat.le_succ k)] at e; cases e
    | some r =>
      rw [rnds_succ e1] at e
      obtain ⟨h1, h2⟩ := rnd_ext e
      rw [h1] at hy
      rcases List.mem_append.1 hy with hy | hy
      · exact rnds_can hp hc e1 y hy
      · obtain ⟨g, hg, hy⟩ := h2 y hy
        have hri := rnds_RI hp e1
        exact nb_can (hri.ok g (hri.sub g hg)) hy
theorem size_le {x y : GridB} (h : rkG x ≤ rkG y) : x.1.1 ≤ y.1.1 := by
  have := rkG_lt y x
  by_cases e : y.1.1 < x.1.1
  · have := this.2 (by omega)
    omega
  · omega
theorem size_lt {x y : GridB} (h : x.1.1 < y.1.1) : rkG x < rkG y := (rkG_lt x y).2 (by omega)
open Classical in
/-- The least of a list. -/
noncomputable def lst (S : List GridB) (d : GridB) : GridB := if h : ∃ x ∈ S, ∀ y ∈ S, rkG x ≤ rkG y then h.choose else d
theorem lst_eq {S : List GridB} {x d : GridB} (hx : x ∈ S) (hl : ∀ y ∈ S, rkG x ≤ rkG y) : lst S d = x := by
  have h : ∃ x ∈ S, ∀ y ∈ S, rkG x ≤ rkG y := ⟨x, hx, hl⟩
  unfold lst
  rw [dif_pos h]
  exact rkG_inj (Int.le_antisymm (h.choose_spec.2 x hx) (hl _ h.choose_spec.1))
theorem lst_spec {d : GridB} : ∀ {S : List GridB}, S ≠ [] → lst S d ∈ S ∧ ∀ y ∈ S, rkG (lst S d) ≤ rkG y := by
  intro S hS
  have h : ∃ x ∈ S, ∀ y ∈ S, rkG x ≤ rkG y := by
    induction S with
    | nil => exact absurd rfl hS
    | cons x S ih =>
      by_cases e : S = []
      · subst e
        exact ⟨x, List.mem_cons_self, fun y hy => by obtain rfl := List.mem_singleton.1 hy; exact Int.le_refl _⟩
      · obtain ⟨z, hz, hz2⟩ := ih e
        by_cases hxz : rkG x ≤ rkG z
        · exact ⟨x, List.mem_cons_self, fun y hy => by
            rcases List.mem_cons.1 hy with rfl | hy
            · exact Int.le_refl _
            · exact Int.le_trans hxz (hz2 y hy)⟩
        · exact ⟨z, List.mem_cons_of_mem _ hz, fun y hy => by
            rcases List.mem_cons.1 hy with rfl | hy
            · omega
            · exact hz2 y hy⟩
  unfold lst
  rw [dif_pos h]
  exact h.choose_spec
open Classical in
/-- The search for a smaller grid: so many rounds may still be made, k have been. -/
noncomputable def smF (p : GridB) : Nat → Nat → Option (Option GridB)
  | 0, _ => some none
  | f + 1, k => match rnds p (k + 1) with
    | none => none
    | some q => if ∃ x ∈ q.1, x.1.1 < p.1.1 then some (some (lst q.1 p)) else smF p f (k + 1)
theorem smF_fail {p : GridB} {f k : Nat} (h : rnds p (k + 1) = none) : smF p (f + 1) k = none := by simp only [smF, h]
theorem smF_hit {p m : GridB} {f k : Nat} {q : RSt} (h : rnds p (k + 1) = some q) (hm : m ∈ q.1) (hl : ∀ y ∈ q.1, rkG m ≤ rkG y) (hs : m.1.1 < p.1.1) : smF p (f + 1) k = some (some m) := by
  have hx : ∃ x ∈ q.1, x.1.1 < p.1.1 := ⟨m, hm, hs⟩
  simp only [smF, h, if_pos hx, lst_eq hm hl]
theorem smF_next {p : GridB} {f k : Nat} {q : RSt} (h : rnds p (k + 1) = some q) (hn : ∀ x ∈ q.1, p.1.1 ≤ x.1.1) : smF p (f + 1) k = smF p f (k + 1) := by
  have hx : ¬ ∃ x ∈ q.1, x.1.1 < p.1.1 := fun ⟨x, h1, h2⟩ => by have := hn x h1; omega
  simp only [smF, h, if_neg hx]
theorem smF_stop {p : GridB} {S : List GridB} (hn : ∀ x ∈ S, p.1.1 ≤ x.1.1) : ∀ {f k : Nat}, rnds p k = some (S, []) → smF p f k = some none
  | 0, _, _ => rfl
  | f + 1, k, h => by
    have h1 := rnds_stop h (Nat.le_succ k)
    rw [smF_next h1 hn]
    exact smF_stop hn h1
theorem smF_spec {p m : GridB} (hp : okB p) (hc : canB p = p) : ∀ {f k : Nat}, smF p f k = some (some m) → okB m ∧ canB m = m ∧ m.1.1 < p.1.1
  | 0, _, h => by cases h
  | f + 1, k, h => by
    cases e : rnds p (k + 1) with
    | none => rw [smF_fail e] at h; cases h
    | some q =>
      by_cases hx : ∃ x ∈ q.1, x.1.1 < p.1.1
      · obtain ⟨x, hx1, hx2⟩ := hx
        have hl := lst_spec (d := p) (List.ne_nil_of_mem hx1)
        have hs : (lst q.1 p).1.1 < p.1.1 := by
          have := size_le (hl.2 x hx1)
          omega
        rw [smF_hit e hl.1 hl.2 hs] at h
        cases h
        exact ⟨(rnds_RI hp e).ok _ hl.1, rnds_can hp hc e _ hl.1, hs⟩
      · rw [smF_next e fun x hx1 => by
          by_cases hlt : x.1.1 < p.1.1
          · exact absurd ⟨x, hx1, hlt⟩ hx
          · omega] at h
        exact smF_spec hp hc h
/-- A grid made simple: so many steps may be made. -/
noncomputable def simF : Nat → GridB → Option GridB
  | 0, _ => none
  | f + 1, p => match smF p 6 0 with
    | none => none
    | some none => some p
    | some (some m) => simF f m
theorem simF_lim {f : Nat} {p : GridB} (h : smF p 6 0 = none) : simF (f + 1) p = none := by simp only [simF, h]
theorem simF_done {f : Nat} {p : GridB} (h : smF p 6 0 = some none) : simF (f + 1) p = some p := by simp only [simF, h]
theorem simF_step {f : Nat} {p m : GridB} (h : smF p 6 0 = some (some m)) : simF (f + 1) p = simF f m := by simp only [simF, h]
end Go.Proofs.Ytflleelfkknfaaa
