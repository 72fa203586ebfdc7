/- Plain: dividing tables of a knot. -/
import Derived.Test.YtmbbcmebdefggaaGreatDoorEN
import Derived.Test.YtmbbcmebdefggaaGreatDoorVN
namespace Go.Proofs.YtmbbcmebdefggaaGreatDoor
def upG (g : GrB) : GrB := (g.1 + 2, g.2 + 1)
def dnG (g : GrB) : GrB := (g.1 - 2, g.2 - 1)
theorem up_dn (g k : GrB) : upG g = k ↔ g = dnG k := by
  unfold upG dnG
  constructor
  · rintro rfl; exact Prod.ext (by show g.1 = g.1 + 2 - 2; omega) (by show g.2 = g.2 + 1 - 1; omega)
  · rintro rfl; exact Prod.ext (by show k.1 - 2 + 2 = k.1; omega) (by show k.2 - 1 + 1 = k.2; omega)
theorem dn_lt (k : GrB) : gLt (dnG k) k := .inl (by show k.1 - 2 < k.1; omega)
theorem lt_up (k : GrB) : gLt k (upG k) := .inl (by show k.1 < k.1 + 2; omega)
/-- Half divided: R is left of Q + (Q shifted), out is met. -/
structure Dv (Q : GrB → Int) (R out : TB) : Prop where
  rnd : (R.map (·.1)).Nodup
  rnz : ∀ e ∈ R, e.2 ≠ 0
  ond : (out.map (·.1)).Nodup
  onz : ∀ e ∈ out, e.2 ≠ 0
  oval : ∀ e ∈ out, e.2 = Q e.1
  val : ∀ g, vT R g = (Q g - vT out g) + (Q (upG g) - vT out (upG g))
theorem vT_out {T : TB} {g : GrB} (h : g ∉ T.map (·.1)) : vT T g = 0 := by
  unfold vT
  cases hl : lkM T g with
  | none => rfl
  | some v => exact absurd ((lkM_isSome T g).1 (by rw [hl]; rfl)) h
theorem vT_in {T : TB} (hn : (T.map (·.1)).Nodup) (hz : ∀ e ∈ T, e.2 ≠ 0) {g : GrB} : vT T g ≠ 0 ↔ g ∈ T.map (·.1) := by
  constructor
  · intro h
    exact Classical.byContradiction fun k => h (vT_out k)
  · intro h
    obtain ⟨e, he, rfl⟩ := List.mem_map.1 h
    rw [vT_mem hn he]
    exact hz e he
theorem Dv.start {Q : GrB → Int} {R : TB} (h1 : (R.map (·.1)).Nodup) (h2 : ∀ e ∈ R, e.2 ≠ 0) (h3 : ∀ g, vT R g = Q g + Q (upG g)) : Dv Q R [] :=
  ⟨h1, h2, List.nodup_nil, fun e he => absurd he List.not_mem_nil, fun e he => absurd he List.not_mem_nil, fun g => by rw [h3, vT_nil, vT_nil]; omega⟩
theorem Dv.left {Q : GrB → Int} {R out : TB} (hq : ∀ g, 0 ≤ Q g) (d : Dv Q R out) (g : GrB) : vT out g = 0 ∨ vT out g = Q g := by
  by_cases h : g ∈ out.map (·.1)
  · obtain ⟨e, he, rfl⟩ := List.mem_map.1 h
    rw [vT_mem d.ond he]
    exact .inr (d.oval e he)
  · exact .inl (vT_out h)
theorem Dv.pick {Q : GrB → Int} {R out : TB} (hq : ∀ g, 0 ≤ Q g) (d : Dv Q R out) {k : GrB} {n : Int} (hk : (k, n) ∈ R) (hmax : ∀ e ∈ R, ¬ gLt k e.1) : n = Q k ∧ vT out k = 0 ∧ k ∉ out.map (·.1) ∧ 0 < n := by
  have hn := d.rnz _ hk
  have hv := vT_mem d.rnd hk
  have h1 := d.val k
  have h2 := d.val (upG k)
  have hF : ∀ g, 0 ≤ Q g - vT out g := fun g => by
    rcases d.left hq g with h | h
    · rw [h]; have := hq g; omega
    · rw [h]; omega
  have h3 : vT R (upG k) = 0 := Classical.byContradiction fun h => by
    obtain ⟨e, he, e2⟩ := List.mem_map.1 ((vT_in d.rnd d.rnz).1 h)
    exact hmax e he (by rw [e2]; exact lt_up k)
  have h4 := hF (upG k)
  have h5 := hF (upG (upG k))
  have h6 : vT R k = n := hv
  have h7 : Q k - vT out k = n := by omega
  rcases d.left hq k with h | h
  · have := hq k
    refine ⟨by omega, h, fun hm => ?_, by omega⟩
    exact absurd h ((vT_in d.ond d.onz).2 hm)
  · exfalso
    have hn' : n ≠ 0 := hn
    omega
theorem Dv.step {Q : GrB → Int} {R out R' out' : TB} (hq : ∀ g, 0 ≤ Q g) (d : Dv Q R out) {k : GrB} {n : Int} (hk : (k, n) ∈ R) (hmax : ∀ e ∈ R, ¬ gLt k e.1)
    (r1 : (R'.map (·.1)).Nodup) (r2 : ∀ e ∈ R', e.2 ≠ 0) (r3 : ∀ g, vT R' g = vT R g + (if g = k then -n else 0) + (if g = dnG k then -n else 0)) (o1 : (out'.map (·.1)).Nodup) (o2 : ∀ e, e ∈ out' ↔ e = (k, n) ∨ e ∈ out) : Dv Q R' out' := by
  obtain ⟨h1, h2, h3, h4⟩ := d.pick hq hk hmax
  have hv : ∀ g, vT out' g = vT out g + if g = k then n else 0 := fun g => by
    by_cases e : g = k
    · subst e
      rw [if_pos rfl, h2]
      have := vT_mem o1 ((o2 (g, n)).2 (.inl rfl))
      rw [this]
      show n = 0 + n
      omega
    · rw [if_neg e, Int.add_zero]
      by_cases hm : g ∈ out.map (·.1)
      · obtain ⟨x, hx, rfl⟩ := List.mem_map.1 hm
        rw [vT_mem d.ond hx, vT_mem o1 ((o2 x).2 (.inr hx))]
      · rw [vT_out hm, vT_out fun hm' => by
          obtain ⟨x, hx, rfl⟩ := List.mem_map.1 hm'
          rcases (o2 x).1 hx with rfl | hx
          · exact e rfl
          · exact hm (List.mem_map.2 ⟨x, hx, rfl⟩)]
  refine ⟨r1, r2, o1, fun e he => ?_, fun e he => ?_, fun g => ?_⟩
  · rcases (o2 e).1 he with rfl | he
    · show n ≠ 0; omega
    · exact d.onz e he
  · rcases (o2 e).1 he with rfl | he
    · exact h1
    · exact d.oval e he
  · rw [r3, d.val, hv, hv]
    by_cases e1 : g = k <;> by_cases e2 : g = dnG k
    · rw [if_pos e1, if_pos e2, if_pos e1, if_pos ((up_dn g k).2 e2)]; omega
    · rw [if_pos e1, if_neg e2, if_pos e1, if_neg fun h => e2 ((up_dn g k).1 h)]; omega
    · rw [if_neg e1, if_pos e2, if_neg e1, if_pos ((up_dn g k).2 e2)]; omega
    · rw [if_neg e1, if_neg e2, if_neg e1, if_neg fun h => e2 ((up_dn g k).1 h)]; omega
theorem Dv.done {Q : GrB → Int} {out : TB} (hq : ∀ g, 0 ≤ Q g) (d : Dv Q [] out) (g : GrB) : vT out g = Q g := by
  have h1 := d.val g
  rw [vT_nil] at h1
  have hF : ∀ g, 0 ≤ Q g - vT out g := fun g => by
    rcases d.left hq g with h | h
    · rw [h]; have := hq g; omega
    · rw [h]; omega
  have h2 := hF g
  have h3 := hF (upG g)
  omega
/-! The numbers of a knot. -/
section
variable {n : Nat} {X O : List Nat}
/-- What the division asks for. -/
structure Tower (n : Nat) (X O : List Nat) (Q : Nat → GrB → Int) : Prop where
  zero : ∀ g, Q 0 g = hN n X O g
  nn : ∀ i, i < n → ∀ g, 0 ≤ Q i g
  split : ∀ i, i + 1 < n → ∀ g, Q i g = Q (i + 1) g + Q (i + 1) (upG g)
theorem knot_tower (g0 : okG (n : Int) X O) (h8 : n ≤ 8) (h1 : comps n X O = 1) : ∃ Q, Tower n X O Q := by
  obtain ⟨c, hc⟩ := knot_cyc g0 h1
  have g := okG.grd g0
  have hL := stB_all h8
  have K := knotK g hL hc
  have h2 := g.h2
  refine ⟨fun i q => qh (stB n) (grP n X O) (op n (marks n X O) (stB n) []) (fun i => op n (marks n X O) (stB n) [mrk O (c i)]) i q, fun q => ?_, fun i hi q => K.q_nonneg (by omega) q, fun i hi q => K.q_split (by omega) q⟩
  show qh _ _ _ _ 0 q = _
  rw [K.q_zero, cN_dm h8]
  unfold hN
  rw [rN_bg g0 h8, rN_bg g0 h8]
  have e : sh ((q.1, q.2 + 1) : GrB) 0 (-1) = q := by unfold sh; exact Prod.ext (Int.add_zero _) (by show q.2 + 1 + -1 = q.2; omega)
  rw [e]
theorem Tower.supp {Q : Nat → GrB → Int} (t : Tower n X O Q) (g0 : okG (n : Int) X O) (h6 : n ≤ 6) : ∀ i, i < n → ∀ g, Q i g ≠ 0 → cN n X O g ≠ 0
  | 0, _, g, h => fun k => h (by rw [t.zero, hN_out g0 h6 k])
  | i + 1, hi, g, h => by
    refine t.supp g0 h6 i (by omega) g fun k => h ?_
    have h1 := t.split i hi g
    have h2 := t.nn (i + 1) hi g
    have h3 := t.nn (i + 1) hi (upG g)
    omega
end
end Go.Proofs.YtmbbcmebdefggaaGreatDoor
namespace Go.Proofs.YtmbbcmebdefggaaGreatDoor
/-! The homology of a knot is not 0. -/
def sN (F : Nat → Nat) : Nat → Nat
  | 0 => 0
  | k + 1 => sN F k + F k
theorem sN_congr {F G : Nat → Nat} : ∀ {k : Nat}, (∀ j, j < k → F j = G j) → sN F k = sN G k
  | 0, _ => rfl
  | k + 1, h => by rw [sN, sN, sN_congr fun j hj => h j (by omega), h k (by omega)]
theorem sN_add (F G : Nat → Nat) : ∀ k, sN (fun j => F j + G j) k = sN F k + sN G k
  | 0 => rfl
  | k + 1 => by rw [sN, sN, sN, sN_add F G k]; omega
theorem sN_one (i : Nat) : ∀ k, sN (fun j => if i = j then 1 else 0) k = if i < k then 1 else 0
  | 0 => rfl
  | k + 1 => by
    rw [sN, sN_one i k]
    by_cases h : i = k
    · rw [if_pos h, if_neg (by omega), if_pos (by omega)]
    · rw [if_neg h]
      by_cases h2 : i < k
      · rw [if_pos h2, if_pos (by omega)]
      · rw [if_neg h2, if_neg (by omega)]
theorem sN_part {α : Type} (f : α → Nat) (N : Nat) : ∀ S : List α, (∀ x ∈ S, f x < N) → sN (fun j => (S.filter fun x => decide (f x = j)).length) N = S.length
  | [], _ => by
    have : ∀ k, sN (fun _ => 0) k = 0 := fun k => by
      induction k with
      | zero => rfl
      | succ k ih => rw [sN, ih]
    exact this N
  | x :: S, h => by
    have ih := sN_part f N S fun y hy => h y (List.mem_cons_of_mem _ hy)
    rw [List.length_cons, ← ih]
    have e : ∀ j, ((x :: S).filter fun x => decide (f x = j)).length = (S.filter fun x => decide (f x = j)).length + if f x = j then 1 else 0 := fun j => by
      by_cases k : f x = j
      · rw [List.filter_cons_of_pos (by rw [decide_eq_true k]), List.length_cons, if_pos k]
      · rw [List.filter_cons_of_neg (by rw [decide_eq_false k]; decide), if_neg k]; rfl
    rw [sN_congr fun j _ => e j, sN_add, sN_one, if_pos (h x List.mem_cons_self)]
theorem sN_two (r : Nat → Nat) : ∀ N, sN (fun j => r j + r (j + 1)) N + r 0 = 2 * sN r N + r N
  | 0 => by show 0 + r 0 = 2 * 0 + r 0; omega
  | N + 1 => by
    have := sN_two r N
    rw [sN, sN]
    omega
theorem Tower.some {n : Nat} {X O : List Nat} {Q : Nat → GrB → Int} (t : Tower n X O Q) (g0 : okG (n : Int) X O) (h6 : n ≤ 6) (h1 : comps n X O = 1) : ∃ g, Q (n - 1) g ≠ 0 := by
  apply Classical.byContradiction
  intro hno
  have hn2 := (okG.grd g0).h2
  have hz : ∀ d i, i + d + 1 = n → ∀ g, Q i g = 0 := fun d => by
    induction d with
    | zero =>
      intro i hi g
      obtain rfl : i = n - 1 := by omega
      exact Classical.byContradiction fun k => hno ⟨g, k⟩
    | succ d ih =>
      intro i hi g
      rw [t.split i (by omega), ih (i + 1) (by omega), ih (i + 1) (by omega)]; rfl
  have hh : ∀ g, hN n X O g = 0 := fun g => by rw [← t.zero]; exact hz (n - 1) 0 (by omega) g
  obtain ⟨a, ha⟩ := knot_odd g0 h1 (stB_all (n := n) (by omega))
  have hm : ∀ x : StB, -127 ≤ (grP n X O x).2 ∧ (grP n X O x).2 ≤ 129 := fun x => mX_bd (n := n) (by omega) x.1 O
  have hp := sN_part (fun x : StB => ((grP n X O x).2 + 150).toNat) 300 ((stB n).filter fun x => decide ((grP n X O x).1 = a)) fun x _ => by have := hm x; omega
  have hc : ∀ j : Nat, j < 300 → (((stB n).filter fun x => decide ((grP n X O x).1 = a)).filter fun x => decide (((grP n X O x).2 + 150).toNat = j)).length = rN n X O (a, (j : Int) - 150) + rN n X O (a, ((j + 1 : Nat) : Int) - 150) := fun j hj => by
    have e1 : (((stB n).filter fun x => decide ((grP n X O x).1 = a)).filter fun x => decide (((grP n X O x).2 + 150).toNat = j)) = (stB n).filter (selG n X O a ((j : Int) - 150)) := by
      rw [List.filter_filter]
      refine List.filter_congr fun x _ => ?_
      have hb := hm x
      unfold selG
      rw [Bool.eq_iff_iff, Bool.and_eq_true, decide_eq_true_iff, decide_eq_true_iff, decide_eq_true_iff]
      constructor
      · rintro ⟨k1, k2⟩
        exact Prod.ext k2 (by show (grP n X O x).2 = (j : Int) - 150; omega)
      · intro k
        have k1 : (grP n X O x).1 = a := congrArg Prod.fst k
        have k2 : (grP n X O x).2 = (j : Int) - 150 := congrArg Prod.snd k
        exact ⟨by omega, k1⟩
    rw [e1]
    have h2 := hh (a, (j : Int) - 150)
    unfold hN cN at h2
    dsimp only at h2
    rw [show (((j + 1 : Nat) : Int) - 150) = (j : Int) - 150 + 1 by omega]
    omega
  rw [sN_congr hc] at hp
  have h2 := sN_two (fun j => rN n X O (a, (j : Int) - 150)) 300
  have e0 : ∀ m : Int, m < -127 ∨ 129 < m → rN n X O (a, m) = 0 := fun m hmm => rN_zero (by
    show ((stB n).filter (selG n X O a m)).length = 0
    rw [List.length_eq_zero_iff, List.filter_eq_nil_iff]
    intro x _ k
    have k1 : grd n X O x = (a, m) := of_decide_eq_true k
    have k2 : (grP n X O x).2 = m := congrArg Prod.snd k1
    have := hm x
    omega)
  have z0 : rN n X O (a, ((0 : Nat) : Int) - 150) = 0 := e0 _ (by omega)
  have z1 : rN n X O (a, ((300 : Nat) : Int) - 150) = 0 := e0 _ (by omega)
  rw [z0, z1] at h2
  omega
end Go.Proofs.YtmbbcmebdefggaaGreatDoor
