/- Plain: sums by the first number of grades. Walks: the program's sums by grades. -/
import Derived.Test.YthijakignhjmgaaKB
import Derived.Test.YthijakignhjmgaaKF
namespace Go.Proofs.Ythijakignhjmgaa
open Go Go.RowKit SL
/-- What a line of counts adds. -/
def ownC (p : GrB × Nat) : Int := if p.1.2.tmod 2 ≠ 0 then -(p.2 : Int) else (p.2 : Int)
theorem ownC_odd {k : GrB} {c : Nat} (h : k.2.tmod 2 ≠ 0) : ownC (k, c) = -(c : Int) := if_pos h
theorem ownC_even {k : GrB} {c : Nat} (h : k.2.tmod 2 = 0) : ownC (k, c) = (c : Int) := if_neg fun k => k h
theorem ownC_bd (p : GrB × Nat) : -(p.2 : Int) ≤ ownC p ∧ ownC p ≤ p.2 := by
  unfold ownC
  split <;> omega
def sumA : List (GrB × Nat) → Int → Int
  | [], _ => 0
  | p :: C, a => (if p.1.1 = a then ownC p else 0) + sumA C a
theorem sumA_snoc (p : GrB × Nat) (a : Int) : ∀ C : List (GrB × Nat), sumA (C ++ [p]) a = sumA C a + if p.1.1 = a then ownC p else 0
  | [] => by simp [sumA]
  | q :: C => by
    rw [List.cons_append, sumA, sumA, sumA_snoc p a C]
    omega
theorem sumA_perm {C D : List (GrB × Nat)} (h : C.Perm D) (a : Int) : sumA C a = sumA D a := by
  induction h with
  | nil => rfl
  | cons p _ ih => rw [sumA, sumA, ih]
  | swap p q l => simp only [sumA]; omega
  | trans _ _ h1 h2 => exact h1.trans h2
theorem sumA_bd {K : Nat} (a : Int) : ∀ {C : List (GrB × Nat)}, (∀ p ∈ C, p.2 ≤ K) → -((C.length * K : Nat) : Int) ≤ sumA C a ∧ sumA C a ≤ ((C.length * K : Nat) : Int)
  | [], _ => by simp [sumA]
  | p :: C, h => by
    have h1 := h p List.mem_cons_self
    have h2 := sumA_bd a (C := C) fun q hq => h q (List.mem_cons_of_mem _ hq)
    have h3 := ownC_bd p
    have e : (p :: C).length * K = C.length * K + K := by rw [List.length_cons, Nat.add_one_mul]
    rw [e, sumA]
    split <;> omega
/-- A table of sums. -/
def sumOKs (C : List (GrB × Nat)) (D : List (Int × Int)) : Prop := D.Pairwise (fun p q => p.1 < q.1) ∧ ∀ a s, (a, s) ∈ D ↔ (∃ p ∈ C, p.1.1 = a) ∧ s = sumA C a
theorem sumOKs.ext {C : List (GrB × Nat)} {D E : List (Int × Int)} (h : sumOKs C D) (h' : sumOKs C E) : D = E :=
  pw_ext (fun p => Int.lt_irrefl p.1) (fun _ _ h k => Int.lt_irrefl _ (Int.lt_trans h k)) h.1 h'.1 fun ⟨a, s⟩ => (h.2 a s).trans (h'.2 a s).symm
theorem sumOKs.nil : sumOKs [] [] := ⟨.nil, fun a s => ⟨fun h => absurd h List.not_mem_nil, fun ⟨⟨p, hp, _⟩, _⟩ => absurd hp List.not_mem_nil⟩⟩
theorem sumOKs.perm {C C' : List (GrB × Nat)} {D : List (Int × Int)} (h : sumOKs C D) (hp : C.Perm C') : sumOKs C' D :=
  ⟨h.1, fun a s => by
    rw [h.2 a s, sumA_perm hp a]
    constructor
    · rintro ⟨⟨p, hm, e⟩, k⟩; exact ⟨⟨p, hp.mem_iff.1 hm, e⟩, k⟩
    · rintro ⟨⟨p, hm, e⟩, k⟩; exact ⟨⟨p, hp.mem_iff.2 hm, e⟩, k⟩⟩
theorem sumOKs.upd {C : List (GrB × Nat)} {D : List (Int × Int)} {a s : Int} {p : GrB × Nat} (h : sumOKs C (D ++ [(a, s)])) (hp : p.1.1 = a) : sumOKs (C ++ [p]) (D ++ [(a, s + ownC p)]) := by
  obtain ⟨h1, h2⟩ := h
  rw [List.pairwise_append] at h1
  obtain ⟨p1, _, p4⟩ := h1
  have hD : ∀ q ∈ D, q.1 < a := fun q hq => p4 q hq (a, s) List.mem_cons_self
  have hs := ((h2 a s).1 (List.mem_append.2 (.inr List.mem_cons_self))).2
  refine ⟨?_, fun a' s' => ?_⟩
  · rw [List.pairwise_append]
    refine ⟨p1, List.pairwise_singleton .., fun q hq r hr => ?_⟩
    rw [List.mem_singleton.1 hr]
    exact hD q hq
  · rw [sumA_snoc]
    have hold := h2 a' s'
    rw [List.mem_append, List.mem_singleton] at hold ⊢
    by_cases e : a' = a
    · subst e
      rw [if_pos hp, ← hs]
      constructor
      · rintro (hm | hm)
        · exact absurd (hD _ hm) (Int.lt_irrefl _)
        · cases hm; exact ⟨⟨p, List.mem_append.2 (.inr List.mem_cons_self), hp⟩, rfl⟩
      · rintro ⟨_, rfl⟩
        exact .inr rfl
    · rw [if_neg fun k => e (k.symm.trans hp), Int.add_zero]
      constructor
      · rintro (hm | hm)
        · obtain ⟨⟨q, hq, k⟩, k2⟩ := hold.1 (.inl hm)
          exact ⟨⟨q, List.mem_append.2 (.inl hq), k⟩, k2⟩
        · cases hm; exact absurd rfl e
      · rintro ⟨⟨q, hq, k⟩, k2⟩
        rcases List.mem_append.1 hq with hq | hq
        · rcases hold.2 ⟨⟨q, hq, k⟩, k2⟩ with hm | hm
          · exact .inl hm
          · cases hm; exact absurd rfl e
        · rw [List.mem_singleton.1 hq] at k
          exact absurd (k.symm.trans hp) e
theorem sumOKs.app {C : List (GrB × Nat)} {D : List (Int × Int)} {p : GrB × Nat} (h : sumOKs C D) (hD : ∀ q ∈ D, q.1 < p.1.1) : sumOKs (C ++ [p]) (D ++ [(p.1.1, ownC p)]) := by
  obtain ⟨h1, h2⟩ := h
  have hno : ∀ q ∈ C, q.1.1 ≠ p.1.1 := fun q hq e => by
    have := hD (p.1.1, sumA C p.1.1) ((h2 _ _).2 ⟨⟨q, hq, e⟩, rfl⟩)
    exact Int.lt_irrefl _ this
  have h0 : ∀ (C : List (GrB × Nat)), (∀ q ∈ C, q.1.1 ≠ p.1.1) → sumA C p.1.1 = 0 := fun C => by
    induction C with
    | nil => exact fun _ => rfl
    | cons q C ih =>
      intro hC
      rw [sumA, if_neg (hC q List.mem_cons_self), ih fun r hr => hC r (List.mem_cons_of_mem _ hr)]
      rfl
  refine ⟨?_, fun a' s' => ?_⟩
  · rw [List.pairwise_append]
    refine ⟨h1, List.pairwise_singleton .., fun q hq r hr => ?_⟩
    rw [List.mem_singleton.1 hr]
    exact hD q hq
  · rw [sumA_snoc]
    have hold := h2 a' s'
    rw [List.mem_append, List.mem_singleton]
    by_cases e : p.1.1 = a'
    · subst e
      rw [if_pos rfl, h0 C hno, Int.zero_add]
      constructor
      · rintro (hm | hm)
        · exact absurd (hD _ hm) (Int.lt_irrefl _)
        · cases hm; exact ⟨⟨p, List.mem_append.2 (.inr List.mem_cons_self), rfl⟩, rfl⟩
      · rintro ⟨_, rfl⟩
        exact .inr rfl
    · rw [if_neg e, Int.add_zero]
      constructor
      · rintro (hm | hm)
        · obtain ⟨⟨q, hq, k⟩, k2⟩ := hold.1 hm
          exact ⟨⟨q, List.mem_append.2 (.inl hq), k⟩, k2⟩
        · cases hm; exact absurd rfl e
      · rintro ⟨⟨q, hq, k⟩, k2⟩
        rcases List.mem_append.1 hq with hq | hq
        · exact .inl (hold.2 ⟨⟨q, hq, k⟩, k2⟩)
        · rw [List.mem_singleton.1 hq] at k
          exact absurd k e
/-- A map that has the sums. -/
def zOK (E : List (GrB × Nat)) (Z : List (Int × Int)) : Prop := (Z.map (·.1)).Nodup ∧ ∀ a, (lkM Z a).getD 0 = sumA E a ∧ ((lkM Z a).isSome = true ↔ ∃ p ∈ E, p.1.1 = a)
theorem zOK.nil : zOK [] [] := ⟨List.nodup_nil, fun a => ⟨rfl, ⟨fun h => (by cases h), fun ⟨p, hp, _⟩ => absurd hp List.not_mem_nil⟩⟩⟩
theorem zOK.put {E : List (GrB × Nat)} {Z : List (Int × Int)} {p : GrB × Nat} (h : zOK E Z) : zOK (E ++ [p]) (putM Z p.1.1 ((lkM Z p.1.1).getD 0 + ownC p)) := by
  refine ⟨putM_nodup h.1 _ _, fun a => ?_⟩
  obtain ⟨h1, h2⟩ := h.2 a
  rw [lkM_put, sumA_snoc]
  by_cases e : a = p.1.1
  · subst e
    rw [if_pos rfl, if_pos rfl, ← h1]
    exact ⟨rfl, ⟨fun _ => ⟨p, List.mem_append.2 (.inr List.mem_cons_self), rfl⟩, fun _ => rfl⟩⟩
  · rw [if_neg e, if_neg fun k => e k.symm, Int.add_zero]
    refine ⟨h1, ⟨fun k => ?_, fun ⟨q, hq, k⟩ => ?_⟩⟩
    · obtain ⟨q, hq, k2⟩ := h2.1 k
      exact ⟨q, List.mem_append.2 (.inl hq), k2⟩
    · rcases List.mem_append.1 hq with hq | hq
      · exact h2.2 ⟨q, hq, k⟩
      · rw [List.mem_singleton.1 hq] at k
        exact absurd k.symm e
theorem zOK.table {E : List (GrB × Nat)} {Z : List (Int × Int)} (h : zOK E Z) {ss : List Int} (hp : ss.Perm (Z.map (·.1))) (hs : ss.Pairwise (· < ·)) : sumOKs E (ss.map fun a => (a, sumA E a)) := by
  refine ⟨List.pairwise_map.2 hs, fun a s => ?_⟩
  have hk : a ∈ ss ↔ ∃ p ∈ E, p.1.1 = a := by
    rw [hp.mem_iff, ← (h.2 a).2, lkM_isSome]
  rw [List.mem_map, ← hk]
  constructor
  · rintro ⟨a', hm, e⟩
    cases e
    exact ⟨hm, rfl⟩
  · rintro ⟨hm, rfl⟩
    exact ⟨a, hm, rfl⟩
/-- The counts of a list, in some order. -/
def cntSet (g : StB → GrB) (L : List StB) (E : List (GrB × Nat)) : Prop := E.Nodup ∧ ∀ k c, (k, c) ∈ E ↔ c = cntG g L k ∧ 0 < c
theorem cntOK.set {g : StB → GrB} {L : List StB} {C : List (GrB × Nat)} (h : cntOK g L C) : cntSet g L C :=
  ⟨List.nodup_iff_pairwise_ne.2 (h.1.imp fun {a b} (hab : ltGr a.1 b.1) (e : a = b) => ltGr.irr b.1 (by rw [e] at hab; exact hab)), h.2⟩
theorem cntSet.perm {g : StB → GrB} {L : List StB} {C E : List (GrB × Nat)} (h : cntSet g L C) (k : cntSet g L E) : C.Perm E :=
  (List.perm_ext_iff_of_nodup h.1 k.1).2 fun ⟨a, c⟩ => (h.2 a c).trans (k.2 a c).symm
theorem cntSet.le {g : StB → GrB} {L : List StB} {C : List (GrB × Nat)} (h : cntSet g L C) : ∀ p ∈ C, p.2 ≤ L.length := fun ⟨k, c⟩ hp => by
  rw [((h.2 k c).1 hp).1]
  exact cntG_le g L k
def sumTab (g : StB → GrB) (L : List StB) (D : List (Int × Int)) : Prop := ∃ E, cntSet g L E ∧ sumOKs E D
theorem sumTab.ext {g : StB → GrB} {L : List StB} {D D' : List (Int × Int)} (h : sumTab g L D) (k : sumTab g L D') : D = D' := by
  obtain ⟨E, h1, h2⟩ := h
  obtain ⟨E', k1, k2⟩ := k
  exact h2.ext (k2.perm (k1.perm h1))
/-- The counts of a map. -/
def entsOf (M : GM) : List (GrB × Nat) := M.map fun e => (e.1, e.2.2.length)
theorem entsOf_set {g : StB → GrB} {L : List StB} {M : GM} (h : grOK g L M) : cntSet g L (entsOf M) := by
  have hl : ∀ e ∈ M, e.2.2.length = cntG g L e.1 := fun e he => by rw [(h.2.1 e he).1]; rfl
  refine ⟨?_, fun k c => ?_⟩
  · have h1 := h.1
    rw [List.nodup_iff_pairwise_ne, List.pairwise_map] at h1
    unfold entsOf
    rw [List.nodup_iff_pairwise_ne, List.pairwise_map]
    exact h1.imp fun {a b} hab e => hab (congrArg (·.1) e)
  · unfold entsOf
    rw [List.mem_map]
    constructor
    · rintro ⟨e, he, k2⟩
      cases k2
      exact ⟨hl e he, List.length_pos_iff.2 (h.2.1 e he).2⟩
    · rintro ⟨rfl, hc⟩
      obtain ⟨x, hx, rfl⟩ := cntG_pos.1 hc
      obtain ⟨e, he, k2⟩ := List.mem_map.1 (h.2.2 x hx)
      exact ⟨e, he, by rw [hl e he, k2]⟩
/-- The counts met. -/
def entAt (M : GM) (seen : List Nat) : List (GrB × Nat) := seen.filterMap fun i => (M[i]?).map fun e => (e.1, e.2.2.length)
theorem entAt_snoc {M : GM} {seen : List Nat} {i : Nat} {p : GrB × (Value × List StB)} (h : M[i]? = some p) : entAt M (seen ++ [i]) = entAt M seen ++ [(p.1, p.2.2.length)] := by
  unfold entAt
  rw [List.filterMap_append]
  simp [h]
theorem entAt_range (M : GM) : ∀ k, entAt M (List.range k) = entsOf (M.take k)
  | 0 => rfl
  | k + 1 => by
    have ih := entAt_range M k
    unfold entsOf at ih ⊢
    rw [List.range_succ, List.take_add_one, List.map_append, ← ih]
    unfold entAt
    rw [List.filterMap_append]
    cases h : M[k]? <;> simp [h]
theorem entAt_all {M : GM} {seen : List Nat} (h : seen.Perm (List.range M.length)) : (entAt M seen).Perm (entsOf M) := by
  have h2 := entAt_range M M.length
  rw [List.take_length] at h2
  rw [← h2]
  exact h.filterMap _
theorem entAt_len (M : GM) (seen : List Nat) : (entAt M seen).length ≤ seen.length := List.length_filterMap_le _ _
theorem entAt_mem {M : GM} {seen : List Nat} {q : GrB × Nat} (h : q ∈ entAt M seen) : q ∈ entsOf M := by
  obtain ⟨i, _, e⟩ := List.mem_filterMap.1 h
  cases hm : M[i]? with
  | none => rw [hm] at e; cases e
  | some p =>
    rw [hm] at e
    cases e
    exact List.mem_map.2 ⟨p, List.mem_of_getElem? hm, rfl⟩
/-- A line of sums. -/
def encD (p : Int × Int) : List Value := [.int .i64 p.1, .int .i64 p.2]
theorem encD_len (p : Int × Int) : (encD p).length = 2 := rfl
end Go.Proofs.Ythijakignhjmgaa
namespace Go.Proofs.Ythijakignhjmgaa
open Go Go.RowKit SL
theorem zOK.len {E : List (GrB × Nat)} {Z : List (Int × Int)} (h : zOK E Z) : Z.length ≤ E.length := by
  have h1 := List.Nodup.length_le_of_subset h.1 (l₂ := E.map fun p => p.1.1) fun a ha => by
    obtain ⟨p, hp, e⟩ := (h.2 a).2.1 ((lkM_isSome Z a).2 ha)
    exact List.mem_map.2 ⟨p, hp, e⟩
  rwa [List.length_map, List.length_map] at h1
set_option maxRecDepth 100000 in
theorem isums1_gives {B : Nat} {w0 : World} {H : Hp} (n : Nat) (X O : List Nat) (bX : isB X) (bO : isB O) (h6 : n ≤ 6) (g : okG n X O) :
    GivesE Try.prog 103 #[.agg (gv (n : Int) X O).toArray] B w0 H (fun v' H' => ∃ D, sumTab (grd n X O) (stB n) D ∧ ssV (D.map encD) H v' H') := by
  have ug := gv_len (n := (n : Int)) bX.1 bO.1
  have hS := stB_len h6
  obtain ⟨x0, hx0⟩ := stB_ne bX g (by omega)
  refine givesE_of (args := [.agg (gv (n : Int) X O).toArray]) [(0, .agg (gv (n : Int) X O).toArray)] Try.func103 rfl Try.ntmps103 rfl (argsF_cons rfl argsF_nil) ?_
  repeat' (first | (apply J_makeMap; exact rfl; (intro bz)) | (apply JcE; exact rfl; exact rfl; exact rfl; infer_instance; (exact graded_gives n X O bX bO h6); (intro v' H' hV; obtain ⟨bm, M, T, rfl, hM, rfl, rfl⟩ := hV)) | (apply J_rangeT (eK := grK) (eV := vL); exact rfl; exact rfl; exact mo; (intro bi)) | (apply Jq_move; exact rfl; exact rfl) | (apply Jq_assign; exact rfl; exact rfl) | (apply Jq_load; exact rfl; exact rfl; (exact mb); (first | exact rfl)) | (apply Jq_fieldAddr; exact rfl; exact rfl) | (apply Jq_indexN; exact rfl; exact rfl; exact rfl; omega) | (apply Jq_index; exact rfl; exact rfl; exact rfl; omega; omega) | (apply Jq_indexSN; exact rfl; exact rfl; exact rfl; omega) | (apply Jq_cmp; exact rfl; exact rfl; exact rfl; exact rfl) | (apply Jq_add; exact rfl; exact rfl; exact rfl; omega) | (apply Jq_loadW; exact rfl; exact rfl; (exact mb); (first | exact rfl | omega)) | (apply Jq_loadA; exact rfl; exact rfl; (exact mb); (first | exact rfl); (first | exact rfl | omega)) | (apply J_s1; exact rfl; exact rfl; exact rfl; infer_instance; (first | exact rfl | omega); (first | exact rfl); infer_instance) | (apply J_sW; exact rfl; exact rfl; infer_instance; (first | exact rfl | omega); (first | exact rfl | omega); (first | exact ones_of rfl | exact u8s_one _ | exact i64s_one _ | exact bls_one _ | exact gv_one _ _ _ | exact dv_one _ _ _ _ _ _ | exact gv_one _ _ _); infer_instance) | (apply J_sR; exact rfl; exact rfl; exact rfl; infer_instance; (first | exact rfl | omega); (first | exact i64s_setR)) | (apply J_lit1; exact rfl; exact rfl; exact rfl; (intro _)) | (apply J_ap; exact Nat.one_pos; exact rfl; exact rfl; exact rfl; infer_instance; (first | exact rb | assumption); exact List.cons_ne_nil _ _; exact ones_of rfl; ((show (_ + 1) * _ ≤ _); omega); decide; (first | exact i64s_snoc | exact u8s_snoc | exact rfl); (intro _)) | (apply Jq_lenR; exact rfl; exact rfl; (first | exact rb | assumption)) | (apply Jq_indexRN; exact rfl; exact rfl; exact rfl; (first | exact rb | assumption); omega) | (apply Jq_loadR; exact rfl; exact rfl; (first | exact rb | assumption); (first | exact rfl)) | (apply Jq_rem; exact rfl; exact rfl; exact rfl; omega; omega) | (apply Jq_len; exact rfl; exact rfl) | (apply Jq_ext20; exact rfl; exact rfl) | (apply Jq_ext21; exact rfl; exact rfl) | (apply Jq_extract; exact rfl; exact rfl; exact rfl) | (apply J_box; exact rfl; exact rfl; exact rfl; (intro _)) | (apply Jq_neg; exact rfl; exact rfl; omega) | (apply J_alloc (cs := gv 0 Z8 Z8); exact rfl; exact rfl; (intro _)) | (apply J_alloc (cs := dv 0 Z8 Z8 0 Z8 Z8); exact rfl; exact rfl; (intro _)) | (apply J_alloc (cs := u8s Z8); exact rfl; exact rfl; (intro _)) | (apply J_alloc (cs := i64s Z8); exact rfl; exact rfl; (intro _)) | (apply J_alloc (cs := bls F8); exact rfl; exact rfl; (intro _)) | (apply J_alloc; exact rfl; exact rfl; (intro _)) | (apply J_lit0; exact rfl; (intro _)) | refine thenQ_normal ?_ | refine thenQ_exit ?_ | refine thenQ_ret ?_ | refine inBlockQ_normal ?_ | refine inBlockQ_ret ?_ | refine inBlockQ_here ?_ | (apply inBlockQ_on; exact rfl) | refine JC_seq ?_ | refine JC_region ?_ | refine J_nil ?_ | refine JC_block ?_ | refine JC_skip ?_ | refine JC_ret ?_ | refine JC_exit ?_ | (apply JC_if_true; exact rfl) | (apply JC_if_false; exact rfl) | (apply JC_dec_true; exact rfl; omega) | (apply JC_dec_false; exact rfl; omega) | (apply JC_ndec_true; exact rfl; omega) | (apply JC_ndec_false; exact rfl; omega) | refine JC_dec rfl (fun _ => ?_) (fun _ => ?_) | refine JC_ndec rfl (fun _ => ?_) (fun _ => ?_) | refine JC_if rfl (fun _ => ?_) (fun _ => ?_))
  rename_i b1
  have hkl := keys_le hM
  have hkp := keys_pos hM hx0
  have hset := entsOf_set hM
  refine JC_cutB (Y := List (Int × Int)) (fun Z => zOK (entsOf M) Z) (fun _ => [(3, .map (some bz))]) (fun Z => .obj bz (mapO (encM zV zV Z)) :: H) ?_ ?_
  · refine JC_loop (X := List (Int × Int) × List Nat) (fun p => p.2.Nodup ∧ (∀ i ∈ p.2, i < M.length) ∧ zOK (entAt M p.2) p.1) (fun p => [(3, .map (some bz)), (13, .pointer (some ⟨bi, 0, none⟩))]) (fun p => .obj bz (mapO (encM zV zV p.1)) :: .obj bi (itO bm M.length p.2) :: .obj bm (mapO (encM grK vL M)) :: (rwS M ++ H)) (fun p => M.length - p.2.length) ([], []) ⟨List.nodup_nil, fun i hi => absurd hi List.not_mem_nil, zOK.nil⟩ ?_ ?_
    · refine entP (ent ?_ (List.nil_sublist _)) ⟨_, List.perm_middle (l₁ := .obj bi (itO bm M.length []) :: .obj bm (mapO (encM grK vL M)) :: rwS M), ?_⟩
      · (repeat refine fr_cons rfl ?_)
        exact fr_nil
      · exact ((List.Sublist.append_left (.cons_cons _ (.cons _ (.refl _))) _).cons_cons _).cons_cons _
    · rintro ⟨Z, seen⟩ ⟨hs1, hs2, hZ⟩
      dsimp only at hs1 hs2 hZ ⊢
      have hsl : seen.length ≤ M.length := by
        have := List.Nodup.length_le_of_subset hs1 (l₂ := List.range M.length) fun a ha => List.mem_range.2 (hs2 a ha)
        rwa [List.length_range] at this
      have hel := entAt_len M seen
      have hbd : ∀ a, -2200000000 ≤ (lkM Z a).getD 0 ∧ (lkM Z a).getD 0 ≤ 2200000000 := fun a => by
        have h1 := sumA_bd (K := 46656) a (C := entAt M seen) fun p hp => Nat.le_trans (hset.le p (entAt_mem hp)) hS
        have h2 : (entAt M seen).length * 46656 ≤ 46656 * 46656 := Nat.mul_le_mul_right _ (by omega)
        rw [(hZ.2 a).1]
        omega
      obtain ⟨T, hT⟩ : ∃ T : Hp, T = rwS M ++ H := ⟨_, rfl⟩
      have hrow : ∀ e ∈ M, It.row e.2.1 115 8 (e.2.2.flatMap encS) ∈ T := fun e he => by rw [hT]; exact List.mem_append.2 (.inl (List.mem_map.2 ⟨e, he, rfl⟩))
      rw [← hT]
      repeat' (first | refine J_nextT (eK := grK) (eV := vL) (m := M) rfl rfl inferInstance rfl mo hs2 (fun hall => ?_) (fun i p hi hns => ?_) | (apply Jq_entryT (eK := grK) (eV := vL) (m := M) (p := p); exact rfl; exact rfl; exact mo; exact mo; exact hi) | (apply Jq_move; exact rfl; exact rfl) | (apply Jq_assign; exact rfl; exact rfl) | (apply Jq_load; exact rfl; exact rfl; (exact mb); (first | exact rfl)) | (apply Jq_fieldAddr; exact rfl; exact rfl) | (apply Jq_indexN; exact rfl; exact rfl; exact rfl; omega) | (apply Jq_index; exact rfl; exact rfl; exact rfl; omega; omega) | (apply Jq_indexSN; exact rfl; exact rfl; exact rfl; omega) | (apply Jq_cmp; exact rfl; exact rfl; exact rfl; exact rfl) | (apply Jq_add; exact rfl; exact rfl; exact rfl; omega) | (apply Jq_loadW; exact rfl; exact rfl; (exact mb); (first | exact rfl | omega)) | (apply Jq_loadA; exact rfl; exact rfl; (exact mb); (first | exact rfl); (first | exact rfl | omega)) | (apply J_s1; exact rfl; exact rfl; exact rfl; infer_instance; (first | exact rfl | omega); (first | exact rfl); infer_instance) | (apply J_sW; exact rfl; exact rfl; infer_instance; (first | exact rfl | omega); (first | exact rfl | omega); (first | exact ones_of rfl | exact u8s_one _ | exact i64s_one _ | exact bls_one _ | exact gv_one _ _ _ | exact dv_one _ _ _ _ _ _); infer_instance) | (apply J_sR; exact rfl; exact rfl; exact rfl; infer_instance; (first | exact rfl | omega); (first | exact i64s_setR)) | (apply J_lit1; exact rfl; exact rfl; exact rfl; (intro _)) | (apply J_ap; exact Nat.one_pos; exact rfl; exact rfl; exact rfl; infer_instance; (first | exact rb | assumption); exact List.cons_ne_nil _ _; exact ones_of rfl; ((show (_ + 1) * _ ≤ _); omega); decide; (first | exact i64s_snoc | exact u8s_snoc | exact rfl); (intro _)) | (apply Jq_lenR; exact rfl; exact rfl; (first | exact rb | assumption)) | (apply Jq_indexRN; exact rfl; exact rfl; exact rfl; (first | exact rb | assumption); omega) | (apply Jq_loadR; exact rfl; exact rfl; (first | exact rb | assumption); (first | exact rfl)) | (apply Jq_rem; exact rfl; exact rfl; exact rfl; omega; omega) | (apply Jq_len; exact rfl; exact rfl) | (apply Jq_ext20; exact rfl; exact rfl) | (apply Jq_ext21; exact rfl; exact rfl) | (apply Jq_extract; exact rfl; exact rfl; exact rfl) | (apply J_box; exact rfl; exact rfl; exact rfl; (intro _)) | (apply Jq_neg; exact rfl; exact rfl; omega) | (apply J_alloc (cs := gv 0 Z8 Z8); exact rfl; exact rfl; (intro _)) | (apply J_alloc (cs := dv 0 Z8 Z8 0 Z8 Z8); exact rfl; exact rfl; (intro _)) | (apply J_alloc (cs := u8s Z8); exact rfl; exact rfl; (intro _)) | (apply J_alloc (cs := i64s Z8); exact rfl; exact rfl; (intro _)) | (apply J_alloc (cs := bls F8); exact rfl; exact rfl; (intro _)) | (apply J_alloc; exact rfl; exact rfl; (intro _)) | (apply J_lit0; exact rfl; (intro _)) | refine thenQ_normal ?_ | refine thenQ_exit ?_ | refine thenQ_ret ?_ | refine inBlockQ_normal ?_ | refine inBlockQ_ret ?_ | refine inBlockQ_here ?_ | (apply inBlockQ_on; exact rfl) | refine JC_seq ?_ | refine JC_region ?_ | refine J_nil ?_ | refine JC_block ?_ | refine JC_skip ?_ | refine JC_ret ?_ | refine JC_exit ?_ | (apply JC_if_true; exact rfl) | (apply JC_if_false; exact rfl) | (apply JC_dec_true; exact rfl; omega) | (apply JC_dec_false; exact rfl; omega) | (apply JC_ndec_true; exact rfl; omega) | (apply JC_ndec_false; exact rfl; omega) | refine JC_dec rfl (fun _ => ?_) (fun _ => ?_) | refine JC_ndec rfl (fun _ => ?_) (fun _ => ?_) | refine JC_if rfl (fun _ => ?_) (fun _ => ?_))
      · refine ⟨Z, ⟨hZ.1, fun a => ?_⟩, ?_⟩
        · have hp := entAt_all (all_met hs1 hs2 hall)
          obtain ⟨h1, h2⟩ := hZ.2 a
          rw [sumA_perm hp] at h1
          refine ⟨h1, h2.trans ⟨fun ⟨q, hq, e⟩ => ⟨q, hp.mem_iff.1 hq, e⟩, fun ⟨q, hq, e⟩ => ⟨q, hp.mem_iff.2 hq, e⟩⟩⟩
        · rw [hT]
          refine entP (ent ?_ (List.nil_sublist _)) ⟨_, .refl _, ?_⟩
          · (repeat refine fr_cons rfl ?_)
            exact fr_nil
          · exact (List.Sublist.cons _ (List.Sublist.cons _ (List.sublist_append_right _ _))).cons_cons _
      · have hin : ∀ t ∈ seen ++ [i], t < M.length := fun t ht => by
          rcases List.mem_append.1 ht with h | h
          · exact hs2 t h
          · rw [List.mem_singleton] at h
            subst h
            exact (List.getElem?_eq_some_iff.1 hi).1
        have hnn : (seen ++ [i]).Nodup := List.nodup_append.2 ⟨hs1, by simp, fun a ha b hb e => hns (by rw [List.mem_singleton] at hb; subst hb e; exact ha)⟩
        have hlt : seen.length < M.length := by
          have := List.Nodup.length_le_of_subset hnn (l₂ := List.range M.length) fun a ha => List.mem_range.2 (hin a ha)
          rw [List.length_range, List.length_append, List.length_singleton] at this
          omega
        have hput := hZ.put (p := (p.1, p.2.2.length))
        rw [← entAt_snoc hi] at hput
        have hpm := List.mem_of_getElem? hi
        have hpl : p.2.2.length ≤ 46656 := Nat.le_trans (hset.le (p.1, p.2.2.length) (List.mem_map.2 ⟨p, hpm, rfl⟩)) hS
        obtain ⟨⟨a, m⟩, u, l⟩ := p
        have iu : RB u T 115 8 (l.flatMap encS) := ⟨hrow _ hpm⟩
        have lfl := fl_len encS_len l
        have hb1 := hbd a
        have hlk : ((lkM Z a).map zV).getD (.int .i64 0) = .int .i64 ((lkM Z a).getD 0) := by cases lkM Z a <;> rfl
        have hzn := hZ.1
        dsimp only at hput hpl
        generalize hold : (lkM Z a).getD 0 = old at *
        unfold vL grK
        dsimp only
        repeat' (first | (apply Jq_remt; exact rfl; exact rfl; exact rfl; decide) | (apply Jq_lookT (eV := zV) (E := kencI) (k := a); exact rfl; exact rfl; exact rfl; exact mo; exact hzn; exact hlk) | (apply J_updT (eV := zV) (E := kencI) (k := a) (v := old + -(l.length : Int)); exact rfl; exact rfl; exact rfl; infer_instance; exact rfl; exact hzn; exact rfl) | (apply J_updT (eV := zV) (E := kencI) (k := a) (v := old + (l.length : Int)); exact rfl; exact rfl; exact rfl; infer_instance; exact rfl; exact hzn; exact rfl) | (apply Jq_move; exact rfl; exact rfl) | (apply Jq_assign; exact rfl; exact rfl) | (apply Jq_load; exact rfl; exact rfl; (exact mb); (first | exact rfl)) | (apply Jq_fieldAddr; exact rfl; exact rfl) | (apply Jq_indexN; exact rfl; exact rfl; exact rfl; omega) | (apply Jq_index; exact rfl; exact rfl; exact rfl; omega; omega) | (apply Jq_indexSN; exact rfl; exact rfl; exact rfl; omega) | (apply Jq_cmp; exact rfl; exact rfl; exact rfl; exact rfl) | (apply Jq_add; exact rfl; exact rfl; exact rfl; omega) | (apply Jq_loadW; exact rfl; exact rfl; (exact mb); (first | exact rfl | omega | exact Nat.le_of_ble_eq_true rfl)) | (apply Jq_loadA; exact rfl; exact rfl; (exact mb); (first | exact rfl); (first | exact rfl | omega | exact Nat.le_of_ble_eq_true rfl)) | (apply J_s1; exact rfl; exact rfl; exact rfl; infer_instance; (first | exact rfl | omega | exact Nat.le_of_ble_eq_true rfl); (first | exact rfl); infer_instance) | (apply J_sW; exact rfl; exact rfl; infer_instance; (first | exact rfl | omega | exact Nat.le_of_ble_eq_true rfl); (first | exact rfl | omega | exact Nat.le_of_ble_eq_true rfl); (first | exact ones_of rfl | exact u8s_one _ | exact i64s_one _ | exact bls_one _ | exact gv_one _ _ _ | exact dv_one _ _ _ _ _ _ | exact encGr_one _); infer_instance) | (apply J_sR; exact rfl; exact rfl; exact rfl; infer_instance; (first | exact rfl | omega | exact Nat.le_of_ble_eq_true rfl); (first | exact i64s_setR)) | (apply J_lit1; exact rfl; exact rfl; exact rfl; (intro _)) | (apply J_ap; exact Nat.one_pos; exact rfl; exact rfl; exact rfl; infer_instance; (first | exact rb | assumption); exact List.cons_ne_nil _ _; exact ones_of rfl; ((show (_ + 1) * _ ≤ _); omega); decide; (first | exact i64s_snoc | exact u8s_snoc | exact rfl); (intro _)) | (apply Jq_lenR; exact rfl; exact rfl; (first | exact rb | assumption)) | (apply Jq_indexRN; exact rfl; exact rfl; exact rfl; (first | exact rb | assumption); omega) | (apply Jq_loadR; exact rfl; exact rfl; (first | exact rb | assumption); (first | exact rfl)) | (apply Jq_rem; exact rfl; exact rfl; exact rfl; omega; omega) | (apply Jq_len; exact rfl; exact rfl) | (apply Jq_ext20; exact rfl; exact rfl) | (apply Jq_ext21; exact rfl; exact rfl) | (apply Jq_extract; exact rfl; exact rfl; exact rfl) | (apply J_box; exact rfl; exact rfl; exact rfl; (intro _)) | (apply Jq_lenRs; exact rfl; exact rfl; (first | exact rb | assumption); exact lfl; decide) | (apply Jq_indexRs; exact rfl; exact rfl; exact rfl; (first | exact rb | assumption); omega) | (apply Jq_loadRA; exact rfl; exact rfl; (first | exact rb | assumption); (first | exact rfl); (first | exact rfl | omega | exact Nat.le_of_ble_eq_true rfl); decide) | (apply J_lit1s; exact rfl; exact rfl; (first | exact rfl | omega | exact Nat.le_of_ble_eq_true rfl); decide; decide; (intro _)) | (apply J_ap; decide; exact rfl; exact rfl; exact rfl; infer_instance; (first | exact rb | assumption); exact List.cons_ne_nil _ _; exact ones_of rfl; ((show (_ + _) * _ ≤ _); (simp only [List.length_cons, List.length_nil]); omega); decide; (first | exact rfl); (intro _)) | (apply Jq_neg; exact rfl; exact rfl; omega) | (apply J_alloc (cs := gv 0 Z8 Z8); exact rfl; exact rfl; (intro _)) | (apply J_alloc (cs := dv 0 Z8 Z8 0 Z8 Z8); exact rfl; exact rfl; (intro _)) | (apply J_alloc (cs := u8s Z8); exact rfl; exact rfl; (intro _)) | (apply J_alloc (cs := i64s Z8); exact rfl; exact rfl; (intro _)) | (apply J_alloc (cs := bls F8); exact rfl; exact rfl; (intro _)) | (apply J_alloc (cs := encGr (0, 0)); exact rfl; exact rfl; (intro _)) | (apply J_alloc; exact rfl; exact rfl; (intro _)) | (apply J_lit0; exact rfl; (intro _)) | refine thenQ_normal ?_ | refine thenQ_exit ?_ | refine thenQ_ret ?_ | refine inBlockQ_normal ?_ | refine inBlockQ_ret ?_ | refine inBlockQ_here ?_ | (apply inBlockQ_on; exact rfl) | refine JC_seq ?_ | refine JC_region ?_ | refine J_nil ?_ | refine JC_block ?_ | refine JC_skip ?_ | refine JC_ret ?_ | refine JC_exit ?_ | (apply JC_if_true; exact rfl) | (apply JC_if_false; exact rfl) | (apply JC_dec_true; exact rfl; omega) | (apply JC_dec_false; exact rfl; omega) | (apply JC_ndec_true; exact rfl; omega) | (apply JC_ndec_false; exact rfl; omega) | refine JC_dec rfl (fun _ => ?_) (fun _ => ?_) | refine JC_ndec rfl (fun _ => ?_) (fun _ => ?_) | refine JC_if rfl (fun _ => ?_) (fun _ => ?_))
        · refine ⟨(putM Z a (old + -(l.length : Int)), seen ++ [i]), ⟨hnn, hin, ?_⟩, by dsimp only; rw [List.length_append, List.length_singleton]; omega, ?_⟩
          · rw [ownC_odd (k := (a, m)) (c := l.length) (by assumption)] at hput
            exact hput
          · (refine entP (ent ?_ (List.nil_sublist _)) ?_; (repeat refine fr_cons rfl ?_); exact fr_nil; (repeat (first | exact sp_nil | exact sp_refl | exact sp_end | (with_reducible apply sp0) | (with_reducible apply sp1) | (with_reducible apply sp2) | (with_reducible apply sp3) | (with_reducible apply sp4) | (with_reducible apply sp5) | (with_reducible apply sp6) | (with_reducible apply sp7) | apply sp0 | apply sp1 | apply sp2 | apply sp3 | apply sp4 | apply sp5)))
        · refine ⟨(putM Z a (old + (l.length : Int)), seen ++ [i]), ⟨hnn, hin, ?_⟩, by dsimp only; rw [List.length_append, List.length_singleton]; omega, ?_⟩
          · rw [ownC_even (k := (a, m)) (c := l.length) (by assumption)] at hput
            exact hput
          · (refine entP (ent ?_ (List.nil_sublist _)) ?_; (repeat refine fr_cons rfl ?_); exact fr_nil; (repeat (first | exact sp_nil | exact sp_refl | exact sp_end | (with_reducible apply sp0) | (with_reducible apply sp1) | (with_reducible apply sp2) | (with_reducible apply sp3) | (with_reducible apply sp4) | (with_reducible apply sp5) | (with_reducible apply sp6) | (with_reducible apply sp7) | apply sp0 | apply sp1 | apply sp2 | apply sp3 | apply sp4 | apply sp5)))
  · intro Z hZ
    have hzn := hZ.1
    have hzl := hZ.len
    have hEl : (entsOf M).length = M.length := List.length_map _
    have hzp : 0 < Z.length := by
      obtain ⟨p, hp⟩ := List.exists_mem_of_length_pos (show 0 < (entsOf M).length by omega)
      have h1 := (hZ.2 p.1.1).2.2 ⟨p, hp, rfl⟩
      rw [lkM_isSome] at h1
      have h2 := List.length_pos_of_mem h1
      rwa [List.length_map] at h2
    repeat' (first | (apply J_lit0; decide; (intro b6; generalize Value.slice (some ⟨b6, 0, none⟩) 0 0 = v6)) | (apply JcE; exact rfl; exact rfl; exact rfl; infer_instance; (exact mapKeysI_gives bz); (intro v' H' hV; obtain ⟨Bm, rfl, rfl⟩ := hV)) | (apply JcE; exact rfl; exact rfl; exact rfl; infer_instance; (exact sortedI_gives hzn (mS (mS m0)) m0 (by omega) hzp); (intro vS H' hV; obtain ⟨ss, hp, hso, rfl⟩ := hV; have lf : (ss.map zV).length = ss.length := List.length_map _)) | (apply Jq_move; exact rfl; exact rfl) | (apply Jq_assign; exact rfl; exact rfl) | (apply Jq_load; exact rfl; exact rfl; (exact mb); (first | exact rfl)) | (apply Jq_fieldAddr; exact rfl; exact rfl) | (apply Jq_indexN; exact rfl; exact rfl; exact rfl; omega) | (apply Jq_index; exact rfl; exact rfl; exact rfl; omega; omega) | (apply Jq_indexSN; exact rfl; exact rfl; exact rfl; omega) | (apply Jq_cmp; exact rfl; exact rfl; exact rfl; exact rfl) | (apply Jq_add; exact rfl; exact rfl; exact rfl; omega) | (apply Jq_loadW; exact rfl; exact rfl; (exact mb); (first | exact rfl | omega)) | (apply Jq_loadA; exact rfl; exact rfl; (exact mb); (first | exact rfl); (first | exact rfl | omega)) | (apply J_s1; exact rfl; exact rfl; exact rfl; infer_instance; (first | exact rfl | omega); (first | exact rfl); infer_instance) | (apply J_sW; exact rfl; exact rfl; infer_instance; (first | exact rfl | omega); (first | exact rfl | omega); (first | exact ones_of rfl | exact u8s_one _ | exact i64s_one _ | exact bls_one _ | exact gv_one _ _ _ | exact dv_one _ _ _ _ _ _); infer_instance) | (apply J_sR; exact rfl; exact rfl; exact rfl; infer_instance; (first | exact rfl | omega); (first | exact i64s_setR)) | (apply J_lit1; exact rfl; exact rfl; exact rfl; (intro _)) | (apply J_ap; exact Nat.one_pos; exact rfl; exact rfl; exact rfl; infer_instance; (first | exact rb | assumption); exact List.cons_ne_nil _ _; exact ones_of rfl; ((show (_ + 1) * _ ≤ _); omega); decide; (first | exact i64s_snoc | exact u8s_snoc | exact rfl); (intro _)) | (apply Jq_lenR; exact rfl; exact rfl; (first | exact rb | assumption)) | (apply Jq_indexRN; exact rfl; exact rfl; exact rfl; (first | exact rb | assumption); omega) | (apply Jq_loadR; exact rfl; exact rfl; (first | exact rb | assumption); (first | exact rfl)) | (apply Jq_rem; exact rfl; exact rfl; exact rfl; omega; omega) | (apply Jq_len; exact rfl; exact rfl) | (apply Jq_ext20; exact rfl; exact rfl) | (apply Jq_ext21; exact rfl; exact rfl) | (apply Jq_extract; exact rfl; exact rfl; exact rfl) | (apply J_box; exact rfl; exact rfl; exact rfl; (intro _)) | (apply Jq_lenRs; exact rfl; exact rfl; (first | exact rb | assumption); exact lf; decide) | (apply Jq_neg; exact rfl; exact rfl; omega) | (apply J_alloc (cs := gv 0 Z8 Z8); exact rfl; exact rfl; (intro _)) | (apply J_alloc (cs := dv 0 Z8 Z8 0 Z8 Z8); exact rfl; exact rfl; (intro _)) | (apply J_alloc (cs := u8s Z8); exact rfl; exact rfl; (intro _)) | (apply J_alloc (cs := i64s Z8); exact rfl; exact rfl; (intro _)) | (apply J_alloc (cs := bls F8); exact rfl; exact rfl; (intro _)) | (apply J_alloc; exact rfl; exact rfl; (intro _)) | (apply J_lit0; exact rfl; (intro _)) | refine thenQ_normal ?_ | refine thenQ_exit ?_ | refine thenQ_ret ?_ | refine inBlockQ_normal ?_ | refine inBlockQ_ret ?_ | refine inBlockQ_here ?_ | (apply inBlockQ_on; exact rfl) | refine JC_seq ?_ | refine JC_region ?_ | refine J_nil ?_ | refine JC_block ?_ | refine JC_skip ?_ | refine JC_ret ?_ | refine JC_exit ?_ | (apply JC_if_true; exact rfl) | (apply JC_if_false; exact rfl) | (apply JC_dec_true; exact rfl; omega) | (apply JC_dec_false; exact rfl; omega) | (apply JC_ndec_true; exact rfl; omega) | (apply JC_ndec_false; exact rfl; omega) | refine JC_dec rfl (fun _ => ?_) (fun _ => ?_) | refine JC_ndec rfl (fun _ => ?_) (fun _ => ?_) | refine JC_if rfl (fun _ => ?_) (fun _ => ?_))
    refine JC_loop (X := Nat × Value × List (Value × List Value)) (fun p => p.1 ≤ ss.length ∧ p.2.2.map (·.2) = (ss.take p.1).map fun a => encD (a, sumA (entsOf M) a)) (fun p => [(38, .int .i64 (p.1 : Int)), (37, .int .i64 ((ss.map zV).length : Nat)), (36, vS), (3, .map (some bz)), (7, p.2.1)])
      (fun p => .row p.2.1 41 1 (p.2.2.map (·.1)) :: (rwR p.2.2 ++ (.row vS 2 1 (ss.map zV) :: .obj bz (mapO (encM zV zV Z)) :: H))) (fun p => ss.length - p.1) (0, v6, []) ⟨Nat.zero_le _, rfl⟩ ?_ ?_
    · dsimp only [rwR, rwI, List.map_nil, List.reverse_nil, List.nil_append]
      (refine entP (ent ?_ (List.nil_sublist _)) ?_; (repeat refine fr_cons rfl ?_); exact fr_nil; (repeat (first | exact sp_nil | exact sp_refl | exact sp_end | (with_reducible apply sp0) | (with_reducible apply sp1) | (with_reducible apply sp2) | (with_reducible apply sp3) | (with_reducible apply sp4) | (with_reducible apply sp5) | (with_reducible apply sp6) | (with_reducible apply sp7) | apply sp0 | apply sp1 | apply sp2 | apply sp3 | apply sp4 | apply sp5)))
    · rintro ⟨k, v, L⟩ ⟨hk, hL⟩
      dsimp only at hk hL ⊢
      have hss := hp.length_eq
      rw [List.length_map] at hss
      have hLl : L.length = k := by
        have := congrArg List.length hL
        rw [List.length_map, List.length_map, List.length_take] at this
        omega
      have lm : (L.map (·.1)).length = L.length := List.length_map _
      by_cases hlt : k < ss.length
      · obtain ⟨x, hx⟩ : ∃ x, ss[k]? = some x := ⟨_, List.getElem?_eq_getElem hlt⟩
        have hgx : (ss.map zV)[k]? = some (.int .i64 x) := by rw [List.getElem?_map, hx]; rfl
        have htk : (ss.take (k + 1)).map (fun a => encD (a, sumA (entsOf M) a)) = (ss.take k).map (fun a => encD (a, sumA (entsOf M) a)) ++ [encD (x, sumA (entsOf M) x)] := by
          rw [List.take_add_one, hx, Option.toList_some, List.map_append]; rfl
        have hlk : ((lkM Z x).map zV).getD (.int .i64 0) = .int .i64 (sumA (entsOf M) x) := by
          rw [← (hZ.2 x).1]
          cases lkM Z x <;> rfl
        obtain ⟨T2, hT2⟩ : ∃ T2 : Hp, T2 = rwR L ++ (.row vS 2 1 (ss.map zV) :: .obj bz (mapO (encM zV zV Z)) :: H) := ⟨_, rfl⟩
        have kS : RB vS T2 2 1 (ss.map zV) := ⟨by rw [hT2]; exact List.mem_append.2 (.inr m0)⟩
        have ikm : MO bz T2 (mapO (encM zV zV Z)) := ⟨by rw [hT2]; exact List.mem_append.2 (.inr (mS m0))⟩
        rw [← hT2]
        repeat' (first | (apply J_lit2; exact rfl; exact rfl; exact rfl; exact rfl; exact rfl; (intro _)) | (apply Jq_lookT (eV := zV) (E := kencI) (k := x); exact rfl; exact rfl; exact rfl; exact mo; exact hzn; exact hlk) | (apply J_ap; decide; exact rfl; exact rfl; exact rfl; infer_instance; exact m0; exact List.cons_ne_nil _ _; exact ones_of rfl; ((show (_ + _) * _ ≤ _); (simp only [List.length_cons, List.length_nil]); omega); decide; exact rfl; (intro v')) | (apply Jq_move; exact rfl; exact rfl) | (apply Jq_assign; exact rfl; exact rfl) | (apply Jq_load; exact rfl; exact rfl; (exact mb); (first | exact rfl | exact hgx)) | (apply Jq_fieldAddr; exact rfl; exact rfl) | (apply Jq_indexN; exact rfl; exact rfl; exact rfl; omega) | (apply Jq_index; exact rfl; exact rfl; exact rfl; omega; omega) | (apply Jq_indexSN; exact rfl; exact rfl; exact rfl; omega) | (apply Jq_cmp; exact rfl; exact rfl; exact rfl; exact rfl) | (apply Jq_add; exact rfl; exact rfl; exact rfl; omega) | (apply Jq_loadW; exact rfl; exact rfl; (exact mb); (first | exact rfl | omega)) | (apply Jq_loadA; exact rfl; exact rfl; (exact mb); (first | exact hgx | exact rfl); (first | exact rfl | omega)) | (apply J_s1; exact rfl; exact rfl; exact rfl; infer_instance; (first | exact rfl | omega); (first | exact rfl); infer_instance) | (apply J_sW; exact rfl; exact rfl; infer_instance; (first | exact rfl | omega); (first | exact rfl | omega); (first | exact ones_of rfl | exact u8s_one _ | exact i64s_one _ | exact bls_one _ | exact gv_one _ _ _ | exact dv_one _ _ _ _ _ _); infer_instance) | (apply J_sR; exact rfl; exact rfl; exact rfl; infer_instance; (first | exact rfl | omega); (first | exact i64s_setR)) | (apply J_lit1; exact rfl; exact rfl; exact rfl; (intro _)) | (apply J_ap; exact Nat.one_pos; exact rfl; exact rfl; exact rfl; infer_instance; (first | exact rb | assumption); exact List.cons_ne_nil _ _; exact ones_of rfl; ((show (_ + 1) * _ ≤ _); omega); decide; (first | exact i64s_snoc | exact u8s_snoc | exact rfl); (intro _)) | (apply Jq_lenR; exact rfl; exact rfl; (first | exact rb | assumption)) | (apply Jq_indexRN; exact rfl; exact rfl; exact rfl; (first | exact rb | assumption); omega) | (apply Jq_loadR; exact rfl; exact rfl; (first | exact rb | assumption); (first | exact rfl | exact hgx)) | (apply Jq_rem; exact rfl; exact rfl; exact rfl; omega; omega) | (apply Jq_len; exact rfl; exact rfl) | (apply Jq_ext20; exact rfl; exact rfl) | (apply Jq_ext21; exact rfl; exact rfl) | (apply Jq_extract; exact rfl; exact rfl; exact rfl) | (apply J_box; exact rfl; exact rfl; exact rfl; (intro _)) | (apply Jq_lenRs; exact rfl; exact rfl; (first | exact rb | assumption); exact lf; decide) | (apply Jq_neg; exact rfl; exact rfl; omega) | (apply J_alloc (cs := gv 0 Z8 Z8); exact rfl; exact rfl; (intro _)) | (apply J_alloc (cs := dv 0 Z8 Z8 0 Z8 Z8); exact rfl; exact rfl; (intro _)) | (apply J_alloc (cs := u8s Z8); exact rfl; exact rfl; (intro _)) | (apply J_alloc (cs := i64s Z8); exact rfl; exact rfl; (intro _)) | (apply J_alloc (cs := bls F8); exact rfl; exact rfl; (intro _)) | (apply J_alloc; exact rfl; exact rfl; (intro _)) | (apply J_lit0; exact rfl; (intro _)) | refine thenQ_normal ?_ | refine thenQ_exit ?_ | refine thenQ_ret ?_ | refine inBlockQ_normal ?_ | refine inBlockQ_ret ?_ | refine inBlockQ_here ?_ | (apply inBlockQ_on; exact rfl) | refine JC_seq ?_ | refine JC_region ?_ | refine J_nil ?_ | refine JC_block ?_ | refine JC_skip ?_ | refine JC_ret ?_ | refine JC_exit ?_ | (apply JC_if_true; exact rfl) | (apply JC_if_false; exact rfl) | (apply JC_dec_true; exact rfl; omega) | (apply JC_dec_false; exact rfl; omega) | (apply JC_ndec_true; exact rfl; omega) | (apply JC_ndec_false; exact rfl; omega) | refine JC_dec rfl (fun _ => ?_) (fun _ => ?_) | refine JC_ndec rfl (fun _ => ?_) (fun _ => ?_) | refine JC_if rfl (fun _ => ?_) (fun _ => ?_))
        rename_i b27 b28
        refine ⟨(k + 1, v', L ++ [(.slice (some ⟨b27, 0, none⟩) 2 2, [.int .i64 x, .int .i64 (sumA (entsOf M) x)])]), ⟨by dsimp only; omega, by dsimp only; rw [List.map_append, hL, htk]; rfl⟩, by dsimp only; omega, ?_⟩
        dsimp only
        rw [rwR_snoc, List.map_append, hT2]
        (refine entP (ent ?_ (List.nil_sublist _)) ?_; (repeat refine fr_cons rfl ?_); exact fr_nil; (repeat (first | exact sp_nil | exact sp_refl | exact sp_end | (with_reducible apply sp0) | (with_reducible apply sp1) | (with_reducible apply sp2) | (with_reducible apply sp3) | (with_reducible apply sp4) | (with_reducible apply sp5) | (with_reducible apply sp6) | (with_reducible apply sp7) | apply sp0 | apply sp1 | apply sp2 | apply sp3 | apply sp4 | apply sp5)))
      · obtain rfl : k = ss.length := by omega
        rw [List.take_length] at hL
        repeat' (first | (apply Jq_move; exact rfl; exact rfl) | (apply Jq_assign; exact rfl; exact rfl) | (apply Jq_load; exact rfl; exact rfl; (exact mb); (first | exact rfl)) | (apply Jq_fieldAddr; exact rfl; exact rfl) | (apply Jq_indexN; exact rfl; exact rfl; exact rfl; omega) | (apply Jq_index; exact rfl; exact rfl; exact rfl; omega; omega) | (apply Jq_indexSN; exact rfl; exact rfl; exact rfl; omega) | (apply Jq_cmp; exact rfl; exact rfl; exact rfl; exact rfl) | (apply Jq_add; exact rfl; exact rfl; exact rfl; omega) | (apply Jq_loadW; exact rfl; exact rfl; (exact mb); (first | exact rfl | omega)) | (apply Jq_loadA; exact rfl; exact rfl; (exact mb); (first | exact rfl); (first | exact rfl | omega)) | (apply J_s1; exact rfl; exact rfl; exact rfl; infer_instance; (first | exact rfl | omega); (first | exact rfl); infer_instance) | (apply J_sW; exact rfl; exact rfl; infer_instance; (first | exact rfl | omega); (first | exact rfl | omega); (first | exact ones_of rfl | exact u8s_one _ | exact i64s_one _ | exact bls_one _ | exact gv_one _ _ _ | exact dv_one _ _ _ _ _ _); infer_instance) | (apply J_sR; exact rfl; exact rfl; exact rfl; infer_instance; (first | exact rfl | omega); (first | exact i64s_setR)) | (apply J_lit1; exact rfl; exact rfl; exact rfl; (intro _)) | (apply J_ap; exact Nat.one_pos; exact rfl; exact rfl; exact rfl; infer_instance; (first | exact rb | assumption); exact List.cons_ne_nil _ _; exact ones_of rfl; ((show (_ + 1) * _ ≤ _); omega); decide; (first | exact i64s_snoc | exact u8s_snoc | exact rfl); (intro _)) | (apply Jq_lenR; exact rfl; exact rfl; (first | exact rb | assumption)) | (apply Jq_indexRN; exact rfl; exact rfl; exact rfl; (first | exact rb | assumption); omega) | (apply Jq_loadR; exact rfl; exact rfl; (first | exact rb | assumption); (first | exact rfl)) | (apply Jq_rem; exact rfl; exact rfl; exact rfl; omega; omega) | (apply Jq_len; exact rfl; exact rfl) | (apply Jq_ext20; exact rfl; exact rfl) | (apply Jq_ext21; exact rfl; exact rfl) | (apply Jq_extract; exact rfl; exact rfl; exact rfl) | (apply J_box; exact rfl; exact rfl; exact rfl; (intro _)) | (apply Jq_lenRs; exact rfl; exact rfl; (first | exact rb | assumption); exact lf; decide) | (apply Jq_neg; exact rfl; exact rfl; omega) | (apply J_alloc (cs := gv 0 Z8 Z8); exact rfl; exact rfl; (intro _)) | (apply J_alloc (cs := dv 0 Z8 Z8 0 Z8 Z8); exact rfl; exact rfl; (intro _)) | (apply J_alloc (cs := u8s Z8); exact rfl; exact rfl; (intro _)) | (apply J_alloc (cs := i64s Z8); exact rfl; exact rfl; (intro _)) | (apply J_alloc (cs := bls F8); exact rfl; exact rfl; (intro _)) | (apply J_alloc; exact rfl; exact rfl; (intro _)) | (apply J_lit0; exact rfl; (intro _)) | refine thenQ_normal ?_ | refine thenQ_exit ?_ | refine thenQ_ret ?_ | refine inBlockQ_normal ?_ | refine inBlockQ_ret ?_ | refine inBlockQ_here ?_ | (apply inBlockQ_on; exact rfl) | refine JC_seq ?_ | refine JC_region ?_ | refine J_nil ?_ | refine JC_block ?_ | refine JC_skip ?_ | refine JC_ret ?_ | refine JC_exit ?_ | (apply JC_if_true; exact rfl) | (apply JC_if_false; exact rfl) | (apply JC_dec_true; exact rfl; omega) | (apply JC_dec_false; exact rfl; omega) | (apply JC_ndec_true; exact rfl; omega) | (apply JC_ndec_false; exact rfl; omega) | refine JC_dec rfl (fun _ => ?_) (fun _ => ?_) | refine JC_ndec rfl (fun _ => ?_) (fun _ => ?_) | refine JC_if rfl (fun _ => ?_) (fun _ => ?_))
        refine SL.e1 (H' := .row v 41 1 (L.map (·.1)) :: (rwI L ++ H)) rfl rfl rfl (entP (ent (fun _ _ h => by cases h) (List.nil_sublist _)) (sp_rows (rwR_perm L) ?_)) ⟨_, ⟨_, hset, hZ.table hp hso⟩, L, by rw [hL, List.map_map]; rfl, rfl⟩
        exact .cons _ (.cons _ (.refl _))
end Go.Proofs.Ythijakignhjmgaa
