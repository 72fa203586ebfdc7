/- Walks: what stands an odd number of times in a list of states. -/
import Derived.Test.YtmbbcmebdefggaaGreatDoorTE
import Derived.Test.YtmbbcmebdefggaaGreatDoorMR
import Derived.Test.YtmbbcmebdefggaaGreatDoorAP
namespace Go.Proofs.YtmbbcmebdefggaaGreatDoor
open Go Go.RowKit SL
/-- How often each state stands in a list. -/
def cntM (l : List StB) : List (StB × Nat) := l.foldl (fun m x => putM m x ((lkM m x).getD 0 + 1)) []
theorem cntM_succ {l : List StB} {k : Nat} {x : StB} (hx : l[k]? = some x) : cntM (l.take (k + 1)) = putM (cntM (l.take k)) x ((lkM (cntM (l.take k)) x).getD 0 + 1) := by
  unfold cntM
  rw [List.take_add_one, hx, Option.toList_some, List.foldl_append]; rfl
theorem cntM_inv : ∀ (l : List StB) (m : List (StB × Nat)), (m.map (·.1)).Nodup → ((l.foldl (fun m x => putM m x ((lkM m x).getD 0 + 1)) m).map (·.1)).Nodup ∧ (l.foldl (fun m x => putM m x ((lkM m x).getD 0 + 1)) m).length ≤ m.length + l.length ∧
    ∀ y, (lkM (l.foldl (fun m x => putM m x ((lkM m x).getD 0 + 1)) m) y).getD 0 = (lkM m y).getD 0 + l.count y
  | [], m, h => ⟨h, Nat.le_refl _, fun y => by simp⟩
  | x :: l, m, h => by
    rw [List.foldl_cons]
    obtain ⟨h1, h2, h3⟩ := cntM_inv l (putM m x ((lkM m x).getD 0 + 1)) (putM_nodup h _ _)
    refine ⟨h1, ?_, fun y => ?_⟩
    · have := putM_len m x ((lkM m x).getD 0 + 1)
      rw [List.length_cons]; omega
    · rw [h3, lkM_put, List.count_cons]
      by_cases e : y = x
      · subst e
        simp only [if_true, Option.getD_some, beq_self_eq_true]
        omega
      · have e2 : (x == y) = false := beq_eq_false_iff_ne.2 fun h => e h.symm
        rw [if_neg e, e2]
        simp
theorem cntM_nodup (l : List StB) : ((cntM l).map (·.1)).Nodup := (cntM_inv l [] (by simp)).1
theorem cntM_len (l : List StB) : (cntM l).length ≤ l.length := by have := (cntM_inv l [] (by simp)).2.1; rw [List.length_nil, Nat.zero_add] at this; exact this
theorem cntM_get (l : List StB) (y : StB) : (lkM (cntM l) y).getD 0 = l.count y := by
  have := (cntM_inv l [] (by simp)).2.2 y
  simpa [lkM, cntM] using this
theorem cntM_le (l : List StB) (y : StB) : (lkM (cntM l) y).getD 0 ≤ l.length := by rw [cntM_get]; exact List.count_le_length
/-- Those that have been met with an odd number. -/
def oddI (m : List (StB × Nat)) (seen : List Nat) : List StB := seen.filterMap fun i => (m[i]?).bind fun p => if p.2 % 2 = 1 then some p.1 else none
theorem oddI_snoc {m : List (StB × Nat)} {seen : List Nat} {i : Nat} {p : StB × Nat} (h : m[i]? = some p) : oddI m (seen ++ [i]) = if p.2 % 2 = 1 then oddI m seen ++ [p.1] else oddI m seen := by
  unfold oddI
  rw [List.filterMap_append]
  by_cases hp : p.2 % 2 = 1 <;> simp [List.filterMap_cons, h, hp]
theorem oddI_len (m : List (StB × Nat)) (seen : List Nat) : (oddI m seen).length ≤ seen.length := List.length_filterMap_le _ _
theorem oddI_mem {l : List StB} {seen : List Nat} (hc : ∀ i, i < (cntM l).length → i ∈ seen) (x : StB) : x ∈ oddI (cntM l) seen ↔ l.count x % 2 = 1 := by
  unfold oddI
  rw [List.mem_filterMap]
  constructor
  · rintro ⟨i, _, h⟩
    cases hm : (cntM l)[i]? with
    | none => rw [hm] at h; cases h
    | some p =>
      rw [hm] at h
      have h1 := lkM_get (cntM_nodup l) hm
      have h2 := cntM_get l p.1
      rw [h1] at h2
      by_cases hp : p.2 % 2 = 1
      · simp only [Option.bind_some, hp, if_true, Option.some.injEq] at h
        subst h
        simp only [Option.getD_some] at h2
        omega
      · simp [hp] at h
  · intro h
    have h2 := cntM_get l x
    cases hl : lkM (cntM l) x with
    | none => rw [hl] at h2; simp at h2; omega
    | some v =>
      rw [hl] at h2
      obtain ⟨i, hi, e⟩ := List.getElem_of_mem (lkM_mem hl)
      refine ⟨i, hc i hi, ?_⟩
      rw [List.getElem?_eq_getElem hi, e]
      simp only [Option.getD_some] at h2
      simp [h2, h]
theorem oddI_nodup {l : List StB} {seen : List Nat} (hn : seen.Nodup) : (oddI (cntM l) seen).Nodup := by
  induction seen with
  | nil => exact List.nodup_nil
  | cons i seen ih =>
    obtain ⟨h1, h2⟩ := List.nodup_cons.1 hn
    unfold oddI
    rw [List.filterMap_cons]
    cases hf : ((cntM l)[i]?).bind (fun p : StB × Nat => if p.2 % 2 = 1 then some p.1 else none) with
    | none => exact ih h2
    | some x =>
      refine List.nodup_cons.2 ⟨fun hm => ?_, ih h2⟩
      obtain ⟨j, hj, h⟩ := List.mem_filterMap.1 hm
      have key : ∀ t : Nat, ((cntM l)[t]?).bind (fun p : StB × Nat => if p.2 % 2 = 1 then some p.1 else none) = some x → ∃ p : StB × Nat, (cntM l)[t]? = some p ∧ p.1 = x := fun t ht => by
        cases hm : (cntM l)[t]? with
        | none => rw [hm] at ht; cases ht
        | some p =>
          rw [hm] at ht
          by_cases hp : p.2 % 2 = 1
          · simp only [Option.bind_some, hp, if_true, Option.some.injEq] at ht
            exact ⟨p, rfl, ht⟩
          · simp [hp] at ht
      obtain ⟨p, hp, e1⟩ := key i hf
      obtain ⟨q, hq, e2⟩ := key j h
      have : i = j := by
        obtain ⟨a1, a2⟩ := List.getElem?_eq_some_iff.1 hp
        obtain ⟨b1, b2⟩ := List.getElem?_eq_some_iff.1 hq
        have hpw := List.pairwise_iff_getElem.1 (cntM_nodup l)
        rcases Nat.lt_trichotomy i j with hl | hl | hl
        · exact absurd (show ((cntM l).map (·.1))[i]'(by simpa using a1) = ((cntM l).map (·.1))[j]'(by simpa using b1) by simp [a2, b2, e1, e2]) (hpw i j _ _ hl)
        · exact hl
        · exact absurd (show ((cntM l).map (·.1))[j]'(by simpa using b1) = ((cntM l).map (·.1))[i]'(by simpa using a1) by simp [a2, b2, e1, e2]) (hpw j i _ _ hl)
      subst this
      exact h1 hj
/-- What a sort of states leaves. -/
theorem sortedS {d d' : Array StB} (hp : Go.Sort.PermIn 0 d.size d d') (hs : Go.Sort.SortedIn (Go.Proofs.ltOf cfS) 0 d.size d') (hn : d.toList.Nodup) : Asc rkT d'.toList ∧ (∀ x, x ∈ d'.toList ↔ x ∈ d.toList) ∧ d'.toList.length = d.toList.length := by
  have hsz := hp.1
  have hperm : d'.toList.Perm d.toList := by
    have := hp.2.2
    rwa [← hsz, Array.extract_size, hsz, Array.extract_size] at this
  refine ⟨asc_of_sorted ?_ (hperm.nodup_iff.2 hn) (fun x _ y _ => rkT_inj x y), fun x => hperm.mem_iff, hperm.length_eq⟩
  refine List.pairwise_iff_getElem.2 fun i j hi hj hij => ?_
  have h := hs i j (Nat.zero_le _) hij (by simpa [hsz] using hj)
  rw [getElem!_pos d' j (by simpa using hj), getElem!_pos d' i (by simpa using hi)] at h
  unfold Go.Proofs.ltOf at h
  rw [decide_eq_false_iff_not, cfS_lt] at h
  simpa using h
/-- In order, what stands in a list an odd number of times. -/
def isOdd (l out : List StB) : Prop := Asc rkT out ∧ (∀ x, x ∈ out ↔ l.count x % 2 = 1) ∧ out.length ≤ l.length
theorem isOdd.unique {l a b : List StB} (h : isOdd l a) (k : isOdd l b) : a = b := Asc.ext h.1 k.1 fun x => (h.2.1 x).trans (k.2.1 x).symm
set_option maxRecDepth 100000 in
theorem odd_gives {B : Nat} {w0 : World} {H : Hp} {v : Value} (l : List StB) (hv : It.row v 72 8 (l.flatMap encS) ∈ H) (hl : l.length < 100000000) :
    GivesE Tryz.prog 67 #[v] B w0 H (fun v' H' => ∃ out, isOdd l out ∧ H' = .row v' 72 8 (out.flatMap encS) :: H) := by
  have iv : RB v H 72 8 (l.flatMap encS) := ⟨hv⟩
  have lf := fl_len encS_len l
  refine givesE_of (args := [v]) [(0, v)] Tryz.func67 rfl Tryz.ntmps67 rfl (argsF_cons rfl argsF_nil) ?_
  repeat' (first | (apply J_makeMap; exact rfl; (intro _)) | (apply Jq_move; exact rfl; exact rfl) | (apply Jq_assign; exact rfl; exact rfl) | (apply Jq_lenRs; exact rfl; exact rfl; (exact rb); exact lf; decide) | refine thenQ_normal ?_ | refine JC_seq ?_ | refine JC_region ?_ | refine J_nil ?_ | refine JC_block ?_)
  rename_i b3
  refine JC_cutB (Y := Unit) (fun _ => True) (fun _ => [(3, .map (some b3))]) (fun _ => .obj b3 (mapO (encM stK nV (cntM l))) :: H) ?_ ?_
  · refine JC_loop (X := Nat) (fun k => k ≤ l.length) (fun k => [(3, .map (some b3)), (10, v), (11, .int .i64 (l.length : Int)), (12, .int .i64 (k : Int))]) (fun k => .obj b3 (mapO (encM stK nV (cntM (l.take k)))) :: H) (fun k => l.length - k) 0 (Nat.zero_le _) ?_ ?_
    · (refine ent ?_ ?_; (repeat refine fr_cons rfl ?_); exact fr_nil; (repeat (exact List.Sublist.refl _)))
    · intro k hk
      by_cases hlt : k < l.length
      · obtain ⟨x, hx⟩ : ∃ x, l[k]? = some x := ⟨_, List.getElem?_eq_getElem hlt⟩
        have ux := encS_len x
        have hsu := cntM_succ hx
        have hnd := cntM_nodup (l.take k)
        have hle := cntM_le (l.take k) x
        rw [List.length_take] at hle
        generalize cntM (l.take k) = m at *
        repeat' (first | (apply Jq_cmp; exact rfl; exact rfl; exact rfl; exact rfl) | (apply J_sW; exact rfl; exact rfl; infer_instance; (exact rfl); (omega); (exact u8s_one _); infer_instance) | (apply Jq_indexRs; exact rfl; exact rfl; exact rfl; (exact rb); omega) | (apply Jq_loadRA; exact rfl; exact rfl; (exact rb); (exact fl_at encS_len hx); (omega); decide) | (apply J_alloc (cs := u8s Z8); exact rfl; exact rfl; (intro _)) | refine thenQ_normal ?_ | refine JC_seq ?_ | refine JC_region ?_ | refine J_nil ?_ | refine JC_block ?_ | refine JC_skip ?_ | (apply JC_dec_true; exact rfl; omega))
        rename_i b5
        have hlk : ((lkM m x).map nV).getD (.int .i64 0) = .int .i64 (((lkM m x).getD 0 : Nat) : Int) := by cases lkM m x <;> rfl
        have hnd' := putM_nodup hnd x ((lkM m x).getD 0)
        have hlk' : ((lkM (putM m x ((lkM m x).getD 0)) x).map nV).getD (.int .i64 0) = .int .i64 (((lkM m x).getD 0 : Nat) : Int) := by rw [lkM_put, if_pos rfl]; rfl
        refine JC_any (m := 7) rfl [.blk b5 (encS x) 72] mixed (by ((repeat (apply sub_cons; (focus ((with_reducible (repeat (exact m0))); done)))); exact sub_nil)) ?_
        (apply JF_q 0; exact rfl; kernel_rfl; exact rfl; (intro E hE; (apply q_move; exact rfl)))
        (apply JF_q 1; exact rfl; kernel_rfl; exact rfl; (intro E hE; (apply q_loadW; exact rfl; (refine hE _ ?_; exact mb); (omega))))
        (apply JF_all [2, 4]; kernel_rfl)
        (apply JFs_cons; exact rfl)
        · (apply Jq_lookT (eV := nV) (E := kencS); exact rfl; exact rfl; exact rfl; exact mo; exact hnd; exact hlk)
          (apply J_nil; apply JF_end; ((repeat (apply sub_cons; (focus ((with_reducible (repeat (exact m0))); done)))); exact sub_nil))
          (apply JF_q 3; exact rfl; kernel_rfl; exact rfl; (intro E hE; (apply q_add; exact rfl; exact rfl; omega)))
          (apply JF_all [4]; kernel_rfl)
          (apply JFs_cons; exact rfl)
          · (apply J_entT (u0 := 0) (eV := nV) (E := kencS); exact rfl; exact rfl; exact rfl; infer_instance; exact rfl; exact hnd; exact rfl; (intro j hj))
            (apply J_nil; apply JF_end; ((repeat (apply sub_cons; (focus ((with_reducible (repeat (exact m0))); done)))); exact sub_nil))
            (apply JF_q 5; exact rfl; kernel_rfl; exact rfl; (intro E hE; (apply q_extract; exact rfl; exact rfl)))
            (apply JF_all [6]; kernel_rfl)
            (apply JFs_cons; exact rfl)
            · (apply J_estT (eV := nV) (E := kencS) (v := (lkM m x).getD 0 + 1); exact rfl; exact rfl; exact rfl; infer_instance; exact rfl; exact hnd; exact hj; exact hsu.symm)
              (apply J_nil; apply JF_end; ((repeat (apply sub_cons; (focus ((with_reducible (repeat (exact m0))); done)))); exact sub_nil))
              (apply JF_done; kernel_rfl)
              ((repeat' (first | (apply Jq_move; exact rfl; exact rfl) | (apply Jq_add; exact rfl; exact rfl; exact rfl; omega) | refine thenQ_normal ?_ | refine inBlockQ_normal ?_ | refine JC_region ?_ | refine J_nil ?_)); refine ⟨k + 1, by omega, by omega, ?_⟩; (refine ent ?_ ?_; (repeat refine fr_cons rfl ?_); exact fr_nil; (repeat (first | exact List.Sublist.refl _ | refine List.Sublist.cons _ ?_))))
            exact JFs_nil
          exact JFs_nil
        (apply JFs_cons; exact rfl)
        · (apply J_entT (u0 := 0) (eV := nV) (E := kencS); exact rfl; exact rfl; exact rfl; infer_instance; exact rfl; exact hnd; exact rfl; (intro j hj))
          (apply J_nil; apply JF_end; ((repeat (apply sub_cons; (focus ((with_reducible (repeat (exact m0))); done)))); exact sub_nil))
          (apply JF_q 5; exact rfl; kernel_rfl; exact rfl; (intro E hE; (apply q_extract; exact rfl; exact rfl)))
          (apply JF_all [2]; kernel_rfl)
          (apply JFs_cons; exact rfl)
          · (apply Jq_lookT (eV := nV) (E := kencS); exact rfl; exact rfl; exact rfl; exact mo; exact hnd'; exact hlk')
            (apply J_nil; apply JF_end; ((repeat (apply sub_cons; (focus ((with_reducible (repeat (exact m0))); done)))); exact sub_nil))
            (apply JF_q 3; exact rfl; kernel_rfl; exact rfl; (intro E hE; (apply q_add; exact rfl; exact rfl; omega)))
            (apply JF_all [6]; kernel_rfl)
            (apply JFs_cons; exact rfl)
            · (apply J_estT (eV := nV) (E := kencS) (v := (lkM m x).getD 0 + 1); exact rfl; exact rfl; exact rfl; infer_instance; exact rfl; exact hnd; exact hj; exact hsu.symm)
              (apply J_nil; apply JF_end; ((repeat (apply sub_cons; (focus ((with_reducible (repeat (exact m0))); done)))); exact sub_nil))
              (apply JF_done; kernel_rfl)
              ((repeat' (first | (apply Jq_move; exact rfl; exact rfl) | (apply Jq_add; exact rfl; exact rfl; exact rfl; omega) | refine thenQ_normal ?_ | refine inBlockQ_normal ?_ | refine JC_region ?_ | refine J_nil ?_)); refine ⟨k + 1, by omega, by omega, ?_⟩; (refine ent ?_ ?_; (repeat refine fr_cons rfl ?_); exact fr_nil; (repeat (first | exact List.Sublist.refl _ | refine List.Sublist.cons _ ?_))))
            exact JFs_nil
          exact JFs_nil
        exact JFs_nil
      · obtain rfl : k = l.length := by omega
        repeat' (first | (apply Jq_cmp; exact rfl; exact rfl; exact rfl; exact rfl) | refine thenQ_normal ?_ | refine thenQ_exit ?_ | refine inBlockQ_here ?_ | refine JC_seq ?_ | refine JC_region ?_ | refine J_nil ?_ | refine JC_exit ?_ | (apply JC_dec_false; exact rfl; omega))
        refine ⟨(), trivial, ?_⟩
        rw [List.take_length]
        (refine ent ?_ ?_; (repeat refine fr_cons rfl ?_); exact fr_nil; (repeat (exact List.Sublist.refl _)))
  · intro _ _
    have hnd := cntM_nodup l
    have hml := cntM_len l
    repeat' (first | (apply J_rangeT (eK := stK) (eV := nV); exact rfl; exact rfl; exact mo; (intro _)) | (apply Jq_move; exact rfl; exact rfl) | (apply Jq_assign; exact rfl; exact rfl) | (apply J_lit0; exact rfl; (intro _)) | refine thenQ_normal ?_ | refine JC_seq ?_ | refine JC_region ?_ | refine J_nil ?_ | refine JC_block ?_)
    rename_i b23 b25
    refine JC_cutB (Y := Value × List StB) (fun p => p.2.Nodup ∧ (∀ x, x ∈ p.2 ↔ l.count x % 2 = 1) ∧ p.2.length ≤ l.length ∧ (p.2 = [] → p.1 ≠ .slice none 0 0)) (fun p => [(6, p.1)]) (fun p => .row p.1 72 8 (p.2.flatMap encS) :: H) ?_ ?_
    · refine JC_loop (X := Value × List Nat) (fun p => p.2.Nodup ∧ (∀ i ∈ p.2, i < (cntM l).length) ∧ (oddI (cntM l) p.2 = [] → p.1 ≠ .slice none 0 0)) (fun p => [(6, p.1), (25, .pointer (some ⟨b25, 0, none⟩))]) (fun p => .obj b25 (itO b3 (cntM l).length p.2) :: .row p.1 72 8 ((oddI (cntM l) p.2).flatMap encS) :: .obj b3 (mapO (encM stK nV (cntM l))) :: H) (fun p => (cntM l).length - p.2.length) (.slice (some ⟨b23, 0, none⟩) 0 0, []) ⟨List.nodup_nil, by simp, fun _ h => by cases h⟩ ?_ ?_
      · (refine ent ?_ ?_; (repeat refine fr_cons rfl ?_); exact fr_nil; (repeat (exact List.Sublist.refl _)))
      · rintro ⟨u, seen⟩ ⟨hs1, hs2, hs3⟩
        dsimp only at hs1 hs2 hs3 ⊢
        have hsl : seen.length ≤ (cntM l).length := by
          have := List.Nodup.length_le_of_subset hs1 (l₂ := List.range (cntM l).length) fun a ha => List.mem_range.2 (hs2 a ha)
          rwa [List.length_range] at this
        have hol := oddI_len (cntM l) seen
        have lfo := fl_len encS_len (oddI (cntM l) seen)
        repeat' (first | refine J_nextT (eK := stK) (eV := nV) (m := cntM l) rfl rfl inferInstance rfl mo hs2 (fun hall => ?_) (fun i p hi hns => ?_) | (apply Jq_entryT (eK := stK) (eV := nV) (m := cntM l) (p := p); exact rfl; exact rfl; exact mo; exact mo; exact hi) | (apply Jq_ext20; exact rfl; exact rfl) | (apply Jq_ext21; exact rfl; exact rfl) | (apply Jq_extract; exact rfl; exact rfl; exact rfl) | (apply J_alloc (cs := u8s Z8); exact rfl; exact rfl; (intro _)) | refine thenQ_normal ?_ | refine thenQ_exit ?_ | refine inBlockQ_here ?_ | refine JC_seq ?_ | refine JC_region ?_ | refine J_nil ?_ | refine JC_block ?_ | refine JC_skip ?_ | refine JC_exit ?_ | (apply JC_if_true; exact rfl) | (apply JC_if_false; exact rfl))
        · refine ⟨(u, oddI (cntM l) seen), ⟨oddI_nodup hs1, oddI_mem hall, by dsimp only; omega, hs3⟩, ?_⟩
          (refine entP (ent ?_ (List.nil_sublist _)) ?_; (repeat refine fr_cons rfl ?_); exact fr_nil; (repeat (first | exact sp_end | (with_reducible apply sp1))))
        · have up := encS_len p.1
          have hle := cntM_le l p.1
          have hpv := lkM_get hnd hi
          rw [hpv, Option.getD_some] at hle
          have hsn := oddI_snoc (seen := seen) hi
          have hin : ∀ t ∈ seen ++ [i], t < (cntM l).length := fun t ht => by
            rcases List.mem_append.1 ht with h | h
            · exact hs2 t h
            · rw [List.mem_singleton] at h
              subst h
              exact (List.getElem?_eq_some_iff.1 hi).1
          have hnn : (seen ++ [i]).Nodup := List.nodup_append.2 ⟨hs1, by simp, fun a ha b hb e => hns (by rw [List.mem_singleton] at hb; subst hb e; exact ha)⟩
          have hil := (List.getElem?_eq_some_iff.1 hi).1
          have hlt : seen.length < (cntM l).length := by
            have := List.Nodup.length_le_of_subset hnn (l₂ := List.range (cntM l).length) fun a ha => List.mem_range.2 (hin a ha)
            rw [List.length_range, List.length_append, List.length_singleton] at this
            omega
          obtain ⟨x, c⟩ := p
          dsimp only at up hle hpv hsn ⊢
          unfold nV stK
          have push : (oddI (cntM l) seen).flatMap encS ++ encS x = (oddI (cntM l) seen ++ [x]).flatMap encS := fl_snoc
          have ux0 : encS x ≠ [] := fun e => by rw [e] at up; cases up
          repeat' (first | (apply J_ap; decide; exact rfl; exact rfl; exact rfl; infer_instance; exact rb; exact ux0; exact encS_one x; ((show (_ + _) * _ ≤ _); omega); decide; exact push; (intro _)) | (apply Jq_move; exact rfl; exact rfl) | (apply Jq_assign; exact rfl; exact rfl) | (apply Jq_cmp; exact rfl; exact rfl; exact rfl; exact rfl) | (apply Jq_loadW; exact rfl; exact rfl; (exact mb); (omega)) | (apply J_sW; exact rfl; exact rfl; infer_instance; (exact rfl); (omega); (exact u8s_one _); infer_instance) | (apply Jq_rem; exact rfl; exact rfl; exact rfl; omega; omega) | (apply J_lit1s; exact rfl; exact rfl; (omega); decide; decide; (intro _)) | refine thenQ_normal ?_ | refine inBlockQ_normal ?_ | refine JC_seq ?_ | refine JC_region ?_ | refine J_nil ?_ | refine JC_skip ?_ | refine JC_dec rfl (fun _ => ?_) (fun _ => ?_))
          · rename_i hc b' v'
            rw [if_pos (by omega)] at hsn
            refine ⟨(v', seen ++ [i]), ⟨hnn, hin, fun e => ?_⟩, by dsimp only; rw [List.length_append, List.length_singleton]; omega, ?_⟩
            · dsimp only at e
              rw [hsn] at e
              simp at e
            · dsimp only
              rw [hsn]
              (refine entP (ent ?_ (List.nil_sublist _)) ?_; (repeat refine fr_cons rfl ?_); exact fr_nil; (repeat (exact sp_end)))
          · rename_i hc
            rw [if_neg (by omega)] at hsn
            refine ⟨(u, seen ++ [i]), ⟨hnn, hin, fun e => hs3 (by dsimp only at e; rwa [hsn] at e)⟩, by dsimp only; rw [List.length_append, List.length_singleton]; omega, ?_⟩
            dsimp only
            rw [hsn]
            (refine entP (ent ?_ (List.nil_sublist _)) ?_; (repeat refine fr_cons rfl ?_); exact fr_nil; (repeat (exact sp_end)))
    · rintro ⟨u, out⟩ ⟨h1, h2, h3, h4⟩
      dsimp only at h1 h2 h3 h4 ⊢
      · have he : out.flatMap encS = rowSt out.toArray := by rw [rowSt_flat, List.toList_toArray]
        rw [he]
        have hpos : 0 < out.toArray.size ∨ u ≠ .slice none 0 0 := by
          cases out with
          | nil => exact .inr (h4 rfl)
          | cons a out => exact .inl (by simp)
        repeat' (first | (apply JcE; exact rfl; exact rfl; exact rfl; infer_instance; (exact sortT_gives out.toArray (by simp only [List.size_toArray]; omega) hpos); (intro v' H' hV; obtain ⟨rfl, d', hp, hso, rfl⟩ := hV)) | (apply Jq_move; exact rfl; exact rfl) | (apply Jq_assign; exact rfl; exact rfl) | refine thenQ_normal ?_ | refine JC_seq ?_ | refine JC_region ?_ | refine J_nil ?_ | refine JC_ret ?_)
        have hfin := sortedS hp hso (by simpa using h1)
        refine e1 (H' := .row u 72 8 (rowSt d') :: H) rfl rfl rfl ?_ ⟨d'.toList, ⟨hfin.1, fun x => by rw [hfin.2.1, List.toList_toArray, h2], by rw [hfin.2.2]; simpa using h3⟩, by rw [rowSt_flat]⟩
        (refine ent ?_ ?_; (repeat refine fr_cons rfl ?_); exact fr_nil; (repeat (exact List.Sublist.refl _)))
end Go.Proofs.YtmbbcmebdefggaaGreatDoor
