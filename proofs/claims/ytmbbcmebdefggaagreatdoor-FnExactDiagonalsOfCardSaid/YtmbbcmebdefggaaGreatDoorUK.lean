/- The comparison of grades as slices.SortFunc asks for it. Plain: tables of numbers by grades, in order. Grades as keys of maps. -/
import Derived.Test.YtmbbcmebdefggaaGreatDoorTC
import Derived.Test.YtmbbcmebdefggaaGreatDoorV
import Derived.Test.YtmbbcmebdefggaaGreatDoorPG
import Derived.Test.YtmbbcmebdefggaaGreatDoorTG
import Derived.Test.YtmbbcmebdefggaaGreatDoorMR
namespace Go.Proofs.YtmbbcmebdefggaaGreatDoor
open Go Go.RowKit SL
abbrev GrB : Type := Int × Int
def encGr (g : GrB) : List Value := [.int .i64 g.1, .int .i64 g.2]
theorem encGr_len (g : GrB) : (encGr g).length = 2 := rfl
theorem encGr_one (g : GrB) : ∀ u ∈ encGr g, u.oneCell' = true := by
  intro u hu
  simp only [encGr, List.mem_cons, List.not_mem_nil, or_false] at hu
  rcases hu with rfl | rfl <;> rfl
def cmpI (a b : Int) : Int := if a < b then -1 else if b < a then 1 else 0
def cfGr (x y : GrB) : Int := if cmpI x.1 y.1 = 0 then cmpI x.2 y.2 else cmpI x.1 y.1
set_option maxRecDepth 100000 in
theorem isNaN_gives (a : Int) (w : World) : Gives Tryz.prog 174 #[.int .i64 a] (.bool false) w := by
  refine gives_of (args := [.int .i64 a]) [(0, .int .i64 a)] [] Tryz.func174 rfl Tryz.ntmps174 rfl (argsF_cons rfl argsF_nil) (Holds.start w) ?_
  repeat' (first | (apply Jq_move; exact rfl; exact rfl) | (apply Jq_assign; exact rfl; exact rfl) | (apply Jq_cmp; exact rfl; exact rfl; exact rfl; exact rfl) | refine thenQ_normal ?_ | refine JC_seq ?_ | refine JC_region ?_ | refine J_nil ?_ | refine JC_ret ?_)
  exact g1 rfl rfl rfl (by simp)
set_option maxRecDepth 100000 in
theorem cmpI_gives (a b : Int) (w : World) : Gives Tryz.prog 144 #[.int .i64 a, .int .i64 b] (.int .i64 (cmpI a b)) w := by
  refine gives_of (args := [.int .i64 a, .int .i64 b]) [(0, .int .i64 a), (1, .int .i64 b)] [] Tryz.func144 rfl Tryz.ntmps144 rfl (argsF_cons rfl (argsF_cons rfl argsF_nil)) (Holds.start w) ?_
  repeat' (first | (apply Jq_move; exact rfl; exact rfl) | (apply Jq_assign; exact rfl; exact rfl) | (apply Jq_cmp; exact rfl; exact rfl; exact rfl; exact rfl) | (apply Jc; exact rfl; exact rfl; exact rfl; infer_instance; ((intro w hw); first | exact isNaN_gives a w | exact isNaN_gives b w)) | refine thenQ_normal ?_ | refine thenQ_ret ?_ | refine JC_seq ?_ | refine JC_region ?_ | refine J_nil ?_ | refine JC_skip ?_ | refine JC_ret ?_ | (apply JC_if_false; exact rfl) | refine JC_dec rfl (fun _ => ?_) (fun _ => ?_))
  · rename_i h
    exact g1 rfl rfl rfl (by unfold cmpI; rw [if_pos h])
  · rename_i h1 h2
    exact g1 rfl rfl rfl (by unfold cmpI; rw [if_neg h1, if_pos h2])
  · rename_i h1 h2
    exact g1 rfl rfl rfl (by unfold cmpI; rw [if_neg h1, if_neg h2])
set_option maxRecDepth 100000 in
theorem cmpOr_gives {B : Nat} {w0 : World} {H : Hp} {v : Value} (a b : Int) (hv : It.row v 3 1 [.int .i64 a, .int .i64 b] ∈ H) :
    GivesM Tryz.prog 143 #[v] B w0 H (.int .i64 (if a = 0 then b else a)) H := by
  have iv : RB v H 3 1 [.int .i64 a, .int .i64 b] := ⟨hv⟩
  have l2 : ([.int .i64 a, .int .i64 b] : List Value).length = 2 := rfl
  refine givesM_of (args := [v]) [(0, v)] Tryz.func143 rfl Tryz.ntmps143 rfl (argsF_cons rfl argsF_nil) ?_
  repeat' (first | (apply Jq_move; exact rfl; exact rfl) | (apply Jq_assign; exact rfl; exact rfl) | (apply Jq_lenR; exact rfl; exact rfl; (exact rb)) | refine thenQ_normal ?_ | refine JC_seq ?_ | refine JC_region ?_ | refine J_nil ?_ | refine JC_block ?_)
  refine JC_loop (X := Nat) (fun k => k ≤ 2 ∧ (1 ≤ k → a = 0) ∧ (2 ≤ k → b = 0)) (fun k => [(8, .int .i64 (k : Int)), (7, .int .i64 2), (6, v), (3, .int .i64 0)]) (fun _ => H) (fun k => 2 - k) 0 ⟨by omega, by omega, by omega⟩ ?_ ?_
  · (refine ent ?_ ?_; (repeat refine fr_cons rfl ?_); exact fr_nil; (repeat (exact List.Sublist.refl _)))
  · rintro k ⟨hk, h1, h2⟩
    by_cases hlt : k < 2
    · obtain ⟨z, hz, hz2, hz3⟩ : ∃ z, ([.int .i64 a, .int .i64 b] : List Value)[k]? = some (.int .i64 z) ∧ (k = 0 → z = a) ∧ (k = 1 → z = b) := by
        rcases (show k = 0 ∨ k = 1 by omega) with rfl | rfl
        · exact ⟨a, rfl, fun _ => rfl, by omega⟩
        · exact ⟨b, rfl, by omega, fun _ => rfl⟩
      repeat' (first | (apply Jq_move; exact rfl; exact rfl) | (apply Jq_assign; exact rfl; exact rfl) | (apply Jq_cmp; exact rfl; exact rfl; exact rfl; exact rfl) | (apply Jq_add; exact rfl; exact rfl; exact rfl; omega) | (apply Jq_indexRN; exact rfl; exact rfl; exact rfl; (exact rb); omega) | (apply Jq_loadR; exact rfl; exact rfl; (exact rb); (exact hz)) | refine thenQ_normal ?_ | refine thenQ_ret ?_ | refine inBlockQ_normal ?_ | refine inBlockQ_ret ?_ | refine JC_seq ?_ | refine JC_region ?_ | refine J_nil ?_ | refine JC_block ?_ | refine JC_skip ?_ | refine JC_ret ?_ | (apply JC_dec_true; exact rfl; omega) | refine JC_ndec rfl (fun _ => ?_) (fun _ => ?_))
      · rename_i hc
        have e : z = if a = 0 then b else a := by
          rcases (show k = 0 ∨ k = 1 by omega) with rfl | rfl
          · rw [hz2 rfl] at hc ⊢; rw [if_neg hc]
          · rw [if_pos (h1 (by omega)), hz3 rfl]
        refine SL.m1 rfl rfl rfl (by rw [e]) ?_
        (refine ent ?_ ?_; (repeat refine fr_cons rfl ?_); exact fr_nil; (repeat (exact List.Sublist.refl _)))
      · rename_i hc
        have hc' : z = 0 := by omega
        refine ⟨k + 1, ⟨by omega, fun _ => ?_, fun _ => ?_⟩, by omega, ?_⟩
        · rcases (show k = 0 ∨ k = 1 by omega) with rfl | rfl
          · rw [← hz2 rfl]; exact hc'
          · exact h1 (by omega)
        · rw [← hz3 (by omega)]; exact hc'
        · (refine ent ?_ ?_; (repeat refine fr_cons rfl ?_); exact fr_nil; (repeat (exact List.Sublist.refl _)))
    · obtain rfl : k = 2 := by omega
      repeat' (first | (apply Jq_move; exact rfl; exact rfl) | (apply Jq_assign; exact rfl; exact rfl) | (apply Jq_cmp; exact rfl; exact rfl; exact rfl; exact rfl) | refine thenQ_normal ?_ | refine thenQ_exit ?_ | refine inBlockQ_here ?_ | refine JC_seq ?_ | refine JC_region ?_ | refine J_nil ?_ | refine JC_ret ?_ | refine JC_exit ?_ | (apply JC_if_false; exact rfl))
      refine SL.m1 rfl rfl rfl (by rw [h1 (by omega), h2 (by omega)]; rfl) ?_
      (refine ent ?_ ?_; (repeat refine fr_cons rfl ?_); exact fr_nil; (repeat (exact List.Sublist.refl _)))
set_option maxRecDepth 100000 in
theorem compareGr_gives (x y : GrB) (w : World) : Gives Tryz.prog 108 #[.agg (encGr x).toArray, .agg (encGr y).toArray] (.int .i64 (cfGr x y)) w := by
  have ux := encGr_len x
  have uy := encGr_len y
  refine gives_of (args := [.agg (encGr x).toArray, .agg (encGr y).toArray]) [(0, .agg (encGr x).toArray), (1, .agg (encGr y).toArray)] [] Tryz.func108 rfl Tryz.ntmps108 rfl (argsF_cons rfl (argsF_cons rfl argsF_nil)) (Holds.start w) ?_
  repeat' (first | (apply Jq_assign; exact rfl; exact rfl) | (apply J_box; exact rfl; exact rfl; exact rfl; (intro _)) | refine thenQ_normal ?_ | refine JC_seq ?_ | refine JC_region ?_ | refine J_nil ?_)
  rename_i b2 b3
  refine JC_any (m := 13) rfl [.blk b3 (encGr y) 108, .blk b2 (encGr x) 108] mixed (by ((repeat (apply sub_cons; (focus ((with_reducible (repeat (first | exact m0 | refine mS ?_))); done)))); exact sub_nil)) ?_
  (apply JF_q 0; exact rfl; kernel_rfl; exact rfl; (intro E hE; (apply q_fieldAddr; exact rfl)))
  (apply JF_q 1; exact rfl; kernel_rfl; exact rfl; (intro E hE; (apply q_load; exact rfl; (refine hE _ ?_; exact mb); (exact rfl))))
  (apply JF_q 2; exact rfl; kernel_rfl; exact rfl; (intro E hE; (apply q_fieldAddr; exact rfl)))
  (apply JF_q 3; exact rfl; kernel_rfl; exact rfl; (intro E hE; (apply q_load; exact rfl; (refine hE _ ?_; exact mb); (exact rfl))))
  (apply JF_q 4; exact rfl; kernel_rfl; exact rfl; (intro E hE; (apply q_callE; exact rfl; exact rfl; infer_instance; ((intro w hw); exact cmpI_gives _ _ w))))
  (apply JF_q 5; exact rfl; kernel_rfl; exact rfl; (intro E hE; (apply q_fieldAddr; exact rfl)))
  (apply JF_q 6; exact rfl; kernel_rfl; exact rfl; (intro E hE; (apply q_load; exact rfl; (refine hE _ ?_; exact mb); (exact rfl))))
  (apply JF_q 7; exact rfl; kernel_rfl; exact rfl; (intro E hE; (apply q_fieldAddr; exact rfl)))
  (apply JF_q 8; exact rfl; kernel_rfl; exact rfl; (intro E hE; (apply q_load; exact rfl; (refine hE _ ?_; exact mb); (exact rfl))))
  (apply JF_q 9; exact rfl; kernel_rfl; exact rfl; (intro E hE; (apply q_callE; exact rfl; exact rfl; infer_instance; ((intro w hw); exact cmpI_gives _ _ w))))
  (apply JF_all [10]; kernel_rfl)
  (apply JFs_cons; exact rfl)
  · (apply J_lit2; exact rfl; exact rfl; exact rfl; exact rfl; exact rfl; (intro _))
    (apply J_nil; apply JF_end; ((repeat (apply sub_cons; (focus ((with_reducible (repeat (first | exact m0 | refine mS ?_))); done)))); exact sub_nil))
    (apply JF_all [11]; kernel_rfl)
    (apply JFs_cons; exact rfl)
    · (apply JcM; exact rfl; exact rfl; exact rfl; infer_instance; exact cmpOr_gives _ _ m0)
      (apply J_nil; apply JF_end; ((repeat (apply sub_cons; (focus ((with_reducible (repeat (first | exact m0 | refine mS ?_))); done)))); exact sub_nil))
      (apply JF_q 12; exact rfl; kernel_rfl; exact rfl; (intro E hE; (apply q_assign; exact rfl)))
      (apply JF_done; kernel_rfl)
      ((repeat' (first | refine thenQ_normal ?_ | refine JC_ret ?_)); exact g1 rfl rfl rfl rfl)
    exact JFs_nil
  exact JFs_nil
end Go.Proofs.YtmbbcmebdefggaaGreatDoor
namespace Go.Proofs.YtmbbcmebdefggaaGreatDoor
abbrev TB : Type := List (GrB × Int)
def gLt (p q : GrB) : Prop := p.1 < q.1 ∨ p.1 = q.1 ∧ p.2 < q.2
instance (p q : GrB) : Decidable (gLt p q) := by unfold gLt; infer_instance
theorem gLt.irr (p : GrB) : ¬ gLt p p := by unfold gLt; omega
theorem gLt.tr {p q r : GrB} (h : gLt p q) (k : gLt q r) : gLt p r := by unfold gLt at *; omega
theorem gLt.asym {p q : GrB} (h : gLt p q) : ¬ gLt q p := fun k => gLt.irr p (h.tr k)
theorem gLt.tot (p q : GrB) : gLt p q ∨ p = q ∨ gLt q p := by
  unfold gLt
  by_cases h1 : p.1 < q.1
  · exact .inl (.inl h1)
  · by_cases h2 : q.1 < p.1
    · exact .inr (.inr (.inl h2))
    · have h3 : p.1 = q.1 := by omega
      by_cases h4 : p.2 < q.2
      · exact .inl (.inr ⟨h3, h4⟩)
      · by_cases h5 : q.2 < p.2
        · exact .inr (.inr (.inr ⟨h3.symm, h5⟩))
        · exact .inr (.inl (Prod.ext h3 (by omega)))
/-- A table in order, with no 0. -/
structure Tab (T : TB) : Prop where
  srt : T.Pairwise fun x y => gLt x.1 y.1
  nz : ∀ e ∈ T, e.2 ≠ 0
/-- The number of a grade. -/
def vT (T : TB) (g : GrB) : Int := (lkM T g).getD 0
theorem vT_nil (g : GrB) : vT [] g = 0 := rfl
theorem vT_cons (e : GrB × Int) (T : TB) (g : GrB) : vT (e :: T) g = if e.1 = g then e.2 else vT T g := by
  unfold vT lkM
  rw [List.find?_cons]
  by_cases h : e.1 = g
  · rw [if_pos h, decide_eq_true h]; rfl
  · rw [if_neg h, decide_eq_false h]
theorem vT_gt {T : TB} {g : GrB} (h : ∀ e ∈ T, gLt g e.1) : vT T g = 0 := by
  induction T with
  | nil => rfl
  | cons e T ih =>
    rw [vT_cons, if_neg fun k => gLt.irr g (by have := h e List.mem_cons_self; rwa [k] at this)]
    exact ih fun e he => h e (List.mem_cons_of_mem _ he)
theorem Tab.cons {e : GrB × Int} {T : TB} (h : Tab (e :: T)) : (∀ x ∈ T, gLt e.1 x.1) ∧ Tab T ∧ e.2 ≠ 0 := by
  obtain ⟨h1, h2⟩ := h
  obtain ⟨h3, h4⟩ := List.pairwise_cons.1 h1
  exact ⟨h3, ⟨h4, fun x hx => h2 x (List.mem_cons_of_mem _ hx)⟩, h2 e List.mem_cons_self⟩
theorem Tab.mk' {e : GrB × Int} {T : TB} (h1 : ∀ x ∈ T, gLt e.1 x.1) (h2 : Tab T) (h3 : e.2 ≠ 0) : Tab (e :: T) := ⟨List.pairwise_cons.2 ⟨h1, h2.srt⟩, fun x hx => by
  rcases List.mem_cons.1 hx with rfl | hx
  · exact h3
  · exact h2.nz x hx⟩
theorem Tab.mem {T : TB} (h : Tab T) (e : GrB × Int) : e ∈ T ↔ vT T e.1 = e.2 ∧ e.2 ≠ 0 := by
  induction T with
  | nil =>
    rw [vT_nil]
    exact ⟨fun k => absurd k List.not_mem_nil, fun ⟨k, k2⟩ => absurd k.symm k2⟩
  | cons x T ih =>
    obtain ⟨h1, h2, h3⟩ := h.cons
    rw [vT_cons, List.mem_cons]
    by_cases hx : x.1 = e.1
    · rw [if_pos hx]
      constructor
      · rintro (rfl | k)
        · exact ⟨rfl, h3⟩
        · have := h1 e k
          rw [hx] at this
          exact absurd this (gLt.irr _)
      · rintro ⟨k, _⟩
        exact .inl (Prod.ext hx.symm k.symm)
    · rw [if_neg hx, ← ih h2]
      exact ⟨fun k => k.resolve_left fun k2 => hx (by rw [k2]), .inr⟩
/-- A number added. -/
def insT (g : GrB) (k : Int) : TB → TB
  | [] => [(g, k)]
  | e :: T => if gLt e.1 g then e :: insT g k T else if e.1 = g then (if e.2 + k = 0 then T else (g, e.2 + k) :: T) else (g, k) :: e :: T
theorem insT_sub (g : GrB) (k : Int) : ∀ (T : TB) (x : GrB × Int), x ∈ insT g k T → x.1 = g ∨ x ∈ T
  | [], x, h => .inl (by rw [insT, List.mem_singleton] at h; rw [h])
  | e :: T, x, h => by
    unfold insT at h
    split at h
    · rcases List.mem_cons.1 h with rfl | h
      · exact .inr List.mem_cons_self
      · exact (insT_sub g k T x h).imp id (List.mem_cons_of_mem _)
    · split at h
      · split at h
        · exact .inr (List.mem_cons_of_mem _ h)
        · rcases List.mem_cons.1 h with rfl | h
          · exact .inl rfl
          · exact .inr (List.mem_cons_of_mem _ h)
      · rcases List.mem_cons.1 h with rfl | h
        · exact .inl rfl
        · exact .inr h
theorem insT_tab {g : GrB} {k : Int} (hk : k ≠ 0) : ∀ {T : TB}, Tab T → Tab (insT g k T)
  | [], _ => ⟨List.pairwise_singleton _ _, fun e he => by rw [insT, List.mem_singleton] at he; rw [he]; exact hk⟩
  | e :: T, h => by
    obtain ⟨h1, h2, h3⟩ := h.cons
    unfold insT
    split
    · rename_i hlt
      refine Tab.mk' (fun x hx => ?_) (insT_tab hk h2) h3
      rcases insT_sub g k T x hx with e2 | hx
      · rw [e2]; exact hlt
      · exact h1 x hx
    · split
      · rename_i he
        split
        · exact h2
        · rename_i hz
          exact Tab.mk' (fun x hx => by have := h1 x hx; rw [he] at this; exact this) h2 hz
      · rename_i hn hne
        have hgt : gLt g e.1 := by rcases gLt.tot e.1 g with k | k | k; exact absurd k hn; exact absurd k hne; exact k
        exact Tab.mk' (fun x hx => by
          rcases List.mem_cons.1 hx with rfl | hx
          · exact hgt
          · exact hgt.tr (h1 x hx)) h hk
theorem insT_val {g : GrB} {k : Int} : ∀ {T : TB}, Tab T → ∀ q, vT (insT g k T) q = vT T q + if q = g then k else 0
  | [], _, q => by
    rw [insT, vT_cons, vT_nil]
    by_cases h : q = g
    · rw [if_pos h, if_pos h.symm, Int.zero_add]
    · rw [if_neg h, if_neg fun k => h k.symm]; rfl
  | e :: T, h, q => by
    obtain ⟨h1, h2, h3⟩ := h.cons
    unfold insT
    split
    · rename_i hlt
      rw [vT_cons, vT_cons, insT_val h2]
      by_cases he : e.1 = q
      · rw [if_pos he, if_pos he, if_neg fun k => gLt.irr g (by rw [he, k] at hlt; exact hlt)]; omega
      · rw [if_neg he, if_neg he]
    · split
      · rename_i he
        have h0 : vT T g = 0 := vT_gt fun x hx => he ▸ h1 x hx
        split
        · rename_i hz
          rw [vT_cons]
          by_cases hq : q = g
          · subst hq
            rw [if_pos he, if_pos rfl, h0]; omega
          · rw [if_neg fun k => hq (k.symm.trans he), if_neg hq]; omega
        · rw [vT_cons, vT_cons]
          by_cases hq : q = g
          · subst hq
            rw [if_pos rfl, if_pos he, if_pos rfl]
          · rw [if_neg (fun k => hq k.symm), if_neg fun k => hq (k.symm.trans he), if_neg hq]; omega
      · rename_i hn hne
        have hgt : gLt g e.1 := by rcases gLt.tot e.1 g with k | k | k; exact absurd k hn; exact absurd k hne; exact k
        rw [vT_cons]
        by_cases hq : q = g
        · subst hq
          have h0 : vT (e :: T) q = 0 := vT_gt fun x hx => by
            rcases List.mem_cons.1 hx with rfl | hx
            · exact hgt
            · exact hgt.tr (h1 x hx)
          rw [if_pos rfl, if_pos rfl, h0, Int.zero_add]
        · rw [if_neg (fun k => hq k.symm), if_neg hq, Int.add_zero]
/-- As the loop goes. -/
def stT (g : GrB) (k : Int) (s : TB × Bool) (e : GrB × Int) : TB × Bool :=
  if e.1 = g then (if e.2 + k = 0 then s.1 else s.1 ++ [(g, e.2 + k)], true)
  else if s.2 = false ∧ gLt g e.1 then (s.1 ++ [(g, k)] ++ [e], true) else (s.1 ++ [e], s.2)
def enT (g : GrB) (k : Int) (s : TB × Bool) : TB := if s.2 = false then s.1 ++ [(g, k)] else s.1
theorem stT_done (g : GrB) (k : Int) : ∀ (T : TB) (out : TB), (∀ e ∈ T, e.1 ≠ g) → T.foldl (stT g k) (out, true) = (out ++ T, true)
  | [], out, _ => by rw [List.foldl_nil, List.append_nil]
  | e :: T, out, h => by
    have h1 : stT g k (out, true) e = (out ++ [e], true) := by
      unfold stT
      rw [if_neg (h e List.mem_cons_self), if_neg (fun k => by cases k.1)]
    rw [List.foldl_cons, h1, stT_done g k T _ fun x hx => h x (List.mem_cons_of_mem _ hx), List.append_assoc]; rfl
theorem stT_ins (g : GrB) (k : Int) : ∀ (T : TB) (out : TB), Tab T → enT g k (T.foldl (stT g k) (out, false)) = out ++ insT g k T
  | [], out, _ => rfl
  | e :: T, out, h => by
    obtain ⟨h1, h2, h3⟩ := h.cons
    rw [List.foldl_cons, insT]
    by_cases hlt : gLt e.1 g
    · have hne : e.1 ≠ g := fun k => gLt.irr g (by rw [k] at hlt; exact hlt)
      have e1 : stT g k (out, false) e = (out ++ [e], false) := by
        unfold stT
        rw [if_neg hne, if_neg (fun k => hlt.asym k.2)]
      rw [if_pos hlt, e1, stT_ins g k T _ h2, List.append_assoc]; rfl
    · rw [if_neg hlt]
      by_cases he : e.1 = g
      · have hno : ∀ x ∈ T, x.1 ≠ g := fun x hx k => gLt.irr g (by have := h1 x hx; rwa [he, k] at this)
        rw [if_pos he]
        have e1 : stT g k (out, false) e = (if e.2 + k = 0 then out else out ++ [(g, e.2 + k)], true) := if_pos he
        rw [e1]
        by_cases hz : e.2 + k = 0
        · rw [if_pos hz, if_pos hz, stT_done g k T _ hno]; rfl
        · rw [if_neg hz, if_neg hz, stT_done g k T _ hno]
          show out ++ [(g, e.2 + k)] ++ T = _
          rw [List.append_assoc]; rfl
      · have hgt : gLt g e.1 := by rcases gLt.tot e.1 g with k | k | k; exact absurd k hlt; exact absurd k he; exact k
        have hno : ∀ x ∈ T, x.1 ≠ g := fun x hx k => gLt.irr g (by have := hgt.tr (h1 x hx); rwa [k] at this)
        have e1 : stT g k (out, false) e = (out ++ [(g, k)] ++ [e], true) := by
          unfold stT
          rw [if_neg he, if_pos ⟨rfl, hgt⟩]
        rw [if_neg he, e1, stT_done g k T _ hno]
        show out ++ [(g, k)] ++ [e] ++ T = _
        rw [List.append_assoc, List.append_assoc]; rfl
end Go.Proofs.YtmbbcmebdefggaaGreatDoor
namespace Go.Proofs.YtmbbcmebdefggaaGreatDoor
open Go Go.RowKit SL
theorem encGr_inj {x y : GrB} (h : Value.agg (encGr x).toArray = .agg (encGr y).toArray) : x = y := by
  injection h with h
  have h2 : encGr x = encGr y := by simpa using congrArg Array.toList h
  unfold encGr at h2
  injection h2 with h3 h4
  injection h4 with h5 _
  injection h3 with _ h6
  injection h5 with _ h7
  exact Prod.ext h6 h7
theorem eqGr_run (x y : GrB) (w : World) : (Op.equalIn 10000 108 (.agg (encGr x).toArray) (.agg (encGr y).toArray)).run Tryz.prog w = .ok (decide (x = y)) w := by
  have hf : (Tryz.prog.fieldsOf 108).toList.map shF = [(true, 0, 2), (true, 0 + 1, 2)] := by kernel_rfl
  obtain ⟨f0, fs, e0, n0, o0, t0, hf⟩ := fs_cons hf
  obtain ⟨f1, fs, rfl, n1, o1, t1, hf⟩ := fs_cons hf
  obtain rfl := fs_nil hf
  rw [run_equalIn_struct (P := Tryz.prog) w 9999 _ _ _ (by kernel_rfl) (by kernel_rfl), e0]
  have r2 := eqFields_nil (P := Tryz.prog) w 9999 (xs := (encGr x).toArray) (ys := (encGr y).toArray)
  have r1 := eqFields_int (P := Tryz.prog) w 9998 (f := f1) (k := .i64) (xs := encGr x) (ys := encGr y) (a := x.2) (b := y.2) n1 (by rw [t1]; kernel_rfl) (by rw [o1]; rfl) (by rw [o1]; rfl) r2
  have r0 := eqFields_int (P := Tryz.prog) w 9998 (f := f0) (k := .i64) (xs := encGr x) (ys := encGr y) (a := x.1) (b := y.1) n0 (by rw [t0]; kernel_rfl) (by rw [o0]; rfl) (by rw [o0]; rfl) r1
  refine r0.trans (congrArg (fun b => Result.ok b w) ?_)
  rw [Bool.and_true, ← Bool.decide_and]
  exact decide_eq_decide.2 ⟨fun h => Prod.ext h.1 h.2, fun h => by rw [h]; exact ⟨rfl, rfl⟩⟩
theorem klawGr : KLaw Tryz.prog 108 (fun v => ∃ g : GrB, v = .agg (encGr g).toArray) := by
  have hu : Tryz.prog.underlying 108 = some (.struct (Tryz.prog.fieldsOf 108)) := by kernel_rfl
  have i64 : Tryz.prog.underlying 2 = some (.int .i64) := by kernel_rfl
  refine klaw_wide (by rw [hu]) (fun w em v ⟨x, h⟩ => ?_) (fun w u v ⟨x, h⟩ ⟨y, k⟩ => ?_) fun v ⟨x, h⟩ => ⟨encGr x, h, fun u hu => ?_⟩
  · subst h
    have hf : (Tryz.prog.fieldsOf 108).toList.map shF = [(true, 0, 2), (true, 0 + 1, 2)] := by kernel_rfl
    obtain ⟨f0, fs, e0, n0, o0, t0, hf⟩ := fs_cons hf
    obtain ⟨f1, fs, rfl, n1, o1, t1, hf⟩ := fs_cons hf
    obtain rfl := fs_nil hf
    rw [Instr.checkKey]
    simp only [Sem.run_bind, run_underlying hu, Result.andThen_ok]
    rw [← Array.forIn_toList, e0]
    have p0 : (part f0.type (encGr x).toArray f0.offset).run Tryz.prog w = .ok (.int .i64 x.1) w := by rw [t0, o0]; exact part_sc w rfl
    have p1 : (part f1.type (encGr x).toArray f1.offset).run Tryz.prog w = .ok (.int .i64 x.2) w := by rw [t1, o1]; exact part_sc w rfl
    have c0 : (Instr.checkKey em 9999 f0.type (.int .i64 x.1)).run Tryz.prog w = .ok () w := by rw [t0]; exact check_intAt i64 w em 9998 x.1
    have c1 : (Instr.checkKey em 9999 f1.type (.int .i64 x.2)).run Tryz.prog w = .ok () w := by rw [t1]; exact check_intAt i64 w em 9998 x.2
    simp only [List.forIn_cons, List.forIn_nil, Sem.run_bind, n0, n1, ne_eq, not_false_eq_true, if_true, p0, p1, c0, c1, Result.andThen_ok, Sem.run_pure]
  · subst h k
    refine ⟨_, eqGr_run x y w, ?_⟩
    rw [decide_eq_true_iff]
    exact ⟨fun h => by rw [h], encGr_inj⟩
  · unfold encGr at hu
    simp only [List.mem_cons, List.not_mem_nil, or_false] at hu
    rcases hu with rfl | rfl <;> exact ⟨_, _, rfl⟩
def grK (g : GrB) : Value := .agg (encGr g).toArray
theorem kencGr : KEnc Tryz.prog 108 grK := ⟨klawGr, fun _ _ h => encGr_inj h⟩
end Go.Proofs.YtmbbcmebdefggaaGreatDoor
