/- Walks: states by their grades, in the program. Walks: states by their grades, in the program. Walks: the reference's states of a grade. Walks: the reference's matrix of a grade. -/
import Derived.Test.YtmbbcmebdefggaaGreatDoorHM
import Derived.Test.YtmbbcmebdefggaaGreatDoorHH
import Derived.Test.YtmbbcmebdefggaaGreatDoorIB
import Derived.Test.YtmbbcmebdefggaaGreatDoorGE
namespace Go.Proofs.YtmbbcmebdefggaaGreatDoor
open Go Go.RowKit SL
abbrev GM : Type := List (GrB × (Value × List StB))
def vL (p : Value × List StB) : Value := p.1
def rwS (M : GM) : Hp := M.map fun e => It.row e.2.1 72 8 (e.2.2.flatMap encS)
theorem rwS_app (A C : GM) : rwS (A ++ C) = rwS A ++ rwS C := List.map_append
/-- A map that has the states of a list by their grades. -/
def grOK (g : StB → GrB) (L : List StB) (M : GM) : Prop := (M.map (·.1)).Nodup ∧ (∀ e ∈ M, e.2.2 = L.filter (fun x => decide (g x = e.1)) ∧ e.2.2 ≠ []) ∧ ∀ x ∈ L, g x ∈ M.map (·.1)
theorem putM_mid {A C : GM} {k : GrB} {u w : Value × List StB} (hn : ((A ++ (k, u) :: C).map (·.1)).Nodup) : putM (A ++ (k, u) :: C) k w = A ++ (k, w) :: C := by
  have hm : k ∈ (A ++ (k, u) :: C).map (·.1) := by simp
  rw [List.map_append, List.map_cons, List.nodup_append] at hn
  obtain ⟨_, h2, h3⟩ := hn
  have h4 := List.nodup_cons.1 h2
  unfold putM
  rw [if_pos hm, List.map_append, List.map_cons]
  have e1 : (A.map fun p => if p.1 = k then (k, w) else p) = A := (List.map_congr_left fun p hp => if_neg fun e => h3 p.1 (List.mem_map.2 ⟨p, hp, rfl⟩) k List.mem_cons_self e).trans (List.map_id _)
  have e2 : (C.map fun p => if p.1 = k then (k, w) else p) = C := (List.map_congr_left fun p hp => if_neg fun (e : p.1 = k) => h4.1 (by rw [← e]; exact List.mem_map.2 ⟨p, hp, rfl⟩)).trans (List.map_id _)
  rw [e1, e2]
  simp
theorem grOK.nil (g : StB → GrB) : grOK g [] [] := ⟨List.nodup_nil, fun e he => absurd he List.not_mem_nil, fun x hx => absurd hx List.not_mem_nil⟩
theorem grOK.look {g : StB → GrB} {L : List StB} {M : GM} (h : grOK g L M) (k : GrB) : (∃ u, lkM M k = some (u, L.filter fun x => decide (g x = k)) ∧ (k, (u, L.filter fun x => decide (g x = k))) ∈ M) ∨ (lkM M k = none ∧ L.filter (fun x => decide (g x = k)) = []) := by
  cases hl : lkM M k with
  | some p =>
    left
    have hm := lkM_mem hl
    have h1 := (h.2.1 _ hm).1
    dsimp only at h1
    exact ⟨p.1, by rw [← h1], by rw [← h1]; exact hm⟩
  | none =>
    right
    refine ⟨rfl, ?_⟩
    rw [List.filter_eq_nil_iff]
    intro x hx
    rw [decide_eq_true_iff]
    intro e
    have := h.2.2 x hx
    rw [e, ← lkM_isSome, hl] at this
    cases this
theorem filter_snoc {L : List StB} {x : StB} {p : StB → Bool} : (L ++ [x]).filter p = L.filter p ++ if p x then [x] else [] := by
  rw [List.filter_append]
  by_cases h : p x <;> simp [List.filter_cons, h]
theorem grOK.more {g : StB → GrB} {L : List StB} {A C : GM} {u v : Value} {l : List StB} {x : StB} (h : grOK g L (A ++ (g x, (u, l)) :: C)) : grOK g (L ++ [x]) (A ++ (g x, (v, l ++ [x])) :: C) := by
  obtain ⟨h1, h2, h3⟩ := h
  have hk : (A ++ (g x, (u, l)) :: C).map (·.1) = (A ++ (g x, (v, l ++ [x])) :: C).map (·.1) := by simp
  have hne : ∀ e, e ∈ A ∨ e ∈ C → e.1 ≠ g x := fun e he h => by
    rw [List.map_append, List.map_cons, List.nodup_append] at h1
    obtain ⟨_, h5, h6⟩ := h1
    rcases he with he | he
    · exact h6 e.1 (List.mem_map.2 ⟨e, he, rfl⟩) (g x) List.mem_cons_self h
    · exact (List.nodup_cons.1 h5).1 (h ▸ List.mem_map.2 ⟨e, he, rfl⟩)
  refine ⟨hk ▸ h1, fun e he => ?_, fun y hy => ?_⟩
  · rw [List.mem_append, List.mem_cons] at he
    have hold : e ∈ A ∨ e ∈ C → e.2.2 = (L ++ [x]).filter (fun y => decide (g y = e.1)) ∧ e.2.2 ≠ [] := fun hac => by
      have h5 := h2 e (by rw [List.mem_append, List.mem_cons]; rcases hac with h | h; exact .inl h; exact .inr (.inr h))
      rw [filter_snoc, if_neg (by rw [decide_eq_true_iff]; exact fun h => hne e hac h.symm), List.append_nil]
      exact h5
    rcases he with he | rfl | he
    · exact hold (.inl he)
    · have h5 := (h2 (g x, (u, l)) (by simp)).1
      dsimp only at h5 ⊢
      rw [filter_snoc, if_pos (decide_eq_true rfl), ← h5]
      exact ⟨rfl, by simp⟩
    · exact hold (.inr he)
  · rw [← hk]
    rcases List.mem_append.1 hy with hy | hy
    · exact h3 y hy
    · rw [List.mem_singleton.1 hy]; simp
theorem grOK.new {g : StB → GrB} {L : List StB} {M : GM} {v : Value} {x : StB} (h : grOK g L M) (hl : lkM M (g x) = none) : grOK g (L ++ [x]) (M ++ [(g x, (v, [x]))]) := by
  obtain ⟨h1, h2, h3⟩ := h
  have hno : g x ∉ M.map (·.1) := fun hm => by rw [← lkM_isSome, hl] at hm; cases hm
  have hfil : L.filter (fun y => decide (g y = g x)) = [] := by
    rw [List.filter_eq_nil_iff]
    intro y hy
    rw [decide_eq_true_iff]
    exact fun e => hno (e ▸ h3 y hy)
  refine ⟨?_, fun e he => ?_, fun y hy => ?_⟩
  · rw [List.map_append, List.nodup_append]
    exact ⟨h1, by simp, fun a ha b hb => by
      rw [List.map_cons, List.map_nil, List.mem_singleton] at hb
      rw [hb]
      exact fun e => hno (by have e' : a = g x := e; rw [← e']; exact ha)⟩
  · rcases List.mem_append.1 he with he | he
    · have hne : g x ≠ e.1 := fun h => hno (h ▸ List.mem_map.2 ⟨e, he, rfl⟩)
      rw [filter_snoc, if_neg (by rw [decide_eq_true_iff]; exact hne), List.append_nil]
      exact h2 e he
    · rw [List.mem_singleton.1 he]
      dsimp only
      rw [filter_snoc, if_pos (decide_eq_true rfl), hfil]
      exact ⟨rfl, by simp⟩
  · rw [List.map_append, List.mem_append]
    rcases List.mem_append.1 hy with hy | hy
    · exact .inl (h3 y hy)
    · exact .inr (by rw [List.mem_singleton.1 hy]; simp)
end Go.Proofs.YtmbbcmebdefggaaGreatDoor
namespace Go.Proofs.YtmbbcmebdefggaaGreatDoor
open Go Go.RowKit SL
namespace SL
instance (priority := low) RF_A {v : Value} {A H : Hp} {H' : Value → List Value → Hp} {e sz : Nat} {xs : List Value} [h : RF v H e sz xs H'] : RF v (A ++ H) e sz xs (fun v' xs' => A ++ H' v' xs') := ⟨by
  obtain ⟨H1, H2, rfl, h2⟩ := h.out
  exact ⟨A ++ H1, H2, (List.append_assoc ..).symm, fun v' xs' => by rw [h2, List.append_assoc]⟩⟩
end SL
theorem sp_mid {A T D : Hp} {x : It} (h : List.Sublist (x :: (A ++ T)) D) : SP (A ++ x :: T) D := ⟨x :: (A ++ T), List.perm_middle.symm, h⟩
theorem putM_new {M : GM} {k : GrB} {w : Value × List StB} (h : lkM M k = none) : putM M k w = M ++ [(k, w)] := by
  unfold putM
  rw [if_neg fun hm => by rw [← lkM_isSome, h] at hm; cases hm]
set_option maxRecDepth 100000 in
theorem graded_gives {B : Nat} {w0 : World} {H : Hp} (n : Nat) (X O : List Nat) (bX : isB X) (bO : isB O) (h6 : n ≤ 6) :
    GivesE Tryz.prog 109 #[.agg (gv (n : Int) X O).toArray] B w0 H (fun v' H' => ∃ b M T, v' = .map (some b) ∧ grOK (grd n X O) (stB n) M ∧ T = rwS M ++ H ∧ H' = .obj b (mapO (encM grK vL M)) :: T) := by
  have ug := gv_len (n := (n : Int)) bX.1 bO.1
  have hS := stB_len h6
  have hst := states_gives n (by omega)
  change ∀ w, GivesN Tryz.prog 72 #[.int .i64 (n : Int)] (isRow 72 8 (flatS (sts n))) w at hst
  rw [← stB_flat (show n ≤ 8 by omega)] at hst
  refine givesE_of (args := [.agg (gv (n : Int) X O).toArray]) [(0, .agg (gv (n : Int) X O).toArray)] Tryz.func109 rfl Tryz.ntmps109 rfl (argsF_cons rfl argsF_nil) ?_
  generalize stB n = L at *
  have lf := fl_len encS_len L
  repeat' (first | (apply J_makeMap; exact rfl; (intro _)) | (apply Jq_move; exact rfl; exact rfl) | (apply Jq_assign; exact rfl; exact rfl) | (apply Jc; exact rfl; exact rfl; exact rfl; infer_instance; ((intro w hw); exact n_gives n X O w)) | (apply Jq_loadW; exact rfl; exact rfl; (exact mb); (omega)) | (apply JcR; exact rfl; exact rfl; exact rfl; infer_instance; ((intro w hw); exact hst w); (intro _)) | (apply J_box; exact rfl; exact rfl; exact rfl; (intro _)) | (apply Jq_lenRs; exact rfl; exact rfl; (exact rb); exact lf; decide) | refine thenQ_normal ?_ | refine JC_seq ?_ | refine JC_region ?_ | refine J_nil ?_ | refine JC_block ?_)
  rename_i b1 b3 v10
  refine JC_loop (X := Nat × GM) (fun p => p.1 ≤ L.length ∧ grOK (grd n X O) (L.take p.1) p.2) (fun p => [(12, .int .i64 (p.1 : Int)), (11, .int .i64 (L.length : Int)), (10, v10), (3, .map (some b3)), (1, .pointer (some ⟨b1, 0, none⟩))])
    (fun p => .obj b3 (mapO (encM grK vL p.2)) :: (rwS p.2 ++ (.row v10 72 8 (L.flatMap encS) :: .blk b1 (gv (n : Int) X O) 28 :: H))) (fun p => L.length - p.1) (0, []) ⟨Nat.zero_le _, grOK.nil _⟩ ?_ ?_
  · dsimp only [rwS, List.map_nil, List.nil_append, encM]
    (refine entP (ent ?_ (List.nil_sublist _)) ?_; (repeat refine fr_cons rfl ?_); exact fr_nil; (repeat (first | exact sp_refl | apply sp1)))
  · rintro ⟨k, M⟩ ⟨hk, hM⟩
    dsimp only at hk hM ⊢
    by_cases hlt : k < L.length
    · obtain ⟨x, hx⟩ : ∃ x, L[k]? = some x := ⟨_, List.getElem?_eq_getElem hlt⟩
      have ux := encS_len x
      have hne : encS x ≠ [] := fun e => by rw [e] at ux; cases ux
      have hgx := fl_at encS_len hx
      have hnd := hM.1
      have etk : L.take (k + 1) = L.take k ++ [x] := by rw [List.take_add_one, hx, Option.toList_some]
      have hfl : ((L.take k).filter fun y => decide (grd n X O y = grd n X O x)).length ≤ L.length := filt_len
      rcases hM.look (grd n X O x) with ⟨u, hlk, hmem⟩ | ⟨hlk, hfil⟩
      · generalize ((L.take k).filter fun y => decide (grd n X O y = grd n X O x)) = l at *
        have lq := fl_len encS_len l
        obtain ⟨A, C, rfl⟩ := List.append_of_mem hmem
        have hput := fun w => putM_mid (w := w) hnd
        have hmore := fun v => hM.more (v := v)
        have eH : ∀ T : Hp, rwS (A ++ (grd n X O x, (u, l)) :: C) ++ T = rwS A ++ It.row u 72 8 (l.flatMap encS) :: (rwS C ++ T) := fun T => by rw [rwS_app, List.append_assoc]; rfl
        have eH' : ∀ (v : Value) (T : Hp), rwS (A ++ (grd n X O x, (v, l ++ [x])) :: C) ++ T = rwS A ++ It.row v 72 8 ((l ++ [x]).flatMap encS) :: (rwS C ++ T) := fun v T => by rw [rwS_app, List.append_assoc]; rfl
        rw [eH]
        repeat' (first | (apply J_lit1s; exact rfl; exact rfl; exact ux; decide; decide; (intro _)) | (apply J_entT (u0 := (.slice none 0 0, [])) (eV := vL) (E := kencGr); exact rfl; exact rfl; exact rfl; infer_instance; exact rfl; exact hnd; exact rfl; (intro j hj; simp only [hlk, Option.getD_some, hput] at hj ⊢)) | (apply J_ap (v := u); decide; exact rfl; exact rfl; exact rfl; infer_instance; exact m0; exact hne; exact encS_one _; ((show (_ + _) * _ ≤ _); omega); decide; exact fl_snoc; (intro v')) | (apply J_estT (eV := vL) (E := kencGr) (u := (u, l)) (v := (v', l ++ [x])) (m := A ++ (grd n X O x, (u, l)) :: C); exact rfl; exact rfl; exact rfl; infer_instance; (rw [hput]); exact hnd; (rw [hput]; exact hj); exact hput _) | (apply Jq_move; exact rfl; exact rfl) | (apply Jq_cmp; exact rfl; exact rfl; exact rfl; exact rfl) | (apply Jq_add; exact rfl; exact rfl; exact rfl; omega) | (apply Jc; exact rfl; exact rfl; exact rfl; infer_instance; ((intro w hw); exact grade_gives n X O x bX bO (by omega) w)) | (apply Jq_loadW; exact rfl; exact rfl; (exact mb); (first | exact rfl | omega)) | (apply J_sW; exact rfl; exact rfl; infer_instance; (exact rfl); (first | exact rfl | omega); (first | exact ones_of rfl | exact u8s_one _); infer_instance) | (apply Jq_ext20; exact rfl; exact rfl) | (apply Jq_ext21; exact rfl; exact rfl) | (apply Jq_indexRs; exact rfl; exact rfl; exact rfl; (exact rb); omega) | (apply Jq_loadRA; exact rfl; exact rfl; (exact rb); (exact hgx); (omega); decide) | (apply J_alloc (cs := u8s Z8); exact rfl; exact rfl; (intro _)) | (apply J_alloc (cs := encGr (0, 0)); exact rfl; exact rfl; (intro _)) | refine thenQ_normal ?_ | refine inBlockQ_normal ?_ | refine JC_seq ?_ | refine JC_region ?_ | refine J_nil ?_ | refine JC_block ?_ | refine JC_skip ?_ | (apply JC_dec_true; exact rfl; omega))
        refine ⟨(k + 1, A ++ (grd n X O x, (v', l ++ [x])) :: C), ⟨by dsimp only; omega, by dsimp only; rw [etk]; exact hmore v'⟩, by dsimp only; omega, ?_⟩
        dsimp only
        rw [eH']
        (refine entP (ent ?_ (List.nil_sublist _)) ?_; (repeat refine fr_cons rfl ?_); exact fr_nil; (repeat (exact sp_end)))
      · have hnew := fun v => hM.new (v := v) hlk
        have hput := fun w => putM_new (w := w) hlk
        have ex1 : [] ++ encS x = ([x] : List StB).flatMap encS := by simp
        have eH' : ∀ (v : Value) (T : Hp), rwS (M ++ [(grd n X O x, (v, [x]))]) ++ T = rwS M ++ (It.row v 72 8 (([x] : List StB).flatMap encS) :: T) := fun v T => by rw [rwS_app, List.append_assoc]; rfl
        refine JC_nilrow (e := 72) (sz := 8) ?_
        repeat' (first | (apply J_lit1s; exact rfl; exact rfl; exact ux; decide; decide; (intro _)) | (apply J_entT (u0 := (.slice none 0 0, [])) (eV := vL) (E := kencGr); exact rfl; exact rfl; exact rfl; infer_instance; exact rfl; exact hnd; exact rfl; (intro j hj; simp only [hlk, Option.getD_none] at hj ⊢)) | (apply J_ap (v := .slice none 0 0); decide; exact rfl; exact rfl; exact rfl; infer_instance; exact m0; exact hne; exact encS_one _; ((show (_ + _) * _ ≤ _); (simp only [List.length_nil]); omega); decide; exact ex1; (intro v')) | (apply J_estT (eV := vL) (E := kencGr) (u := (.slice none 0 0, [])) (v := (v', [x])) (m := M); exact rfl; exact rfl; exact rfl; infer_instance; exact rfl; exact hnd; exact hj; exact hput _) | (apply Jq_move; exact rfl; exact rfl) | (apply Jq_cmp; exact rfl; exact rfl; exact rfl; exact rfl) | (apply Jq_add; exact rfl; exact rfl; exact rfl; omega) | (apply Jc; exact rfl; exact rfl; exact rfl; infer_instance; ((intro w hw); exact grade_gives n X O x bX bO (by omega) w)) | (apply Jq_loadW; exact rfl; exact rfl; (exact mb); (first | exact rfl | omega)) | (apply J_sW; exact rfl; exact rfl; infer_instance; (exact rfl); (first | exact rfl | omega); (first | exact ones_of rfl | exact u8s_one _); infer_instance) | (apply Jq_ext20; exact rfl; exact rfl) | (apply Jq_ext21; exact rfl; exact rfl) | (apply Jq_indexRs; exact rfl; exact rfl; exact rfl; (exact rb); omega) | (apply Jq_loadRA; exact rfl; exact rfl; (exact rb); (exact hgx); (omega); decide) | (apply J_alloc (cs := u8s Z8); exact rfl; exact rfl; (intro _)) | (apply J_alloc (cs := encGr (0, 0)); exact rfl; exact rfl; (intro _)) | refine thenQ_normal ?_ | refine inBlockQ_normal ?_ | refine JC_seq ?_ | refine JC_region ?_ | refine J_nil ?_ | refine JC_block ?_ | refine JC_skip ?_ | (apply JC_dec_true; exact rfl; omega))
        refine ⟨(k + 1, M ++ [(grd n X O x, (v', [x]))]), ⟨by dsimp only; omega, by dsimp only; rw [etk]; exact hnew v'⟩, by dsimp only; omega, ?_⟩
        dsimp only
        rw [eH']
        refine entP (ent ?_ (List.nil_sublist _)) ?_
        · (repeat refine fr_cons rfl ?_); exact fr_nil
        · exact sp4 (sp_mid (.cons _ (.cons _ (.cons _ (.refl _)))))
    · obtain rfl : k = L.length := by omega
      rw [List.take_length] at hM
      repeat' (first | (apply Jq_move; exact rfl; exact rfl) | (apply Jq_assign; exact rfl; exact rfl) | (apply Jq_cmp; exact rfl; exact rfl; exact rfl; exact rfl) | refine thenQ_normal ?_ | refine thenQ_exit ?_ | refine inBlockQ_here ?_ | refine JC_seq ?_ | refine JC_region ?_ | refine J_nil ?_ | refine JC_ret ?_ | refine JC_exit ?_ | (apply JC_dec_false; exact rfl; omega))
      refine SL.e1 (H' := .obj b3 (mapO (encM grK vL M)) :: (rwS M ++ H)) rfl rfl rfl (entP (ent (fun _ _ h => by cases h) (List.nil_sublist _)) ⟨_, .refl _, ?_⟩) ⟨b3, M, _, rfl, hM, rfl, rfl⟩
      exact (List.Sublist.append_left (.cons _ (.cons _ (.refl _))) _).cons_cons _
end Go.Proofs.YtmbbcmebdefggaaGreatDoor
namespace Go.Proofs.YtmbbcmebdefggaaGreatDoor
open Go Go.RowKit SL
/-- The states of a grade. -/
def selG (n : Nat) (X O : List Nat) (a m : Int) (x : StB) : Bool := decide (grd n X O x = (a, m))
set_option maxRecDepth 100000 in
theorem sgrade_gives {B : Nat} {w0 : World} {H : Hp} (n : Nat) (X O : List Nat) (a m : Int) (bX : isB X) (bO : isB O) (h6 : n ≤ 6) :
    GivesE Tryz.prog 105 #[.agg (gv (n : Int) X O).toArray, .int .i64 a, .int .i64 m] B w0 H (fun v' H' => H' = .row v' 72 8 (((stB n).filter (selG n X O a m)).flatMap encS) :: H) := by
  have ug := gv_len (n := (n : Int)) bX.1 bO.1
  have uO : (u8s O).length = 8 := (u8s_len O).trans bO.1
  have hL := stB_len h6
  refine givesE_of (args := [.agg (gv (n : Int) X O).toArray, .int .i64 a, .int .i64 m]) [(0, .agg (gv (n : Int) X O).toArray), (1, .int .i64 a), (2, .int .i64 m)] Tryz.func105 rfl Tryz.ntmps105 rfl (argsF_cons rfl (argsF_cons rfl (argsF_cons rfl argsF_nil))) ?_
  repeat' (first | (apply JcE; exact rfl; exact rfl; exact rfl; infer_instance; (exact lall_gives n (by omega)); (intro v1 H' hV; subst hV)) | (apply Jq_assign; exact rfl; exact rfl) | (apply Jq_load; exact rfl; exact rfl; (exact mb); (exact rfl)) | (apply Jq_fieldAddr; exact rfl; exact rfl) | (apply J_box; exact rfl; exact rfl; exact rfl; (intro _)) | (apply J_lit0; exact rfl; (intro _)) | refine thenQ_normal ?_ | refine JC_seq ?_ | refine JC_region ?_ | refine J_nil ?_ | refine JC_block ?_)
  rename_i b3 b10
  generalize stB n = L at *
  have lf := fl_len encS_len L
  refine JC_loop (X := Nat × Value) (fun p => p.1 ≤ L.length) (fun p => [(1, .int .i64 a), (2, .int .i64 m), (7, p.2), (8, v1), (9, .int .i64 (p.1 : Int)), (3, .pointer (some ⟨b3, 0, none⟩))])
    (fun p => .row p.2 72 8 (((L.take p.1).filter (selG n X O a m)).flatMap encS) :: .row v1 72 8 (L.flatMap encS) :: .blk b3 (gv (n : Int) X O) 28 :: H) (fun p => L.length - p.1) (0, .slice (some ⟨b10, 0, none⟩) 0 0) (Nat.zero_le _) ?_ ?_
  · (refine entP (ent ?_ (List.nil_sublist _)) ?_; (repeat refine fr_cons rfl ?_); exact fr_nil; (repeat (first | exact sp_refl | apply sp1)))
  · rintro ⟨k, v⟩ hk
    dsimp only at hk ⊢
    by_cases hlt : k < L.length
    · obtain ⟨x, hx⟩ : ∃ x, L[k]? = some x := ⟨_, List.getElem?_eq_getElem hlt⟩
      have ux := encS_len x
      have hne : encS x ≠ [] := fun e => by rw [e] at ux; cases ux
      have hg := fl_at encS_len hx
      have lq := fl_len encS_len ((L.take k).filter (selG n X O a m))
      have lk := filt_len (p := selG n X O a m) (L := L) (k := k)
      have hy : selG n X O a m x = true → (L.take (k + 1)).filter (selG n X O a m) = (L.take k).filter (selG n X O a m) ++ [x] := fun h => filt_yes hx h
      have hn : selG n X O a m x = false → (L.take (k + 1)).filter (selG n X O a m) = (L.take k).filter (selG n X O a m) := fun h => filt_no hx h
      repeat' (first | (apply J_lit1s; exact rfl; exact rfl; exact ux; decide; decide; (intro _)) | (apply J_ap; decide; exact rfl; exact rfl; exact rfl; infer_instance; exact m0; exact hne; exact encS_one _; ((show (_ + _) * _ ≤ _); omega); decide; exact fl_snoc; (intro v')) | (apply Jq_move; exact rfl; exact rfl) | (apply Jq_assign; exact rfl; exact rfl) | (apply Jq_fieldAddr; exact rfl; exact rfl) | (apply Jq_cmp; exact rfl; exact rfl; exact rfl; exact rfl) | (apply Jq_add; exact rfl; exact rfl; exact rfl; omega) | (apply Jq_pick_true; exact rfl; exact rfl; exact rfl) | (apply Jq_pick_false; exact rfl; exact rfl; exact rfl) | (apply J_on; exact rfl; exact rfl) | (apply J_skip; exact rfl; exact rfl; exact rfl; exact rfl) | (apply Jc; exact rfl; exact rfl; exact rfl; infer_instance; ((intro w hw); first | exact alex_gives n X O x bX bO (by omega) w | exact l05Maslov_gives n X O x.1 O bX bO x.2 bO (by omega) w)) | (apply Jq_loadW; exact rfl; exact rfl; (exact mb); (omega)) | (apply Jq_loadA; exact rfl; exact rfl; (exact mb); (exact gv_arrO bX.1 bO.1); (omega)) | (apply Jq_lenRs; exact rfl; exact rfl; (exact rb); exact lf; decide) | (apply Jq_indexRs; exact rfl; exact rfl; exact rfl; (exact rb); omega) | (apply Jq_loadRA; exact rfl; exact rfl; (exact rb); (exact hg); (omega); decide) | refine thenQ_normal ?_ | refine inBlockQ_normal ?_ | refine JC_seq ?_ | refine JC_region ?_ | (apply JC_draw mixed; kernel_rfl) | refine J_nil ?_ | refine JC_block ?_ | refine JC_skip ?_ | (apply JC_if_false; exact rfl) | (apply JC_dec_true; exact rfl; omega) | refine JC_dec rfl (fun _ => ?_) (fun _ => ?_) | refine J_gd rfl rfl (fun _ => ?_) (fun _ => ?_))
      · rename_i hc1 hc2 b
        have e := hy (decide_eq_true (Prod.ext hc1 hc2))
        refine ⟨(k + 1, v'), by dsimp only; omega, by dsimp only; omega, ?_⟩
        dsimp only
        rw [e]
        (refine entP (ent ?_ (List.nil_sublist _)) ?_; (repeat refine fr_cons rfl ?_); exact fr_nil; (repeat (exact sp_end)))
      · rename_i hc1 hc2
        have e := hn (decide_eq_false fun h => hc2 (congrArg Prod.snd h))
        refine ⟨(k + 1, v), by dsimp only; omega, by dsimp only; omega, ?_⟩
        dsimp only
        rw [e]
        (refine entP (ent ?_ (List.nil_sublist _)) ?_; (repeat refine fr_cons rfl ?_); exact fr_nil; (repeat (exact sp_refl)))
      · rename_i hc1
        have e := hn (decide_eq_false fun h => hc1 (congrArg Prod.fst h))
        refine ⟨(k + 1, v), by dsimp only; omega, by dsimp only; omega, ?_⟩
        dsimp only
        rw [e]
        (refine entP (ent ?_ (List.nil_sublist _)) ?_; (repeat refine fr_cons rfl ?_); exact fr_nil; (repeat (exact sp_refl)))
    · obtain rfl : k = L.length := by omega
      rw [List.take_length]
      repeat' (first | (apply Jq_move; exact rfl; exact rfl) | (apply Jq_assign; exact rfl; exact rfl) | (apply Jq_cmp; exact rfl; exact rfl; exact rfl; exact rfl) | (apply Jq_lenRs; exact rfl; exact rfl; (exact rb); exact lf; decide) | refine thenQ_normal ?_ | refine thenQ_exit ?_ | refine inBlockQ_here ?_ | refine JC_seq ?_ | refine JC_region ?_ | refine J_nil ?_ | refine JC_ret ?_ | refine JC_exit ?_ | (apply JC_dec_false; exact rfl; omega))
      refine e1 (H' := .row v 72 8 ((L.filter (selG n X O a m)).flatMap encS) :: H) rfl rfl rfl ?_ rfl
      (refine ent ?_ ?_; (repeat refine fr_cons rfl ?_); exact fr_nil; (repeat (first | exact List.Sublist.refl _ | refine List.Sublist.cons_cons _ ?_ | refine List.Sublist.cons _ ?_)))
end Go.Proofs.YtmbbcmebdefggaaGreatDoor
namespace Go.Proofs.YtmbbcmebdefggaaGreatDoor
open Go Go.RowKit SL
end Go.Proofs.YtmbbcmebdefggaaGreatDoor
