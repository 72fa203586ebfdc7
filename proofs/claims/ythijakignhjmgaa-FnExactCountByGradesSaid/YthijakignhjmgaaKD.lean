/- Walks: CountByGrades and its law. -/
import Derived.Test.YthijakignhjmgaaKB
import Derived.Test.YthijakignhjmgaaKC
import Derived.Test.YthijakignhjmgaaHU
namespace Go.Proofs.Ythijakignhjmgaa
open Go Go.RowKit SL
set_option maxRecDepth 100000 in
theorem slisted_gives (n : Int) (X O : List Nat) (bX : isB X) (bO : isB O) {c : Int} (hc : codeS n X O [] = c) (w : World) : Gives Try.prog 100 #[.agg (gv n X O).toArray] (.int .i64 c) w := by
  have ug := gv_len (n := n) bX.1 bO.1
  refine gives_of (args := [.agg (gv n X O).toArray]) [(0, .agg (gv n X O).toArray)] [] Try.func100 rfl Try.ntmps100 rfl (argsF_cons rfl argsF_nil) (Holds.start w) ?_
  rcases codeS_nil hc with ⟨rfl, g, h6⟩ | ⟨g, rfl⟩ | ⟨g, h6, rfl⟩
  · repeat' (first | (apply Jq_assign; exact rfl; exact rfl) | (apply Jq_load; exact rfl; exact rfl; (exact mb); (first | exact rfl)) | (apply Jq_fieldAddr; exact rfl; exact rfl) | (apply Jq_cmp; exact rfl; exact rfl; exact rfl; exact rfl) | (apply Jq_not; exact rfl; exact rfl) | (apply Jc; exact rfl; exact rfl; exact rfl; infer_instance; ((intro w hw); first | exact l01Is_gives n X O bX bO w)) | (apply Jq_loadW; exact rfl; exact rfl; (exact mb); (first | exact rfl | omega)) | (apply Jq_loadA; exact rfl; exact rfl; (exact mb); (first | exact rfl); (first | exact rfl | omega)) | (apply Jq_loadR; exact rfl; exact rfl; (first | exact rb | assumption); (first | exact rfl)) | (apply J_box; exact rfl; exact rfl; exact rfl; (intro _)) | refine thenQ_normal ?_ | refine thenQ_exit ?_ | refine thenQ_ret ?_ | refine inBlockQ_normal ?_ | refine inBlockQ_ret ?_ | refine inBlockQ_here ?_ | (apply inBlockQ_on; exact rfl) | refine JC_seq ?_ | refine JC_region ?_ | refine J_nil ?_ | refine JC_block ?_ | refine JC_skip ?_ | refine JC_ret ?_ | refine JC_exit ?_ | (apply JC_if_true; exact rfl) | (apply JC_if_false; exact rfl) | (apply JC_dec_true; exact rfl; omega) | (apply JC_dec_false; exact rfl; omega) | (apply JC_ndec_true; exact rfl; omega) | (apply JC_ndec_false; exact rfl; omega) | refine JC_dec rfl (fun _ => ?_) (fun _ => ?_) | refine JC_ndec rfl (fun _ => ?_) (fun _ => ?_) | refine JC_if rfl (fun _ => ?_) (fun _ => ?_))
    exact g1 rfl rfl rfl rfl
  · repeat' (first | (apply Jq_assign; exact rfl; exact rfl) | (apply Jq_load; exact rfl; exact rfl; (exact mb); (first | exact rfl)) | (apply Jq_fieldAddr; exact rfl; exact rfl) | (apply Jq_cmp; exact rfl; exact rfl; exact rfl; exact rfl) | (apply Jq_not; exact rfl; exact rfl) | (apply Jc; exact rfl; exact rfl; exact rfl; infer_instance; ((intro w hw); first | exact l01Is_gives n X O bX bO w)) | (apply Jq_loadW; exact rfl; exact rfl; (exact mb); (first | exact rfl | omega)) | (apply Jq_loadA; exact rfl; exact rfl; (exact mb); (first | exact rfl); (first | exact rfl | omega)) | (apply Jq_loadR; exact rfl; exact rfl; (first | exact rb | assumption); (first | exact rfl)) | (apply J_box; exact rfl; exact rfl; exact rfl; (intro _)) | refine thenQ_normal ?_ | refine thenQ_exit ?_ | refine thenQ_ret ?_ | refine inBlockQ_normal ?_ | refine inBlockQ_ret ?_ | refine inBlockQ_here ?_ | (apply inBlockQ_on; exact rfl) | refine JC_seq ?_ | refine JC_region ?_ | refine J_nil ?_ | refine JC_block ?_ | refine JC_skip ?_ | refine JC_ret ?_ | refine JC_exit ?_ | (apply JC_if_true; exact rfl) | (apply JC_if_false; exact rfl) | (apply JC_dec_true; exact rfl; omega) | (apply JC_dec_false; exact rfl; omega) | (apply JC_ndec_true; exact rfl; omega) | (apply JC_ndec_false; exact rfl; omega) | refine JC_dec rfl (fun _ => ?_) (fun _ => ?_) | refine JC_ndec rfl (fun _ => ?_) (fun _ => ?_) | refine JC_if rfl (fun _ => ?_) (fun _ => ?_))
    exact g1 rfl rfl rfl rfl
  · repeat' (first | (apply Jq_assign; exact rfl; exact rfl) | (apply Jq_load; exact rfl; exact rfl; (exact mb); (first | exact rfl)) | (apply Jq_fieldAddr; exact rfl; exact rfl) | (apply Jq_cmp; exact rfl; exact rfl; exact rfl; exact rfl) | (apply Jq_not; exact rfl; exact rfl) | (apply Jc; exact rfl; exact rfl; exact rfl; infer_instance; ((intro w hw); first | exact l01Is_gives n X O bX bO w)) | (apply Jq_loadW; exact rfl; exact rfl; (exact mb); (first | exact rfl | omega)) | (apply Jq_loadA; exact rfl; exact rfl; (exact mb); (first | exact rfl); (first | exact rfl | omega)) | (apply Jq_loadR; exact rfl; exact rfl; (first | exact rb | assumption); (first | exact rfl)) | (apply J_box; exact rfl; exact rfl; exact rfl; (intro _)) | refine thenQ_normal ?_ | refine thenQ_exit ?_ | refine thenQ_ret ?_ | refine inBlockQ_normal ?_ | refine inBlockQ_ret ?_ | refine inBlockQ_here ?_ | (apply inBlockQ_on; exact rfl) | refine JC_seq ?_ | refine JC_region ?_ | refine J_nil ?_ | refine JC_block ?_ | refine JC_skip ?_ | refine JC_ret ?_ | refine JC_exit ?_ | (apply JC_if_true; exact rfl) | (apply JC_if_false; exact rfl) | (apply JC_dec_true; exact rfl; omega) | (apply JC_dec_false; exact rfl; omega) | (apply JC_ndec_true; exact rfl; omega) | (apply JC_ndec_false; exact rfl; omega) | refine JC_dec rfl (fun _ => ?_) (fun _ => ?_) | refine JC_ndec rfl (fun _ => ?_) (fun _ => ?_) | refine JC_if rfl (fun _ => ?_) (fun _ => ?_))
    exact g1 rfl rfl rfl rfl
open Classical in
/-- The table of a list. -/
noncomputable def tabC (g : StB → GrB) (L : List StB) : List (GrB × Nat) := if h : ∃ C, cntOK g L C then h.choose else []
theorem tabC_eq {g : StB → GrB} {L : List StB} {C : List (GrB × Nat)} (h : cntOK g L C) : tabC g L = C := by
  have he : ∃ C, cntOK g L C := ⟨C, h⟩
  unfold tabC
  rw [dif_pos he]
  exact he.choose_spec.ext h
theorem cntOK.len {g : StB → GrB} {L : List StB} {C : List (GrB × Nat)} (h : cntOK g L C) : C.length ≤ L.length := by
  have hn : (C.map (·.1)).Nodup := by
    rw [List.nodup_iff_pairwise_ne, List.pairwise_map]
    exact h.1.imp fun {a b} (hab : ltGr a.1 b.1) (e : a.1 = b.1) => ltGr.irr b.1 (by rw [e] at hab; exact hab)
  have h1 := List.Nodup.length_le_of_subset hn (l₂ := L.map g) fun k hk => by
    obtain ⟨⟨k', c⟩, he, rfl⟩ := List.mem_map.1 hk
    obtain ⟨h1, h2⟩ := (h.2 k' c).1 he
    rw [h1, cntG_pos] at h2
    obtain ⟨x, hx, e⟩ := h2
    exact List.mem_map.2 ⟨x, hx, e⟩
  rwa [List.length_map, List.length_map] at h1
theorem tabC_len (g : StB → GrB) (L : List StB) : (tabC g L).length ≤ L.length := by
  unfold tabC
  split
  · rename_i h
    exact h.choose_spec.len
  · exact Nat.zero_le _
set_option maxRecDepth 100000 in
theorem scount_good {B : Nat} {w0 : World} {H : Hp} (n : Nat) (X O : List Nat) (bX : isB X) (bO : isB O) (h6 : n ≤ 6) (hc : codeS n X O [] = 0) :
    GivesE Try.prog 55 #[.agg (gv (n : Int) X O).toArray] B w0 H (ssR ((tabC (grd n X O) (stB n)).map encC) 0 H) := by
  have ug := gv_len (n := (n : Int)) bX.1 bO.1
  refine givesE_of (args := [.agg (gv (n : Int) X O).toArray]) [(0, .agg (gv (n : Int) X O).toArray)] Try.func55 rfl Try.ntmps55 rfl (argsF_cons rfl argsF_nil) ?_
  repeat' (first | (apply JcE; exact rfl; exact rfl; exact rfl; infer_instance; (exact scounts_gives n X O bX bO h6); (intro v' H' hV; obtain ⟨C, hC, L, hL, rfl⟩ := hV)) | (apply Jq_move; exact rfl; exact rfl) | (apply Jq_assign; exact rfl; exact rfl) | (apply Jq_load; exact rfl; exact rfl; (exact mb); (first | exact rfl)) | (apply Jq_cmp; exact rfl; exact rfl; exact rfl; exact rfl) | (apply Jc; exact rfl; exact rfl; exact rfl; infer_instance; ((intro w hw); first | exact slisted_gives n X O bX bO hc w)) | (apply Jq_loadW; exact rfl; exact rfl; (exact mb); (first | exact rfl | omega)) | (apply Jq_loadA; exact rfl; exact rfl; (exact mb); (first | exact rfl); (first | exact rfl | omega)) | (apply Jq_loadR; exact rfl; exact rfl; (first | exact rb | assumption); (first | exact rfl)) | (apply J_box; exact rfl; exact rfl; exact rfl; (intro _)) | refine thenQ_normal ?_ | refine thenQ_exit ?_ | refine thenQ_ret ?_ | refine inBlockQ_normal ?_ | refine inBlockQ_ret ?_ | refine inBlockQ_here ?_ | (apply inBlockQ_on; exact rfl) | refine JC_seq ?_ | refine JC_region ?_ | refine J_nil ?_ | refine JC_block ?_ | refine JC_skip ?_ | refine JC_ret ?_ | refine JC_exit ?_ | (apply JC_if_true; exact rfl) | (apply JC_if_false; exact rfl) | (apply JC_dec_true; exact rfl; omega) | (apply JC_dec_false; exact rfl; omega) | (apply JC_ndec_true; exact rfl; omega) | (apply JC_ndec_false; exact rfl; omega) | refine JC_dec rfl (fun _ => ?_) (fun _ => ?_) | refine JC_ndec rfl (fun _ => ?_) (fun _ => ?_) | refine JC_if rfl (fun _ => ?_) (fun _ => ?_))
  refine eT2 (H' := .row v' 41 1 (L.map (·.1)) :: (rwI L ++ H)) rfl rfl rfl rfl ?_ ⟨v', L, rfl, by rw [hL, tabC_eq hC], rfl⟩
  refine entP (ent (fun _ _ h => by cases h) (List.nil_sublist _)) (sp_rows (.refl _) ?_)
  exact .cons _ (.refl _)
set_option maxRecDepth 100000 in
theorem scount_bad {B : Nat} {w0 : World} {H : Hp} (n : Int) (X O : List Nat) (bX : isB X) (bO : isB O) {c : Int} (hc : codeS n X O [] = c) (h0 : c ≠ 0) :
    GivesE Try.prog 55 #[.agg (gv n X O).toArray] B w0 H (ssR [] c H) := by
  have ug := gv_len (n := n) bX.1 bO.1
  refine givesE_of (args := [.agg (gv n X O).toArray]) [(0, .agg (gv n X O).toArray)] Try.func55 rfl Try.ntmps55 rfl (argsF_cons rfl argsF_nil) ?_
  repeat' (first | (apply Jq_move; exact rfl; exact rfl) | (apply Jq_assign; exact rfl; exact rfl) | (apply Jq_load; exact rfl; exact rfl; (exact mb); (first | exact rfl)) | (apply Jq_cmp; exact rfl; exact rfl; exact rfl; exact rfl) | (apply Jc; exact rfl; exact rfl; exact rfl; infer_instance; ((intro w hw); first | exact slisted_gives n X O bX bO hc w)) | (apply Jq_loadW; exact rfl; exact rfl; (exact mb); (first | exact rfl | omega)) | (apply Jq_loadA; exact rfl; exact rfl; (exact mb); (first | exact rfl); (first | exact rfl | omega)) | (apply Jq_loadR; exact rfl; exact rfl; (first | exact rb | assumption); (first | exact rfl)) | (apply J_box; exact rfl; exact rfl; exact rfl; (intro _)) | refine thenQ_normal ?_ | refine thenQ_exit ?_ | refine thenQ_ret ?_ | refine inBlockQ_normal ?_ | refine inBlockQ_ret ?_ | refine inBlockQ_here ?_ | (apply inBlockQ_on; exact rfl) | refine JC_seq ?_ | refine JC_region ?_ | refine J_nil ?_ | refine JC_block ?_ | refine JC_skip ?_ | refine JC_ret ?_ | refine JC_exit ?_ | (apply JC_if_true; exact rfl) | (apply JC_if_false; exact rfl) | (apply JC_dec_true; exact rfl; omega) | (apply JC_dec_false; exact rfl; omega) | (apply JC_ndec_true; exact rfl; omega) | (apply JC_ndec_false; exact rfl; omega) | refine JC_dec rfl (fun _ => ?_) (fun _ => ?_) | refine JC_ndec rfl (fun _ => ?_) (fun _ => ?_) | refine JC_if rfl (fun _ => ?_) (fun _ => ?_))
  refine eT2nil (H' := H) rfl rfl rfl rfl ?_ ⟨_, [], rfl, rfl, rfl⟩
  (refine ent ?_ ?_; (repeat refine fr_cons rfl ?_); exact fr_nil; (repeat (first | exact List.nil_sublist _ | exact List.Sublist.refl _ | refine List.Sublist.cons_cons _ ?_ | refine List.Sublist.cons _ ?_)))
set_option maxRecDepth 100000 in
theorem icount_good {B : Nat} {w0 : World} {H : Hp} (n : Nat) (X O : List Nat) (bX : isB X) (bO : isB O) (h6 : n ≤ 6) (g : okG n X O) :
    GivesE Try.prog 56 #[.agg (gv (n : Int) X O).toArray] B w0 H (ssR ((tabC (grd n X O) (stB n)).map encC) 0 H) := by
  have ug := gv_len (n := (n : Int)) bX.1 bO.1
  refine givesE_of (args := [.agg (gv (n : Int) X O).toArray]) [(0, .agg (gv (n : Int) X O).toArray)] Try.func56 rfl Try.ntmps56 rfl (argsF_cons rfl argsF_nil) ?_
  repeat' (first | (apply JcE; exact rfl; exact rfl; exact rfl; infer_instance; (exact listedM_good (caps := #[]) inferInstance n X O bX bO g (by omega) _ (icount1_gives n X O bX bO h6 g)); (intro v' H' hV; obtain ⟨u, rfl, C, hC, L, hL, rfl⟩ := hV)) | (apply Jq_assign; exact rfl; exact rfl) | (apply Jq_load; exact rfl; exact rfl; (exact mb); (first | exact rfl)) | (apply Jq_loadW; exact rfl; exact rfl; (exact mb); (first | exact rfl | omega)) | (apply Jq_loadA; exact rfl; exact rfl; (exact mb); (first | exact rfl); (first | exact rfl | omega)) | (apply Jq_loadR; exact rfl; exact rfl; (first | exact rb | assumption); (first | exact rfl)) | (apply Jq_ext20; exact rfl; exact rfl) | (apply Jq_ext21; exact rfl; exact rfl) | (apply Jq_extract; exact rfl; exact rfl; exact rfl) | (apply J_box; exact rfl; exact rfl; exact rfl; (intro _)) | refine thenQ_normal ?_ | refine thenQ_exit ?_ | refine thenQ_ret ?_ | refine inBlockQ_normal ?_ | refine inBlockQ_ret ?_ | refine inBlockQ_here ?_ | (apply inBlockQ_on; exact rfl) | refine JC_seq ?_ | refine JC_region ?_ | refine J_nil ?_ | refine JC_block ?_ | refine JC_skip ?_ | refine JC_ret ?_ | refine JC_exit ?_)
  refine eT2 (H' := .row u 41 1 (L.map (·.1)) :: (rwI L ++ H)) rfl rfl rfl rfl ?_ ⟨u, L, rfl, by rw [hL, tabC_eq hC], rfl⟩
  refine entP (ent (fun _ _ h => by cases h) (List.nil_sublist _)) (sp_rows (.refl _) ?_)
  exact .cons _ (.refl _)
set_option maxRecDepth 100000 in
theorem icount_bad {B : Nat} {w0 : World} {H : Hp} (n : Int) (X O : List Nat) (bX : isB X) (bO : isB O) {c : Int} (hc : (¬ okG n X O ∧ c = 1) ∨ (okG n X O ∧ 6 < n ∧ c = 2)) :
    GivesE Try.prog 56 #[.agg (gv n X O).toArray] B w0 H (ssR [] c H) := by
  have ug := gv_len (n := n) bX.1 bO.1
  refine givesE_of (args := [.agg (gv n X O).toArray]) [(0, .agg (gv n X O).toArray)] Try.func56 rfl Try.ntmps56 rfl (argsF_cons rfl argsF_nil) ?_
  repeat' (first | (apply JcE; exact rfl; exact rfl; exact rfl; infer_instance; (exact listedM_bad n X O bX bO hc); (intro v' H' hV; obtain ⟨u, L, rfl, hL, rfl⟩ := hV)) | (apply Jq_assign; exact rfl; exact rfl) | (apply Jq_load; exact rfl; exact rfl; (exact mb); (first | exact rfl)) | (apply Jq_loadW; exact rfl; exact rfl; (exact mb); (first | exact rfl | omega)) | (apply Jq_loadA; exact rfl; exact rfl; (exact mb); (first | exact rfl); (first | exact rfl | omega)) | (apply Jq_loadR; exact rfl; exact rfl; (first | exact rb | assumption); (first | exact rfl)) | (apply Jq_ext20; exact rfl; exact rfl) | (apply Jq_ext21; exact rfl; exact rfl) | (apply Jq_extract; exact rfl; exact rfl; exact rfl) | (apply J_box; exact rfl; exact rfl; exact rfl; (intro _)) | refine thenQ_normal ?_ | refine thenQ_exit ?_ | refine thenQ_ret ?_ | refine inBlockQ_normal ?_ | refine inBlockQ_ret ?_ | refine inBlockQ_here ?_ | (apply inBlockQ_on; exact rfl) | refine JC_seq ?_ | refine JC_region ?_ | refine J_nil ?_ | refine JC_block ?_ | refine JC_skip ?_ | refine JC_ret ?_ | refine JC_exit ?_)
  refine eT2 (H' := .row u 41 1 (L.map (·.1)) :: (rwI L ++ H)) rfl rfl rfl rfl ?_ ⟨u, L, rfl, hL, rfl⟩
  refine entP (ent (fun _ _ h => by cases h) (List.nil_sublist _)) (sp_rows (.refl _) ?_)
  exact .cons _ (.refl _)
theorem encC_nums (p : GrB × Nat) : isNums (encC p) := fun j hj => by
  have h3 : j < 3 := hj
  rcases j with _ | _ | _ | j
  · exact ⟨_, rfl⟩
  · exact ⟨_, rfl⟩
  · exact ⟨_, rfl⟩
  · omega
/-- What both hand back: the rows, the code. -/
theorem cnt_res (n : Int) (X O : List Nat) : ∃ (M : List (List Value)) (c : Int), M.length ≤ 46656 ∧ (∀ r ∈ M, isNums r ∧ r.length ≤ 46656) ∧ ∀ (B : Nat) (w0 : World) (H : Hp), isB X → isB O →
    GivesE Try.prog 55 #[.agg (gv n X O).toArray] B w0 H (ssR M c H) ∧
    GivesE Try.prog 56 #[.agg (gv n X O).toArray] B w0 H (ssR M c H) := by
  rcases codeS_nil (n := n) (X := X) (O := O) rfl with ⟨h0, g, h6⟩ | h
  · obtain ⟨k, rfl⟩ := okG_nat g
    have h6' : k ≤ 6 := by omega
    have hS := stB_len h6'
    have hl := tabC_len (grd k X O) (stB k)
    refine ⟨_, 0, ?_, ?_, fun B w0 H bX bO => ⟨scount_good k X O bX bO h6' h0, icount_good k X O bX bO h6' g⟩⟩
    · rw [List.length_map]; omega
    · intro r hr
      rw [List.mem_map] at hr
      obtain ⟨p, _, rfl⟩ := hr
      exact ⟨encC_nums _, Nat.le_of_ble_eq_true rfl⟩
  · have h0 : codeS n X O [] ≠ 0 := by
      rcases h with ⟨_, h⟩ | ⟨_, _, h⟩ <;> rw [h] <;> decide
    exact ⟨[], codeS n X O [], Nat.zero_le _, fun r hr => absurd hr List.not_mem_nil, fun B w0 H bX bO => ⟨scount_bad n X O bX bO rfl h0, icount_bad n X O bX bO h⟩⟩
set_option maxRecDepth 100000 in
theorem lawCountBy_gives (n : Int) (X O : List Nat) (bX : isB X) (bO : isB O) (w : World) :
    Gives Try.prog 9 #[.agg (gv n X O).toArray] (.bool true) w := by
  have ug := gv_len (n := n) bX.1 bO.1
  obtain ⟨M, c, hM1, hM2, hres⟩ := cnt_res n X O
  refine gives_of (args := [.agg (gv n X O).toArray]) [(0, .agg (gv n X O).toArray)] [] Try.func9 rfl Try.ntmps9 rfl (argsF_cons rfl argsF_nil) (Holds.start w) ?_
  repeat' (first | (apply JcE; exact rfl; exact rfl; exact rfl; infer_instance; (first | exact (hres _ _ _ bX bO).1 | exact (hres _ _ _ bX bO).2); (intro v' H' hV; obtain ⟨u, L, rfl, hL, rfl⟩ := hV; obtain ⟨hq1, hq2, hq3⟩ := rows_fact hL hM1 hM2)) | (apply Jq_move; exact rfl; exact rfl) | (apply Jq_assign; exact rfl; exact rfl) | (apply Jq_load; exact rfl; exact rfl; (exact mb); (first | exact rfl)) | (apply Jq_cmp; exact rfl; exact rfl; exact rfl; exact rfl) | (apply Jq_not; exact rfl; exact rfl) | (apply Jq_pick_true; exact rfl; exact rfl; exact rfl) | (apply Jq_pick_false; exact rfl; exact rfl; exact rfl) | (apply J_on; exact rfl; exact rfl) | (apply J_skip; exact rfl; exact rfl; exact rfl; exact rfl) | (apply Jc; exact rfl; exact rfl; exact rfl; infer_instance; ((intro w hw); first | exact toGrid_gives n X O bX.1 bO.1 w)) | (apply Jq_loadW; exact rfl; exact rfl; (exact mb); (first | exact rfl | omega)) | (apply Jq_loadA; exact rfl; exact rfl; (exact mb); (first | exact rfl); (first | exact rfl | omega)) | (apply JqM; exact rfl; exact rfl; exact rfl; infer_instance; (first | (focus (apply eqSS_gives; (repeat (first | exact m0 | refine mS ?_ | refine List.mem_append.2 (.inr ?_))); (repeat (first | exact m0 | refine mS ?_ | refine List.mem_append.2 (.inr ?_))); (intro x hx; (repeat (first | exact List.mem_append.2 (.inl hx) | refine mS ?_ | refine List.mem_append.2 (.inr ?_)))); (intro x hx; (repeat (first | exact List.mem_append.2 (.inl hx) | refine mS ?_ | refine List.mem_append.2 (.inr ?_)))); (refine Eq.trans (b := M) ?_ (Eq.symm ?_) <;> assumption); assumption; assumption)) | (focus (apply heldSS_gives 1; (repeat (first | exact m0 | refine mS ?_ | refine List.mem_append.2 (.inr ?_))); (intro x hx; (repeat (first | exact List.mem_append.2 (.inl hx) | refine mS ?_ | refine List.mem_append.2 (.inr ?_)))); omega; assumption)))) | (apply JcM; exact rfl; exact rfl; exact rfl; infer_instance; (first | exact markSS_gives 1 _ (by omega) (by assumption) (rows_lens (by assumption)))) | (apply Jq_loadR; exact rfl; exact rfl; (first | exact rb | assumption); (first | exact rfl)) | (apply Jq_ext20; exact rfl; exact rfl) | (apply Jq_ext21; exact rfl; exact rfl) | (apply Jq_extract; exact rfl; exact rfl; exact rfl) | (apply J_box; exact rfl; exact rfl; exact rfl; (intro _)) | refine thenQ_normal ?_ | refine thenQ_exit ?_ | refine thenQ_ret ?_ | refine inBlockQ_normal ?_ | refine inBlockQ_ret ?_ | refine inBlockQ_here ?_ | (apply inBlockQ_on; exact rfl) | refine JC_seq ?_ | refine JC_region ?_ | refine J_nil ?_ | refine JC_block ?_ | refine JC_skip ?_ | refine JC_ret ?_ | refine JC_exit ?_ | (apply JC_if_true; exact rfl) | (apply JC_if_false; exact rfl) | (apply JC_dec_true; exact rfl; omega) | (apply JC_dec_false; exact rfl; omega) | (apply JC_ndec_true; exact rfl; omega) | (apply JC_ndec_false; exact rfl; omega) | (apply J_gdT; exact rfl; exact rfl; omega) | (apply J_gdF; exact rfl; exact rfl; omega) | (apply J_gnT; exact rfl; exact rfl; omega) | (apply J_gnF; exact rfl; exact rfl; omega) | refine JC_dec rfl (fun _ => ?_) (fun _ => ?_) | refine JC_ndec rfl (fun _ => ?_) (fun _ => ?_) | refine JC_if rfl (fun _ => ?_) (fun _ => ?_) | refine J_gd rfl rfl (fun _ => ?_) (fun _ => ?_) | refine J_gn rfl rfl (fun _ => ?_) (fun _ => ?_) | refine J_gb rfl rfl (fun _ => ?_) (fun _ => ?_))
  exact g1 rfl rfl rfl rfl
end Go.Proofs.Ythijakignhjmgaa
