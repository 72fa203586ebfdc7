/- The comparison of grades as slices.SortFunc asks for it. -/
import Derived.Test.YthijakignhjmgaaTC
import Derived.Test.YthijakignhjmgaaFL
import Derived.Test.YthijakignhjmgaaPG
import Derived.Test.YthijakignhjmgaaTG
namespace Go.Proofs.Ythijakignhjmgaa
open Go Go.RowKit SL
abbrev GrB : Type := Int × Int
def encGr (g : GrB) : List Value := [.int .i64 g.1, .int .i64 g.2]
theorem encGr_len (g : GrB) : (encGr g).length = 2 := rfl
theorem encGr_one (g : GrB) : ∀ u ∈ encGr g, u.oneCell' = true := by
  intro u hu
  simp only [encGr, List.mem_cons, List.not_mem_nil, or_false] at hu
  rcases hu with rfl | rfl <;> rfl
def cmpI (a b : Int) : Int := if a < b then -1 else if b < a then 1 else 0
def cfGr (x y : GrB) : Int := if cmpI x.1 y.1 = 0 then cmpI x.2 y.2 else cmpI x.1 y.1
theorem cfGr_lt (x y : GrB) : cfGr x y < 0 ↔ x.1 < y.1 ∨ x.1 = y.1 ∧ x.2 < y.2 := by
  unfold cfGr cmpI
  by_cases h1 : x.1 < y.1
  · rw [if_pos h1]; simp; omega
  · rw [if_neg h1]
    by_cases h2 : y.1 < x.1
    · rw [if_pos h2]; simp; omega
    · rw [if_neg h2, if_pos rfl]
      split
      · simp; omega
      · split <;> simp <;> omega
theorem swoU : Go.Sort.SWO (Go.Proofs.ltOf cfGr) where
  irrefl x := by unfold Go.Proofs.ltOf; simp only [decide_eq_false_iff_not, cfGr_lt]; omega
  trans x y z h1 h2 := by unfold Go.Proofs.ltOf at *; simp only [decide_eq_true_eq, cfGr_lt] at *; omega
  ntrans x y z h1 h2 := by unfold Go.Proofs.ltOf at *; simp only [decide_eq_false_iff_not, cfGr_lt] at *; omega
set_option maxRecDepth 100000 in
theorem isNaN_gives (a : Int) (w : World) : Gives Try.prog 187 #[.int .i64 a] (.bool false) w := by
  refine gives_of (args := [.int .i64 a]) [(0, .int .i64 a)] [] Try.func187 rfl Try.ntmps187 rfl (argsF_cons rfl argsF_nil) (Holds.start w) ?_
  repeat' (first | (apply Jq_move; exact rfl; exact rfl) | (apply Jq_assign; exact rfl; exact rfl) | (apply Jq_cmp; exact rfl; exact rfl; exact rfl; exact rfl) | refine thenQ_normal ?_ | refine thenQ_exit ?_ | refine thenQ_ret ?_ | refine inBlockQ_normal ?_ | refine inBlockQ_ret ?_ | refine inBlockQ_here ?_ | (apply inBlockQ_on; exact rfl) | refine JC_seq ?_ | refine JC_region ?_ | refine J_nil ?_ | refine JC_block ?_ | refine JC_skip ?_ | refine JC_ret ?_ | refine JC_exit ?_)
  exact g1 rfl rfl rfl (by simp)
set_option maxRecDepth 100000 in
theorem cmpI_gives (a b : Int) (w : World) : Gives Try.prog 144 #[.int .i64 a, .int .i64 b] (.int .i64 (cmpI a b)) w := by
  refine gives_of (args := [.int .i64 a, .int .i64 b]) [(0, .int .i64 a), (1, .int .i64 b)] [] Try.func144 rfl Try.ntmps144 rfl (argsF_cons rfl (argsF_cons rfl argsF_nil)) (Holds.start w) ?_
  repeat' (first | (apply Jq_move; exact rfl; exact rfl) | (apply Jq_assign; exact rfl; exact rfl) | (apply Jq_cmp; exact rfl; exact rfl; exact rfl; exact rfl) | (apply Jc; exact rfl; exact rfl; exact rfl; infer_instance; ((intro w hw); first | exact isNaN_gives a w | exact isNaN_gives b w)) | refine thenQ_normal ?_ | refine thenQ_exit ?_ | refine thenQ_ret ?_ | refine inBlockQ_normal ?_ | refine inBlockQ_ret ?_ | refine inBlockQ_here ?_ | (apply inBlockQ_on; exact rfl) | refine JC_seq ?_ | refine JC_region ?_ | refine J_nil ?_ | refine JC_block ?_ | refine JC_skip ?_ | refine JC_ret ?_ | refine JC_exit ?_ | (apply JC_if_true; exact rfl) | (apply JC_if_false; exact rfl) | (apply JC_dec_true; exact rfl; omega) | (apply JC_dec_false; exact rfl; omega) | (apply JC_ndec_true; exact rfl; omega) | (apply JC_ndec_false; exact rfl; omega) | refine JC_dec rfl (fun _ => ?_) (fun _ => ?_) | refine JC_ndec rfl (fun _ => ?_) (fun _ => ?_) | refine JC_if rfl (fun _ => ?_) (fun _ => ?_))
  · rename_i h
    exact g1 rfl rfl rfl (by unfold cmpI; rw [if_pos h])
  · rename_i h1 h2
    exact g1 rfl rfl rfl (by unfold cmpI; rw [if_neg h1, if_pos h2])
  · rename_i h1 h2
    exact g1 rfl rfl rfl (by unfold cmpI; rw [if_neg h1, if_neg h2])
set_option maxRecDepth 100000 in
theorem cmpOr_gives {B : Nat} {w0 : World} {H : Hp} {v : Value} (a b : Int) (hv : It.row v 3 1 [.int .i64 a, .int .i64 b] ∈ H) :
    GivesM Try.prog 143 #[v] B w0 H (.int .i64 (if a = 0 then b else a)) H := by
  have iv : RB v H 3 1 [.int .i64 a, .int .i64 b] := ⟨hv⟩
  have l2 : ([.int .i64 a, .int .i64 b] : List Value).length = 2 := rfl
  refine givesM_of (args := [v]) [(0, v)] Try.func143 rfl Try.ntmps143 rfl (argsF_cons rfl argsF_nil) ?_
  repeat' (first | (apply Jq_move; exact rfl; exact rfl) | (apply Jq_assign; exact rfl; exact rfl) | (apply Jq_load; exact rfl; exact rfl; (exact mb); (first | exact rfl)) | (apply Jq_indexN; exact rfl; exact rfl; exact rfl; omega) | (apply Jq_index; exact rfl; exact rfl; exact rfl; omega; omega) | (apply Jq_indexSN; exact rfl; exact rfl; exact rfl; omega) | (apply Jq_cmp; exact rfl; exact rfl; exact rfl; exact rfl) | (apply Jq_add; exact rfl; exact rfl; exact rfl; omega) | (apply Jq_loadW; exact rfl; exact rfl; (exact mb); (first | exact rfl | omega)) | (apply Jq_loadA; exact rfl; exact rfl; (exact mb); (first | exact rfl); (first | exact rfl | omega)) | (apply Jq_lenR; exact rfl; exact rfl; (first | exact rb | assumption)) | (apply Jq_indexRN; exact rfl; exact rfl; exact rfl; (first | exact rb | assumption); omega) | (apply Jq_loadR; exact rfl; exact rfl; (first | exact rb | assumption); (first | exact rfl)) | (apply Jq_len; exact rfl; exact rfl) | refine thenQ_normal ?_ | refine thenQ_exit ?_ | refine thenQ_ret ?_ | refine inBlockQ_normal ?_ | refine inBlockQ_ret ?_ | refine inBlockQ_here ?_ | (apply inBlockQ_on; exact rfl) | refine JC_seq ?_ | refine JC_region ?_ | refine J_nil ?_ | refine JC_block ?_ | refine JC_skip ?_ | refine JC_ret ?_ | refine JC_exit ?_ | (apply JC_if_true; exact rfl) | (apply JC_if_false; exact rfl) | (apply JC_dec_true; exact rfl; omega) | (apply JC_dec_false; exact rfl; omega) | (apply JC_ndec_true; exact rfl; omega) | (apply JC_ndec_false; exact rfl; omega) | refine JC_dec rfl (fun _ => ?_) (fun _ => ?_) | refine JC_ndec rfl (fun _ => ?_) (fun _ => ?_) | refine JC_if rfl (fun _ => ?_) (fun _ => ?_))
  refine JC_loop (X := Nat) (fun k => k ≤ 2 ∧ (1 ≤ k → a = 0) ∧ (2 ≤ k → b = 0)) (fun k => [(8, .int .i64 (k : Int)), (7, .int .i64 2), (6, v), (3, .int .i64 0)]) (fun _ => H) (fun k => 2 - k) 0 ⟨by omega, by omega, by omega⟩ ?_ ?_
  · (refine ent ?_ ?_; (repeat refine fr_cons rfl ?_); exact fr_nil; (repeat (first | exact List.nil_sublist _ | exact List.Sublist.refl _ | refine List.Sublist.cons_cons _ ?_ | refine List.Sublist.cons _ ?_)))
  · rintro k ⟨hk, h1, h2⟩
    by_cases hlt : k < 2
    · obtain ⟨z, hz, hz2, hz3⟩ : ∃ z, ([.int .i64 a, .int .i64 b] : List Value)[k]? = some (.int .i64 z) ∧ (k = 0 → z = a) ∧ (k = 1 → z = b) := by
        rcases (show k = 0 ∨ k = 1 by omega) with rfl | rfl
        · exact ⟨a, rfl, fun _ => rfl, by omega⟩
        · exact ⟨b, rfl, by omega, fun _ => rfl⟩
      repeat' (first | (apply Jq_move; exact rfl; exact rfl) | (apply Jq_assign; exact rfl; exact rfl) | (apply Jq_load; exact rfl; exact rfl; (exact mb); (first | exact rfl | exact hz)) | (apply Jq_indexN; exact rfl; exact rfl; exact rfl; omega) | (apply Jq_index; exact rfl; exact rfl; exact rfl; omega; omega) | (apply Jq_indexSN; exact rfl; exact rfl; exact rfl; omega) | (apply Jq_cmp; exact rfl; exact rfl; exact rfl; exact rfl) | (apply Jq_add; exact rfl; exact rfl; exact rfl; omega) | (apply Jq_loadW; exact rfl; exact rfl; (exact mb); (first | exact rfl | omega)) | (apply Jq_loadA; exact rfl; exact rfl; (exact mb); (first | exact hz | exact rfl); (first | exact rfl | omega)) | (apply Jq_lenR; exact rfl; exact rfl; (first | exact rb | assumption)) | (apply Jq_indexRN; exact rfl; exact rfl; exact rfl; (first | exact rb | assumption); omega) | (apply Jq_loadR; exact rfl; exact rfl; (first | exact rb | assumption); (first | exact rfl | exact hz)) | (apply Jq_len; exact rfl; exact rfl) | refine thenQ_normal ?_ | refine thenQ_exit ?_ | refine thenQ_ret ?_ | refine inBlockQ_normal ?_ | refine inBlockQ_ret ?_ | refine inBlockQ_here ?_ | (apply inBlockQ_on; exact rfl) | refine JC_seq ?_ | refine JC_region ?_ | refine J_nil ?_ | refine JC_block ?_ | refine JC_skip ?_ | refine JC_ret ?_ | refine JC_exit ?_ | (apply JC_if_true; exact rfl) | (apply JC_if_false; exact rfl) | (apply JC_dec_true; exact rfl; omega) | (apply JC_dec_false; exact rfl; omega) | (apply JC_ndec_true; exact rfl; omega) | (apply JC_ndec_false; exact rfl; omega) | refine JC_dec rfl (fun _ => ?_) (fun _ => ?_) | refine JC_ndec rfl (fun _ => ?_) (fun _ => ?_) | refine JC_if rfl (fun _ => ?_) (fun _ => ?_))
      · rename_i hc
        have e : z = if a = 0 then b else a := by
          rcases (show k = 0 ∨ k = 1 by omega) with rfl | rfl
          · rw [hz2 rfl] at hc ⊢; rw [if_neg hc]
          · rw [if_pos (h1 (by omega)), hz3 rfl]
        refine SL.m1 rfl rfl rfl (by rw [e]) ?_
        (refine ent ?_ ?_; (repeat refine fr_cons rfl ?_); exact fr_nil; (repeat (first | exact List.nil_sublist _ | exact List.Sublist.refl _ | refine List.Sublist.cons_cons _ ?_ | refine List.Sublist.cons _ ?_)))
      · rename_i hc
        have hc' : z = 0 := by omega
        refine ⟨k + 1, ⟨by omega, fun _ => ?_, fun _ => ?_⟩, by omega, ?_⟩
        · rcases (show k = 0 ∨ k = 1 by omega) with rfl | rfl
          · rw [← hz2 rfl]; exact hc'
          · exact h1 (by omega)
        · rw [← hz3 (by omega)]; exact hc'
        · (refine ent ?_ ?_; (repeat refine fr_cons rfl ?_); exact fr_nil; (repeat (first | exact List.nil_sublist _ | exact List.Sublist.refl _ | refine List.Sublist.cons_cons _ ?_ | refine List.Sublist.cons _ ?_)))
    · obtain rfl : k = 2 := by omega
      repeat' (first | (apply Jq_move; exact rfl; exact rfl) | (apply Jq_assign; exact rfl; exact rfl) | (apply Jq_load; exact rfl; exact rfl; (exact mb); (first | exact rfl)) | (apply Jq_indexN; exact rfl; exact rfl; exact rfl; omega) | (apply Jq_index; exact rfl; exact rfl; exact rfl; omega; omega) | (apply Jq_indexSN; exact rfl; exact rfl; exact rfl; omega) | (apply Jq_cmp; exact rfl; exact rfl; exact rfl; exact rfl) | (apply Jq_add; exact rfl; exact rfl; exact rfl; omega) | (apply Jq_loadW; exact rfl; exact rfl; (exact mb); (first | exact rfl | omega)) | (apply Jq_loadA; exact rfl; exact rfl; (exact mb); (first | exact rfl); (first | exact rfl | omega)) | (apply Jq_lenR; exact rfl; exact rfl; (first | exact rb | assumption)) | (apply Jq_indexRN; exact rfl; exact rfl; exact rfl; (first | exact rb | assumption); omega) | (apply Jq_loadR; exact rfl; exact rfl; (first | exact rb | assumption); (first | exact rfl)) | (apply Jq_len; exact rfl; exact rfl) | refine thenQ_normal ?_ | refine thenQ_exit ?_ | refine thenQ_ret ?_ | refine inBlockQ_normal ?_ | refine inBlockQ_ret ?_ | refine inBlockQ_here ?_ | (apply inBlockQ_on; exact rfl) | refine JC_seq ?_ | refine JC_region ?_ | refine J_nil ?_ | refine JC_block ?_ | refine JC_skip ?_ | refine JC_ret ?_ | refine JC_exit ?_ | (apply JC_if_true; exact rfl) | (apply JC_if_false; exact rfl) | (apply JC_dec_true; exact rfl; omega) | (apply JC_dec_false; exact rfl; omega) | (apply JC_ndec_true; exact rfl; omega) | (apply JC_ndec_false; exact rfl; omega) | refine JC_dec rfl (fun _ => ?_) (fun _ => ?_) | refine JC_ndec rfl (fun _ => ?_) (fun _ => ?_) | refine JC_if rfl (fun _ => ?_) (fun _ => ?_))
      refine SL.m1 rfl rfl rfl (by rw [h1 (by omega), h2 (by omega)]; rfl) ?_
      (refine ent ?_ ?_; (repeat refine fr_cons rfl ?_); exact fr_nil; (repeat (first | exact List.nil_sublist _ | exact List.Sublist.refl _ | refine List.Sublist.cons_cons _ ?_ | refine List.Sublist.cons _ ?_)))
set_option maxRecDepth 100000 in
theorem compareGr_gives (x y : GrB) (w : World) : Gives Try.prog 112 #[.agg (encGr x).toArray, .agg (encGr y).toArray] (.int .i64 (cfGr x y)) w := by
  have ux := encGr_len x
  have uy := encGr_len y
  refine gives_of (args := [.agg (encGr x).toArray, .agg (encGr y).toArray]) [(0, .agg (encGr x).toArray), (1, .agg (encGr y).toArray)] [] Try.func112 rfl Try.ntmps112 rfl (argsF_cons rfl (argsF_cons rfl argsF_nil)) (Holds.start w) ?_
  repeat' (first | (apply Jq_assign; exact rfl; exact rfl) | (apply Jq_load; exact rfl; exact rfl; (exact mb); (first | exact rfl)) | (apply Jq_fieldAddr; exact rfl; exact rfl) | (apply Jq_loadW; exact rfl; exact rfl; (exact mb); (first | exact rfl | omega)) | (apply Jq_loadA; exact rfl; exact rfl; (exact mb); (first | exact rfl); (first | exact rfl | omega)) | (apply Jq_loadR; exact rfl; exact rfl; (first | exact rb | assumption); (first | exact rfl)) | (apply J_box; exact rfl; exact rfl; exact rfl; (intro _)) | refine thenQ_normal ?_ | refine thenQ_exit ?_ | refine thenQ_ret ?_ | refine inBlockQ_normal ?_ | refine inBlockQ_ret ?_ | refine inBlockQ_here ?_ | (apply inBlockQ_on; exact rfl) | refine JC_seq ?_ | refine JC_region ?_ | refine J_nil ?_ | refine JC_block ?_ | refine JC_skip ?_ | refine JC_ret ?_ | refine JC_exit ?_)
  rename_i b2 b3
  refine JC_any (m := 13) rfl [.blk b3 (encGr y) 135, .blk b2 (encGr x) 135] mixed (by ((repeat (apply sub_cons; (focus ((with_reducible (repeat (first | exact m0 | assumption | refine mS ?_))); done)))); exact sub_nil)) ?_
  (apply JF_q 0; exact rfl; kernel_rfl; exact rfl; (intro E hE; (first | (apply q_fieldAddr; exact rfl))))
  (apply JF_q 1; exact rfl; kernel_rfl; exact rfl; (intro E hE; (first | (apply q_load; exact rfl; (refine hE _ ?_; exact mb); (first | exact rfl | exact rfl)) | (apply q_loadW; exact rfl; (refine hE _ ?_; exact mb); (first | exact rfl | omega)) | (apply q_loadA; exact rfl; (refine hE _ ?_; exact mb); (first | exact rfl | exact rfl); (first | exact rfl | omega)) | (apply q_loadR; exact rfl; (refine hE _ ?_; exact rb); (first | exact rfl | exact rfl)))))
  (apply JF_q 2; exact rfl; kernel_rfl; exact rfl; (intro E hE; (first | (apply q_fieldAddr; exact rfl))))
  (apply JF_q 3; exact rfl; kernel_rfl; exact rfl; (intro E hE; (first | (apply q_load; exact rfl; (refine hE _ ?_; exact mb); (first | exact rfl | exact rfl)) | (apply q_loadW; exact rfl; (refine hE _ ?_; exact mb); (first | exact rfl | omega)) | (apply q_loadA; exact rfl; (refine hE _ ?_; exact mb); (first | exact rfl | exact rfl); (first | exact rfl | omega)) | (apply q_loadR; exact rfl; (refine hE _ ?_; exact rb); (first | exact rfl | exact rfl)))))
  (apply JF_q 4; exact rfl; kernel_rfl; exact rfl; (intro E hE; (first | (apply q_callE; exact rfl; exact rfl; infer_instance; ((intro w hw); first | exact cmpI_gives _ _ w)))))
  (apply JF_q 5; exact rfl; kernel_rfl; exact rfl; (intro E hE; (first | (apply q_fieldAddr; exact rfl))))
  (apply JF_q 6; exact rfl; kernel_rfl; exact rfl; (intro E hE; (first | (apply q_load; exact rfl; (refine hE _ ?_; exact mb); (first | exact rfl | exact rfl)) | (apply q_loadW; exact rfl; (refine hE _ ?_; exact mb); (first | exact rfl | omega)) | (apply q_loadA; exact rfl; (refine hE _ ?_; exact mb); (first | exact rfl | exact rfl); (first | exact rfl | omega)) | (apply q_loadR; exact rfl; (refine hE _ ?_; exact rb); (first | exact rfl | exact rfl)))))
  (apply JF_q 7; exact rfl; kernel_rfl; exact rfl; (intro E hE; (first | (apply q_fieldAddr; exact rfl))))
  (apply JF_q 8; exact rfl; kernel_rfl; exact rfl; (intro E hE; (first | (apply q_load; exact rfl; (refine hE _ ?_; exact mb); (first | exact rfl | exact rfl)) | (apply q_loadW; exact rfl; (refine hE _ ?_; exact mb); (first | exact rfl | omega)) | (apply q_loadA; exact rfl; (refine hE _ ?_; exact mb); (first | exact rfl | exact rfl); (first | exact rfl | omega)) | (apply q_loadR; exact rfl; (refine hE _ ?_; exact rb); (first | exact rfl | exact rfl)))))
  (apply JF_q 9; exact rfl; kernel_rfl; exact rfl; (intro E hE; (first | (apply q_callE; exact rfl; exact rfl; infer_instance; ((intro w hw); first | exact cmpI_gives _ _ w)))))
  (apply JF_all [10]; kernel_rfl)
  (apply JFs_cons; exact rfl)
  · (first | (apply J_lit2; exact rfl; exact rfl; exact rfl; exact rfl; exact rfl; (intro _)) | (apply JcM; exact rfl; exact rfl; exact rfl; infer_instance; exact cmpOr_gives _ _ m0))
    (apply J_nil; apply JF_end; ((repeat (apply sub_cons; (focus ((with_reducible (repeat (first | exact m0 | assumption | refine mS ?_))); done)))); exact sub_nil))
    (apply JF_all [11]; kernel_rfl)
    (apply JFs_cons; exact rfl)
    · (first | (apply J_lit2; exact rfl; exact rfl; exact rfl; exact rfl; exact rfl; (intro _)) | (apply JcM; exact rfl; exact rfl; exact rfl; infer_instance; exact cmpOr_gives _ _ m0) | (apply Jc; exact rfl; exact rfl; exact rfl; infer_instance; ((intro w hw); first | exact cmpI_gives _ _ w)))
      (apply J_nil; apply JF_end; ((repeat (apply sub_cons; (focus ((with_reducible (repeat (first | exact m0 | assumption | refine mS ?_))); done)))); exact sub_nil))
      (apply JF_q 12; exact rfl; kernel_rfl; exact rfl; (intro E hE; (first | (apply q_assign; exact rfl))))
      (apply JF_done; kernel_rfl)
      ((repeat' (first | (apply Jq_assign; exact rfl; exact rfl) | (apply Jq_load; exact rfl; exact rfl; (exact mb); (first | exact rfl)) | (apply Jq_fieldAddr; exact rfl; exact rfl) | (apply Jq_loadW; exact rfl; exact rfl; (exact mb); (first | exact rfl | omega)) | (apply Jq_loadA; exact rfl; exact rfl; (exact mb); (first | exact rfl); (first | exact rfl | omega)) | (apply Jq_loadR; exact rfl; exact rfl; (first | exact rb | assumption); (first | exact rfl)) | (apply J_box; exact rfl; exact rfl; exact rfl; (intro _)) | refine thenQ_normal ?_ | refine thenQ_exit ?_ | refine thenQ_ret ?_ | refine inBlockQ_normal ?_ | refine inBlockQ_ret ?_ | refine inBlockQ_here ?_ | (apply inBlockQ_on; exact rfl) | refine JC_seq ?_ | refine JC_region ?_ | (apply JC_draw mixed; kernel_rfl) | refine J_nil ?_ | refine JC_block ?_ | refine JC_skip ?_ | refine JC_ret ?_ | refine JC_exit ?_)); exact g1 rfl rfl rfl rfl)
    exact JFs_nil
  exact JFs_nil
theorem cmpLaysU (blk off size : Nat) (w : World) : CmpLays Try.prog 112 #[] encGr 2 cfGr blk off size w := fun m os dk _ x y => by
  have h := compareGr_gives x y (sortWorldK encGr 2 w blk off m dk os)
  unfold Gives at h
  exact h.mono fun e w' ⟨he, hb⟩ => ⟨he, grown_of_blw hb⟩
end Go.Proofs.Ythijakignhjmgaa
