/- Walks: FnExactReachedFrom. -/
import Derived.Test.YtflleelfkknfaaaLD
import Derived.Test.YtflleelfkknfaaaSK
namespace Go.Proofs.Ytflleelfkknfaaa
open Go Go.RowKit SL
set_option maxRecDepth 100000 in
theorem sRF_bad (n : Int) (X O : List Nat) (k : Int) (bX : isB X) (bO : isB O) (g : ¬ okG n X O) (w : World) : GivesN Try.prog 16 #[.agg (gv n X O).toArray, .int .i64 k] (isRowI 27 17 [] 1) w := by
  have ug := gv_len (n := n) bX.1 bO.1
  refine givesN_of (args := [.agg (gv n X O).toArray, .int .i64 k]) [(0, .agg (gv n X O).toArray), (1, .int .i64 k)] [] Try.func16 rfl Try.ntmps16 rfl (argsF_cons rfl (argsF_cons rfl argsF_nil)) (Holds.start w) ?_
  repeat' (first | (apply JC_ndec_true; exact rfl; exact g) | (apply Jq_assign; exact rfl; exact rfl) | (apply Jq_not; exact rfl; exact rfl) | (apply Jc; exact rfl; exact rfl; exact rfl; infer_instance; ((intro w hw); exact l01Is_gives n X O bX bO w)) | (apply Jq_loadW; exact rfl; exact rfl; (exact mb); (omega)) | (apply J_box; exact rfl; exact rfl; exact rfl; (intro _)) | refine thenQ_normal ?_ | refine thenQ_ret ?_ | refine inBlockQ_ret ?_ | refine JC_seq ?_ | refine JC_region ?_ | refine J_nil ?_ | refine JC_block ?_ | refine JC_ret ?_)
  exact n2nil rfl rfl rfl rfl
set_option maxRecDepth 100000 in
theorem sRF_range (n : Int) (X O : List Nat) (k : Int) (bX : isB X) (bO : isB O) (g : okG n X O) (hk : ¬ (0 ≤ k ∧ k ≤ 6)) (w : World) : GivesN Try.prog 16 #[.agg (gv n X O).toArray, .int .i64 k] (isRowI 27 17 [] 2) w := by
  have ug := gv_len (n := n) bX.1 bO.1
  refine givesN_of (args := [.agg (gv n X O).toArray, .int .i64 k]) [(0, .agg (gv n X O).toArray), (1, .int .i64 k)] [] Try.func16 rfl Try.ntmps16 rfl (argsF_cons rfl (argsF_cons rfl argsF_nil)) (Holds.start w) ?_
  repeat' (first | (apply JC_ndec_false; exact rfl; exact g) | (apply JC_ndec_true; exact rfl; exact hk) | (apply Jq_move; exact rfl; exact rfl) | (apply Jq_assign; exact rfl; exact rfl) | (apply Jq_not; exact rfl; exact rfl) | (apply Jc; exact rfl; exact rfl; exact rfl; infer_instance; ((intro w hw); first | exact l01Is_gives n X O bX bO w | exact l01In_gives k 0 6 w)) | (apply Jq_loadW; exact rfl; exact rfl; (exact mb); (omega)) | (apply J_box; exact rfl; exact rfl; exact rfl; (intro _)) | refine thenQ_normal ?_ | refine thenQ_ret ?_ | refine inBlockQ_ret ?_ | refine JC_seq ?_ | refine JC_region ?_ | refine J_nil ?_ | refine JC_block ?_ | refine JC_ret ?_)
  exact n2nil rfl rfl rfl rfl
set_option maxRecDepth 100000 in
theorem iRF_bad (n : Int) (X O : List Nat) (k : Int) (bX : isB X) (bO : isB O) (g : ¬ okG n X O) (w : World) : GivesN Try.prog 17 #[.agg (gv n X O).toArray, .int .i64 k] (isRowI 27 17 [] 1) w := by
  have ug := gv_len (n := n) bX.1 bO.1
  refine givesN_of (args := [.agg (gv n X O).toArray, .int .i64 k]) [(0, .agg (gv n X O).toArray), (1, .int .i64 k)] [] Try.func17 rfl Try.ntmps17 rfl (argsF_cons rfl (argsF_cons rfl argsF_nil)) (Holds.start w) ?_
  repeat' (first | (apply JC_ndec_true; exact rfl; exact g) | (apply Jq_assign; exact rfl; exact rfl) | (apply Jq_not; exact rfl; exact rfl) | (apply Jc; exact rfl; exact rfl; exact rfl; infer_instance; ((intro w hw); exact IsGrid_gives n X O bX bO w)) | (apply Jq_loadW; exact rfl; exact rfl; (exact mb); (omega)) | (apply J_box; exact rfl; exact rfl; exact rfl; (intro _)) | refine thenQ_normal ?_ | refine thenQ_ret ?_ | refine inBlockQ_ret ?_ | refine JC_seq ?_ | refine JC_region ?_ | refine J_nil ?_ | refine JC_block ?_ | refine JC_ret ?_)
  exact n2nil rfl rfl rfl rfl
set_option maxRecDepth 100000 in
theorem iRF_range (n : Int) (X O : List Nat) (k : Int) (bX : isB X) (bO : isB O) (g : okG n X O) (hk : ¬ (0 ≤ k ∧ k ≤ 6)) (w : World) : GivesN Try.prog 17 #[.agg (gv n X O).toArray, .int .i64 k] (isRowI 27 17 [] 2) w := by
  have ug := gv_len (n := n) bX.1 bO.1
  refine givesN_of (args := [.agg (gv n X O).toArray, .int .i64 k]) [(0, .agg (gv n X O).toArray), (1, .int .i64 k)] [] Try.func17 rfl Try.ntmps17 rfl (argsF_cons rfl (argsF_cons rfl argsF_nil)) (Holds.start w) ?_
  repeat' (first | (apply JC_ndec_false; exact rfl; exact g) | (apply JC_ndec_true; exact rfl; exact hk) | (apply Jq_move; exact rfl; exact rfl) | (apply Jq_assign; exact rfl; exact rfl) | (apply Jq_not; exact rfl; exact rfl) | (apply Jc; exact rfl; exact rfl; exact rfl; infer_instance; ((intro w hw); first | exact IsGrid_gives n X O bX bO w | exact within_gives k 0 6 w)) | (apply Jq_loadW; exact rfl; exact rfl; (exact mb); (omega)) | (apply J_box; exact rfl; exact rfl; exact rfl; (intro _)) | refine thenQ_normal ?_ | refine thenQ_ret ?_ | refine inBlockQ_ret ?_ | refine JC_seq ?_ | refine JC_region ?_ | refine J_nil ?_ | refine JC_block ?_ | refine JC_ret ?_)
  exact n2nil rfl rfl rfl rfl
theorem rf_no {p : GridB} {k : Nat} {q : RSt} {A : Prop} (h : rnds p k = none) (e : rnds p k = some q) : A := by rw [h] at e; cases e
theorem rf_same {p : GridB} {k : Nat} {q q' : RSt} (h : rnds p k = some q) (e : rnds p k = some q') : q' = q := by rw [h] at e; cases e; rfl
set_option maxRecDepth 100000 in
theorem lawRF_good (n : Int) (X O : List Nat) (k : Nat) (bX : isB X) (bO : isB O) (g : okG n X O) (hk : k ≤ 6) (w : World) : Gives Try.prog 5 #[.agg (gv n X O).toArray, .int .i64 (k : Int)] (.bool true) w := by
  have ug := gv_len (n := n) bX.1 bO.1
  have hs := sRF_good (p := ⟨(n, X, O), bX, bO⟩) g k hk
  have hi := iRF_good (p := ⟨(n, X, O), bX, bO⟩) g k hk
  generalize canB ⟨(n, X, O), bX, bO⟩ = c at hs hi
  refine gives_of (args := [.agg (gv n X O).toArray, .int .i64 (k : Int)]) [(0, .agg (gv n X O).toArray), (1, .int .i64 (k : Int))] [] Try.func5 rfl Try.ntmps5 rfl (argsF_cons rfl (argsF_cons rfl argsF_nil)) (Holds.start w) ?_
  cases hc : rnds c k with
  | none =>
    have e : [] = ([] : List GridB).flatMap encG := rfl
    have hm : [] = mkL (mkG 1) (0 * 17) := rfl
    have l0 : ([] : List Value).length = 0 * 17 := rfl
    repeat' (first | (apply JcN; exact rfl; exact rfl; exact rfl; infer_instance; (intro w _; first | exact hs w | exact hi w); exact rfR_mine; (intro v its hV; rcases hV with ⟨_, u, rfl, rfl⟩ | ⟨q, u, l, hq, _⟩; rotate_left; exact rf_no hc hq; refine J_app1 ?_)) | (apply Jq_move; exact rfl; exact rfl) | (apply Jq_assign; exact rfl; exact rfl) | (apply Jq_cmp; exact rfl; exact rfl; exact rfl; exact rfl) | (apply Jq_not; exact rfl; exact rfl) | (apply Jq_pick_false; exact rfl; exact rfl; exact rfl) | (apply J_on; exact rfl; exact rfl) | (apply Jc; exact rfl; exact rfl; exact rfl; infer_instance; ((intro w hw); exact toGrid_gives n X O bX.1 bO.1 w)) | (apply Jq_loadW; exact rfl; exact rfl; (exact mb); (omega)) | (apply JqM; exact rfl; exact rfl; exact rfl; infer_instance; (first | (apply eqGridS_gives []; (focus (repeat (exact m0))); (focus (repeat (first | exact m0 | refine mS ?_))); decide) | (apply heldGridS_gives 1 0; (focus (repeat (first | exact m0 | refine mS ?_))); decide; decide))) | (apply JcM; exact rfl; exact rfl; exact rfl; infer_instance; (exact markGridS_gives 1 0 (by decide) l0 (by decide))) | (apply Jq_ext20; exact rfl; exact rfl) | (apply Jq_ext21; exact rfl; exact rfl) | (apply J_box; exact rfl; exact rfl; exact rfl; (intro _)) | refine thenQ_normal ?_ | refine JC_seq ?_ | refine JC_region ?_ | refine J_nil ?_ | refine JC_skip ?_ | refine JC_ret ?_ | (apply JC_if_false; exact rfl))
    exact g1 rfl rfl rfl rfl
  | some q =>
    repeat' (first | (apply JcN; exact rfl; exact rfl; exact rfl; infer_instance; (intro w _; exact hs w); exact rfR_mine; (intro v its hV; rcases hV with ⟨hq, _⟩ | ⟨q', u, l, hq, rfl, ha, hm, hl, rfl⟩; exact rf_no hq hc; obtain rfl := rf_same hc hq; have lf := flat_len l; refine J_app1 ?_)) | (apply Jq_move; exact rfl; exact rfl) | (apply Jq_assign; exact rfl; exact rfl) | (apply Jc; exact rfl; exact rfl; exact rfl; infer_instance; ((intro w hw); exact toGrid_gives n X O bX.1 bO.1 w)) | (apply Jq_loadW; exact rfl; exact rfl; (exact mb); (omega)) | (apply Jq_ext20; exact rfl; exact rfl) | (apply Jq_ext21; exact rfl; exact rfl) | (apply J_box; exact rfl; exact rfl; exact rfl; (intro _)) | refine thenQ_normal ?_ | refine JC_seq ?_ | refine JC_region ?_ | refine J_nil ?_)
    have l1 : (l.flatMap encG).length = l.length * 17 := lf
    have hl' : l.length < 1000000 := by omega
    repeat' (first | (apply JcN; exact rfl; exact rfl; exact rfl; infer_instance; (intro w _; exact hi w); exact rfR_mine; (intro v its hV; rcases hV with ⟨hq, _⟩ | ⟨q', u2, l2, hq, rfl, ha2, hm2, _, rfl⟩; exact rf_no hq hc; obtain rfl := rf_same hc hq; have e2 := Asc.ext ha ha2 (fun y => (hm y).trans (hm2 y).symm); subst e2; clear ha2 hm2; refine J_app1 ?_)) | (apply Jq_move; exact rfl; exact rfl) | (apply Jq_assign; exact rfl; exact rfl) | (apply Jq_cmp; exact rfl; exact rfl; exact rfl; exact rfl) | (apply Jq_not; exact rfl; exact rfl) | (apply Jq_pick_false; exact rfl; exact rfl; exact rfl) | (apply J_on; exact rfl; exact rfl) | (apply Jc; exact rfl; exact rfl; exact rfl; infer_instance; ((intro w hw); exact toGrid_gives n X O bX.1 bO.1 w)) | (apply Jq_loadW; exact rfl; exact rfl; (exact mb); (omega)) | (apply JqM; exact rfl; exact rfl; exact rfl; infer_instance; (first | (apply eqGridS_gives l; (focus (repeat (exact m0))); (focus (repeat (first | exact m0 | refine mS ?_))); exact hl') | (apply heldGridS_gives 1 l.length; (focus (repeat (first | exact m0 | refine mS ?_))); decide; exact hl'))) | (apply JcM; exact rfl; exact rfl; exact rfl; infer_instance; (exact markGridS_gives 1 l.length (by decide) l1 hl')) | (apply Jq_ext20; exact rfl; exact rfl) | (apply Jq_ext21; exact rfl; exact rfl) | refine thenQ_normal ?_ | refine JC_seq ?_ | refine JC_region ?_ | refine J_nil ?_ | refine JC_skip ?_ | refine JC_ret ?_ | (apply JC_if_false; exact rfl) | (apply JC_ndec_false; exact rfl; omega))
    exact g1 rfl rfl rfl rfl
set_option maxRecDepth 100000 in
theorem lawReachedFrom_gives (n : Int) (X O : List Nat) (k : Int) (bX : isB X) (bO : isB O) (w : World) : Gives Try.prog 5 #[.agg (gv n X O).toArray, .int .i64 k] (.bool true) w := by
  have ug := gv_len (n := n) bX.1 bO.1
  have e : [] = ([] : List GridB).flatMap encG := rfl
  have hm : [] = mkL (mkG 1) (0 * 17) := rfl
  have l0 : ([] : List Value).length = 0 * 17 := rfl
  by_cases g : okG n X O
  · by_cases hk : 0 ≤ k ∧ k ≤ 6
    · obtain ⟨m, rfl⟩ : ∃ m : Nat, k = (m : Int) := ⟨k.toNat, by omega⟩
      exact lawRF_good n X O m bX bO g (by omega) w
    · refine gives_of (args := [.agg (gv n X O).toArray, .int .i64 k]) [(0, .agg (gv n X O).toArray), (1, .int .i64 k)] [] Try.func5 rfl Try.ntmps5 rfl (argsF_cons rfl (argsF_cons rfl argsF_nil)) (Holds.start w) ?_
      repeat' (first | (apply Jq_move; exact rfl; exact rfl) | (apply Jq_assign; exact rfl; exact rfl) | (apply Jq_cmp; exact rfl; exact rfl; exact rfl; exact rfl) | (apply Jq_not; exact rfl; exact rfl) | (apply Jq_pick_false; exact rfl; exact rfl; exact rfl) | (apply J_on; exact rfl; exact rfl) | (apply Jc; exact rfl; exact rfl; exact rfl; infer_instance; ((intro w hw); exact toGrid_gives n X O bX.1 bO.1 w)) | (apply Jq_loadW; exact rfl; exact rfl; (exact mb); (omega)) | (apply JcRI; exact rfl; exact rfl; exact rfl; infer_instance; ((intro w hw); first | exact sRF_range n X O k bX bO g hk w | exact iRF_range n X O k bX bO g hk w); (intro _)) | (apply JqM; exact rfl; exact rfl; exact rfl; infer_instance; (first | (apply eqGridS_gives []; (focus (repeat (exact m0))); (focus (repeat (first | exact m0 | refine mS ?_))); decide) | (apply heldGridS_gives 1 0; (focus (repeat (first | exact m0 | refine mS ?_))); decide; decide))) | (apply JcM; exact rfl; exact rfl; exact rfl; infer_instance; (exact markGridS_gives 1 0 (by decide) l0 (by decide))) | (apply Jq_ext20; exact rfl; exact rfl) | (apply Jq_ext21; exact rfl; exact rfl) | (apply J_box; exact rfl; exact rfl; exact rfl; (intro _)) | refine thenQ_normal ?_ | refine JC_seq ?_ | refine JC_region ?_ | refine J_nil ?_ | refine JC_skip ?_ | refine JC_ret ?_ | (apply JC_if_false; exact rfl))
      exact g1 rfl rfl rfl rfl
  · refine gives_of (args := [.agg (gv n X O).toArray, .int .i64 k]) [(0, .agg (gv n X O).toArray), (1, .int .i64 k)] [] Try.func5 rfl Try.ntmps5 rfl (argsF_cons rfl (argsF_cons rfl argsF_nil)) (Holds.start w) ?_
    repeat' (first | (apply Jq_move; exact rfl; exact rfl) | (apply Jq_assign; exact rfl; exact rfl) | (apply Jq_cmp; exact rfl; exact rfl; exact rfl; exact rfl) | (apply Jq_not; exact rfl; exact rfl) | (apply Jq_pick_false; exact rfl; exact rfl; exact rfl) | (apply J_on; exact rfl; exact rfl) | (apply Jc; exact rfl; exact rfl; exact rfl; infer_instance; ((intro w hw); exact toGrid_gives n X O bX.1 bO.1 w)) | (apply Jq_loadW; exact rfl; exact rfl; (exact mb); (omega)) | (apply JcRI; exact rfl; exact rfl; exact rfl; infer_instance; ((intro w hw); first | exact sRF_bad n X O k bX bO g w | exact iRF_bad n X O k bX bO g w); (intro _)) | (apply JqM; exact rfl; exact rfl; exact rfl; infer_instance; (first | (apply eqGridS_gives []; (focus (repeat (exact m0))); (focus (repeat (first | exact m0 | refine mS ?_))); decide) | (apply heldGridS_gives 1 0; (focus (repeat (first | exact m0 | refine mS ?_))); decide; decide))) | (apply JcM; exact rfl; exact rfl; exact rfl; infer_instance; (exact markGridS_gives 1 0 (by decide) l0 (by decide))) | (apply Jq_ext20; exact rfl; exact rfl) | (apply Jq_ext21; exact rfl; exact rfl) | (apply J_box; exact rfl; exact rfl; exact rfl; (intro _)) | refine thenQ_normal ?_ | refine JC_seq ?_ | refine JC_region ?_ | refine J_nil ?_ | refine JC_skip ?_ | refine JC_ret ?_ | (apply JC_if_false; exact rfl))
    exact g1 rfl rfl rfl rfl
end Go.Proofs.Ytflleelfkknfaaa
