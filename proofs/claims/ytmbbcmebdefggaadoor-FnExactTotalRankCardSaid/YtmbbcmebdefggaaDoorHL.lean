/- Walks: grades of states. -/
import Derived.Test.YtmbbcmebdefggaaDoorUC
import Derived.Test.YtmbbcmebdefggaaDoorXA
import Derived.Test.YtmbbcmebdefggaaDoorHA
namespace Go.Proofs.YtmbbcmebdefggaaDoor
open Go Go.RowKit SL
/-- A state's grade. -/
def grd (n : Nat) (X O : List Nat) (x : StB) : GrB := (mX n x.1 O - mX n x.1 X - n + 1, mX n x.1 O)
theorem mX_bd {n : Nat} (h8 : n ≤ 8) (x o : List Nat) : -127 ≤ mX n x o ∧ mX n x o ≤ 129 := by
  rw [mX_pb]
  have h1 := pb_bd h8 x 0 x 0
  have h2 := pb_bd h8 x 0 o 1
  have h3 := pb_bd h8 o 1 x 0
  have h4 := pb_bd h8 o 1 o 1
  omega
set_option maxRecDepth 100000 in
theorem alex_gives (n : Nat) (X O : List Nat) (x : StB) (bX : isB X) (bO : isB O) (h8 : n ≤ 8) (w : World) :
    Gives Tryd.prog 18 #[.agg (gv (n : Int) X O).toArray, .agg (encS x).toArray] (.int .i64 (grd n X O x).1) w := by
  have ug := gv_len (n := (n : Int)) bX.1 bO.1
  have ux := encS_len x
  have uX : (u8s X).length = 8 := (u8s_len X).trans bX.1
  have uO : (u8s O).length = 8 := (u8s_len O).trans bO.1
  have b1 := mX_bd h8 x.1 O
  have b2 := mX_bd h8 x.1 X
  refine gives_of (args := [.agg (gv (n : Int) X O).toArray, .agg (encS x).toArray]) [(0, .agg (gv (n : Int) X O).toArray), (1, .agg (encS x).toArray)] [] Tryd.func18 rfl Tryd.ntmps18 rfl (argsF_cons rfl (argsF_cons rfl argsF_nil)) (Holds.start w) ?_
  repeat' (first | (apply Jq_assign; exact rfl; exact rfl) | (apply Jq_load; exact rfl; exact rfl; (exact mb); (exact rfl)) | (apply Jq_fieldAddr; exact rfl; exact rfl) | (apply Jq_add; exact rfl; exact rfl; exact rfl; omega) | (apply Jq_sub; exact rfl; exact rfl; exact rfl; omega) | (apply Jc; exact rfl; exact rfl; exact rfl; infer_instance; ((intro w hw); first | exact l05Maslov_gives n X O x.1 O bX bO x.2 bO h8 w | exact l05Maslov_gives n X O x.1 X bX bO x.2 bX h8 w)) | (apply Jq_loadW; exact rfl; exact rfl; (exact mb); (omega)) | (apply Jq_loadA; exact rfl; exact rfl; (exact mb); (first | exact gv_arrX bX.1 | exact gv_arrO bX.1 bO.1); (omega)) | (apply J_box; exact rfl; exact rfl; exact rfl; (intro _)) | refine thenQ_normal ?_ | refine JC_seq ?_ | refine JC_region ?_ | (apply JC_draw mixed; kernel_rfl) | refine J_nil ?_ | refine JC_ret ?_)
  exact g1 rfl rfl rfl rfl
set_option maxRecDepth 100000 in
theorem grade_gives (n : Nat) (X O : List Nat) (x : StB) (bX : isB X) (bO : isB O) (h8 : n ≤ 8) (w : World) :
    Gives Tryd.prog 60 #[.agg (gv (n : Int) X O).toArray, .agg (encS x).toArray] (.agg (encGr (grd n X O x)).toArray) w := by
  have ug := gv_len (n := (n : Int)) bX.1 bO.1
  have ux := encS_len x
  have uX : (u8s X).length = 8 := (u8s_len X).trans bX.1
  have uO : (u8s O).length = 8 := (u8s_len O).trans bO.1
  have b1 := mX_bd h8 x.1 O
  have b2 := mX_bd h8 x.1 X
  have hb : Tryd.prog.built 74 [(0, .int .i64 (mX n x.1 O - mX n x.1 X - n + 1)), (1, .int .i64 (mX n x.1 O))] = some (encGr (grd n X O x)).toArray := by kernel_rfl
  refine gives_of (args := [.agg (gv (n : Int) X O).toArray, .agg (encS x).toArray]) [(0, .agg (gv (n : Int) X O).toArray), (1, .agg (encS x).toArray)] [] Tryd.func60 rfl Tryd.ntmps60 rfl (argsF_cons rfl (argsF_cons rfl argsF_nil)) (Holds.start w) ?_
  repeat' (first | (apply Jq_assign; exact rfl; exact rfl) | (apply Jq_fieldAddr; exact rfl; exact rfl) | (apply Jc; exact rfl; exact rfl; exact rfl; infer_instance; ((intro w hw); exact maslov_gives n X O x.1 O bX bO x.2 bO h8 w)) | (apply Jq_loadW; exact rfl; exact rfl; (exact mb); (omega)) | (apply Jq_loadA; exact rfl; exact rfl; (exact mb); (exact gv_arrO bX.1 bO.1); (omega)) | (apply J_box; exact rfl; exact rfl; exact rfl; (intro _)) | (apply J_alloc (cs := encGr (0, 0)); exact rfl; exact rfl; (intro _)) | refine thenQ_normal ?_ | refine JC_seq ?_ | refine JC_region ?_ | refine J_nil ?_)
  rename_i b2 b3 b4
  refine JC_any (m := 14) rfl [.blk b3 (encS x) 43, .blk b2 (gv (n : Int) X O) 29] mixed (by ((repeat (apply sub_cons; (focus ((with_reducible (repeat (first | exact m0 | refine mS ?_))); done)))); exact sub_nil)) ?_
  (apply JF_q 0; exact rfl; kernel_rfl; exact rfl; (intro E hE; (apply q_move; exact rfl)))
  (apply JF_q 1; exact rfl; kernel_rfl; exact rfl; (intro E hE; (apply q_loadW; exact rfl; (refine hE _ ?_; exact mb); (omega))))
  (apply JF_q 2; exact rfl; kernel_rfl; exact rfl; (intro E hE; (apply q_loadW; exact rfl; (refine hE _ ?_; exact mb); (omega))))
  (apply JF_q 3; exact rfl; kernel_rfl; exact rfl; (intro E hE; (apply q_fieldAddr; exact rfl)))
  (apply JF_q 4; exact rfl; kernel_rfl; exact rfl; (intro E hE; (apply q_loadA; exact rfl; (refine hE _ ?_; exact mb); (exact gv_arrX bX.1); (omega))))
  (apply JF_q 5; exact rfl; kernel_rfl; exact rfl; (intro E hE; (apply q_callE; exact rfl; exact rfl; infer_instance; ((intro w hw); exact maslov_gives n X O x.1 X bX bO x.2 bX h8 w))))
  (apply JF_q 6; exact rfl; kernel_rfl; exact rfl; (intro E hE; (apply q_sub; exact rfl; exact rfl; omega)))
  (apply JF_q 7; exact rfl; kernel_rfl; exact rfl; (intro E hE; (apply q_fieldAddr; exact rfl)))
  (apply JF_q 8; exact rfl; kernel_rfl; exact rfl; (intro E hE; (apply q_load; exact rfl; (refine hE _ ?_; exact mb); (exact rfl))))
  (apply JF_q 9; exact rfl; kernel_rfl; exact rfl; (intro E hE; (apply q_sub; exact rfl; exact rfl; omega)))
  (apply JF_q 10; exact rfl; kernel_rfl; exact rfl; (intro E hE; (apply q_add; exact rfl; exact rfl; omega)))
  (apply JF_q 11; exact rfl; kernel_rfl; exact rfl; (intro E hE; (apply q_move; exact rfl)))
  (apply JF_q 12; exact rfl; kernel_rfl; exact rfl; (intro E hE; (apply q_buildE; exact rfl; exact hb)))
  (apply JF_all [13]; kernel_rfl)
  (apply JFs_cons; exact rfl)
  · (apply J_sW; exact rfl; exact rfl; infer_instance; (exact rfl); (exact rfl); (exact ones_of rfl); infer_instance)
    (apply J_nil; apply JF_end; ((repeat (apply sub_cons; (focus ((with_reducible (repeat (first | exact m0 | refine mS ?_))); done)))); exact sub_nil))
    (apply JF_done; kernel_rfl)
    ((repeat' (first | refine thenQ_normal ?_ | refine JC_ret ?_)); exact gC rfl rfl rfl m0 rfl rfl)
  exact JFs_nil
end Go.Proofs.YtmbbcmebdefggaaDoor
