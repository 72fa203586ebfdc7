/- Walks: grades of states. -/
import Derived.Test.YtmbbcmebdefggaaDoorUC
import Derived.Test.YtmbbcmebdefggaaDoorXA
import Derived.Test.YtmbbcmebdefggaaDoorHA
namespace Go.Proofs.YtmbbcmebdefggaaDoor
open Go Go.RowKit SL
/-- A state's grade. -/
def grd (n : Nat) (X O : List Nat) (x : StB) : GrB := (mX n x.1 O - mX n x.1 X - n + 1, mX n x.1 O)
theorem mX_bd {n : Nat} (h8 : n ≤ 8) (x o : List Nat) : -127 ≤ mX n x o ∧ mX n x o ≤ 129 := by
  rw [mX_pb]
  have h1 := pb_bd h8 x 0 x 0
  have h2 := pb_bd h8 x 0 o 1
  have h3 := pb_bd h8 o 1 x 0
  have h4 := pb_bd h8 o 1 o 1
  omega
set_option maxRecDepth 100000 in
theorem alex_gives (n : Nat) (X O : List Nat) (x : StB) (bX : isB X) (bO : isB O) (h8 : n ≤ 8) (w : World) :
    Gives Tryd.prog 18 #[.agg (gv (n : Int) X O).toArray, .agg (encS x).toArray] (.int .i64 (grd n X O x).1) w := by
  have ug := gv_len (n := (n : Int)) bX.1 bO.1
  have ux := encS_len x
  have uX : (u8s X).length = 8 := (u8s_len X).trans bX.1
  have uO : (u8s O).length = 8 := (u8s_len O).trans bO.1
  have b1 := mX_bd h8 x.1 O
  have b2 := mX_bd h8 x.1 X
  refine gives_of (args := [.agg (gv (n : Int) X O).toArray, .agg (encS x).toArray]) [(0, .agg (gv (n : Int) X O).toArray), (1, .agg (encS x).toArray)] [] Tryd.func18 rfl Tryd.ntmps18 rfl (argsF_cons rfl (argsF_cons rfl argsF_nil)) (Holds.start w) ?_
  repeat' (first | (apply Jq_assign; exact rfl; exact rfl) | (apply Jq_load; exact rfl; exact rfl; (exact mb); (exact rfl)) | (apply Jq_fieldAddr; exact rfl; exact rfl) | (apply Jq_add; exact rfl; exact rfl; exact rfl; omega) | (apply Jq_sub; exact rfl; exact rfl; exact rfl; omega) | (apply Jc; exact rfl; exact rfl; exact rfl; infer_instance; ((intro w hw); first | exact l05Maslov_gives n X O x.1 O bX bO x.2 bO h8 w | exact l05Maslov_gives n X O x.1 X bX bO x.2 bX h8 w)) | (apply Jq_loadW; exact rfl; exact rfl; (exact mb); (omega)) | (apply Jq_loadA; exact rfl; exact rfl; (exact mb); (first | exact gv_arrX bX.1 | exact gv_arrO bX.1 bO.1); (omega)) | (apply J_box; exact rfl; exact rfl; exact rfl; (intro _)) | refine thenQ_normal ?_ | refine JC_seq ?_ | refine JC_region ?_ | (apply JC_draw mixed; kernel_rfl) | refine J_nil ?_ | refine JC_ret ?_)
  exact g1 rfl rfl rfl rfl
end Go.Proofs.YtmbbcmebdefggaaDoor
