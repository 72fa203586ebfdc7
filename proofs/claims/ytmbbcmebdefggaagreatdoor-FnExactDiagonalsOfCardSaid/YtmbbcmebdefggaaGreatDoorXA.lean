/- Walks: Maslov gradings, in both texts. -/
import Derived.Test.YtmbbcmebdefggaaGreatDoorPG
import Derived.Test.YtmbbcmebdefggaaGreatDoorWC
import Derived.Test.YtmbbcmebdefggaaGreatDoorGE
namespace Go.Proofs.YtmbbcmebdefggaaGreatDoor
open Go Go.RowKit SL
namespace SL
section
variable {P : Program} {B : Nat} {w0 : World} {n : Nat} {Q : Po} {F : Fr} {H : Hp} {ops : Array Oper} {l : List Oper} {ty : TypeId} {pos : String} {af : Array Edge} {d : Nat}
theorem Jq_func1 {dr : Bool} {fn : Fn} {x : Operand} {v : Value} (hdn : Nat.blt d n = true) (hx : ev F x = some v) (kk : J dr P B w0 n ops Q l ((d, .func fn #[] #[v]) :: F) H) :
    J dr P B w0 n ops Q (⟨some d, .makeFunc fn #[] #[x], ty, pos, af, none⟩ :: l) F H :=
  J_q hdn (q_makeFunc (fun a ha => by simp) (fun a ha => by simp [ha.ev hx])) kk
end
end SL
def pb (n : Nat) (p : List Nat) (a : Nat) (q : List Nat) (b : Nat) : Int := sm (fun i => sm (fun k => ind (2 * i + a < 2 * k + b ∧ 2 * p.getD i 0 + a < 2 * q.getD k 0 + b)) n) n
theorem pb_LT0 (n : Nat) (p q : List Nat) : pb n p 0 q 0 = jLT n (fun i => p.getD i 0) (fun i => q.getD i 0) := sm_congr fun i _ => sm_congr fun k _ => ind_iff (by dsimp only; omega)
theorem pb_LT1 (n : Nat) (p q : List Nat) : pb n p 1 q 1 = jLT n (fun i => p.getD i 0) (fun i => q.getD i 0) := sm_congr fun i _ => sm_congr fun k _ => ind_iff (by dsimp only; omega)
theorem pb_LT2 (n : Nat) (p q : List Nat) : pb n p 1 q 0 = jLT n (fun i => p.getD i 0) (fun i => q.getD i 0) := sm_congr fun i _ => sm_congr fun k _ => ind_iff (by dsimp only; omega)
theorem pb_LE (n : Nat) (p q : List Nat) : pb n p 0 q 1 = jLE n (fun i => p.getD i 0) (fun i => q.getD i 0) := sm_congr fun i _ => sm_congr fun k _ => ind_iff (by dsimp only; omega)
theorem mX_pb (n : Nat) (x o : List Nat) : mX n x o = pb n x 0 x 0 - pb n x 0 o 1 - pb n o 1 x 0 + pb n o 1 o 1 + 1 := by
  rw [pb_LT0, pb_LE, pb_LT2, pb_LT1]; rfl
theorem ind_bd (p : Prop) [Decidable p] : 0 ≤ ind p ∧ ind p ≤ 1 := by unfold ind; split <;> omega
theorem rowS_bd (n : Nat) (p : List Nat) (a : Nat) (q : List Nat) (b i k : Nat) : 0 ≤ sm (fun k => ind (2 * i + a < 2 * k + b ∧ 2 * p.getD i 0 + a < 2 * q.getD k 0 + b)) k ∧ sm (fun k => ind (2 * i + a < 2 * k + b ∧ 2 * p.getD i 0 + a < 2 * q.getD k 0 + b)) k ≤ k := sm_bd (fun _ => ind_bd _) k
theorem pbU_bd (n : Nat) (p : List Nat) (a : Nat) (q : List Nat) (b : Nat) : ∀ i : Nat, 0 ≤ sm (fun i => sm (fun k => ind (2 * i + a < 2 * k + b ∧ 2 * p.getD i 0 + a < 2 * q.getD k 0 + b)) n) i ∧ sm (fun i => sm (fun k => ind (2 * i + a < 2 * k + b ∧ 2 * p.getD i 0 + a < 2 * q.getD k 0 + b)) n) i ≤ ((i * n : Nat) : Int)
  | 0 => by simp [sm]
  | i + 1 => by
    have h := pbU_bd n p a q b i
    have k := rowS_bd n p a q b i n
    rw [sm, Nat.add_mul, Nat.one_mul]
    generalize i * n = c at *
    omega
theorem pb_bd {n : Nat} (h8 : n ≤ 8) (p : List Nat) (a : Nat) (q : List Nat) (b : Nat) : 0 ≤ pb n p a q b ∧ pb n p a q b ≤ 64 := by
  have h64 := nn_le h8
  have := pbU_bd n p a q b n
  unfold pb
  omega
def bb (b : Bool) : Nat := if b then 1 else 0
set_option maxRecDepth 100000 in
theorem double_gives (k : Nat) (b : Bool) (hk : k ≤ 100000) (w : World) : Gives Tryz.prog 216 #[.int .i64 (k : Int), .bool b] (.int .i64 ((2 * k + bb b : Nat) : Int)) w := by
  refine gives_of (args := [.int .i64 (k : Int), .bool b]) [(0, .int .i64 (k : Int)), (1, .bool b)] [] Tryz.func216 rfl Tryz.ntmps216 rfl (argsF_cons rfl (argsF_cons rfl argsF_nil)) (Holds.start w) ?_
  cases b
  · repeat' (first | (apply Jq_move; exact rfl; exact rfl) | (apply Jq_assign; exact rfl; exact rfl) | (apply Jq_mul; exact rfl; exact rfl; exact rfl; omega) | refine thenQ_normal ?_ | refine JC_seq ?_ | refine JC_region ?_ | refine J_nil ?_ | refine JC_skip ?_ | refine JC_ret ?_ | (apply JC_if_false; exact rfl))
    exact g1 rfl rfl rfl (by simp [bb])
  · repeat' (first | (apply Jq_move; exact rfl; exact rfl) | (apply Jq_assign; exact rfl; exact rfl) | (apply Jq_add; exact rfl; exact rfl; exact rfl; omega) | (apply Jq_mul; exact rfl; exact rfl; exact rfl; omega) | refine thenQ_normal ?_ | refine thenQ_ret ?_ | refine JC_seq ?_ | refine JC_region ?_ | refine J_nil ?_ | refine JC_ret ?_ | (apply JC_if_true; exact rfl))
    exact g1 rfl rfl rfl (by simp [bb])
set_option maxRecDepth 100000 in
theorem pairs_gives (n : Nat) (h8 : n ≤ 8) (p q : List Nat) (bp : isB p) (bq : isB q) (s o : Bool) (w : World) :
    Gives Tryz.prog 206 #[.int .i64 (n : Int), .agg (u8s p).toArray, .bool s, .agg (u8s q).toArray, .bool o] (.int .i64 (pb n p (bb s) q (bb o))) w := by
  have up := u8s_len p
  have uq := u8s_len q
  have lp := bp.1
  have lq := bq.1
  have h64 := nn_le h8
  refine gives_of (args := [.int .i64 (n : Int), .agg (u8s p).toArray, .bool s, .agg (u8s q).toArray, .bool o]) [(0, .int .i64 (n : Int)), (1, .agg (u8s p).toArray), (2, .bool s), (3, .agg (u8s q).toArray), (4, .bool o)] [] Tryz.func206 rfl Tryz.ntmps206 rfl (argsF_cons rfl (argsF_cons rfl (argsF_cons rfl (argsF_cons rfl (argsF_cons rfl argsF_nil))))) (Holds.start w) ?_
  repeat' (first | (apply Jq_move; exact rfl; exact rfl) | (apply Jq_assign; exact rfl; exact rfl) | (apply J_box; exact rfl; exact rfl; exact rfl; (intro _)) | refine thenQ_normal ?_ | refine JC_seq ?_ | refine JC_region ?_ | refine J_nil ?_ | refine JC_block ?_)
  rename_i b6 b8
  refine JC_loop (X := Nat) (fun i => i ≤ n) (fun i => [(16, .int .i64 (i : Int)), (15, .int .i64 (n : Int)), (0, .int .i64 (n : Int)), (2, .bool s), (4, .bool o), (6, .pointer (some ⟨b6, 0, none⟩)), (8, .pointer (some ⟨b8, 0, none⟩)), (11, .func (.func 216) #[] #[]), (12, .int .i64 (sm (fun i => sm (fun k => ind (2 * i + bb s < 2 * k + bb o ∧ 2 * p.getD i 0 + bb s < 2 * q.getD k 0 + bb o)) n) i))])
    (fun _ => [.blk b8 (u8s q) 22, .blk b6 (u8s p) 22]) (fun i => n - i) 0 (Nat.zero_le _) ?_ ?_
  · (refine ent ?_ ?_; (repeat refine fr_cons rfl ?_); exact fr_nil; (repeat (exact List.Sublist.refl _)))
  · intro i hi
    have hb := pbU_bd n p (bb s) q (bb o) i
    by_cases hlt : i < n
    · have hin : i * n ≤ 8 * 8 := Nat.mul_le_mul (by omega) h8
      have hst : sm (fun i => sm (fun k => ind (2 * i + bb s < 2 * k + bb o ∧ 2 * p.getD i 0 + bb s < 2 * q.getD k 0 + bb o)) n) (i + 1) = sm (fun i => sm (fun k => ind (2 * i + bb s < 2 * k + bb o ∧ 2 * p.getD i 0 + bb s < 2 * q.getD k 0 + bb o)) n) i + sm (fun k => ind (2 * i + bb s < 2 * k + bb o ∧ 2 * p.getD i 0 + bb s < 2 * q.getD k 0 + bb o)) n := rfl
      generalize sm (fun i => sm (fun k => ind (2 * i + bb s < 2 * k + bb o ∧ 2 * p.getD i 0 + bb s < 2 * q.getD k 0 + bb o)) n) i = A at *
      repeat' (first | (apply Jq_move; exact rfl; exact rfl) | (apply Jq_assign; exact rfl; exact rfl) | (apply Jq_cmp; exact rfl; exact rfl; exact rfl; exact rfl) | refine thenQ_normal ?_ | refine JC_seq ?_ | refine JC_region ?_ | refine J_nil ?_ | refine JC_block ?_ | refine JC_skip ?_ | (apply JC_dec_true; exact rfl; omega))
      refine JC_loop (X := Nat) (fun k => k ≤ n) (fun k => [(20, .int .i64 (k : Int)), (19, .int .i64 (n : Int)), (13, .int .i64 (i : Int)), (16, .int .i64 (i : Int)), (15, .int .i64 (n : Int)), (0, .int .i64 (n : Int)), (2, .bool s), (4, .bool o), (6, .pointer (some ⟨b6, 0, none⟩)), (8, .pointer (some ⟨b8, 0, none⟩)), (11, .func (.func 216) #[] #[]), (12, .int .i64 (A + sm (fun k => ind (2 * i + bb s < 2 * k + bb o ∧ 2 * p.getD i 0 + bb s < 2 * q.getD k 0 + bb o)) k))])
        (fun _ => [.blk b8 (u8s q) 22, .blk b6 (u8s p) 22]) (fun k => n - k) 0 (Nat.zero_le _) ?_ ?_
      · rw [show A + sm (fun k => ind (2 * i + bb s < 2 * k + bb o ∧ 2 * p.getD i 0 + bb s < 2 * q.getD k 0 + bb o)) 0 = A from Int.add_zero A]
        (refine ent ?_ ?_; (repeat refine fr_cons rfl ?_); exact fr_nil; (repeat (exact List.Sublist.refl _)))
      · intro k hk
        have hb2 := rowS_bd n p (bb s) q (bb o) i k
        by_cases hlk : k < n
        · have hs2 : sm (fun k => ind (2 * i + bb s < 2 * k + bb o ∧ 2 * p.getD i 0 + bb s < 2 * q.getD k 0 + bb o)) (k + 1) = sm (fun k => ind (2 * i + bb s < 2 * k + bb o ∧ 2 * p.getD i 0 + bb s < 2 * q.getD k 0 + bb o)) k + ind (2 * i + bb s < 2 * k + bb o ∧ 2 * p.getD i 0 + bb s < 2 * q.getD k 0 + bb o) := rfl
          generalize sm (fun k => ind (2 * i + bb s < 2 * k + bb o ∧ 2 * p.getD i 0 + bb s < 2 * q.getD k 0 + bb o)) k = C at *
          have bpi := bp.2 i
          have bqk := bq.2 k
          have d1 := double_gives i s (by omega)
          have d2 := double_gives k o (by omega)
          have d3 := double_gives (p.getD i 0) s (by omega)
          have d4 := double_gives (q.getD k 0) o (by omega)
          repeat' (first | (apply Jq_move; exact rfl; exact rfl) | (apply Jq_assign; exact rfl; exact rfl) | (apply Jq_load; exact rfl; exact rfl; (exact mb); (refine u8s_at ?_; omega)) | (apply Jq_indexN; exact rfl; exact rfl; exact rfl; omega) | (apply Jq_cmp; exact rfl; exact rfl; exact rfl; exact rfl) | (apply Jq_add; exact rfl; exact rfl; exact rfl; omega) | (apply Jq_pick_true; exact rfl; exact rfl; exact rfl) | (apply Jq_pick_false; exact rfl; exact rfl; exact rfl) | (apply J_on; exact rfl; exact rfl) | (apply J_skip; exact rfl; exact rfl; exact rfl; exact rfl) | (apply Jc; exact rfl; exact rfl; exact rfl; infer_instance; ((intro w hw); first | exact d1 w | exact d2 w | exact d3 w | exact d4 w)) | refine thenQ_normal ?_ | refine inBlockQ_normal ?_ | refine JC_seq ?_ | refine JC_region ?_ | (apply JC_draw mixed; kernel_rfl) | refine J_nil ?_ | refine JC_block ?_ | refine JC_skip ?_ | (apply JC_if_false; exact rfl) | (apply JC_dec_true; exact rfl; omega) | (apply Jq_conv; exact rfl; exact rfl; exact wrap64_nat bpi) | (apply Jq_conv; exact rfl; exact rfl; exact wrap64_nat bqk) | refine JC_dec rfl (fun _ => ?_) (fun _ => ?_) | refine J_gd rfl rfl (fun _ => ?_) (fun _ => ?_))
          · rename_i h1 h2
            rw [ind_yes ⟨by omega, by omega⟩] at hs2
            refine ⟨k + 1, by omega, by omega, ?_⟩
            rw [hs2, ← Int.add_assoc]
            (refine ent ?_ ?_; (repeat refine fr_cons rfl ?_); exact fr_nil; (repeat (exact List.Sublist.refl _)))
          · rename_i h1 h2
            rw [ind_no (fun h => h2 (by omega)), Int.add_zero] at hs2
            refine ⟨k + 1, by omega, by omega, ?_⟩
            rw [hs2]
            (refine ent ?_ ?_; (repeat refine fr_cons rfl ?_); exact fr_nil; (repeat (exact List.Sublist.refl _)))
          · rename_i h1
            rw [ind_no (fun h => h1 (by omega)), Int.add_zero] at hs2
            refine ⟨k + 1, by omega, by omega, ?_⟩
            rw [hs2]
            (refine ent ?_ ?_; (repeat refine fr_cons rfl ?_); exact fr_nil; (repeat (exact List.Sublist.refl _)))
        · obtain rfl : k = n := by omega
          repeat' (first | (apply Jq_move; exact rfl; exact rfl) | (apply Jq_cmp; exact rfl; exact rfl; exact rfl; exact rfl) | (apply Jq_add; exact rfl; exact rfl; exact rfl; omega) | refine thenQ_normal ?_ | refine thenQ_exit ?_ | refine inBlockQ_normal ?_ | refine inBlockQ_here ?_ | refine JC_seq ?_ | refine JC_region ?_ | refine J_nil ?_ | refine JC_exit ?_ | (apply JC_dec_false; exact rfl; omega))
          refine ⟨i + 1, by omega, by omega, ?_⟩
          rw [hst]
          (refine ent ?_ ?_; (repeat refine fr_cons rfl ?_); exact fr_nil; (repeat (exact List.Sublist.refl _)))
    · obtain rfl : i = n := by omega
      repeat' (first | (apply Jq_move; exact rfl; exact rfl) | (apply Jq_assign; exact rfl; exact rfl) | (apply Jq_cmp; exact rfl; exact rfl; exact rfl; exact rfl) | refine thenQ_normal ?_ | refine thenQ_exit ?_ | refine inBlockQ_here ?_ | refine JC_seq ?_ | refine JC_region ?_ | refine J_nil ?_ | refine JC_ret ?_ | refine JC_exit ?_ | (apply JC_dec_false; exact rfl; omega))
      exact g1 rfl rfl rfl rfl
set_option maxRecDepth 100000 in
theorem maslov_gives (n : Nat) (X O x o : List Nat) (bX : isB X) (bO : isB O) (bx : isB x) (bo : isB o) (h8 : n ≤ 8) (w : World) :
    Gives Tryz.prog 175 #[.agg (gv n X O).toArray, .agg (u8s x).toArray, .agg (u8s o).toArray] (.int .i64 (mX n x o)) w := by
  have ug := gv_len (n := n) bX.1 bO.1
  have ux := u8s_len x
  have uo := u8s_len o
  have lx := bx.1
  have lo := bo.1
  rw [mX_pb]
  have p1 := pb_bd h8 x 0 x 0
  have p2 := pb_bd h8 x 0 o 1
  have p3 := pb_bd h8 o 1 x 0
  have p4 := pb_bd h8 o 1 o 1
  have c1 := pairs_gives n h8 x x bx bx false false
  have c2 := pairs_gives n h8 x o bx bo false true
  have c3 := pairs_gives n h8 o x bo bx true false
  have c4 := pairs_gives n h8 o o bo bo true true
  rw [show bb false = 0 from rfl] at c1
  rw [show bb false = 0 from rfl, show bb true = 1 from rfl] at c2 c3
  rw [show bb true = 1 from rfl] at c4
  generalize pb n x 0 x 0 = q1 at *
  generalize pb n x 0 o 1 = q2 at *
  generalize pb n o 1 x 0 = q3 at *
  generalize pb n o 1 o 1 = q4 at *
  refine gives_of (args := [.agg (gv n X O).toArray, .agg (u8s x).toArray, .agg (u8s o).toArray]) [(0, .agg (gv n X O).toArray), (1, .agg (u8s x).toArray), (2, .agg (u8s o).toArray)] [] Tryz.func175 rfl Tryz.ntmps175 rfl (argsF_cons rfl (argsF_cons rfl (argsF_cons rfl argsF_nil))) (Holds.start w) ?_
  repeat' (first | (apply Jq_move; exact rfl; exact rfl) | (apply Jq_assign; exact rfl; exact rfl) | (apply Jq_add; exact rfl; exact rfl; exact rfl; omega) | (apply Jq_sub; exact rfl; exact rfl; exact rfl; omega) | (apply Jc; exact rfl; exact rfl; exact rfl; infer_instance; ((intro w hw); first | exact n_gives n X O w | exact c1 w | exact c2 w | exact c3 w | exact c4 w)) | (apply Jq_loadW; exact rfl; exact rfl; (exact mb); (omega)) | (apply J_box; exact rfl; exact rfl; exact rfl; (intro _)) | refine thenQ_normal ?_ | refine JC_seq ?_ | refine JC_region ?_ | (apply JC_draw mixed; kernel_rfl) | refine J_nil ?_ | refine JC_ret ?_)
  exact g1 rfl rfl rfl rfl
set_option maxRecDepth 100000 in
theorem l05Below_gives (n : Nat) (h8 : n ≤ 8) (p q : List Nat) (bp : isB p) (bq : isB q) (s o : Nat) (hs : s ≤ 1) (ho : o ≤ 1) (w : World) :
    Gives Tryz.prog 140 #[.int .i64 (n : Int), .agg (u8s p).toArray, .agg (u8s q).toArray, .int .i64 (s : Int), .int .i64 (o : Int)] (.int .i64 (pb n p s q o)) w := by
  have up := u8s_len p
  have uq := u8s_len q
  have lp := bp.1
  have lq := bq.1
  have h64 := nn_le h8
  refine gives_of (args := [.int .i64 (n : Int), .agg (u8s p).toArray, .agg (u8s q).toArray, .int .i64 (s : Int), .int .i64 (o : Int)]) [(0, .int .i64 (n : Int)), (1, .agg (u8s p).toArray), (2, .agg (u8s q).toArray), (3, .int .i64 (s : Int)), (4, .int .i64 (o : Int))] [] Tryz.func140 rfl Tryz.ntmps140 rfl (argsF_cons rfl (argsF_cons rfl (argsF_cons rfl (argsF_cons rfl (argsF_cons rfl argsF_nil))))) (Holds.start w) ?_
  repeat' (first | (apply Jq_assign; exact rfl; exact rfl) | (apply J_box; exact rfl; exact rfl; exact rfl; (intro _)) | refine thenQ_normal ?_ | refine JC_seq ?_ | refine JC_region ?_ | refine J_nil ?_ | refine JC_block ?_)
  rename_i b6 b7
  refine JC_loop (X := Nat) (fun i => i ≤ n) (fun i => [(12, .int .i64 (i : Int)), (0, .int .i64 (n : Int)), (3, .int .i64 (s : Int)), (4, .int .i64 (o : Int)), (6, .pointer (some ⟨b6, 0, none⟩)), (7, .pointer (some ⟨b7, 0, none⟩)), (11, .int .i64 (sm (fun i => sm (fun k => ind (2 * i + s < 2 * k + o ∧ 2 * p.getD i 0 + s < 2 * q.getD k 0 + o)) n) i))])
    (fun _ => [.blk b7 (u8s q) 22, .blk b6 (u8s p) 22]) (fun i => n - i) 0 (Nat.zero_le _) ?_ ?_
  · (refine ent ?_ ?_; (repeat refine fr_cons rfl ?_); exact fr_nil; (repeat (exact List.Sublist.refl _)))
  · intro i hi
    have hb := pbU_bd n p s q o i
    by_cases hlt : i < n
    · have hin : i * n ≤ 8 * 8 := Nat.mul_le_mul (by omega) h8
      have hst : sm (fun i => sm (fun k => ind (2 * i + s < 2 * k + o ∧ 2 * p.getD i 0 + s < 2 * q.getD k 0 + o)) n) (i + 1) = sm (fun i => sm (fun k => ind (2 * i + s < 2 * k + o ∧ 2 * p.getD i 0 + s < 2 * q.getD k 0 + o)) n) i + sm (fun k => ind (2 * i + s < 2 * k + o ∧ 2 * p.getD i 0 + s < 2 * q.getD k 0 + o)) n := rfl
      generalize sm (fun i => sm (fun k => ind (2 * i + s < 2 * k + o ∧ 2 * p.getD i 0 + s < 2 * q.getD k 0 + o)) n) i = A at *
      repeat' (first | (apply Jq_move; exact rfl; exact rfl) | (apply Jq_assign; exact rfl; exact rfl) | (apply Jq_cmp; exact rfl; exact rfl; exact rfl; exact rfl) | refine thenQ_normal ?_ | refine JC_seq ?_ | refine JC_region ?_ | refine J_nil ?_ | refine JC_block ?_ | refine JC_skip ?_ | (apply JC_dec_true; exact rfl; omega))
      refine JC_loop (X := Nat) (fun k => k ≤ n) (fun k => [(13, .int .i64 (k : Int)), (12, .int .i64 (i : Int)), (0, .int .i64 (n : Int)), (3, .int .i64 (s : Int)), (4, .int .i64 (o : Int)), (6, .pointer (some ⟨b6, 0, none⟩)), (7, .pointer (some ⟨b7, 0, none⟩)), (11, .int .i64 (A + sm (fun k => ind (2 * i + s < 2 * k + o ∧ 2 * p.getD i 0 + s < 2 * q.getD k 0 + o)) k))])
        (fun _ => [.blk b7 (u8s q) 22, .blk b6 (u8s p) 22]) (fun k => n - k) 0 (Nat.zero_le _) ?_ ?_
      · rw [show A + sm (fun k => ind (2 * i + s < 2 * k + o ∧ 2 * p.getD i 0 + s < 2 * q.getD k 0 + o)) 0 = A from Int.add_zero A]
        (refine ent ?_ ?_; (repeat refine fr_cons rfl ?_); exact fr_nil; (repeat (exact List.Sublist.refl _)))
      · intro k hk
        have hb2 := rowS_bd n p s q o i k
        by_cases hlk : k < n
        · have hs2 : sm (fun k => ind (2 * i + s < 2 * k + o ∧ 2 * p.getD i 0 + s < 2 * q.getD k 0 + o)) (k + 1) = sm (fun k => ind (2 * i + s < 2 * k + o ∧ 2 * p.getD i 0 + s < 2 * q.getD k 0 + o)) k + ind (2 * i + s < 2 * k + o ∧ 2 * p.getD i 0 + s < 2 * q.getD k 0 + o) := rfl
          generalize sm (fun k => ind (2 * i + s < 2 * k + o ∧ 2 * p.getD i 0 + s < 2 * q.getD k 0 + o)) k = C at *
          have bpi := bp.2 i
          have bqk := bq.2 k
          repeat' (first | (apply Jq_move; exact rfl; exact rfl) | (apply Jq_assign; exact rfl; exact rfl) | (apply Jq_load; exact rfl; exact rfl; (exact mb); (refine u8s_at ?_; omega)) | (apply Jq_indexN; exact rfl; exact rfl; exact rfl; omega) | (apply Jq_cmp; exact rfl; exact rfl; exact rfl; exact rfl) | (apply Jq_add; exact rfl; exact rfl; exact rfl; omega) | (apply Jq_mul; exact rfl; exact rfl; exact rfl; omega) | (apply Jq_pick_true; exact rfl; exact rfl; exact rfl) | (apply Jq_pick_false; exact rfl; exact rfl; exact rfl) | (apply J_on; exact rfl; exact rfl) | (apply J_skip; exact rfl; exact rfl; exact rfl; exact rfl) | refine thenQ_normal ?_ | refine inBlockQ_normal ?_ | refine JC_seq ?_ | refine JC_region ?_ | (apply JC_draw mixed; kernel_rfl) | refine J_nil ?_ | refine JC_block ?_ | refine JC_skip ?_ | (apply JC_if_false; exact rfl) | (apply JC_dec_true; exact rfl; omega) | (apply Jq_conv; exact rfl; exact rfl; exact wrap64_nat bpi) | (apply Jq_conv; exact rfl; exact rfl; exact wrap64_nat bqk) | refine JC_dec rfl (fun _ => ?_) (fun _ => ?_) | refine J_gd rfl rfl (fun _ => ?_) (fun _ => ?_))
          · rename_i h1 h2
            rw [ind_yes ⟨by omega, by omega⟩] at hs2
            refine ⟨k + 1, by omega, by omega, ?_⟩
            rw [hs2, ← Int.add_assoc]
            (refine ent ?_ ?_; (repeat refine fr_cons rfl ?_); exact fr_nil; (repeat (exact List.Sublist.refl _)))
          · rename_i h1 h2
            rw [ind_no (fun h => h2 (by omega)), Int.add_zero] at hs2
            refine ⟨k + 1, by omega, by omega, ?_⟩
            rw [hs2]
            (refine ent ?_ ?_; (repeat refine fr_cons rfl ?_); exact fr_nil; (repeat (exact List.Sublist.refl _)))
          · rename_i h1
            rw [ind_no (fun h => h1 (by omega)), Int.add_zero] at hs2
            refine ⟨k + 1, by omega, by omega, ?_⟩
            rw [hs2]
            (refine ent ?_ ?_; (repeat refine fr_cons rfl ?_); exact fr_nil; (repeat (exact List.Sublist.refl _)))
        · obtain rfl : k = n := by omega
          repeat' (first | (apply Jq_move; exact rfl; exact rfl) | (apply Jq_assign; exact rfl; exact rfl) | (apply Jq_cmp; exact rfl; exact rfl; exact rfl; exact rfl) | (apply Jq_add; exact rfl; exact rfl; exact rfl; omega) | refine thenQ_normal ?_ | refine thenQ_exit ?_ | refine inBlockQ_normal ?_ | refine inBlockQ_here ?_ | refine JC_seq ?_ | refine JC_region ?_ | refine J_nil ?_ | refine JC_exit ?_ | (apply JC_dec_false; exact rfl; omega))
          refine ⟨i + 1, by omega, by omega, ?_⟩
          rw [hst]
          (refine ent ?_ ?_; (repeat refine fr_cons rfl ?_); exact fr_nil; (repeat (exact List.Sublist.refl _)))
    · obtain rfl : i = n := by omega
      repeat' (first | (apply Jq_move; exact rfl; exact rfl) | (apply Jq_assign; exact rfl; exact rfl) | (apply Jq_cmp; exact rfl; exact rfl; exact rfl; exact rfl) | refine thenQ_normal ?_ | refine thenQ_exit ?_ | refine inBlockQ_here ?_ | refine JC_seq ?_ | refine JC_region ?_ | refine J_nil ?_ | refine JC_ret ?_ | refine JC_exit ?_ | (apply JC_dec_false; exact rfl; omega))
      exact g1 rfl rfl rfl rfl
set_option maxRecDepth 100000 in
theorem l05Maslov_gives (n : Nat) (X O x o : List Nat) (bX : isB X) (bO : isB O) (bx : isB x) (bo : isB o) (h8 : n ≤ 8) (w : World) :
    Gives Tryz.prog 103 #[.agg (gv n X O).toArray, .agg (u8s x).toArray, .agg (u8s o).toArray] (.int .i64 (mX n x o)) w := by
  have ug := gv_len (n := n) bX.1 bO.1
  have ux := u8s_len x
  have uo := u8s_len o
  have lx := bx.1
  have lo := bo.1
  rw [mX_pb]
  have p1 := pb_bd h8 x 0 x 0
  have p2 := pb_bd h8 x 0 o 1
  have p3 := pb_bd h8 o 1 x 0
  have p4 := pb_bd h8 o 1 o 1
  have c1 := l05Below_gives n h8 x x bx bx 0 0 (by omega) (by omega)
  have c2 := l05Below_gives n h8 x o bx bo 0 1 (by omega) (by omega)
  have c3 := l05Below_gives n h8 o x bo bx 1 0 (by omega) (by omega)
  have c4 := l05Below_gives n h8 o o bo bo 1 1 (by omega) (by omega)
  generalize pb n x 0 x 0 = q1 at *
  generalize pb n x 0 o 1 = q2 at *
  generalize pb n o 1 x 0 = q3 at *
  generalize pb n o 1 o 1 = q4 at *
  refine gives_of (args := [.agg (gv n X O).toArray, .agg (u8s x).toArray, .agg (u8s o).toArray]) [(0, .agg (gv n X O).toArray), (1, .agg (u8s x).toArray), (2, .agg (u8s o).toArray)] [] Tryz.func103 rfl Tryz.ntmps103 rfl (argsF_cons rfl (argsF_cons rfl (argsF_cons rfl argsF_nil))) (Holds.start w) ?_
  repeat' (first | (apply Jq_move; exact rfl; exact rfl) | (apply Jq_assign; exact rfl; exact rfl) | (apply Jq_load; exact rfl; exact rfl; (exact mb); (exact rfl)) | (apply Jq_fieldAddr; exact rfl; exact rfl) | (apply Jq_add; exact rfl; exact rfl; exact rfl; omega) | (apply Jq_sub; exact rfl; exact rfl; exact rfl; omega) | (apply Jc; exact rfl; exact rfl; exact rfl; infer_instance; ((intro w hw); first | exact c1 w | exact c2 w | exact c3 w | exact c4 w)) | (apply Jq_loadW; exact rfl; exact rfl; (exact mb); (omega)) | (apply J_box; exact rfl; exact rfl; exact rfl; (intro _)) | refine thenQ_normal ?_ | refine JC_seq ?_ | refine JC_region ?_ | (apply JC_draw mixed; kernel_rfl) | refine J_nil ?_ | refine JC_ret ?_)
  exact g1 rfl rfl rfl rfl
/-! States. -/
def okS (n : Int) (X O x : List Nat) : Prop := okG n X O ∧ isPerm x n.toNat
set_option maxRecDepth 100000 in
theorem l05Is_gives (n : Int) (X O x : List Nat) (bX : isB X) (bO : isB O) (bx : isB x) (w : World) :
    Gives Tryz.prog 118 #[.agg (gv n X O).toArray, .agg (u8s x).toArray] (.bool (@decide (okS n X O x) (Classical.propDecidable _))) w := by
  have ug := gv_len (n := n) bX.1 bO.1
  have ux := u8s_len x
  have lx := bx.1
  refine gives_of (args := [.agg (gv n X O).toArray, .agg (u8s x).toArray]) [(0, .agg (gv n X O).toArray), (1, .agg (u8s x).toArray)] [] Tryz.func118 rfl Tryz.ntmps118 rfl (argsF_cons rfl (argsF_cons rfl argsF_nil)) (Holds.start w) ?_
  by_cases g : okG n X O
  · have hg := g.1
    obtain ⟨m, rfl⟩ : ∃ m : Nat, n = (m : Int) := okG_nat g
    repeat' (first | (apply J_gdT; exact rfl; exact rfl; exact g) | (apply Jq_move; exact rfl; exact rfl) | (apply Jq_assign; exact rfl; exact rfl) | (apply Jq_load; exact rfl; exact rfl; (exact mb); (exact rfl)) | (apply Jq_fieldAddr; exact rfl; exact rfl) | (apply Jq_pick_true; exact rfl; exact rfl; exact rfl) | (apply J_on; exact rfl; exact rfl) | (apply Jc; exact rfl; exact rfl; exact rfl; infer_instance; ((intro w hw); first | exact l01Is_gives m X O bX bO w | exact l01Perm_gives x m bx (by omega) (by omega) w)) | (apply Jq_loadW; exact rfl; exact rfl; (exact mb); (omega)) | (apply J_box; exact rfl; exact rfl; exact rfl; (intro _)) | refine thenQ_normal ?_ | refine JC_seq ?_ | refine JC_region ?_ | refine J_nil ?_ | refine JC_ret ?_)
    exact g1 rfl rfl rfl (boolE (by unfold okS; rw [Int.toNat_natCast]; exact ⟨fun h => ⟨g, h⟩, fun h => h.2⟩))
  · repeat' (first | (apply J_gdF; exact rfl; exact rfl; exact g) | (apply Jq_move; exact rfl; exact rfl) | (apply Jq_assign; exact rfl; exact rfl) | (apply Jq_pick_false; exact rfl; exact rfl; exact rfl) | (apply J_skip; exact rfl; exact rfl; exact rfl; exact rfl) | (apply Jc; exact rfl; exact rfl; exact rfl; infer_instance; ((intro w hw); exact l01Is_gives n X O bX bO w)) | (apply Jq_loadW; exact rfl; exact rfl; (exact mb); (omega)) | (apply J_box; exact rfl; exact rfl; exact rfl; (intro _)) | refine thenQ_normal ?_ | refine JC_seq ?_ | refine JC_region ?_ | refine J_nil ?_ | refine JC_ret ?_)
    exact g1 rfl rfl rfl (boolF fun h => g h.1)
end Go.Proofs.YtmbbcmebdefggaaGreatDoor
