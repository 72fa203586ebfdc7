/- Walks: the program's stabilization (printed by mkgrown.py). -/
import Derived.Test.YtflleelfkknfaaaMB
import Derived.Test.YtflleelfkknfaaaWK
import Derived.Test.YtflleelfkknfaaaST
namespace Go.Proofs.Ytflleelfkknfaaa
open Go Go.RowKit SL
theorem rows0_gives (b : Nat) (w : World) : Gives Try.prog 100 #[.pointer (some ⟨b, 0, none⟩), .int .i64 0] (.pointer (some ⟨b, 0 + 1, none⟩)) w := by
  refine gives_of (args := [.pointer (some ⟨b, 0, none⟩), .int .i64 0]) [(0, .pointer (some ⟨b, 0, none⟩)), (1, .int .i64 0)] [] Try.func100 rfl Try.ntmps100 rfl (argsF_cons rfl (argsF_cons rfl argsF_nil)) (Holds.start w) ?_
  repeat' (first | (apply Jq_move; exact rfl; exact rfl) | (apply Jq_assign; exact rfl; exact rfl) | (apply Jq_fieldAddr; exact rfl; exact rfl) | (apply Jq_cmp; exact rfl; exact rfl; exact rfl; exact rfl) | (apply Jq_nilCheck; exact rfl; exact rfl) | refine thenQ_normal ?_ | refine thenQ_ret ?_ | refine JC_seq ?_ | refine JC_region ?_ | refine J_nil ?_ | refine JC_ret ?_ | (apply JC_if_true; exact rfl))
  exact g1 rfl rfl rfl rfl
theorem rows1_gives (b : Nat) (w : World) : Gives Try.prog 100 #[.pointer (some ⟨b, 0, none⟩), .int .i64 1] (.pointer (some ⟨b, 0 + 9, none⟩)) w := by
  refine gives_of (args := [.pointer (some ⟨b, 0, none⟩), .int .i64 1]) [(0, .pointer (some ⟨b, 0, none⟩)), (1, .int .i64 1)] [] Try.func100 rfl Try.ntmps100 rfl (argsF_cons rfl (argsF_cons rfl argsF_nil)) (Holds.start w) ?_
  repeat' (first | (apply Jq_move; exact rfl; exact rfl) | (apply Jq_assign; exact rfl; exact rfl) | (apply Jq_fieldAddr; exact rfl; exact rfl) | (apply Jq_cmp; exact rfl; exact rfl; exact rfl; exact rfl) | (apply Jq_nilCheck; exact rfl; exact rfl) | refine thenQ_normal ?_ | refine JC_seq ?_ | refine JC_region ?_ | refine J_nil ?_ | refine JC_skip ?_ | refine JC_ret ?_ | (apply JC_if_false; exact rfl))
  exact g1 rfl rfl rfl rfl
/-- How a grid is stabilized. -/
def encW (i m d u : Nat) : List Value := [.int .i64 (i : Int), .int .i64 (m : Int), .int .i64 (d : Int), .int .i64 (u : Int)]
theorem set_at {X : List Nat} (h : X.length = 8) {D v : Nat} (hD : D < 8) : (X.set D v).getD D 0 = v := by rw [getD_set8' h hD, if_pos rfl]
set_option maxRecDepth 100000 in
theorem grown0_gives (n : Nat) (X O : List Nat) (i d u : Nat) (bX : isB X) (bO : isB O) (h8 : n < 8) (hX : ∀ j, j < n → X.getD j 0 < n) (hO : ∀ j, j < n → O.getD j 0 < n) (hi : i < n) (hd : d ≤ 1) (hu : u ≤ 1) (w : World) :
    Gives Try.prog 76 #[.agg (gv n X O).toArray, .agg (encW i 0 d u).toArray] (.agg (gv ((n + 1 : Nat) : Int) (gMine n i (X.getD i 0) d u X) (gThr n i (X.getD i 0) d u O)).toArray) w := by
  have ug := gv_len (n := (n : Int)) bX.1 bO.1
  have kX := bX.1
  have kO := bO.1
  have uX := (u8s_len X).trans kX
  have uO := (u8s_len O).trans kO
  have uw : (encW i 0 d u).length = 4 := rfl
  refine gives_of (args := [.agg (gv n X O).toArray, .agg (encW i 0 d u).toArray]) [(0, .agg (gv n X O).toArray), (1, .agg (encW i 0 d u).toArray)] [] Try.func76 rfl Try.ntmps76 rfl (argsF_cons rfl (argsF_cons rfl argsF_nil)) (Holds.start w) ?_
  repeat' (first | (apply J_box; exact rfl; exact rfl; exact rfl; (intro _)) | (apply J_alloc (cs := gv 0 Z8 Z8); exact rfl; exact rfl; (intro _)) | refine thenQ_normal ?_ | refine JC_seq ?_ | refine JC_region ?_ | refine J_nil ?_)
  rename_i b2 b3 b4
  refine JC_cutT (Y := Nat × Nat) (fun _ => True) (fun p => [(2, .pointer (some ⟨b2, 0, none⟩)), (3, .pointer (some ⟨b3, 0, none⟩)), (4, .pointer (some ⟨b4, 0, none⟩)), (5, .pointer (some ⟨p.1, 0, none⟩)), (6, .pointer (some ⟨p.2, 0, none⟩))])
    (fun p => [.blk p.1 (u8s X) 22, .blk p.2 (u8s O) 22, .blk b4 (gv 0 Z8 Z8) 27, .blk b3 (encW i 0 d u) 104, .blk b2 (gv n X O) 27]) ?_ ?_
  ·
    refine JC_any (m := 15) rfl _ mixed (fun _ h => h) ?_
    (apply JF_q 0; exact rfl; kernel_rfl; exact rfl; (intro E hE; (apply q_fieldAddr; exact rfl)))
    (apply JF_q 1; exact rfl; kernel_rfl; exact rfl; (intro E hE; (apply q_load; exact rfl; (refine hE _ ?_; exact mb); (exact rfl))))
    (apply JF_q 2; exact rfl; kernel_rfl; exact rfl; (intro E hE; (apply q_callE; exact rfl; exact rfl; infer_instance; ((intro w hw); exact rows0_gives _ w))))
    (apply JF_q 3; exact rfl; kernel_rfl; exact rfl; (intro E hE; (apply q_nilCheck; exact rfl)))
    (apply JF_q 4; exact rfl; kernel_rfl; exact rfl; (intro E hE; (apply q_loadA; exact rfl; (refine hE _ ?_; exact mb); (exact gv_arrX kX); (omega))))
    (apply JF_q 5; exact rfl; kernel_rfl; exact rfl; (intro E hE; (apply q_fieldAddr; exact rfl)))
    (apply JF_q 6; exact rfl; kernel_rfl; exact rfl; (intro E hE; (apply q_load; exact rfl; (refine hE _ ?_; exact mb); (exact rfl))))
    (apply JF_q 7; exact rfl; kernel_rfl; exact rfl; (intro E hE; (apply q_sub; exact rfl; exact rfl; omega)))
    (apply JF_q 8; exact rfl; kernel_rfl; exact rfl; (intro E hE; (apply q_callE; exact rfl; exact rfl; infer_instance; ((intro w hw); exact rows1_gives _ w))))
    (apply JF_q 9; exact rfl; kernel_rfl; exact rfl; (intro E hE; (apply q_nilCheck; exact rfl)))
    (apply JF_q 10; exact rfl; kernel_rfl; exact rfl; (intro E hE; (apply q_loadA; exact rfl; (refine hE _ ?_; exact mb); (exact gv_arrO kX kO); (omega))))
    (apply JF_all [11, 12]; kernel_rfl)
    (apply JFs_cons; exact rfl)
    · (apply J_alloc (cs := u8s Z8); exact rfl; exact rfl; (intro _))
      (apply J_nil; apply JF_end; ((repeat (apply sub_cons; (focus ((with_reducible (repeat (first | exact m0 | refine mS ?_))); done)))); exact sub_nil))
      (apply JF_all [12]; kernel_rfl)
      (apply JFs_cons; exact rfl)
      · (apply J_alloc (cs := u8s Z8); exact rfl; exact rfl; (intro _))
        (apply J_nil; apply JF_end; ((repeat (apply sub_cons; (focus ((with_reducible (repeat (first | exact m0 | refine mS ?_))); done)))); exact sub_nil))
        (apply JF_all [13]; kernel_rfl)
        (apply JFs_cons; exact rfl)
        · (apply J_sW; exact rfl; exact rfl; infer_instance; (exact rfl); (omega); (exact u8s_one _); infer_instance)
          (apply J_nil; apply JF_end; ((repeat (apply sub_cons; (focus ((with_reducible (repeat (first | exact m0 | refine mS ?_))); done)))); exact sub_nil))
          (apply JF_all [14]; kernel_rfl)
          (apply JFs_cons; exact rfl)
          · (apply J_sW; exact rfl; exact rfl; infer_instance; (exact rfl); (omega); (exact u8s_one _); infer_instance)
            (apply J_nil; apply JF_end; ((repeat (apply sub_cons; (focus ((with_reducible (repeat (first | exact m0 | refine mS ?_))); done)))); exact sub_nil))
            (apply JF_done; kernel_rfl)
            (apply thenQ_normal; apply ex2; refine ⟨trivial, ?_⟩; (refine entP (ent ?_ (List.nil_sublist _)) ?_; (repeat refine fr_cons rfl ?_); exact fr_nil; (repeat (first | exact sp_nil | (with_reducible apply sp0) | (with_reducible apply sp1)))))
          exact JFs_nil
        exact JFs_nil
      exact JFs_nil
    (apply JFs_cons; exact rfl)
    · (apply J_alloc (cs := u8s Z8); exact rfl; exact rfl; (intro _))
      (apply J_nil; apply JF_end; ((repeat (apply sub_cons; (focus ((with_reducible (repeat (first | exact m0 | refine mS ?_))); done)))); exact sub_nil))
      (apply JF_all [11]; kernel_rfl)
      (apply JFs_cons; exact rfl)
      · (apply J_alloc (cs := u8s Z8); exact rfl; exact rfl; (intro _))
        (apply J_nil; apply JF_end; ((repeat (apply sub_cons; (focus ((with_reducible (repeat (first | exact m0 | refine mS ?_))); done)))); exact sub_nil))
        (apply JF_all [13]; kernel_rfl)
        (apply JFs_cons; exact rfl)
        · (apply J_sW; exact rfl; exact rfl; infer_instance; (exact rfl); (omega); (exact u8s_one _); infer_instance)
          (apply J_nil; apply JF_end; ((repeat (apply sub_cons; (focus ((with_reducible (repeat (first | exact m0 | refine mS ?_))); done)))); exact sub_nil))
          (apply JF_all [14]; kernel_rfl)
          (apply JFs_cons; exact rfl)
          · (apply J_sW; exact rfl; exact rfl; infer_instance; (exact rfl); (omega); (exact u8s_one _); infer_instance)
            (apply J_nil; apply JF_end; ((repeat (apply sub_cons; (focus ((with_reducible (repeat (first | exact m0 | refine mS ?_))); done)))); exact sub_nil))
            (apply JF_done; kernel_rfl)
            (apply thenQ_normal; apply ex2; refine ⟨trivial, ?_⟩; (refine entP (ent ?_ (List.nil_sublist _)) ?_; (repeat refine fr_cons rfl ?_); exact fr_nil; (repeat (first | exact sp_nil | (with_reducible apply sp0)))))
          exact JFs_nil
        exact JFs_nil
      exact JFs_nil
    exact JFs_nil
  · rintro ⟨b5, b6⟩ _
    dsimp only
    have e1 : (n : Int) + 1 = ((n + 1 : Nat) : Int) := rfl
    have hr := hX i hi
    have lZ : Z8.length = 8 := rfl
    have uz := gv_len (n := ((n + 1 : Nat) : Int)) lZ lZ
    generalize hrr : X.getD i 0 = r at *
    repeat' (first | (apply Jq_addR; exact rfl; exact rfl; exact rfl; omega; exact e1) | (apply Jq_move; exact rfl; exact rfl) | (apply Jq_assign; exact rfl; exact rfl) | (apply Jq_load; exact rfl; exact rfl; (exact mb); (first | exact rfl | (refine (u8s_at ?_).trans (congrArg (fun z : Nat => some (Value.int .u8 (z : Int))) hrr); omega))) | (apply Jq_fieldAddr; exact rfl; exact rfl) | (apply Jq_indexN; exact rfl; exact rfl; exact rfl; omega) | (apply Jq_sub; exact rfl; exact rfl; exact rfl; omega) | (apply Jc; exact rfl; exact rfl; exact rfl; infer_instance; ((intro w hw); first | exact rows0_gives _ w | exact rows1_gives _ w | exact n_gives n X O w)) | (apply Jq_loadW; exact rfl; exact rfl; (exact mb); (omega)) | (apply J_sW; exact rfl; exact rfl; infer_instance; (exact rfl); (exact rfl); (exact ones_of rfl); infer_instance) | (apply Jq_buildE; exact rfl; exact rfl; exact built_grid _) | (apply J_alloc (cs := gv 0 Z8 Z8); exact rfl; exact rfl; (intro _)) | refine thenQ_normal ?_ | refine JC_seq ?_ | refine JC_region ?_ | (apply JC_draw mixed; kernel_rfl) | refine J_nil ?_ | refine JC_block ?_)
    rename_i b8
    refine JC_loop (X := Nat) (fun k => k ≤ n) (fun k => [(41, .int .i64 (k : Int)), (40, .int .i64 (n : Int)), (7, .int .u8 (r : Int)), (9, .pointer (some ⟨b8, 0 + 1, none⟩)), (10, .pointer (some ⟨b8, 0 + 9, none⟩)), (8, .pointer (some ⟨b8, 0, none⟩)), (5, .pointer (some ⟨b5, 0, none⟩)), (6, .pointer (some ⟨b6, 0, none⟩)), (3, .pointer (some ⟨b3, 0, none⟩)), (4, .pointer (some ⟨b4, 0, none⟩))])
      (fun k => [.blk b8 (gv ((n + 1 : Nat) : Int) (colT i d (fun c => bump r (X.getD c 0)) k) (colT i d (fun c => lift r u (O.getD c 0)) k)) 27, .blk b5 (u8s X) 22, .blk b6 (u8s O) 22, .blk b4 (gv 0 Z8 Z8) 27, .blk b3 (encW i 0 d u) 104]) (fun k => n - k) 0 (Nat.zero_le _) ?_ ?_
    · rw [colT_zero, colT_zero]
      (refine ent ?_ ?_; (repeat refine fr_cons rfl ?_); exact fr_nil; (repeat (first | exact List.nil_sublist _ | refine List.Sublist.cons_cons _ ?_)))
    · intro k hk
      by_cases hlt : k < n
      · have hD := toC_lt (d := d) hi hd hlt
        have hD8 : toC i d k < 8 := by omega
        have ht : toC i d k = if k = i then i + d else if i < k then k + 1 else k := by unfold toC; split <;> split <;> (try split) <;> omega
        have lM : (colT i d (fun c => bump r (X.getD c 0)) k).length = 8 := colT_len
        have lT : (colT i d (fun c => lift r u (O.getD c 0)) k).length = 8 := colT_len
        have sM : (colT i d (fun c => bump r (X.getD c 0)) k).set (toC i d k) (bump r (X.getD k 0)) = colT i d (fun c => bump r (X.getD c 0)) (k + 1) := colT_set (f := fun c => bump r (X.getD c 0)) hd hD8
        have sT : (colT i d (fun c => lift r u (O.getD c 0)) k).set (toC i d k) (lift r u (O.getD k 0)) = colT i d (fun c => lift r u (O.getD c 0)) (k + 1) := colT_set (f := fun c => lift r u (O.getD c 0)) hd hD8
        have xk := hX k hlt
        have ok := hO k hlt
        have hgx := u8s_at (l := X) (k := k) (by omega)
        have hgy := u8s_at (l := O) (k := k) (by omega)
        generalize colT i d (fun c => bump r (X.getD c 0)) k = M at *
        generalize colT i d (fun c => lift r u (O.getD c 0)) k = T at *
        generalize toC i d k = D at *
        generalize X.getD k 0 = x at *
        generalize O.getD k 0 = y at *
        have lMx : (M.set D x).length = 8 := (List.length_set ..).trans lM
        have lTy : (T.set D y).length = 8 := (List.length_set ..).trans lT
        have g1 := gv_len (n := ((n + 1 : Nat) : Int)) lM lT
        have g2 := gv_len (n := ((n + 1 : Nat) : Int)) lMx lT
        have g3 := gv_len (n := ((n + 1 : Nat) : Int)) lM lTy
        have e2 : (k : Int) + 1 = ((k + 1 : Nat) : Int) := rfl
        have e3 : (i : Int) + (d : Int) = ((i + d : Nat) : Int) := rfl
        repeat' (first | (refine JC_cut1 (x := .seq (.region 9 _ _) _) [(12, .int .i64 ((if i < k then k + 1 else k : Nat) : Int)), (11, .int .i64 (k : Int)), (41, .int .i64 (k : Int)), (40, .int .i64 (n : Int)), (7, .int .u8 (r : Int)), (9, .pointer (some ⟨b8, 0 + 1, none⟩)), (10, .pointer (some ⟨b8, 0 + 9, none⟩)), (8, .pointer (some ⟨b8, 0, none⟩)), (5, .pointer (some ⟨b5, 0, none⟩)), (6, .pointer (some ⟨b6, 0, none⟩)), (3, .pointer (some ⟨b3, 0, none⟩)), (4, .pointer (some ⟨b4, 0, none⟩))] [.blk b8 (gv ((n + 1 : Nat) : Int) (M) (T)) 27, .blk b5 (u8s X) 22, .blk b6 (u8s O) 22, .blk b4 (gv 0 Z8 Z8) 27, .blk b3 (encW i 0 d u) 104] ?_ ?_) | (refine JC_cut1 (x := .seq (.region 11 _ _) _) [(12, .int .i64 (D : Int)), (11, .int .i64 (k : Int)), (41, .int .i64 (k : Int)), (40, .int .i64 (n : Int)), (7, .int .u8 (r : Int)), (9, .pointer (some ⟨b8, 0 + 1, none⟩)), (10, .pointer (some ⟨b8, 0 + 9, none⟩)), (8, .pointer (some ⟨b8, 0, none⟩)), (5, .pointer (some ⟨b5, 0, none⟩)), (6, .pointer (some ⟨b6, 0, none⟩)), (3, .pointer (some ⟨b3, 0, none⟩)), (4, .pointer (some ⟨b4, 0, none⟩))] [.blk b8 (gv ((n + 1 : Nat) : Int) (M) (T)) 27, .blk b5 (u8s X) 22, .blk b6 (u8s O) 22, .blk b4 (gv 0 Z8 Z8) 27, .blk b3 (encW i 0 d u) 104] ?_ ?_) | (refine JC_cutT (x := .region 13 _ _) (Y := Unit) (fun _ => True) (fun _ => [(12, .int .i64 (D : Int)), (11, .int .i64 (k : Int)), (41, .int .i64 (k : Int)), (40, .int .i64 (n : Int)), (7, .int .u8 (r : Int)), (9, .pointer (some ⟨b8, 0 + 1, none⟩)), (10, .pointer (some ⟨b8, 0 + 9, none⟩)), (8, .pointer (some ⟨b8, 0, none⟩)), (5, .pointer (some ⟨b5, 0, none⟩)), (6, .pointer (some ⟨b6, 0, none⟩)), (3, .pointer (some ⟨b3, 0, none⟩)), (4, .pointer (some ⟨b4, 0, none⟩))]) (fun _ => [.blk b8 (gv ((n + 1 : Nat) : Int) (M.set D x) (T.set D y)) 27, .blk b5 (u8s X) 22, .blk b6 (u8s O) 22, .blk b4 (gv 0 Z8 Z8) 27, .blk b3 (encW i 0 d u) 104]) ?_ ?_) | (apply Jq_addR; exact rfl; exact rfl; exact rfl; omega; first | exact e2 | exact e3) | (apply Jq_move; exact rfl; exact rfl) | (apply Jq_assign; exact rfl; exact rfl) | (apply Jq_load; exact rfl; exact rfl; (exact mb); (exact rfl)) | (apply Jq_fieldAddr; exact rfl; exact rfl) | (apply Jq_cmp; exact rfl; exact rfl; exact rfl; exact rfl) | refine thenQ_normal ?_ | refine JC_seq ?_ | refine JC_region ?_ | refine J_nil ?_ | refine JC_block ?_ | refine JC_skip ?_ | (apply JC_dec_true; exact rfl; omega) | refine JC_dec rfl (fun _ => ?_) (fun _ => ?_))
        · rw [if_pos (by omega)]
          (refine ent ?_ ?_; (repeat refine fr_cons rfl ?_); exact fr_nil; (repeat (exact List.Sublist.refl _)))
        · rw [if_neg (by omega)]
          (refine ent ?_ ?_; (repeat refine fr_cons rfl ?_); exact fr_nil; (repeat (exact List.Sublist.refl _)))
        · rw [show D = i + d from ht.trans (if_pos (by omega))]
          (refine ent ?_ ?_; (repeat refine fr_cons rfl ?_); exact fr_nil; (repeat (exact List.Sublist.refl _)))
        · rw [show D = if i < k then k + 1 else k from ht.trans (if_neg (by omega))]
          (refine ent ?_ ?_; (repeat refine fr_cons rfl ?_); exact fr_nil; (repeat (exact List.Sublist.refl _)))
        ·
          refine JC_any (m := 16) rfl [.blk b5 (u8s X) 22, .blk b6 (u8s O) 22] mixed (by ((repeat (apply sub_cons; (focus ((with_reducible (repeat (first | exact m0 | refine mS ?_))); done)))); exact sub_nil)) ?_
          (apply JF_q 0; exact rfl; kernel_rfl; exact rfl; (intro E hE; (apply q_move; exact rfl)))
          (apply JF_q 1; exact rfl; kernel_rfl; exact rfl; (intro E hE; (apply q_move; exact rfl)))
          (apply JF_q 2; exact rfl; kernel_rfl; exact rfl; (intro E hE; (apply q_move; exact rfl)))
          (apply JF_q 3; exact rfl; kernel_rfl; exact rfl; (intro E hE; (apply q_move; exact rfl)))
          (apply JF_q 4; exact rfl; kernel_rfl; exact rfl; (intro E hE; (apply q_move; exact rfl)))
          (apply JF_q 5; exact rfl; kernel_rfl; exact rfl; (intro E hE; (apply q_indexN; exact rfl; exact rfl; omega)))
          (apply JF_q 6; exact rfl; kernel_rfl; exact rfl; (intro E hE; (apply q_load; exact rfl; (refine hE _ ?_; exact mb); (exact hgx))))
          (apply JF_q 7; exact rfl; kernel_rfl; exact rfl; (intro E hE; (apply q_move; exact rfl)))
          (apply JF_q 8; exact rfl; kernel_rfl; exact rfl; (intro E hE; (apply q_indexN; exact rfl; exact rfl; omega)))
          (apply JF_q 9; exact rfl; kernel_rfl; exact rfl; (intro E hE; (apply q_load; exact rfl; (refine hE _ ?_; exact mb); (exact hgy))))
          (apply JF_q 10; exact rfl; kernel_rfl; exact rfl; (intro E hE; (apply q_nilCheck; exact rfl)))
          (apply JF_q 11; exact rfl; kernel_rfl; exact rfl; (intro E hE; (apply q_indexN; exact rfl; exact rfl; omega)))
          (apply JF_q 13; exact rfl; kernel_rfl; exact rfl; (intro E hE; (apply q_nilCheck; exact rfl)))
          (apply JF_all [12]; kernel_rfl)
          (apply JFs_cons; exact rfl)
          · (apply J_s1; exact rfl; exact rfl; exact rfl; infer_instance; (omega); (refine gv_setX lM ?_; omega); infer_instance)
            (apply J_nil; apply JF_end; ((repeat (apply sub_cons; (focus ((with_reducible (repeat (first | exact m0 | refine mS ?_))); done)))); exact sub_nil))
            (apply JF_q 14; exact rfl; kernel_rfl; exact rfl; (intro E hE; (apply q_indexN; exact rfl; exact rfl; omega)))
            (apply JF_all [15]; kernel_rfl)
            (apply JFs_cons; exact rfl)
            · ((apply J_s1; exact rfl; exact rfl; exact rfl; infer_instance; (omega); (exact gv_setO ((List.length_set ..).trans lM)); infer_instance))
              (apply J_nil; apply JF_end; ((repeat (apply sub_cons; (focus ((with_reducible (repeat (first | exact m0 | refine mS ?_))); done)))); exact sub_nil))
              (apply JF_done; kernel_rfl)
              (apply thenQ_normal; refine ⟨(), trivial, ?_⟩; (refine entP (ent ?_ (List.nil_sublist _)) ?_; (repeat refine fr_cons rfl ?_); exact fr_nil; (repeat (first | exact sp_nil | (with_reducible apply sp0)))))
            exact JFs_nil
          exact JFs_nil
        · rintro ⟨⟩ _
          have lM1 : (M.set D x).length = 8 := (List.length_set ..).trans lM
          have lT1 : (T.set D y).length = 8 := (List.length_set ..).trans lT
          have vM1 : (M.set D x).getD D 0 = x := set_at lM hD8
          have vT1 : (T.set D y).getD D 0 = y := set_at lT hD8
          have cM1 : ∀ v, (M.set D x).set D v = M.set D v := fun v => List.set_set ..
          have cT1 : ∀ v, (T.set D y).set D v = T.set D v := fun v => List.set_set ..
          have lM2 : (M.set D (bump r x)).length = 8 := (List.length_set ..).trans lM
          have g4 := gv_len (n := ((n + 1 : Nat) : Int)) lM1 lT1
          have g5 := gv_len (n := ((n + 1 : Nat) : Int)) lM2 lT1
          repeat' (first | (refine JC_cut1 (x := .seq (.region 14 _ _) _) [(12, .int .i64 (D : Int)), (11, .int .i64 (k : Int)), (41, .int .i64 (k : Int)), (40, .int .i64 (n : Int)), (7, .int .u8 (r : Int)), (9, .pointer (some ⟨b8, 0 + 1, none⟩)), (10, .pointer (some ⟨b8, 0 + 9, none⟩)), (8, .pointer (some ⟨b8, 0, none⟩)), (5, .pointer (some ⟨b5, 0, none⟩)), (6, .pointer (some ⟨b6, 0, none⟩)), (3, .pointer (some ⟨b3, 0, none⟩)), (4, .pointer (some ⟨b4, 0, none⟩))] [.blk b8 (gv ((n + 1 : Nat) : Int) (M.set D (bump r x)) (T.set D y)) 27, .blk b5 (u8s X) 22, .blk b6 (u8s O) 22, .blk b4 (gv 0 Z8 Z8) 27, .blk b3 (encW i 0 d u) 104] ?_ ?_) | (apply Jq_move; exact rfl; exact rfl) | (apply Jq_assign; exact rfl; exact rfl) | (apply Jq_load; exact rfl; exact rfl; (exact mb); (first | exact hgx | exact hgy)) | (apply Jq_indexN; exact rfl; exact rfl; exact rfl; omega) | (apply Jq_cmp; exact rfl; exact rfl; exact rfl; exact rfl) | (apply Jq_add; exact rfl; exact rfl; exact rfl; omega) | refine thenQ_normal ?_ | refine inBlockQ_normal ?_ | refine JC_seq ?_ | refine JC_region ?_ | refine J_nil ?_ | refine JC_block ?_ | refine JC_skip ?_ | refine JC_dec rfl (fun _ => ?_) (fun _ => ?_))
          · have hb : bump r x = x + 1 := if_pos (by omega)
            have hm1 := gv_X (n := ((n + 1 : Nat) : Int)) (O := T.set D y) lM1 hD8
            rw [vM1] at hm1
            refine JC_any (m := 9) rfl [.blk b5 (u8s X) 22, .blk b6 (u8s O) 22] mixed (by ((repeat (apply sub_cons; (focus ((with_reducible (repeat (first | exact m0 | refine mS ?_))); done)))); exact sub_nil)) ?_
            (apply JF_q 0; exact rfl; kernel_rfl; exact rfl; (intro E hE; (apply q_move; exact rfl)))
            (apply JF_q 1; exact rfl; kernel_rfl; exact rfl; (intro E hE; (apply q_move; exact rfl)))
            (apply JF_q 2; exact rfl; kernel_rfl; exact rfl; (intro E hE; (apply q_nilCheck; exact rfl)))
            (apply JF_q 3; exact rfl; kernel_rfl; exact rfl; (intro E hE; (apply q_indexN; exact rfl; exact rfl; omega)))
            (apply JF_q 6; exact rfl; kernel_rfl; exact rfl; (intro E hE; (apply q_nilCheck; exact rfl)))
            (apply JF_all [4]; kernel_rfl)
            (apply JFs_cons; exact rfl)
            · (apply Jq_load; exact rfl; exact rfl; exact mb; exact hm1)
              (apply J_nil; apply JF_end; ((repeat (apply sub_cons; (focus ((with_reducible (repeat (first | exact m0 | refine mS ?_))); done)))); exact sub_nil))
              (apply JF_q 5; exact rfl; kernel_rfl; exact rfl; (intro E hE; ((apply q_addwR (r := ((x + 1 : Nat) : Int)); exact rfl; exact rfl; exact wrap8 (r := x + 1) (by omega)))))
              (apply JF_q 7; exact rfl; kernel_rfl; exact rfl; (intro E hE; (apply q_indexN; exact rfl; exact rfl; omega)))
              (apply JF_all [8]; kernel_rfl)
              (apply JFs_cons; exact rfl)
              · (apply J_s1; exact rfl; exact rfl; exact rfl; infer_instance; (omega); (refine gv_setX lM1 ?_; omega); infer_instance)
                (apply J_nil; apply JF_end; ((repeat (apply sub_cons; (focus ((with_reducible (repeat (first | exact m0 | refine mS ?_))); done)))); exact sub_nil))
                (apply JF_done; kernel_rfl)
                (apply thenQ_normal; rw [hb, ← cM1 (x + 1)]; (refine entP (ent ?_ (List.nil_sublist _)) ?_; (repeat refine fr_cons rfl ?_); exact fr_nil; (repeat (first | exact sp_nil | (with_reducible apply sp0)))))
              exact JFs_nil
            exact JFs_nil
          · rw [show bump r x = x from if_neg (by omega)]
            (refine ent ?_ ?_; (repeat refine fr_cons rfl ?_); exact fr_nil; (repeat (exact List.Sublist.refl _)))
          · have hb : lift r u y = y + 1 := if_pos (by omega)
            have hm1 := gv_O (n := ((n + 1 : Nat) : Int)) lM2 lT1 hD8
            rw [vT1] at hm1
            refine JC_any (m := 9) rfl [.blk b5 (u8s X) 22, .blk b6 (u8s O) 22] mixed (by ((repeat (apply sub_cons; (focus ((with_reducible (repeat (first | exact m0 | refine mS ?_))); done)))); exact sub_nil)) ?_
            (apply JF_q 0; exact rfl; kernel_rfl; exact rfl; (intro E hE; (apply q_move; exact rfl)))
            (apply JF_q 1; exact rfl; kernel_rfl; exact rfl; (intro E hE; (apply q_move; exact rfl)))
            (apply JF_q 2; exact rfl; kernel_rfl; exact rfl; (intro E hE; (apply q_nilCheck; exact rfl)))
            (apply JF_q 3; exact rfl; kernel_rfl; exact rfl; (intro E hE; (apply q_indexN; exact rfl; exact rfl; omega)))
            (apply JF_q 6; exact rfl; kernel_rfl; exact rfl; (intro E hE; (apply q_nilCheck; exact rfl)))
            (apply JF_all [4]; kernel_rfl)
            (apply JFs_cons; exact rfl)
            · (apply Jq_load; exact rfl; exact rfl; exact mb; exact hm1)
              (apply J_nil; apply JF_end; ((repeat (apply sub_cons; (focus ((with_reducible (repeat (first | exact m0 | refine mS ?_))); done)))); exact sub_nil))
              (apply JF_q 5; exact rfl; kernel_rfl; exact rfl; (intro E hE; ((apply q_addwR (r := ((y + 1 : Nat) : Int)); exact rfl; exact rfl; exact wrap8 (r := y + 1) (by omega)))))
              (apply JF_q 7; exact rfl; kernel_rfl; exact rfl; (intro E hE; (apply q_indexN; exact rfl; exact rfl; omega)))
              (apply JF_all [8]; kernel_rfl)
              (apply JFs_cons; exact rfl)
              · (apply J_s1; exact rfl; exact rfl; exact rfl; infer_instance; (omega); (exact gv_setO lM2); infer_instance)
                (apply J_nil; apply JF_end; ((repeat (apply sub_cons; (focus ((with_reducible (repeat (first | exact m0 | refine mS ?_))); done)))); exact sub_nil))
                (apply JF_done; kernel_rfl)
                ((repeat' (first | (apply Jq_move; exact rfl; exact rfl) | (apply Jq_add; exact rfl; exact rfl; exact rfl; omega) | refine thenQ_normal ?_ | refine inBlockQ_normal ?_ | refine JC_region ?_ | refine J_nil ?_)); refine ⟨k + 1, by omega, by omega, ?_⟩; rw [← sM, ← sT, hb, ← cT1 (y + 1)]; (refine entP (ent ?_ (List.nil_sublist _)) ?_; (repeat refine fr_cons rfl ?_); exact fr_nil; (repeat (first | exact sp_nil | (with_reducible apply sp0)))))
              exact JFs_nil
            exact JFs_nil
          · have hb : lift r u y = y + u := by unfold lift; rw [if_neg (by omega), if_pos (by omega)]; omega
            have hm1 := gv_O (n := ((n + 1 : Nat) : Int)) lM2 lT1 hD8
            rw [vT1] at hm1
            refine JC_any (m := 12) rfl [.blk b3 (encW i 0 d u) 104, .blk b6 (u8s O) 22] mixed (by ((repeat (apply sub_cons; (focus ((with_reducible (repeat (first | exact m0 | refine mS ?_))); done)))); exact sub_nil)) ?_
            (apply JF_q 0; exact rfl; kernel_rfl; exact rfl; (intro E hE; (apply q_move; exact rfl)))
            (apply JF_q 1; exact rfl; kernel_rfl; exact rfl; (intro E hE; (apply q_move; exact rfl)))
            (apply JF_q 2; exact rfl; kernel_rfl; exact rfl; (intro E hE; (apply q_nilCheck; exact rfl)))
            (apply JF_q 3; exact rfl; kernel_rfl; exact rfl; (intro E hE; (apply q_indexN; exact rfl; exact rfl; omega)))
            (apply JF_q 5; exact rfl; kernel_rfl; exact rfl; (intro E hE; (apply q_fieldAddr; exact rfl)))
            (apply JF_q 6; exact rfl; kernel_rfl; exact rfl; (intro E hE; (apply q_load; exact rfl; (refine hE _ ?_; exact mb); (exact rfl))))
            (apply JF_q 7; exact rfl; kernel_rfl; exact rfl; (intro E hE; (apply q_conv; exact rfl; exact wrap8 (by omega))))
            (apply JF_q 9; exact rfl; kernel_rfl; exact rfl; (intro E hE; (apply q_nilCheck; exact rfl)))
            (apply JF_all [4]; kernel_rfl)
            (apply JFs_cons; exact rfl)
            · (apply Jq_load; exact rfl; exact rfl; exact mb; exact hm1)
              (apply J_nil; apply JF_end; ((repeat (apply sub_cons; (focus ((with_reducible (repeat (first | exact m0 | refine mS ?_))); done)))); exact sub_nil))
              (apply JF_q 8; exact rfl; kernel_rfl; exact rfl; (intro E hE; ((apply q_addwR (r := ((y + u : Nat) : Int)); exact rfl; exact rfl; exact wrap8 (r := y + u) (by omega)))))
              (apply JF_q 10; exact rfl; kernel_rfl; exact rfl; (intro E hE; (apply q_indexN; exact rfl; exact rfl; omega)))
              (apply JF_all [11]; kernel_rfl)
              (apply JFs_cons; exact rfl)
              · (apply J_s1; exact rfl; exact rfl; exact rfl; infer_instance; (omega); (exact gv_setO lM2); infer_instance)
                (apply J_nil; apply JF_end; ((repeat (apply sub_cons; (focus ((with_reducible (repeat (first | exact m0 | refine mS ?_))); done)))); exact sub_nil))
                (apply JF_done; kernel_rfl)
                ((repeat' (first | (apply Jq_move; exact rfl; exact rfl) | (apply Jq_add; exact rfl; exact rfl; exact rfl; omega) | refine thenQ_normal ?_ | refine inBlockQ_normal ?_ | refine JC_region ?_ | refine J_nil ?_)); refine ⟨k + 1, by omega, by omega, ?_⟩; rw [← sM, ← sT, hb, ← cT1 (y + u)]; (refine entP (ent ?_ (List.nil_sublist _)) ?_; (repeat refine fr_cons rfl ?_); exact fr_nil; (repeat (first | exact sp_nil | (with_reducible apply sp0)))))
              exact JFs_nil
            exact JFs_nil
          · have hb : lift r u y = y := by unfold lift; rw [if_neg (by omega), if_neg (by omega)]
            refine ⟨k + 1, by omega, by omega, ?_⟩
            rw [← sM, ← sT, hb]
            (refine ent ?_ ?_; (repeat refine fr_cons rfl ?_); exact fr_nil; (repeat (exact List.Sublist.refl _)))
      · have ekn : k = n := by omega
        rw [ekn]
        clear hlt hk ekn
        have eM := colT_mine (r := r) (u := u) (a := X) hd hi h8
        have eT := colT_thr (r := r) (u := u) (b := O) hd hi h8
        have lM : (colT i d (fun c => bump r (X.getD c 0)) n).length = 8 := colT_len
        have lT : (colT i d (fun c => lift r u (O.getD c 0)) n).length = 8 := colT_len
        rw [← eM, ← eT]
        generalize colT i d (fun c => bump r (X.getD c 0)) n = M at *
        generalize colT i d (fun c => lift r u (O.getD c 0)) n = T at *
        have lM1 : (M.set (i + d) (r + 1 - u)).length = 8 := (List.length_set ..).trans lM
        have lM2 : ((M.set (i + d) (r + 1 - u)).set (i + 1 - d) (r + u)).length = 8 := (List.length_set ..).trans lM1
        have lT1 : (T.set (i + 1 - d) (r + 1 - u)).length = 8 := (List.length_set ..).trans lT
        have uE := gv_len (n := ((n + 1 : Nat) : Int)) lM2 lT1
        have g1 := gv_len (n := ((n + 1 : Nat) : Int)) lM lT
        have g2 := gv_len (n := ((n + 1 : Nat) : Int)) lM1 lT
        have g3 := gv_len (n := ((n + 1 : Nat) : Int)) lM2 lT
        have f1 : ((r : Nat) : Int) + ((1 - u : Nat) : Int) = ((r + 1 - u : Nat) : Int) := by omega
        have f2 : ((r : Nat) : Int) + ((u : Nat) : Int) = ((r + u : Nat) : Int) := rfl
        repeat' (first | (refine JC_cut1 (x := .region 21 _ _) [(7, .int .u8 (r : Int)), (9, .pointer (some ⟨b8, 0 + 1, none⟩)), (10, .pointer (some ⟨b8, 0 + 9, none⟩)), (8, .pointer (some ⟨b8, 0, none⟩)), (3, .pointer (some ⟨b3, 0, none⟩)), (4, .pointer (some ⟨b4, 0, none⟩))] [.blk b8 (gv ((n + 1 : Nat) : Int) (M.set (i + d) (r + 1 - u)) (T)) 27, .blk b4 (gv 0 Z8 Z8) 27, .blk b3 (encW i 0 d u) 104] ?_ ?_) | (refine JC_cut1 (x := .region 22 _ _) [(7, .int .u8 (r : Int)), (9, .pointer (some ⟨b8, 0 + 1, none⟩)), (10, .pointer (some ⟨b8, 0 + 9, none⟩)), (8, .pointer (some ⟨b8, 0, none⟩)), (3, .pointer (some ⟨b3, 0, none⟩)), (4, .pointer (some ⟨b4, 0, none⟩))] [.blk b8 (gv ((n + 1 : Nat) : Int) ((M.set (i + d) (r + 1 - u)).set (i + 1 - d) (r + u)) (T)) 27, .blk b4 (gv 0 Z8 Z8) 27, .blk b3 (encW i 0 d u) 104] ?_ ?_) | (refine JC_cut1 (x := .region 23 _ _) [(7, .int .u8 (r : Int)), (9, .pointer (some ⟨b8, 0 + 1, none⟩)), (10, .pointer (some ⟨b8, 0 + 9, none⟩)), (8, .pointer (some ⟨b8, 0, none⟩)), (3, .pointer (some ⟨b3, 0, none⟩)), (4, .pointer (some ⟨b4, 0, none⟩))] [.blk b8 (gv ((n + 1 : Nat) : Int) ((M.set (i + d) (r + 1 - u)).set (i + 1 - d) (r + u)) (T.set (i + 1 - d) (r + 1 - u))) 27, .blk b4 (gv 0 Z8 Z8) 27, .blk b3 (encW i 0 d u) 104] ?_ ?_) | (apply Jq_cmp; exact rfl; exact rfl; exact rfl; exact rfl) | (apply Jq_loadW; exact rfl; exact rfl; (exact mb); (omega)) | (apply J_sW; exact rfl; exact rfl; infer_instance; (exact rfl); (omega); (exact gv_one _ _ _); infer_instance) | refine thenQ_normal ?_ | refine thenQ_exit ?_ | refine inBlockQ_here ?_ | refine JC_seq ?_ | refine JC_region ?_ | refine J_nil ?_ | refine JC_ret ?_ | refine JC_exit ?_ | (apply JC_dec_false; exact rfl; omega))
        ·
          refine JC_any (m := 15) rfl [.blk b3 (encW i 0 d u) 104] mixed (by ((repeat (apply sub_cons; (focus ((with_reducible (repeat (first | exact m0 | refine mS ?_))); done)))); exact sub_nil)) ?_
          (apply JF_q 0; exact rfl; kernel_rfl; exact rfl; (intro E hE; (apply q_move; exact rfl)))
          (apply JF_q 1; exact rfl; kernel_rfl; exact rfl; (intro E hE; (apply q_fieldAddr; exact rfl)))
          (apply JF_q 2; exact rfl; kernel_rfl; exact rfl; (intro E hE; (apply q_load; exact rfl; (refine hE _ ?_; exact mb); (exact rfl))))
          (apply JF_q 3; exact rfl; kernel_rfl; exact rfl; (intro E hE; (apply q_fieldAddr; exact rfl)))
          (apply JF_q 4; exact rfl; kernel_rfl; exact rfl; (intro E hE; (apply q_load; exact rfl; (refine hE _ ?_; exact mb); (exact rfl))))
          (apply JF_q 5; exact rfl; kernel_rfl; exact rfl; (intro E hE; ((apply q_addR (r := ((i + d : Nat) : Int)); exact rfl; exact rfl; omega; exact rfl))))
          (apply JF_q 6; exact rfl; kernel_rfl; exact rfl; (intro E hE; (apply q_move; exact rfl)))
          (apply JF_q 7; exact rfl; kernel_rfl; exact rfl; (intro E hE; (apply q_fieldAddr; exact rfl)))
          (apply JF_q 8; exact rfl; kernel_rfl; exact rfl; (intro E hE; (apply q_load; exact rfl; (refine hE _ ?_; exact mb); (exact rfl))))
          (apply JF_q 9; exact rfl; kernel_rfl; exact rfl; (intro E hE; ((apply q_subR (r := ((1 - u : Nat) : Int)); exact rfl; exact rfl; omega; omega))))
          (apply JF_q 10; exact rfl; kernel_rfl; exact rfl; (intro E hE; (apply q_conv; exact rfl; exact wrap8 (by omega))))
          (apply JF_q 11; exact rfl; kernel_rfl; exact rfl; (intro E hE; ((apply q_addwR (r := ((r + 1 - u : Nat) : Int)); exact rfl; exact rfl; (rw [f1]; exact wrap8 (by omega))))))
          (apply JF_q 12; exact rfl; kernel_rfl; exact rfl; (intro E hE; (apply q_nilCheck; exact rfl)))
          (apply JF_q 13; exact rfl; kernel_rfl; exact rfl; (intro E hE; (apply q_indexN; exact rfl; exact rfl; omega)))
          (apply JF_all [14]; kernel_rfl)
          (apply JFs_cons; exact rfl)
          · (apply J_s1; exact rfl; exact rfl; exact rfl; infer_instance; (omega); (refine gv_setX lM ?_; omega); infer_instance)
            (apply J_nil; apply JF_end; ((repeat (apply sub_cons; (focus ((with_reducible (repeat (first | exact m0 | refine mS ?_))); done)))); exact sub_nil))
            (apply JF_done; kernel_rfl)
            (apply thenQ_normal; (refine entP (ent ?_ (List.nil_sublist _)) ?_; (repeat refine fr_cons rfl ?_); exact fr_nil; (repeat (first | exact sp_nil | (with_reducible apply sp0) | (with_reducible apply sp2)))))
          exact JFs_nil
        ·
          refine JC_any (m := 15) rfl [.blk b3 (encW i 0 d u) 104] mixed (by ((repeat (apply sub_cons; (focus ((with_reducible (repeat (first | exact m0 | refine mS ?_))); done)))); exact sub_nil)) ?_
          (apply JF_q 0; exact rfl; kernel_rfl; exact rfl; (intro E hE; (apply q_move; exact rfl)))
          (apply JF_q 1; exact rfl; kernel_rfl; exact rfl; (intro E hE; (apply q_fieldAddr; exact rfl)))
          (apply JF_q 2; exact rfl; kernel_rfl; exact rfl; (intro E hE; (apply q_load; exact rfl; (refine hE _ ?_; exact mb); (exact rfl))))
          (apply JF_q 3; exact rfl; kernel_rfl; exact rfl; (intro E hE; ((apply q_addR (r := ((i + 1 : Nat) : Int)); exact rfl; exact rfl; omega; exact rfl))))
          (apply JF_q 4; exact rfl; kernel_rfl; exact rfl; (intro E hE; (apply q_fieldAddr; exact rfl)))
          (apply JF_q 5; exact rfl; kernel_rfl; exact rfl; (intro E hE; (apply q_load; exact rfl; (refine hE _ ?_; exact mb); (exact rfl))))
          (apply JF_q 6; exact rfl; kernel_rfl; exact rfl; (intro E hE; ((apply q_subR (r := ((i + 1 - d : Nat) : Int)); exact rfl; exact rfl; omega; omega))))
          (apply JF_q 7; exact rfl; kernel_rfl; exact rfl; (intro E hE; (apply q_move; exact rfl)))
          (apply JF_q 8; exact rfl; kernel_rfl; exact rfl; (intro E hE; (apply q_fieldAddr; exact rfl)))
          (apply JF_q 9; exact rfl; kernel_rfl; exact rfl; (intro E hE; (apply q_load; exact rfl; (refine hE _ ?_; exact mb); (exact rfl))))
          (apply JF_q 10; exact rfl; kernel_rfl; exact rfl; (intro E hE; (apply q_conv; exact rfl; exact wrap8 (by omega))))
          (apply JF_q 11; exact rfl; kernel_rfl; exact rfl; (intro E hE; ((apply q_addwR (r := ((r + u : Nat) : Int)); exact rfl; exact rfl; (rw [f2]; exact wrap8 (by omega))))))
          (apply JF_q 12; exact rfl; kernel_rfl; exact rfl; (intro E hE; (apply q_nilCheck; exact rfl)))
          (apply JF_q 13; exact rfl; kernel_rfl; exact rfl; (intro E hE; (apply q_indexN; exact rfl; exact rfl; omega)))
          (apply JF_all [14]; kernel_rfl)
          (apply JFs_cons; exact rfl)
          · (apply J_s1; exact rfl; exact rfl; exact rfl; infer_instance; (omega); (refine gv_setX lM1 ?_; omega); infer_instance)
            (apply J_nil; apply JF_end; ((repeat (apply sub_cons; (focus ((with_reducible (repeat (first | exact m0 | refine mS ?_))); done)))); exact sub_nil))
            (apply JF_done; kernel_rfl)
            (apply thenQ_normal; (refine entP (ent ?_ (List.nil_sublist _)) ?_; (repeat refine fr_cons rfl ?_); exact fr_nil; (repeat (first | exact sp_nil | (with_reducible apply sp0)))))
          exact JFs_nil
        ·
          refine JC_any (m := 16) rfl [.blk b3 (encW i 0 d u) 104] mixed (by ((repeat (apply sub_cons; (focus ((with_reducible (repeat (first | exact m0 | refine mS ?_))); done)))); exact sub_nil)) ?_
          (apply JF_q 0; exact rfl; kernel_rfl; exact rfl; (intro E hE; (apply q_move; exact rfl)))
          (apply JF_q 1; exact rfl; kernel_rfl; exact rfl; (intro E hE; (apply q_fieldAddr; exact rfl)))
          (apply JF_q 2; exact rfl; kernel_rfl; exact rfl; (intro E hE; (apply q_load; exact rfl; (refine hE _ ?_; exact mb); (exact rfl))))
          (apply JF_q 3; exact rfl; kernel_rfl; exact rfl; (intro E hE; ((apply q_addR (r := ((i + 1 : Nat) : Int)); exact rfl; exact rfl; omega; exact rfl))))
          (apply JF_q 4; exact rfl; kernel_rfl; exact rfl; (intro E hE; (apply q_fieldAddr; exact rfl)))
          (apply JF_q 5; exact rfl; kernel_rfl; exact rfl; (intro E hE; (apply q_load; exact rfl; (refine hE _ ?_; exact mb); (exact rfl))))
          (apply JF_q 6; exact rfl; kernel_rfl; exact rfl; (intro E hE; ((apply q_subR (r := ((i + 1 - d : Nat) : Int)); exact rfl; exact rfl; omega; omega))))
          (apply JF_q 7; exact rfl; kernel_rfl; exact rfl; (intro E hE; (apply q_move; exact rfl)))
          (apply JF_q 8; exact rfl; kernel_rfl; exact rfl; (intro E hE; (apply q_fieldAddr; exact rfl)))
          (apply JF_q 9; exact rfl; kernel_rfl; exact rfl; (intro E hE; (apply q_load; exact rfl; (refine hE _ ?_; exact mb); (exact rfl))))
          (apply JF_q 10; exact rfl; kernel_rfl; exact rfl; (intro E hE; ((apply q_subR (r := ((1 - u : Nat) : Int)); exact rfl; exact rfl; omega; omega))))
          (apply JF_q 11; exact rfl; kernel_rfl; exact rfl; (intro E hE; (apply q_conv; exact rfl; exact wrap8 (by omega))))
          (apply JF_q 12; exact rfl; kernel_rfl; exact rfl; (intro E hE; ((apply q_addwR (r := ((r + 1 - u : Nat) : Int)); exact rfl; exact rfl; (rw [f1]; exact wrap8 (by omega))))))
          (apply JF_q 13; exact rfl; kernel_rfl; exact rfl; (intro E hE; (apply q_nilCheck; exact rfl)))
          (apply JF_q 14; exact rfl; kernel_rfl; exact rfl; (intro E hE; (apply q_indexN; exact rfl; exact rfl; omega)))
          (apply JF_all [15]; kernel_rfl)
          (apply JFs_cons; exact rfl)
          · (apply J_s1; exact rfl; exact rfl; exact rfl; infer_instance; (omega); (exact gv_setO lM2); infer_instance)
            (apply J_nil; apply JF_end; ((repeat (apply sub_cons; (focus ((with_reducible (repeat (first | exact m0 | refine mS ?_))); done)))); exact sub_nil))
            (apply JF_done; kernel_rfl)
            (apply thenQ_normal; (refine entP (ent ?_ (List.nil_sublist _)) ?_; (repeat refine fr_cons rfl ?_); exact fr_nil; (repeat (first | exact sp_nil | (with_reducible apply sp0)))))
          exact JFs_nil
        · exact gC rfl rfl rfl mb uE rfl
set_option maxRecDepth 100000 in
theorem grown1_gives (n : Nat) (X O : List Nat) (i d u : Nat) (bX : isB X) (bO : isB O) (h8 : n < 8) (hX : ∀ j, j < n → X.getD j 0 < n) (hO : ∀ j, j < n → O.getD j 0 < n) (hi : i < n) (hd : d ≤ 1) (hu : u ≤ 1) (w : World) :
    Gives Try.prog 76 #[.agg (gv n X O).toArray, .agg (encW i 1 d u).toArray] (.agg (gv ((n + 1 : Nat) : Int) (gThr n i (O.getD i 0) d u X) (gMine n i (O.getD i 0) d u O)).toArray) w := by
  have ug := gv_len (n := (n : Int)) bX.1 bO.1
  have kX := bX.1
  have kO := bO.1
  have uX := (u8s_len X).trans kX
  have uO := (u8s_len O).trans kO
  have uw : (encW i 1 d u).length = 4 := rfl
  refine gives_of (args := [.agg (gv n X O).toArray, .agg (encW i 1 d u).toArray]) [(0, .agg (gv n X O).toArray), (1, .agg (encW i 1 d u).toArray)] [] Try.func76 rfl Try.ntmps76 rfl (argsF_cons rfl (argsF_cons rfl argsF_nil)) (Holds.start w) ?_
  repeat' (first | (apply J_box; exact rfl; exact rfl; exact rfl; (intro _)) | (apply J_alloc (cs := gv 0 Z8 Z8); exact rfl; exact rfl; (intro _)) | refine thenQ_normal ?_ | refine JC_seq ?_ | refine JC_region ?_ | refine J_nil ?_)
  rename_i b2 b3 b4
  refine JC_cutT (Y := Nat × Nat) (fun _ => True) (fun p => [(2, .pointer (some ⟨b2, 0, none⟩)), (3, .pointer (some ⟨b3, 0, none⟩)), (4, .pointer (some ⟨b4, 0, none⟩)), (5, .pointer (some ⟨p.1, 0, none⟩)), (6, .pointer (some ⟨p.2, 0, none⟩))])
    (fun p => [.blk p.1 (u8s O) 22, .blk p.2 (u8s X) 22, .blk b4 (gv 0 Z8 Z8) 27, .blk b3 (encW i 1 d u) 104, .blk b2 (gv n X O) 27]) ?_ ?_
  ·
    refine JC_any (m := 15) rfl _ mixed (fun _ h => h) ?_
    (apply JF_q 0; exact rfl; kernel_rfl; exact rfl; (intro E hE; (apply q_fieldAddr; exact rfl)))
    (apply JF_q 1; exact rfl; kernel_rfl; exact rfl; (intro E hE; (apply q_load; exact rfl; (refine hE _ ?_; exact mb); (exact rfl))))
    (apply JF_q 2; exact rfl; kernel_rfl; exact rfl; (intro E hE; (apply q_callE; exact rfl; exact rfl; infer_instance; ((intro w hw); exact rows1_gives _ w))))
    (apply JF_q 3; exact rfl; kernel_rfl; exact rfl; (intro E hE; (apply q_nilCheck; exact rfl)))
    (apply JF_q 4; exact rfl; kernel_rfl; exact rfl; (intro E hE; (apply q_loadA; exact rfl; (refine hE _ ?_; exact mb); (exact gv_arrO kX kO); (omega))))
    (apply JF_q 5; exact rfl; kernel_rfl; exact rfl; (intro E hE; (apply q_fieldAddr; exact rfl)))
    (apply JF_q 6; exact rfl; kernel_rfl; exact rfl; (intro E hE; (apply q_load; exact rfl; (refine hE _ ?_; exact mb); (exact rfl))))
    (apply JF_q 7; exact rfl; kernel_rfl; exact rfl; (intro E hE; (apply q_sub; exact rfl; exact rfl; omega)))
    (apply JF_q 8; exact rfl; kernel_rfl; exact rfl; (intro E hE; (apply q_callE; exact rfl; exact rfl; infer_instance; ((intro w hw); exact rows0_gives _ w))))
    (apply JF_q 9; exact rfl; kernel_rfl; exact rfl; (intro E hE; (apply q_nilCheck; exact rfl)))
    (apply JF_q 10; exact rfl; kernel_rfl; exact rfl; (intro E hE; (apply q_loadA; exact rfl; (refine hE _ ?_; exact mb); (exact gv_arrX kX); (omega))))
    (apply JF_all [11, 12]; kernel_rfl)
    (apply JFs_cons; exact rfl)
    · (apply J_alloc (cs := u8s Z8); exact rfl; exact rfl; (intro _))
      (apply J_nil; apply JF_end; ((repeat (apply sub_cons; (focus ((with_reducible (repeat (first | exact m0 | refine mS ?_))); done)))); exact sub_nil))
      (apply JF_all [12]; kernel_rfl)
      (apply JFs_cons; exact rfl)
      · (apply J_alloc (cs := u8s Z8); exact rfl; exact rfl; (intro _))
        (apply J_nil; apply JF_end; ((repeat (apply sub_cons; (focus ((with_reducible (repeat (first | exact m0 | refine mS ?_))); done)))); exact sub_nil))
        (apply JF_all [13]; kernel_rfl)
        (apply JFs_cons; exact rfl)
        · (apply J_sW; exact rfl; exact rfl; infer_instance; (exact rfl); (omega); (exact u8s_one _); infer_instance)
          (apply J_nil; apply JF_end; ((repeat (apply sub_cons; (focus ((with_reducible (repeat (first | exact m0 | refine mS ?_))); done)))); exact sub_nil))
          (apply JF_all [14]; kernel_rfl)
          (apply JFs_cons; exact rfl)
          · (apply J_sW; exact rfl; exact rfl; infer_instance; (exact rfl); (omega); (exact u8s_one _); infer_instance)
            (apply J_nil; apply JF_end; ((repeat (apply sub_cons; (focus ((with_reducible (repeat (first | exact m0 | refine mS ?_))); done)))); exact sub_nil))
            (apply JF_done; kernel_rfl)
            (apply thenQ_normal; apply ex2; refine ⟨trivial, ?_⟩; (refine entP (ent ?_ (List.nil_sublist _)) ?_; (repeat refine fr_cons rfl ?_); exact fr_nil; (repeat (first | exact sp_nil | (with_reducible apply sp0) | (with_reducible apply sp1)))))
          exact JFs_nil
        exact JFs_nil
      exact JFs_nil
    (apply JFs_cons; exact rfl)
    · (apply J_alloc (cs := u8s Z8); exact rfl; exact rfl; (intro _))
      (apply J_nil; apply JF_end; ((repeat (apply sub_cons; (focus ((with_reducible (repeat (first | exact m0 | refine mS ?_))); done)))); exact sub_nil))
      (apply JF_all [11]; kernel_rfl)
      (apply JFs_cons; exact rfl)
      · (apply J_alloc (cs := u8s Z8); exact rfl; exact rfl; (intro _))
        (apply J_nil; apply JF_end; ((repeat (apply sub_cons; (focus ((with_reducible (repeat (first | exact m0 | refine mS ?_))); done)))); exact sub_nil))
        (apply JF_all [13]; kernel_rfl)
        (apply JFs_cons; exact rfl)
        · (apply J_sW; exact rfl; exact rfl; infer_instance; (exact rfl); (omega); (exact u8s_one _); infer_instance)
          (apply J_nil; apply JF_end; ((repeat (apply sub_cons; (focus ((with_reducible (repeat (first | exact m0 | refine mS ?_))); done)))); exact sub_nil))
          (apply JF_all [14]; kernel_rfl)
          (apply JFs_cons; exact rfl)
          · (apply J_sW; exact rfl; exact rfl; infer_instance; (exact rfl); (omega); (exact u8s_one _); infer_instance)
            (apply J_nil; apply JF_end; ((repeat (apply sub_cons; (focus ((with_reducible (repeat (first | exact m0 | refine mS ?_))); done)))); exact sub_nil))
            (apply JF_done; kernel_rfl)
            (apply thenQ_normal; apply ex2; refine ⟨trivial, ?_⟩; (refine entP (ent ?_ (List.nil_sublist _)) ?_; (repeat refine fr_cons rfl ?_); exact fr_nil; (repeat (first | exact sp_nil | (with_reducible apply sp0)))))
          exact JFs_nil
        exact JFs_nil
      exact JFs_nil
    exact JFs_nil
  · rintro ⟨b5, b6⟩ _
    dsimp only
    have e1 : (n : Int) + 1 = ((n + 1 : Nat) : Int) := rfl
    have hr := hO i hi
    have lZ : Z8.length = 8 := rfl
    have uz := gv_len (n := ((n + 1 : Nat) : Int)) lZ lZ
    generalize hrr : O.getD i 0 = r at *
    repeat' (first | (apply Jq_addR; exact rfl; exact rfl; exact rfl; omega; exact e1) | (apply Jq_move; exact rfl; exact rfl) | (apply Jq_assign; exact rfl; exact rfl) | (apply Jq_load; exact rfl; exact rfl; (exact mb); (first | exact rfl | (refine (u8s_at ?_).trans (congrArg (fun z : Nat => some (Value.int .u8 (z : Int))) hrr); omega))) | (apply Jq_fieldAddr; exact rfl; exact rfl) | (apply Jq_indexN; exact rfl; exact rfl; exact rfl; omega) | (apply Jq_sub; exact rfl; exact rfl; exact rfl; omega) | (apply Jc; exact rfl; exact rfl; exact rfl; infer_instance; ((intro w hw); first | exact rows0_gives _ w | exact rows1_gives _ w | exact n_gives n X O w)) | (apply Jq_loadW; exact rfl; exact rfl; (exact mb); (omega)) | (apply J_sW; exact rfl; exact rfl; infer_instance; (exact rfl); (exact rfl); (exact ones_of rfl); infer_instance) | (apply Jq_buildE; exact rfl; exact rfl; exact built_grid _) | (apply J_alloc (cs := gv 0 Z8 Z8); exact rfl; exact rfl; (intro _)) | refine thenQ_normal ?_ | refine JC_seq ?_ | refine JC_region ?_ | (apply JC_draw mixed; kernel_rfl) | refine J_nil ?_ | refine JC_block ?_)
    rename_i b8
    refine JC_loop (X := Nat) (fun k => k ≤ n) (fun k => [(41, .int .i64 (k : Int)), (40, .int .i64 (n : Int)), (7, .int .u8 (r : Int)), (9, .pointer (some ⟨b8, 0 + 9, none⟩)), (10, .pointer (some ⟨b8, 0 + 1, none⟩)), (8, .pointer (some ⟨b8, 0, none⟩)), (5, .pointer (some ⟨b5, 0, none⟩)), (6, .pointer (some ⟨b6, 0, none⟩)), (3, .pointer (some ⟨b3, 0, none⟩)), (4, .pointer (some ⟨b4, 0, none⟩))])
      (fun k => [.blk b8 (gv ((n + 1 : Nat) : Int) (colT i d (fun c => lift r u (X.getD c 0)) k) (colT i d (fun c => bump r (O.getD c 0)) k)) 27, .blk b5 (u8s O) 22, .blk b6 (u8s X) 22, .blk b4 (gv 0 Z8 Z8) 27, .blk b3 (encW i 1 d u) 104]) (fun k => n - k) 0 (Nat.zero_le _) ?_ ?_
    · rw [colT_zero, colT_zero]
      (refine ent ?_ ?_; (repeat refine fr_cons rfl ?_); exact fr_nil; (repeat (first | exact List.nil_sublist _ | refine List.Sublist.cons_cons _ ?_)))
    · intro k hk
      by_cases hlt : k < n
      · have hD := toC_lt (d := d) hi hd hlt
        have hD8 : toC i d k < 8 := by omega
        have ht : toC i d k = if k = i then i + d else if i < k then k + 1 else k := by unfold toC; split <;> split <;> (try split) <;> omega
        have lM : (colT i d (fun c => bump r (O.getD c 0)) k).length = 8 := colT_len
        have lT : (colT i d (fun c => lift r u (X.getD c 0)) k).length = 8 := colT_len
        have sM : (colT i d (fun c => bump r (O.getD c 0)) k).set (toC i d k) (bump r (O.getD k 0)) = colT i d (fun c => bump r (O.getD c 0)) (k + 1) := colT_set (f := fun c => bump r (O.getD c 0)) hd hD8
        have sT : (colT i d (fun c => lift r u (X.getD c 0)) k).set (toC i d k) (lift r u (X.getD k 0)) = colT i d (fun c => lift r u (X.getD c 0)) (k + 1) := colT_set (f := fun c => lift r u (X.getD c 0)) hd hD8
        have xk := hO k hlt
        have ok := hX k hlt
        have hgx := u8s_at (l := O) (k := k) (by omega)
        have hgy := u8s_at (l := X) (k := k) (by omega)
        generalize colT i d (fun c => bump r (O.getD c 0)) k = M at *
        generalize colT i d (fun c => lift r u (X.getD c 0)) k = T at *
        generalize toC i d k = D at *
        generalize O.getD k 0 = x at *
        generalize X.getD k 0 = y at *
        have lMx : (M.set D x).length = 8 := (List.length_set ..).trans lM
        have lTy : (T.set D y).length = 8 := (List.length_set ..).trans lT
        have g1 := gv_len (n := ((n + 1 : Nat) : Int)) lT lM
        have g2 := gv_len (n := ((n + 1 : Nat) : Int)) lT lMx
        have g3 := gv_len (n := ((n + 1 : Nat) : Int)) lTy lM
        have e2 : (k : Int) + 1 = ((k + 1 : Nat) : Int) := rfl
        have e3 : (i : Int) + (d : Int) = ((i + d : Nat) : Int) := rfl
        repeat' (first | (refine JC_cut1 (x := .seq (.region 9 _ _) _) [(12, .int .i64 ((if i < k then k + 1 else k : Nat) : Int)), (11, .int .i64 (k : Int)), (41, .int .i64 (k : Int)), (40, .int .i64 (n : Int)), (7, .int .u8 (r : Int)), (9, .pointer (some ⟨b8, 0 + 9, none⟩)), (10, .pointer (some ⟨b8, 0 + 1, none⟩)), (8, .pointer (some ⟨b8, 0, none⟩)), (5, .pointer (some ⟨b5, 0, none⟩)), (6, .pointer (some ⟨b6, 0, none⟩)), (3, .pointer (some ⟨b3, 0, none⟩)), (4, .pointer (some ⟨b4, 0, none⟩))] [.blk b8 (gv ((n + 1 : Nat) : Int) (T) (M)) 27, .blk b5 (u8s O) 22, .blk b6 (u8s X) 22, .blk b4 (gv 0 Z8 Z8) 27, .blk b3 (encW i 1 d u) 104] ?_ ?_) | (refine JC_cut1 (x := .seq (.region 11 _ _) _) [(12, .int .i64 (D : Int)), (11, .int .i64 (k : Int)), (41, .int .i64 (k : Int)), (40, .int .i64 (n : Int)), (7, .int .u8 (r : Int)), (9, .pointer (some ⟨b8, 0 + 9, none⟩)), (10, .pointer (some ⟨b8, 0 + 1, none⟩)), (8, .pointer (some ⟨b8, 0, none⟩)), (5, .pointer (some ⟨b5, 0, none⟩)), (6, .pointer (some ⟨b6, 0, none⟩)), (3, .pointer (some ⟨b3, 0, none⟩)), (4, .pointer (some ⟨b4, 0, none⟩))] [.blk b8 (gv ((n + 1 : Nat) : Int) (T) (M)) 27, .blk b5 (u8s O) 22, .blk b6 (u8s X) 22, .blk b4 (gv 0 Z8 Z8) 27, .blk b3 (encW i 1 d u) 104] ?_ ?_) | (refine JC_cutT (x := .region 13 _ _) (Y := Unit) (fun _ => True) (fun _ => [(12, .int .i64 (D : Int)), (11, .int .i64 (k : Int)), (41, .int .i64 (k : Int)), (40, .int .i64 (n : Int)), (7, .int .u8 (r : Int)), (9, .pointer (some ⟨b8, 0 + 9, none⟩)), (10, .pointer (some ⟨b8, 0 + 1, none⟩)), (8, .pointer (some ⟨b8, 0, none⟩)), (5, .pointer (some ⟨b5, 0, none⟩)), (6, .pointer (some ⟨b6, 0, none⟩)), (3, .pointer (some ⟨b3, 0, none⟩)), (4, .pointer (some ⟨b4, 0, none⟩))]) (fun _ => [.blk b8 (gv ((n + 1 : Nat) : Int) (T.set D y) (M.set D x)) 27, .blk b5 (u8s O) 22, .blk b6 (u8s X) 22, .blk b4 (gv 0 Z8 Z8) 27, .blk b3 (encW i 1 d u) 104]) ?_ ?_) | (apply Jq_addR; exact rfl; exact rfl; exact rfl; omega; first | exact e2 | exact e3) | (apply Jq_move; exact rfl; exact rfl) | (apply Jq_assign; exact rfl; exact rfl) | (apply Jq_load; exact rfl; exact rfl; (exact mb); (exact rfl)) | (apply Jq_fieldAddr; exact rfl; exact rfl) | (apply Jq_cmp; exact rfl; exact rfl; exact rfl; exact rfl) | refine thenQ_normal ?_ | refine JC_seq ?_ | refine JC_region ?_ | refine J_nil ?_ | refine JC_block ?_ | refine JC_skip ?_ | (apply JC_dec_true; exact rfl; omega) | refine JC_dec rfl (fun _ => ?_) (fun _ => ?_))
        · rw [if_pos (by omega)]
          (refine ent ?_ ?_; (repeat refine fr_cons rfl ?_); exact fr_nil; (repeat (exact List.Sublist.refl _)))
        · rw [if_neg (by omega)]
          (refine ent ?_ ?_; (repeat refine fr_cons rfl ?_); exact fr_nil; (repeat (exact List.Sublist.refl _)))
        · rw [show D = i + d from ht.trans (if_pos (by omega))]
          (refine ent ?_ ?_; (repeat refine fr_cons rfl ?_); exact fr_nil; (repeat (exact List.Sublist.refl _)))
        · rw [show D = if i < k then k + 1 else k from ht.trans (if_neg (by omega))]
          (refine ent ?_ ?_; (repeat refine fr_cons rfl ?_); exact fr_nil; (repeat (exact List.Sublist.refl _)))
        ·
          refine JC_any (m := 16) rfl [.blk b5 (u8s O) 22, .blk b6 (u8s X) 22] mixed (by ((repeat (apply sub_cons; (focus ((with_reducible (repeat (first | exact m0 | refine mS ?_))); done)))); exact sub_nil)) ?_
          (apply JF_q 0; exact rfl; kernel_rfl; exact rfl; (intro E hE; (apply q_move; exact rfl)))
          (apply JF_q 1; exact rfl; kernel_rfl; exact rfl; (intro E hE; (apply q_move; exact rfl)))
          (apply JF_q 2; exact rfl; kernel_rfl; exact rfl; (intro E hE; (apply q_move; exact rfl)))
          (apply JF_q 3; exact rfl; kernel_rfl; exact rfl; (intro E hE; (apply q_move; exact rfl)))
          (apply JF_q 4; exact rfl; kernel_rfl; exact rfl; (intro E hE; (apply q_move; exact rfl)))
          (apply JF_q 5; exact rfl; kernel_rfl; exact rfl; (intro E hE; (apply q_indexN; exact rfl; exact rfl; omega)))
          (apply JF_q 6; exact rfl; kernel_rfl; exact rfl; (intro E hE; (apply q_load; exact rfl; (refine hE _ ?_; exact mb); (exact hgx))))
          (apply JF_q 7; exact rfl; kernel_rfl; exact rfl; (intro E hE; (apply q_move; exact rfl)))
          (apply JF_q 8; exact rfl; kernel_rfl; exact rfl; (intro E hE; (apply q_indexN; exact rfl; exact rfl; omega)))
          (apply JF_q 9; exact rfl; kernel_rfl; exact rfl; (intro E hE; (apply q_load; exact rfl; (refine hE _ ?_; exact mb); (exact hgy))))
          (apply JF_q 10; exact rfl; kernel_rfl; exact rfl; (intro E hE; (apply q_nilCheck; exact rfl)))
          (apply JF_q 11; exact rfl; kernel_rfl; exact rfl; (intro E hE; (apply q_indexN; exact rfl; exact rfl; omega)))
          (apply JF_q 13; exact rfl; kernel_rfl; exact rfl; (intro E hE; (apply q_nilCheck; exact rfl)))
          (apply JF_all [12]; kernel_rfl)
          (apply JFs_cons; exact rfl)
          · (apply J_s1; exact rfl; exact rfl; exact rfl; infer_instance; (omega); (exact gv_setO lT); infer_instance)
            (apply J_nil; apply JF_end; ((repeat (apply sub_cons; (focus ((with_reducible (repeat (first | exact m0 | refine mS ?_))); done)))); exact sub_nil))
            (apply JF_q 14; exact rfl; kernel_rfl; exact rfl; (intro E hE; (apply q_indexN; exact rfl; exact rfl; omega)))
            (apply JF_all [15]; kernel_rfl)
            (apply JFs_cons; exact rfl)
            · (apply J_s1; exact rfl; exact rfl; exact rfl; infer_instance; (omega); (refine gv_setX lT ?_; omega); infer_instance)
              (apply J_nil; apply JF_end; ((repeat (apply sub_cons; (focus ((with_reducible (repeat (first | exact m0 | refine mS ?_))); done)))); exact sub_nil))
              (apply JF_done; kernel_rfl)
              (apply thenQ_normal; refine ⟨(), trivial, ?_⟩; (refine entP (ent ?_ (List.nil_sublist _)) ?_; (repeat refine fr_cons rfl ?_); exact fr_nil; (repeat (first | exact sp_nil | (with_reducible apply sp0)))))
            exact JFs_nil
          exact JFs_nil
        · rintro ⟨⟩ _
          have lM1 : (M.set D x).length = 8 := (List.length_set ..).trans lM
          have lT1 : (T.set D y).length = 8 := (List.length_set ..).trans lT
          have vM1 : (M.set D x).getD D 0 = x := set_at lM hD8
          have vT1 : (T.set D y).getD D 0 = y := set_at lT hD8
          have cM1 : ∀ v, (M.set D x).set D v = M.set D v := fun v => List.set_set ..
          have cT1 : ∀ v, (T.set D y).set D v = T.set D v := fun v => List.set_set ..
          have lM2 : (M.set D (bump r x)).length = 8 := (List.length_set ..).trans lM
          have g4 := gv_len (n := ((n + 1 : Nat) : Int)) lT1 lM1
          have g5 := gv_len (n := ((n + 1 : Nat) : Int)) lT1 lM2
          repeat' (first | (refine JC_cut1 (x := .seq (.region 14 _ _) _) [(12, .int .i64 (D : Int)), (11, .int .i64 (k : Int)), (41, .int .i64 (k : Int)), (40, .int .i64 (n : Int)), (7, .int .u8 (r : Int)), (9, .pointer (some ⟨b8, 0 + 9, none⟩)), (10, .pointer (some ⟨b8, 0 + 1, none⟩)), (8, .pointer (some ⟨b8, 0, none⟩)), (5, .pointer (some ⟨b5, 0, none⟩)), (6, .pointer (some ⟨b6, 0, none⟩)), (3, .pointer (some ⟨b3, 0, none⟩)), (4, .pointer (some ⟨b4, 0, none⟩))] [.blk b8 (gv ((n + 1 : Nat) : Int) (T.set D y) (M.set D (bump r x))) 27, .blk b5 (u8s O) 22, .blk b6 (u8s X) 22, .blk b4 (gv 0 Z8 Z8) 27, .blk b3 (encW i 1 d u) 104] ?_ ?_) | (apply Jq_move; exact rfl; exact rfl) | (apply Jq_assign; exact rfl; exact rfl) | (apply Jq_load; exact rfl; exact rfl; (exact mb); (first | exact hgx | exact hgy)) | (apply Jq_indexN; exact rfl; exact rfl; exact rfl; omega) | (apply Jq_cmp; exact rfl; exact rfl; exact rfl; exact rfl) | (apply Jq_add; exact rfl; exact rfl; exact rfl; omega) | refine thenQ_normal ?_ | refine inBlockQ_normal ?_ | refine JC_seq ?_ | refine JC_region ?_ | refine J_nil ?_ | refine JC_block ?_ | refine JC_skip ?_ | refine JC_dec rfl (fun _ => ?_) (fun _ => ?_))
          · have hb : bump r x = x + 1 := if_pos (by omega)
            have hm1 := gv_O (n := ((n + 1 : Nat) : Int)) lT1 lM1 hD8
            rw [vM1] at hm1
            refine JC_any (m := 9) rfl [.blk b5 (u8s O) 22, .blk b6 (u8s X) 22] mixed (by ((repeat (apply sub_cons; (focus ((with_reducible (repeat (first | exact m0 | refine mS ?_))); done)))); exact sub_nil)) ?_
            (apply JF_q 0; exact rfl; kernel_rfl; exact rfl; (intro E hE; (apply q_move; exact rfl)))
            (apply JF_q 1; exact rfl; kernel_rfl; exact rfl; (intro E hE; (apply q_move; exact rfl)))
            (apply JF_q 2; exact rfl; kernel_rfl; exact rfl; (intro E hE; (apply q_nilCheck; exact rfl)))
            (apply JF_q 3; exact rfl; kernel_rfl; exact rfl; (intro E hE; (apply q_indexN; exact rfl; exact rfl; omega)))
            (apply JF_q 6; exact rfl; kernel_rfl; exact rfl; (intro E hE; (apply q_nilCheck; exact rfl)))
            (apply JF_all [4]; kernel_rfl)
            (apply JFs_cons; exact rfl)
            · (apply Jq_load; exact rfl; exact rfl; exact mb; exact hm1)
              (apply J_nil; apply JF_end; ((repeat (apply sub_cons; (focus ((with_reducible (repeat (first | exact m0 | refine mS ?_))); done)))); exact sub_nil))
              (apply JF_q 5; exact rfl; kernel_rfl; exact rfl; (intro E hE; ((apply q_addwR (r := ((x + 1 : Nat) : Int)); exact rfl; exact rfl; exact wrap8 (r := x + 1) (by omega)))))
              (apply JF_q 7; exact rfl; kernel_rfl; exact rfl; (intro E hE; (apply q_indexN; exact rfl; exact rfl; omega)))
              (apply JF_all [8]; kernel_rfl)
              (apply JFs_cons; exact rfl)
              · (apply J_s1; exact rfl; exact rfl; exact rfl; infer_instance; (omega); (exact gv_setO lT1); infer_instance)
                (apply J_nil; apply JF_end; ((repeat (apply sub_cons; (focus ((with_reducible (repeat (first | exact m0 | refine mS ?_))); done)))); exact sub_nil))
                (apply JF_done; kernel_rfl)
                (apply thenQ_normal; rw [hb, ← cM1 (x + 1)]; (refine entP (ent ?_ (List.nil_sublist _)) ?_; (repeat refine fr_cons rfl ?_); exact fr_nil; (repeat (first | exact sp_nil | (with_reducible apply sp0)))))
              exact JFs_nil
            exact JFs_nil
          · rw [show bump r x = x from if_neg (by omega)]
            (refine ent ?_ ?_; (repeat refine fr_cons rfl ?_); exact fr_nil; (repeat (exact List.Sublist.refl _)))
          · have hb : lift r u y = y + 1 := if_pos (by omega)
            have hm1 := gv_X (n := ((n + 1 : Nat) : Int)) (O := M.set D (bump r x)) lT1 hD8
            rw [vT1] at hm1
            refine JC_any (m := 9) rfl [.blk b5 (u8s O) 22, .blk b6 (u8s X) 22] mixed (by ((repeat (apply sub_cons; (focus ((with_reducible (repeat (first | exact m0 | refine mS ?_))); done)))); exact sub_nil)) ?_
            (apply JF_q 0; exact rfl; kernel_rfl; exact rfl; (intro E hE; (apply q_move; exact rfl)))
            (apply JF_q 1; exact rfl; kernel_rfl; exact rfl; (intro E hE; (apply q_move; exact rfl)))
            (apply JF_q 2; exact rfl; kernel_rfl; exact rfl; (intro E hE; (apply q_nilCheck; exact rfl)))
            (apply JF_q 3; exact rfl; kernel_rfl; exact rfl; (intro E hE; (apply q_indexN; exact rfl; exact rfl; omega)))
            (apply JF_q 6; exact rfl; kernel_rfl; exact rfl; (intro E hE; (apply q_nilCheck; exact rfl)))
            (apply JF_all [4]; kernel_rfl)
            (apply JFs_cons; exact rfl)
            · (apply Jq_load; exact rfl; exact rfl; exact mb; exact hm1)
              (apply J_nil; apply JF_end; ((repeat (apply sub_cons; (focus ((with_reducible (repeat (first | exact m0 | refine mS ?_))); done)))); exact sub_nil))
              (apply JF_q 5; exact rfl; kernel_rfl; exact rfl; (intro E hE; ((apply q_addwR (r := ((y + 1 : Nat) : Int)); exact rfl; exact rfl; exact wrap8 (r := y + 1) (by omega)))))
              (apply JF_q 7; exact rfl; kernel_rfl; exact rfl; (intro E hE; (apply q_indexN; exact rfl; exact rfl; omega)))
              (apply JF_all [8]; kernel_rfl)
              (apply JFs_cons; exact rfl)
              · (apply J_s1; exact rfl; exact rfl; exact rfl; infer_instance; (omega); (refine gv_setX lT1 ?_; omega); infer_instance)
                (apply J_nil; apply JF_end; ((repeat (apply sub_cons; (focus ((with_reducible (repeat (first | exact m0 | refine mS ?_))); done)))); exact sub_nil))
                (apply JF_done; kernel_rfl)
                ((repeat' (first | (apply Jq_move; exact rfl; exact rfl) | (apply Jq_add; exact rfl; exact rfl; exact rfl; omega) | refine thenQ_normal ?_ | refine inBlockQ_normal ?_ | refine JC_region ?_ | refine J_nil ?_)); refine ⟨k + 1, by omega, by omega, ?_⟩; rw [← sM, ← sT, hb, ← cT1 (y + 1)]; (refine entP (ent ?_ (List.nil_sublist _)) ?_; (repeat refine fr_cons rfl ?_); exact fr_nil; (repeat (first | exact sp_nil | (with_reducible apply sp0)))))
              exact JFs_nil
            exact JFs_nil
          · have hb : lift r u y = y + u := by unfold lift; rw [if_neg (by omega), if_pos (by omega)]; omega
            have hm1 := gv_X (n := ((n + 1 : Nat) : Int)) (O := M.set D (bump r x)) lT1 hD8
            rw [vT1] at hm1
            refine JC_any (m := 12) rfl [.blk b3 (encW i 1 d u) 104, .blk b6 (u8s X) 22] mixed (by ((repeat (apply sub_cons; (focus ((with_reducible (repeat (first | exact m0 | refine mS ?_))); done)))); exact sub_nil)) ?_
            (apply JF_q 0; exact rfl; kernel_rfl; exact rfl; (intro E hE; (apply q_move; exact rfl)))
            (apply JF_q 1; exact rfl; kernel_rfl; exact rfl; (intro E hE; (apply q_move; exact rfl)))
            (apply JF_q 2; exact rfl; kernel_rfl; exact rfl; (intro E hE; (apply q_nilCheck; exact rfl)))
            (apply JF_q 3; exact rfl; kernel_rfl; exact rfl; (intro E hE; (apply q_indexN; exact rfl; exact rfl; omega)))
            (apply JF_q 5; exact rfl; kernel_rfl; exact rfl; (intro E hE; (apply q_fieldAddr; exact rfl)))
            (apply JF_q 6; exact rfl; kernel_rfl; exact rfl; (intro E hE; (apply q_load; exact rfl; (refine hE _ ?_; exact mb); (exact rfl))))
            (apply JF_q 7; exact rfl; kernel_rfl; exact rfl; (intro E hE; (apply q_conv; exact rfl; exact wrap8 (by omega))))
            (apply JF_q 9; exact rfl; kernel_rfl; exact rfl; (intro E hE; (apply q_nilCheck; exact rfl)))
            (apply JF_all [4]; kernel_rfl)
            (apply JFs_cons; exact rfl)
            · (apply Jq_load; exact rfl; exact rfl; exact mb; exact hm1)
              (apply J_nil; apply JF_end; ((repeat (apply sub_cons; (focus ((with_reducible (repeat (first | exact m0 | refine mS ?_))); done)))); exact sub_nil))
              (apply JF_q 8; exact rfl; kernel_rfl; exact rfl; (intro E hE; ((apply q_addwR (r := ((y + u : Nat) : Int)); exact rfl; exact rfl; exact wrap8 (r := y + u) (by omega)))))
              (apply JF_q 10; exact rfl; kernel_rfl; exact rfl; (intro E hE; (apply q_indexN; exact rfl; exact rfl; omega)))
              (apply JF_all [11]; kernel_rfl)
              (apply JFs_cons; exact rfl)
              · (apply J_s1; exact rfl; exact rfl; exact rfl; infer_instance; (omega); (refine gv_setX lT1 ?_; omega); infer_instance)
                (apply J_nil; apply JF_end; ((repeat (apply sub_cons; (focus ((with_reducible (repeat (first | exact m0 | refine mS ?_))); done)))); exact sub_nil))
                (apply JF_done; kernel_rfl)
                ((repeat' (first | (apply Jq_move; exact rfl; exact rfl) | (apply Jq_add; exact rfl; exact rfl; exact rfl; omega) | refine thenQ_normal ?_ | refine inBlockQ_normal ?_ | refine JC_region ?_ | refine J_nil ?_)); refine ⟨k + 1, by omega, by omega, ?_⟩; rw [← sM, ← sT, hb, ← cT1 (y + u)]; (refine entP (ent ?_ (List.nil_sublist _)) ?_; (repeat refine fr_cons rfl ?_); exact fr_nil; (repeat (first | exact sp_nil | (with_reducible apply sp0)))))
              exact JFs_nil
            exact JFs_nil
          · have hb : lift r u y = y := by unfold lift; rw [if_neg (by omega), if_neg (by omega)]
            refine ⟨k + 1, by omega, by omega, ?_⟩
            rw [← sM, ← sT, hb]
            (refine ent ?_ ?_; (repeat refine fr_cons rfl ?_); exact fr_nil; (repeat (exact List.Sublist.refl _)))
      · have ekn : k = n := by omega
        rw [ekn]
        clear hlt hk ekn
        have eM := colT_mine (r := r) (u := u) (a := O) hd hi h8
        have eT := colT_thr (r := r) (u := u) (b := X) hd hi h8
        have lM : (colT i d (fun c => bump r (O.getD c 0)) n).length = 8 := colT_len
        have lT : (colT i d (fun c => lift r u (X.getD c 0)) n).length = 8 := colT_len
        rw [← eM, ← eT]
        generalize colT i d (fun c => bump r (O.getD c 0)) n = M at *
        generalize colT i d (fun c => lift r u (X.getD c 0)) n = T at *
        have lM1 : (M.set (i + d) (r + 1 - u)).length = 8 := (List.length_set ..).trans lM
        have lM2 : ((M.set (i + d) (r + 1 - u)).set (i + 1 - d) (r + u)).length = 8 := (List.length_set ..).trans lM1
        have lT1 : (T.set (i + 1 - d) (r + 1 - u)).length = 8 := (List.length_set ..).trans lT
        have uE := gv_len (n := ((n + 1 : Nat) : Int)) lT1 lM2
        have g1 := gv_len (n := ((n + 1 : Nat) : Int)) lT lM
        have g2 := gv_len (n := ((n + 1 : Nat) : Int)) lT lM1
        have g3 := gv_len (n := ((n + 1 : Nat) : Int)) lT lM2
        have f1 : ((r : Nat) : Int) + ((1 - u : Nat) : Int) = ((r + 1 - u : Nat) : Int) := by omega
        have f2 : ((r : Nat) : Int) + ((u : Nat) : Int) = ((r + u : Nat) : Int) := rfl
        repeat' (first | (refine JC_cut1 (x := .region 21 _ _) [(7, .int .u8 (r : Int)), (9, .pointer (some ⟨b8, 0 + 9, none⟩)), (10, .pointer (some ⟨b8, 0 + 1, none⟩)), (8, .pointer (some ⟨b8, 0, none⟩)), (3, .pointer (some ⟨b3, 0, none⟩)), (4, .pointer (some ⟨b4, 0, none⟩))] [.blk b8 (gv ((n + 1 : Nat) : Int) (T) (M.set (i + d) (r + 1 - u))) 27, .blk b4 (gv 0 Z8 Z8) 27, .blk b3 (encW i 1 d u) 104] ?_ ?_) | (refine JC_cut1 (x := .region 22 _ _) [(7, .int .u8 (r : Int)), (9, .pointer (some ⟨b8, 0 + 9, none⟩)), (10, .pointer (some ⟨b8, 0 + 1, none⟩)), (8, .pointer (some ⟨b8, 0, none⟩)), (3, .pointer (some ⟨b3, 0, none⟩)), (4, .pointer (some ⟨b4, 0, none⟩))] [.blk b8 (gv ((n + 1 : Nat) : Int) (T) ((M.set (i + d) (r + 1 - u)).set (i + 1 - d) (r + u))) 27, .blk b4 (gv 0 Z8 Z8) 27, .blk b3 (encW i 1 d u) 104] ?_ ?_) | (refine JC_cut1 (x := .region 23 _ _) [(7, .int .u8 (r : Int)), (9, .pointer (some ⟨b8, 0 + 9, none⟩)), (10, .pointer (some ⟨b8, 0 + 1, none⟩)), (8, .pointer (some ⟨b8, 0, none⟩)), (3, .pointer (some ⟨b3, 0, none⟩)), (4, .pointer (some ⟨b4, 0, none⟩))] [.blk b8 (gv ((n + 1 : Nat) : Int) (T.set (i + 1 - d) (r + 1 - u)) ((M.set (i + d) (r + 1 - u)).set (i + 1 - d) (r + u))) 27, .blk b4 (gv 0 Z8 Z8) 27, .blk b3 (encW i 1 d u) 104] ?_ ?_) | (apply Jq_cmp; exact rfl; exact rfl; exact rfl; exact rfl) | (apply Jq_loadW; exact rfl; exact rfl; (exact mb); (omega)) | (apply J_sW; exact rfl; exact rfl; infer_instance; (exact rfl); (omega); (exact gv_one _ _ _); infer_instance) | refine thenQ_normal ?_ | refine thenQ_exit ?_ | refine inBlockQ_here ?_ | refine JC_seq ?_ | refine JC_region ?_ | refine J_nil ?_ | refine JC_ret ?_ | refine JC_exit ?_ | (apply JC_dec_false; exact rfl; omega))
        ·
          refine JC_any (m := 15) rfl [.blk b3 (encW i 1 d u) 104] mixed (by ((repeat (apply sub_cons; (focus ((with_reducible (repeat (first | exact m0 | refine mS ?_))); done)))); exact sub_nil)) ?_
          (apply JF_q 0; exact rfl; kernel_rfl; exact rfl; (intro E hE; (apply q_move; exact rfl)))
          (apply JF_q 1; exact rfl; kernel_rfl; exact rfl; (intro E hE; (apply q_fieldAddr; exact rfl)))
          (apply JF_q 2; exact rfl; kernel_rfl; exact rfl; (intro E hE; (apply q_load; exact rfl; (refine hE _ ?_; exact mb); (exact rfl))))
          (apply JF_q 3; exact rfl; kernel_rfl; exact rfl; (intro E hE; (apply q_fieldAddr; exact rfl)))
          (apply JF_q 4; exact rfl; kernel_rfl; exact rfl; (intro E hE; (apply q_load; exact rfl; (refine hE _ ?_; exact mb); (exact rfl))))
          (apply JF_q 5; exact rfl; kernel_rfl; exact rfl; (intro E hE; ((apply q_addR (r := ((i + d : Nat) : Int)); exact rfl; exact rfl; omega; exact rfl))))
          (apply JF_q 6; exact rfl; kernel_rfl; exact rfl; (intro E hE; (apply q_move; exact rfl)))
          (apply JF_q 7; exact rfl; kernel_rfl; exact rfl; (intro E hE; (apply q_fieldAddr; exact rfl)))
          (apply JF_q 8; exact rfl; kernel_rfl; exact rfl; (intro E hE; (apply q_load; exact rfl; (refine hE _ ?_; exact mb); (exact rfl))))
          (apply JF_q 9; exact rfl; kernel_rfl; exact rfl; (intro E hE; ((apply q_subR (r := ((1 - u : Nat) : Int)); exact rfl; exact rfl; omega; omega))))
          (apply JF_q 10; exact rfl; kernel_rfl; exact rfl; (intro E hE; (apply q_conv; exact rfl; exact wrap8 (by omega))))
          (apply JF_q 11; exact rfl; kernel_rfl; exact rfl; (intro E hE; ((apply q_addwR (r := ((r + 1 - u : Nat) : Int)); exact rfl; exact rfl; (rw [f1]; exact wrap8 (by omega))))))
          (apply JF_q 12; exact rfl; kernel_rfl; exact rfl; (intro E hE; (apply q_nilCheck; exact rfl)))
          (apply JF_q 13; exact rfl; kernel_rfl; exact rfl; (intro E hE; (apply q_indexN; exact rfl; exact rfl; omega)))
          (apply JF_all [14]; kernel_rfl)
          (apply JFs_cons; exact rfl)
          · (apply J_s1; exact rfl; exact rfl; exact rfl; infer_instance; (omega); (exact gv_setO lT); infer_instance)
            (apply J_nil; apply JF_end; ((repeat (apply sub_cons; (focus ((with_reducible (repeat (first | exact m0 | refine mS ?_))); done)))); exact sub_nil))
            (apply JF_done; kernel_rfl)
            (apply thenQ_normal; (refine entP (ent ?_ (List.nil_sublist _)) ?_; (repeat refine fr_cons rfl ?_); exact fr_nil; (repeat (first | exact sp_nil | (with_reducible apply sp0) | (with_reducible apply sp2)))))
          exact JFs_nil
        ·
          refine JC_any (m := 15) rfl [.blk b3 (encW i 1 d u) 104] mixed (by ((repeat (apply sub_cons; (focus ((with_reducible (repeat (first | exact m0 | refine mS ?_))); done)))); exact sub_nil)) ?_
          (apply JF_q 0; exact rfl; kernel_rfl; exact rfl; (intro E hE; (apply q_move; exact rfl)))
          (apply JF_q 1; exact rfl; kernel_rfl; exact rfl; (intro E hE; (apply q_fieldAddr; exact rfl)))
          (apply JF_q 2; exact rfl; kernel_rfl; exact rfl; (intro E hE; (apply q_load; exact rfl; (refine hE _ ?_; exact mb); (exact rfl))))
          (apply JF_q 3; exact rfl; kernel_rfl; exact rfl; (intro E hE; ((apply q_addR (r := ((i + 1 : Nat) : Int)); exact rfl; exact rfl; omega; exact rfl))))
          (apply JF_q 4; exact rfl; kernel_rfl; exact rfl; (intro E hE; (apply q_fieldAddr; exact rfl)))
          (apply JF_q 5; exact rfl; kernel_rfl; exact rfl; (intro E hE; (apply q_load; exact rfl; (refine hE _ ?_; exact mb); (exact rfl))))
          (apply JF_q 6; exact rfl; kernel_rfl; exact rfl; (intro E hE; ((apply q_subR (r := ((i + 1 - d : Nat) : Int)); exact rfl; exact rfl; omega; omega))))
          (apply JF_q 7; exact rfl; kernel_rfl; exact rfl; (intro E hE; (apply q_move; exact rfl)))
          (apply JF_q 8; exact rfl; kernel_rfl; exact rfl; (intro E hE; (apply q_fieldAddr; exact rfl)))
          (apply JF_q 9; exact rfl; kernel_rfl; exact rfl; (intro E hE; (apply q_load; exact rfl; (refine hE _ ?_; exact mb); (exact rfl))))
          (apply JF_q 10; exact rfl; kernel_rfl; exact rfl; (intro E hE; (apply q_conv; exact rfl; exact wrap8 (by omega))))
          (apply JF_q 11; exact rfl; kernel_rfl; exact rfl; (intro E hE; ((apply q_addwR (r := ((r + u : Nat) : Int)); exact rfl; exact rfl; (rw [f2]; exact wrap8 (by omega))))))
          (apply JF_q 12; exact rfl; kernel_rfl; exact rfl; (intro E hE; (apply q_nilCheck; exact rfl)))
          (apply JF_q 13; exact rfl; kernel_rfl; exact rfl; (intro E hE; (apply q_indexN; exact rfl; exact rfl; omega)))
          (apply JF_all [14]; kernel_rfl)
          (apply JFs_cons; exact rfl)
          · (apply J_s1; exact rfl; exact rfl; exact rfl; infer_instance; (omega); (exact gv_setO lT); infer_instance)
            (apply J_nil; apply JF_end; ((repeat (apply sub_cons; (focus ((with_reducible (repeat (first | exact m0 | refine mS ?_))); done)))); exact sub_nil))
            (apply JF_done; kernel_rfl)
            (apply thenQ_normal; (refine entP (ent ?_ (List.nil_sublist _)) ?_; (repeat refine fr_cons rfl ?_); exact fr_nil; (repeat (first | exact sp_nil | (with_reducible apply sp0)))))
          exact JFs_nil
        ·
          refine JC_any (m := 16) rfl [.blk b3 (encW i 1 d u) 104] mixed (by ((repeat (apply sub_cons; (focus ((with_reducible (repeat (first | exact m0 | refine mS ?_))); done)))); exact sub_nil)) ?_
          (apply JF_q 0; exact rfl; kernel_rfl; exact rfl; (intro E hE; (apply q_move; exact rfl)))
          (apply JF_q 1; exact rfl; kernel_rfl; exact rfl; (intro E hE; (apply q_fieldAddr; exact rfl)))
          (apply JF_q 2; exact rfl; kernel_rfl; exact rfl; (intro E hE; (apply q_load; exact rfl; (refine hE _ ?_; exact mb); (exact rfl))))
          (apply JF_q 3; exact rfl; kernel_rfl; exact rfl; (intro E hE; ((apply q_addR (r := ((i + 1 : Nat) : Int)); exact rfl; exact rfl; omega; exact rfl))))
          (apply JF_q 4; exact rfl; kernel_rfl; exact rfl; (intro E hE; (apply q_fieldAddr; exact rfl)))
          (apply JF_q 5; exact rfl; kernel_rfl; exact rfl; (intro E hE; (apply q_load; exact rfl; (refine hE _ ?_; exact mb); (exact rfl))))
          (apply JF_q 6; exact rfl; kernel_rfl; exact rfl; (intro E hE; ((apply q_subR (r := ((i + 1 - d : Nat) : Int)); exact rfl; exact rfl; omega; omega))))
          (apply JF_q 7; exact rfl; kernel_rfl; exact rfl; (intro E hE; (apply q_move; exact rfl)))
          (apply JF_q 8; exact rfl; kernel_rfl; exact rfl; (intro E hE; (apply q_fieldAddr; exact rfl)))
          (apply JF_q 9; exact rfl; kernel_rfl; exact rfl; (intro E hE; (apply q_load; exact rfl; (refine hE _ ?_; exact mb); (exact rfl))))
          (apply JF_q 10; exact rfl; kernel_rfl; exact rfl; (intro E hE; ((apply q_subR (r := ((1 - u : Nat) : Int)); exact rfl; exact rfl; omega; omega))))
          (apply JF_q 11; exact rfl; kernel_rfl; exact rfl; (intro E hE; (apply q_conv; exact rfl; exact wrap8 (by omega))))
          (apply JF_q 12; exact rfl; kernel_rfl; exact rfl; (intro E hE; ((apply q_addwR (r := ((r + 1 - u : Nat) : Int)); exact rfl; exact rfl; (rw [f1]; exact wrap8 (by omega))))))
          (apply JF_q 13; exact rfl; kernel_rfl; exact rfl; (intro E hE; (apply q_nilCheck; exact rfl)))
          (apply JF_q 14; exact rfl; kernel_rfl; exact rfl; (intro E hE; (apply q_indexN; exact rfl; exact rfl; omega)))
          (apply JF_all [15]; kernel_rfl)
          (apply JFs_cons; exact rfl)
          · (apply J_s1; exact rfl; exact rfl; exact rfl; infer_instance; (omega); (refine gv_setX lT ?_; omega); infer_instance)
            (apply J_nil; apply JF_end; ((repeat (apply sub_cons; (focus ((with_reducible (repeat (first | exact m0 | refine mS ?_))); done)))); exact sub_nil))
            (apply JF_done; kernel_rfl)
            (apply thenQ_normal; (refine entP (ent ?_ (List.nil_sublist _)) ?_; (repeat refine fr_cons rfl ?_); exact fr_nil; (repeat (first | exact sp_nil | (with_reducible apply sp0)))))
          exact JFs_nil
        · exact gC rfl rfl rfl mb uE rfl
end Go.Proofs.Ytflleelfkknfaaa
