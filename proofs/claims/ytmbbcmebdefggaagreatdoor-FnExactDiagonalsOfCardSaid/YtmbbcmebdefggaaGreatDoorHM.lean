/- Walks: grades of states. Walks: the reference's list of states. Walks: places of states in a list. -/
import Derived.Test.YtmbbcmebdefggaaGreatDoorUK
import Derived.Test.YtmbbcmebdefggaaGreatDoorXA
import Derived.Test.YtmbbcmebdefggaaGreatDoorHA
import Derived.Test.YtmbbcmebdefggaaGreatDoorSP
import Derived.Test.YtmbbcmebdefggaaGreatDoorSB
import Derived.Test.YtmbbcmebdefggaaGreatDoorV
import Derived.Test.YtmbbcmebdefggaaGreatDoorTG
import Derived.Test.YtmbbcmebdefggaaGreatDoorPG
import Derived.Test.YtmbbcmebdefggaaGreatDoorTH
namespace Go.Proofs.YtmbbcmebdefggaaGreatDoor
open Go Go.RowKit SL
/-- A state's grade. -/
def grd (n : Nat) (X O : List Nat) (x : StB) : GrB := (mX n x.1 O - mX n x.1 X - n + 1, mX n x.1 O)
theorem mX_bd {n : Nat} (h8 : n ≤ 8) (x o : List Nat) : -127 ≤ mX n x o ∧ mX n x o ≤ 129 := by
  rw [mX_pb]
  have h1 := pb_bd h8 x 0 x 0
  have h2 := pb_bd h8 x 0 o 1
  have h3 := pb_bd h8 o 1 x 0
  have h4 := pb_bd h8 o 1 o 1
  omega
set_option maxRecDepth 100000 in
theorem alex_gives (n : Nat) (X O : List Nat) (x : StB) (bX : isB X) (bO : isB O) (h8 : n ≤ 8) (w : World) :
    Gives Tryz.prog 80 #[.agg (gv (n : Int) X O).toArray, .agg (encS x).toArray] (.int .i64 (grd n X O x).1) w := by
  have ug := gv_len (n := (n : Int)) bX.1 bO.1
  have ux := encS_len x
  have uX : (u8s X).length = 8 := (u8s_len X).trans bX.1
  have uO : (u8s O).length = 8 := (u8s_len O).trans bO.1
  have b1 := mX_bd h8 x.1 O
  have b2 := mX_bd h8 x.1 X
  refine gives_of (args := [.agg (gv (n : Int) X O).toArray, .agg (encS x).toArray]) [(0, .agg (gv (n : Int) X O).toArray), (1, .agg (encS x).toArray)] [] Tryz.func80 rfl Tryz.ntmps80 rfl (argsF_cons rfl (argsF_cons rfl argsF_nil)) (Holds.start w) ?_
  repeat' (first | (apply Jq_assign; exact rfl; exact rfl) | (apply Jq_load; exact rfl; exact rfl; (exact mb); (exact rfl)) | (apply Jq_fieldAddr; exact rfl; exact rfl) | (apply Jq_add; exact rfl; exact rfl; exact rfl; omega) | (apply Jq_sub; exact rfl; exact rfl; exact rfl; omega) | (apply Jc; exact rfl; exact rfl; exact rfl; infer_instance; ((intro w hw); first | exact l05Maslov_gives n X O x.1 O bX bO x.2 bO h8 w | exact l05Maslov_gives n X O x.1 X bX bO x.2 bX h8 w)) | (apply Jq_loadW; exact rfl; exact rfl; (exact mb); (omega)) | (apply Jq_loadA; exact rfl; exact rfl; (exact mb); (first | exact gv_arrX bX.1 | exact gv_arrO bX.1 bO.1); (omega)) | (apply J_box; exact rfl; exact rfl; exact rfl; (intro _)) | refine thenQ_normal ?_ | refine JC_seq ?_ | refine JC_region ?_ | (apply JC_draw mixed; kernel_rfl) | refine J_nil ?_ | refine JC_ret ?_)
  exact g1 rfl rfl rfl rfl
set_option maxRecDepth 100000 in
theorem grade_gives (n : Nat) (X O : List Nat) (x : StB) (bX : isB X) (bO : isB O) (h8 : n ≤ 8) (w : World) :
    Gives Tryz.prog 145 #[.agg (gv (n : Int) X O).toArray, .agg (encS x).toArray] (.agg (encGr (grd n X O x)).toArray) w := by
  have ug := gv_len (n := (n : Int)) bX.1 bO.1
  have ux := encS_len x
  have uX : (u8s X).length = 8 := (u8s_len X).trans bX.1
  have uO : (u8s O).length = 8 := (u8s_len O).trans bO.1
  have b1 := mX_bd h8 x.1 O
  have b2 := mX_bd h8 x.1 X
  have hb : Tryz.prog.built 108 [(0, .int .i64 (mX n x.1 O - mX n x.1 X - n + 1)), (1, .int .i64 (mX n x.1 O))] = some (encGr (grd n X O x)).toArray := by kernel_rfl
  refine gives_of (args := [.agg (gv (n : Int) X O).toArray, .agg (encS x).toArray]) [(0, .agg (gv (n : Int) X O).toArray), (1, .agg (encS x).toArray)] [] Tryz.func145 rfl Tryz.ntmps145 rfl (argsF_cons rfl (argsF_cons rfl argsF_nil)) (Holds.start w) ?_
  repeat' (first | (apply Jq_assign; exact rfl; exact rfl) | (apply Jq_fieldAddr; exact rfl; exact rfl) | (apply Jc; exact rfl; exact rfl; exact rfl; infer_instance; ((intro w hw); exact maslov_gives n X O x.1 O bX bO x.2 bO h8 w)) | (apply Jq_loadW; exact rfl; exact rfl; (exact mb); (omega)) | (apply Jq_loadA; exact rfl; exact rfl; (exact mb); (exact gv_arrO bX.1 bO.1); (omega)) | (apply J_box; exact rfl; exact rfl; exact rfl; (intro _)) | (apply J_alloc (cs := encGr (0, 0)); exact rfl; exact rfl; (intro _)) | refine thenQ_normal ?_ | refine JC_seq ?_ | refine JC_region ?_ | refine J_nil ?_)
  rename_i b2 b3 b4
  refine JC_any (m := 14) rfl [.blk b3 (encS x) 72, .blk b2 (gv (n : Int) X O) 28] mixed (by ((repeat (apply sub_cons; (focus ((with_reducible (repeat (first | exact m0 | refine mS ?_))); done)))); exact sub_nil)) ?_
  (apply JF_q 0; exact rfl; kernel_rfl; exact rfl; (intro E hE; (apply q_move; exact rfl)))
  (apply JF_q 1; exact rfl; kernel_rfl; exact rfl; (intro E hE; (apply q_loadW; exact rfl; (refine hE _ ?_; exact mb); (omega))))
  (apply JF_q 2; exact rfl; kernel_rfl; exact rfl; (intro E hE; (apply q_loadW; exact rfl; (refine hE _ ?_; exact mb); (omega))))
  (apply JF_q 3; exact rfl; kernel_rfl; exact rfl; (intro E hE; (apply q_fieldAddr; exact rfl)))
  (apply JF_q 4; exact rfl; kernel_rfl; exact rfl; (intro E hE; (apply q_loadA; exact rfl; (refine hE _ ?_; exact mb); (exact gv_arrX bX.1); (omega))))
  (apply JF_q 5; exact rfl; kernel_rfl; exact rfl; (intro E hE; (apply q_callE; exact rfl; exact rfl; infer_instance; ((intro w hw); exact maslov_gives n X O x.1 X bX bO x.2 bX h8 w))))
  (apply JF_q 6; exact rfl; kernel_rfl; exact rfl; (intro E hE; (apply q_sub; exact rfl; exact rfl; omega)))
  (apply JF_q 7; exact rfl; kernel_rfl; exact rfl; (intro E hE; (apply q_fieldAddr; exact rfl)))
  (apply JF_q 8; exact rfl; kernel_rfl; exact rfl; (intro E hE; (apply q_load; exact rfl; (refine hE _ ?_; exact mb); (exact rfl))))
  (apply JF_q 9; exact rfl; kernel_rfl; exact rfl; (intro E hE; (apply q_sub; exact rfl; exact rfl; omega)))
  (apply JF_q 10; exact rfl; kernel_rfl; exact rfl; (intro E hE; (apply q_add; exact rfl; exact rfl; omega)))
  (apply JF_q 11; exact rfl; kernel_rfl; exact rfl; (intro E hE; (apply q_move; exact rfl)))
  (apply JF_q 12; exact rfl; kernel_rfl; exact rfl; (intro E hE; (apply q_buildE; exact rfl; exact hb)))
  (apply JF_all [13]; kernel_rfl)
  (apply JFs_cons; exact rfl)
  · (apply J_sW; exact rfl; exact rfl; infer_instance; (exact rfl); (exact rfl); (exact ones_of rfl); infer_instance)
    (apply J_nil; apply JF_end; ((repeat (apply sub_cons; (focus ((with_reducible (repeat (first | exact m0 | refine mS ?_))); done)))); exact sub_nil))
    (apply JF_done; kernel_rfl)
    ((repeat' (first | refine thenQ_normal ?_ | refine JC_ret ?_)); exact gC rfl rfl rfl m0 rfl rfl)
  exact JFs_nil
end Go.Proofs.YtmbbcmebdefggaaGreatDoor
namespace Go.Proofs.YtmbbcmebdefggaaGreatDoor
open Go Go.RowKit SL
/-- Whether one of the first k entries is r. -/
def meB (x : List Nat) (r : Nat) : Nat → Bool
  | 0 => false
  | k + 1 => meB x r k || decide (x.getD k 0 = r)
theorem meB_iff (x : List Nat) (r : Nat) : ∀ k, meB x r k = true ↔ ∃ j, j < k ∧ x.getD j 0 = r
  | 0 => by simp [meB]
  | k + 1 => by
    rw [meB, Bool.or_eq_true, meB_iff x r k, decide_eq_true_iff]
    constructor
    · rintro (⟨j, h, e⟩ | e)
      · exact ⟨j, by omega, e⟩
      · exact ⟨k, by omega, e⟩
    · rintro ⟨j, h, e⟩
      rcases Nat.lt_or_eq_of_le (show j ≤ k by omega) with h2 | h2
      · exact .inl ⟨j, h2, e⟩
      · subst h2; exact .inr e
set_option maxRecDepth 100000 in
theorem lst_gives (n : Nat) (h8 : n ≤ 8) : ∀ (f i : Nat), i + f = n → ∀ (x : List Nat) (used : Nat), PreX n i x used → ∀ (B : Nat) (w0 : World) (Hr : Hp) (v : Value) (xs : List Value), xs.length + (flatS (stF n f x i used)).length ≤ 1000000000 →
    GivesE Tryz.prog 128 #[v, .agg (u8s x).toArray, .int .i64 (i : Int), .int .i64 (n : Int)] B w0 (.row v 72 8 xs :: Hr) (fun v' H' => H' = .row v' 72 8 (xs ++ flatS (stF n f x i used)) :: Hr)
  | 0, i, hi, x, used, hP, B, w0, Hr, v, xs, hl => by
    obtain rfl : i = n := by omega
    have bx := hP.b
    have ux := (u8s_len x).trans bx.1
    have hne : u8s x ≠ [] := fun e => by rw [e] at ux; cases ux
    have he : flatS (stF i 0 x i used) = u8s x := by simp [stF, flatS]
    rw [he] at hl ⊢
    refine givesE_of (args := [v, .agg (u8s x).toArray, .int .i64 (i : Int), .int .i64 (i : Int)]) [(0, v), (1, .agg (u8s x).toArray), (2, .int .i64 (i : Int)), (3, .int .i64 (i : Int))] Tryz.func128 rfl Tryz.ntmps128 rfl (argsF_cons rfl (argsF_cons rfl (argsF_cons rfl (argsF_cons rfl argsF_nil)))) ?_
    repeat' (first | (apply J_lit1s; exact rfl; exact rfl; exact ux; decide; decide; (intro _)) | (apply J_ap; decide; exact rfl; exact rfl; exact rfl; infer_instance; exact m0; exact hne; exact u8s_one _; ((show (_ + _) * _ ≤ _); omega); decide; exact rfl; (intro v')) | (apply Jq_move; exact rfl; exact rfl) | (apply Jq_assign; exact rfl; exact rfl) | (apply Jq_cmp; exact rfl; exact rfl; exact rfl; exact rfl) | (apply Jq_loadW; exact rfl; exact rfl; (exact mb); (omega)) | (apply J_box; exact rfl; exact rfl; exact rfl; (intro _)) | refine thenQ_normal ?_ | refine thenQ_ret ?_ | refine JC_seq ?_ | refine JC_region ?_ | refine J_nil ?_ | refine JC_ret ?_ | (apply JC_dec_true; exact rfl; omega))
    refine e1 (H' := .row v' 72 8 (xs ++ u8s x) :: Hr) rfl rfl rfl ?_ rfl
    (refine ent ?_ ?_; (repeat refine fr_cons rfl ?_); exact fr_nil; (repeat (first | exact List.nil_sublist _ | exact List.Sublist.refl _ | refine List.Sublist.cons_cons _ ?_ | refine List.Sublist.cons _ ?_)))
  | f + 1, i, hi, x, used, hP, B, w0, Hr, v, xs, hl => by
    have ih := lst_gives n h8 f (i + 1) (by omega)
    have bx := hP.b
    have ux := (u8s_len x).trans bx.1
    obtain ⟨G, hG⟩ : ∃ G : Nat → List Value, G = fun r => flatS (if used / 2 ^ r % 2 = 0 then stF n f (x.set i r) (i + 1) (used ||| 2 ^ r) else []) := ⟨_, rfl⟩
    have he0 : flatS (stF n (f + 1) x i used) = (List.range n).flatMap G := by
      rw [hG, stF, flatS, List.flatMap_assoc]; rfl
    rw [he0] at hl ⊢
    refine givesE_of (args := [v, .agg (u8s x).toArray, .int .i64 (i : Int), .int .i64 (n : Int)]) [(0, v), (1, .agg (u8s x).toArray), (2, .int .i64 (i : Int)), (3, .int .i64 (n : Int))] Tryz.func128 rfl Tryz.ntmps128 rfl (argsF_cons rfl (argsF_cons rfl (argsF_cons rfl (argsF_cons rfl argsF_nil)))) ?_
    repeat' (first | (apply Jq_move; exact rfl; exact rfl) | (apply Jq_assign; exact rfl; exact rfl) | (apply Jq_cmp; exact rfl; exact rfl; exact rfl; exact rfl) | (apply J_box; exact rfl; exact rfl; exact rfl; (intro _)) | refine thenQ_normal ?_ | refine JC_seq ?_ | refine JC_region ?_ | refine J_nil ?_ | refine JC_block ?_ | refine JC_skip ?_ | (apply JC_dec_false; exact rfl; omega))
    rename_i b5
    refine JC_loop (X := Nat × Value × List Nat) (fun p => p.1 ≤ n ∧ isB p.2.2 ∧ (∀ q, p.2.2.set i q = x.set i q) ∧ ∀ j, j < i → p.2.2.getD j 0 = x.getD j 0) (fun p => [(9, .int .i64 (p.1 : Int)), (0, p.2.1), (2, .int .i64 (i : Int)), (3, .int .i64 (n : Int)), (5, .pointer (some ⟨b5, 0, none⟩))]) (fun p => .row p.2.1 72 8 (xs ++ (List.range p.1).flatMap G) :: .blk b5 (u8s p.2.2) 72 :: Hr) (fun p => n - p.1) (0, v, x) ⟨Nat.zero_le _, bx, fun _ => rfl, fun _ _ => rfl⟩ ?_ ?_
    · dsimp only
      rw [List.range_zero, List.flatMap_nil, List.append_nil]
      (refine entP (ent ?_ (List.nil_sublist _)) ?_; (repeat refine fr_cons rfl ?_); exact fr_nil; (repeat (first | exact sp_refl | (with_reducible apply sp1))))
    · rintro ⟨r, u, y⟩ ⟨hr, by', hy, hyx⟩
      dsimp only at hr by' hy hyx ⊢
      have uy := (u8s_len y).trans by'.1
      have ly := by'.1
      by_cases hlt : r < n
      · have hmono := pre_mono G (show r + 1 ≤ n by omega)
        rw [pre_succ, List.length_append] at hmono
        repeat' (first | (apply Jq_move; exact rfl; exact rfl) | (apply Jq_assign; exact rfl; exact rfl) | (apply Jq_cmp; exact rfl; exact rfl; exact rfl; exact rfl) | refine thenQ_normal ?_ | refine JC_seq ?_ | refine JC_region ?_ | refine J_nil ?_ | refine JC_block ?_ | refine JC_skip ?_ | (apply JC_dec_true; exact rfl; omega))
        refine JC_cutB (Y := Unit) (fun _ => True) (fun _ => [(10, .bool (meB y r i)), (9, .int .i64 (r : Int)), (0, u), (2, .int .i64 (i : Int)), (3, .int .i64 (n : Int)), (5, .pointer (some ⟨b5, 0, none⟩))]) (fun _ => .row u 72 8 (xs ++ (List.range r).flatMap G) :: .blk b5 (u8s y) 72 :: Hr) ?_ ?_
        · refine JC_loop (X := Nat) (fun k => k ≤ i) (fun k => [(11, .int .i64 (k : Int)), (10, .bool (meB y r k)), (9, .int .i64 (r : Int)), (0, u), (2, .int .i64 (i : Int)), (3, .int .i64 (n : Int)), (5, .pointer (some ⟨b5, 0, none⟩))]) (fun _ => .row u 72 8 (xs ++ (List.range r).flatMap G) :: .blk b5 (u8s y) 72 :: Hr) (fun k => i - k) 0 (Nat.zero_le _) ?_ ?_
          · (refine ent ?_ ?_; (repeat refine fr_cons rfl ?_); exact fr_nil; (repeat (exact List.Sublist.refl _)))
          · intro k hk
            by_cases hlk : k < i
            · have hyk := by'.2 k
              have hx : meB y r (k + 1) = (meB y r k || decide (y.getD k 0 = r)) := rfl
              repeat' (first | (apply Jq_conv; exact rfl; exact rfl; exact wrap_in (by omega)) | (apply Jq_move; exact rfl; exact rfl) | (apply Jq_assign; exact rfl; exact rfl) | (apply Jq_load; exact rfl; exact rfl; (exact mb); (refine u8s_at ?_; omega)) | (apply Jq_indexN; exact rfl; exact rfl; exact rfl; omega) | (apply Jq_cmp; exact rfl; exact rfl; exact rfl; exact rfl) | (apply Jq_add; exact rfl; exact rfl; exact rfl; omega) | (apply Jq_pick_true; exact rfl; exact rfl; exact rfl) | (apply Jq_pick_false; exact rfl; exact rfl; exact rfl) | (apply J_on; exact rfl; exact rfl) | (apply J_skip; exact rfl; exact rfl; exact rfl; exact rfl) | refine thenQ_normal ?_ | refine inBlockQ_normal ?_ | refine JC_seq ?_ | refine JC_region ?_ | refine J_nil ?_ | refine JC_block ?_ | refine JC_skip ?_ | (apply JC_dec_true; exact rfl; omega) | refine J_gb rfl rfl (fun _ => ?_) (fun _ => ?_))
              · rename_i hc
                rw [hc, Bool.true_or] at hx
                refine ⟨k + 1, by omega, by omega, ?_⟩
                rw [hx]
                (refine ent ?_ ?_; (repeat refine fr_cons rfl ?_); exact fr_nil; (repeat (exact List.Sublist.refl _)))
              · rename_i hc
                have ed : decide (y.getD k 0 = r) = decide (((y.getD k 0 : Nat) : Int) = (r : Int)) := decide_eq_decide.2 (by omega)
                rw [hc, Bool.false_or, ed] at hx
                refine ⟨k + 1, by omega, by omega, ?_⟩
                rw [hx]
                (refine ent ?_ ?_; (repeat refine fr_cons rfl ?_); exact fr_nil; (repeat (exact List.Sublist.refl _)))
            · obtain rfl : k = i := by omega
              repeat' (first | (apply Jq_move; exact rfl; exact rfl) | (apply Jq_cmp; exact rfl; exact rfl; exact rfl; exact rfl) | refine thenQ_normal ?_ | refine thenQ_exit ?_ | refine inBlockQ_here ?_ | refine JC_seq ?_ | refine JC_region ?_ | refine J_nil ?_ | refine JC_exit ?_ | (apply JC_dec_false; exact rfl; omega))
              refine ⟨(), trivial, ?_⟩
              (refine ent ?_ ?_; (repeat refine fr_cons rfl ?_); exact fr_nil; (repeat (exact List.Sublist.refl _)))
        · intro _ _
          have hbit := hP.bit r (by omega)
          by_cases hfree : used / 2 ^ r % 2 = 0
          · have hm : meB y r i = false := by
              rw [Bool.eq_false_iff]
              intro h
              obtain ⟨j, hj, e⟩ := (meB_iff y r i).1 h
              exact hbit.1 hfree ⟨j, hj, by rw [← hyx j hj]; exact e⟩
            have hGr : G r = flatS (stF n f (x.set i r) (i + 1) (used ||| 2 ^ r)) := by rw [hG]; simp only [hfree, if_true]
            have e : xs ++ (List.range (r + 1)).flatMap G = xs ++ (List.range r).flatMap G ++ flatS (stF n f (x.set i r) (i + 1) (used ||| 2 ^ r)) := by rw [pre_succ, hGr, List.append_assoc]
            have hbd : (xs ++ (List.range r).flatMap G).length + (flatS (stF n f (x.set i r) (i + 1) (used ||| 2 ^ r))).length ≤ 1000000000 := by
              rw [List.length_append, ← hGr]; omega
            have hst := hP.step h8 (by omega) hlt hfree
            have bx' := hst.b
            have hih := ih (x.set i r) (used ||| 2 ^ r) hst
            have ux' := (u8s_len (x.set i r)).trans bx'.1
            rw [hm]
            repeat' (first | (apply Jq_conv; exact rfl; exact rfl; exact wrap8 (by omega)) | (apply JcE; exact rfl; exact rfl; exact rfl; infer_instance; (exact hih B w0 _ u _ hbd); (intro u' H' hV; subst hV)) | (apply Jq_move; exact rfl; exact rfl) | (apply Jq_assign; exact rfl; exact rfl) | (apply Jq_indexN; exact rfl; exact rfl; exact rfl; omega) | (apply Jq_add; exact rfl; exact rfl; exact rfl; omega) | (apply Jq_not; exact rfl; exact rfl) | (apply Jq_loadW; exact rfl; exact rfl; (exact mb); (omega)) | (apply J_s1; exact rfl; exact rfl; exact rfl; infer_instance; (omega); (exact u8s_set.trans (congrArg u8s (hy r))); infer_instance) | refine thenQ_normal ?_ | refine inBlockQ_normal ?_ | refine JC_seq ?_ | refine JC_region ?_ | refine J_nil ?_ | (apply JC_if_true; exact rfl))
            refine ⟨(r + 1, u', x.set i r), ⟨by (dsimp only; omega), bx', fun q => List.set_set _, fun j hj => ?_⟩, by (dsimp only; omega), ?_⟩
            · dsimp only
              rw [set_getD (by have := bx.1; omega), if_neg (by omega)]
            · dsimp only
              rw [e]
              (refine entP (ent ?_ (List.nil_sublist _)) ?_; (repeat refine fr_cons rfl ?_); exact fr_nil; (repeat (exact sp_refl)))
          · have hm : meB y r i = true := by
              rw [meB_iff]
              rcases Classical.em (∃ j, j < i ∧ x.getD j 0 = r) with ⟨j, hj, e⟩ | h
              · exact ⟨j, hj, by rw [hyx j hj]; exact e⟩
              · exact absurd (hbit.2 h) hfree
            have hGr : G r = [] := by rw [hG]; simp only [hfree, if_false]; rfl
            have e : xs ++ (List.range (r + 1)).flatMap G = xs ++ (List.range r).flatMap G := by rw [pre_succ, hGr, List.append_nil]
            rw [hm]
            repeat' (first | (apply Jq_move; exact rfl; exact rfl) | (apply Jq_assign; exact rfl; exact rfl) | (apply Jq_add; exact rfl; exact rfl; exact rfl; omega) | (apply Jq_not; exact rfl; exact rfl) | refine thenQ_normal ?_ | refine inBlockQ_normal ?_ | refine JC_seq ?_ | refine JC_region ?_ | refine J_nil ?_ | refine JC_skip ?_ | (apply JC_if_false; exact rfl))
            refine ⟨(r + 1, u, y), ⟨by dsimp only; omega, by', hy, hyx⟩, by dsimp only; omega, ?_⟩
            dsimp only
            rw [e]
            (refine entP (ent ?_ (List.nil_sublist _)) ?_; (repeat refine fr_cons rfl ?_); exact fr_nil; (repeat (exact sp_refl)))
      · obtain rfl : r = n := by omega
        repeat' (first | (apply Jq_move; exact rfl; exact rfl) | (apply Jq_assign; exact rfl; exact rfl) | (apply Jq_cmp; exact rfl; exact rfl; exact rfl; exact rfl) | refine thenQ_normal ?_ | refine thenQ_exit ?_ | refine inBlockQ_here ?_ | refine JC_seq ?_ | refine JC_region ?_ | refine J_nil ?_ | refine JC_ret ?_ | refine JC_exit ?_ | (apply JC_dec_false; exact rfl; omega))
        refine e1 (H' := .row u 72 8 (xs ++ (List.range r).flatMap G) :: Hr) rfl rfl rfl ?_ rfl
        (refine ent ?_ ?_; (repeat refine fr_cons rfl ?_); exact fr_nil; (repeat (first | exact List.Sublist.refl _ | refine List.Sublist.cons_cons _ ?_ | refine List.Sublist.cons _ ?_)))
open Classical in
/-- All states of a size. -/
noncomputable def stB (n : Nat) : List StB := (sts n).filterMap fun x => if h : isB x then some ⟨x, h⟩ else none
open Classical in
theorem fm_flat : ∀ (l : List (List Nat)), (∀ y ∈ l, isB y) → (l.filterMap fun x => if h : isB x then some (⟨x, h⟩ : StB) else none).flatMap encS = flatS l ∧ (l.filterMap fun x => if h : isB x then some (⟨x, h⟩ : StB) else none).map (·.1) = l
  | [], _ => ⟨rfl, rfl⟩
  | y :: l, h => by
    obtain ⟨h1, h2⟩ := fm_flat l fun z hz => h z (List.mem_cons_of_mem _ hz)
    have hy := h y List.mem_cons_self
    rw [List.filterMap_cons, dif_pos hy]
    dsimp only
    exact ⟨by rw [List.flatMap_cons, h1, flatS, flatS, List.flatMap_cons]; rfl, by rw [List.map_cons, h2]⟩
theorem stB_flat {n : Nat} (h8 : n ≤ 8) : (stB n).flatMap encS = flatS (sts n) := (fm_flat _ (sts_isB h8)).1
theorem stB_fst {n : Nat} (h8 : n ≤ 8) : (stB n).map (·.1) = sts n := (fm_flat _ (sts_isB h8)).2
theorem stB_perm {n : Nat} (h8 : n ≤ 8) : ∀ x ∈ stB n, isPerm x.1 n := fun x hx => by
  have : x.1 ∈ sts n := by rw [← stB_fst h8]; exact List.mem_map.2 ⟨x, hx, rfl⟩
  exact ((sts_mem h8 _).1 this).1
theorem stB_len {n : Nat} (h6 : n ≤ 6) : (stB n).length ≤ 46656 := by
  have h1 : (stB n).length = (sts n).length := by rw [← stB_fst (show n ≤ 8 by omega), List.length_map]
  have hc := stF_count n n Z8 0 0
  have h3 : n ^ n ≤ 46656 := by
    have h1 : n ^ n ≤ 6 ^ n := Nat.pow_le_pow_left h6 n
    have h2 : (6 : Nat) ^ n ≤ 6 ^ 6 := Nat.pow_le_pow_right (by decide) h6
    omega
  rw [h1]
  exact Nat.le_trans hc h3
set_option maxRecDepth 100000 in
theorem lall_gives {B : Nat} {w0 : World} {H : Hp} (n : Nat) (h8 : n ≤ 8) :
    GivesE Tryz.prog 79 #[.int .i64 (n : Int)] B w0 H (fun v' H' => H' = .row v' 72 8 ((stB n).flatMap encS) :: H) := by
  rw [stB_flat h8]
  have hl := states_len h8
  have h0 := lst_gives n h8 n 0 (by omega) Z8 0 (PreX.start n) B w0 H (.slice none 0 0) [] (by rw [List.length_nil]; omega)
  refine givesE_of (args := [.int .i64 (n : Int)]) [(0, .int .i64 (n : Int))] Tryz.func79 rfl Tryz.ntmps79 rfl (argsF_cons rfl argsF_nil) ?_
  refine JC_nilrow (e := 72) (sz := 8) ?_
  repeat' (first | (apply JcE; exact rfl; exact rfl; exact rfl; infer_instance; (exact h0); (intro v' H' hV; subst hV)) | (apply Jq_move; exact rfl; exact rfl) | (apply Jq_assign; exact rfl; exact rfl) | (apply Jz (cs := u8s Z8); exact rfl; exact rfl) | refine thenQ_normal ?_ | refine JC_seq ?_ | refine JC_region ?_ | refine J_nil ?_ | refine JC_ret ?_)
  refine e1 (H' := .row v' 72 8 (flatS (sts n)) :: H) rfl rfl rfl ?_ rfl
  (refine ent ?_ ?_; (repeat refine fr_cons rfl ?_); exact fr_nil; (repeat (exact List.Sublist.refl _)))
end Go.Proofs.YtmbbcmebdefggaaGreatDoor
namespace Go.Proofs.YtmbbcmebdefggaaGreatDoor
open Go Go.RowKit SL
/-- Each state with its place. -/
def numM (l : List StB) : List (StB × Nat) := l.zipIdx
theorem numM_keys (l : List StB) : (numM l).map (·.1) = l := by unfold numM; rw [← List.unzip_fst, List.unzip_zipIdx_eq_prod]
theorem numM_succ {l : List StB} (hn : l.Nodup) {k : Nat} {x : StB} (hx : l[k]? = some x) : putM (numM (l.take k)) x k = numM (l.take (k + 1)) := by
  have hk := (List.getElem?_eq_some_iff.1 hx).1
  have hno : x ∉ (numM (l.take k)).map (·.1) := by
    rw [numM_keys]
    intro hm
    obtain ⟨i, hi, e⟩ := List.getElem_of_mem hm
    rw [List.length_take] at hi
    have e2 : l[i]? = some x := by
      rw [← List.getElem?_take_of_lt (show i < k by omega), List.getElem?_eq_getElem (by rw [List.length_take]; exact hi), e]
    have := (List.getElem?_inj hk hn).1 (hx.trans e2.symm)
    omega
  unfold putM
  rw [if_neg hno]
  unfold numM
  rw [List.take_add_one, hx, Option.toList_some, List.zipIdx_append, List.length_take]
  simp
  omega
theorem numM_at {l : List StB} {i : Nat} {y : StB} (h : l[i]? = some y) : (numM l)[i]? = some (y, i) := by
  unfold numM
  rw [List.getElem?_zipIdx, h]
  simp
theorem numM_get {l : List StB} (hn : l.Nodup) {i : Nat} {y : StB} : lkM (numM l) y = some i ↔ l[i]? = some y := by
  have hnd : ((numM l).map (·.1)).Nodup := by rw [numM_keys]; exact hn
  have hget : ∀ j, l[j]? = some y → lkM (numM l) y = some j := fun j hj => lkM_get hnd (numM_at hj)
  constructor
  · intro h
    by_cases hy : y ∈ l
    · obtain ⟨j, hj⟩ := List.getElem?_of_mem hy
      rw [hget j hj] at h
      cases h
      exact hj
    · exfalso
      unfold lkM at h
      rw [List.find?_eq_none.2 fun p hp => by
        have : p.1 ∈ l := by rw [← numM_keys l]; exact List.mem_map.2 ⟨p, hp, rfl⟩
        simp only [decide_eq_true_eq]
        exact fun e => hy (e ▸ this)] at h
      cases h
  · exact hget i
set_option maxRecDepth 100000 in
theorem numbered_gives {B : Nat} {w0 : World} {H : Hp} {v : Value} (l : List StB) (hv : It.row v 72 8 (l.flatMap encS) ∈ H) (hn : l.Nodup) (hl : l.length < 100000000) :
    GivesE Tryz.prog 74 #[v] B w0 H (fun v' H' => ∃ b, v' = .map (some b) ∧ H' = .obj b (mapO (encM stK nV (numM l))) :: H) := by
  have iv : RB v H 72 8 (l.flatMap encS) := ⟨hv⟩
  have lf := fl_len encS_len l
  refine givesE_of (args := [v]) [(0, v)] Tryz.func74 rfl Tryz.ntmps74 rfl (argsF_cons rfl argsF_nil) ?_
  repeat' (first | (apply J_makeMap; exact rfl; (intro _)) | (apply Jq_move; exact rfl; exact rfl) | (apply Jq_assign; exact rfl; exact rfl) | (apply Jq_lenRs; exact rfl; exact rfl; (exact rb); exact lf; decide) | refine thenQ_normal ?_ | refine JC_seq ?_ | refine JC_region ?_ | refine J_nil ?_ | refine JC_block ?_)
  rename_i b3
  refine JC_loop (X := Nat) (fun k => k ≤ l.length) (fun k => [(3, .map (some b3)), (7, v), (8, .int .i64 (l.length : Int)), (9, .int .i64 (k : Int))]) (fun k => .obj b3 (mapO (encM stK nV (numM (l.take k)))) :: H) (fun k => l.length - k) 0 (Nat.zero_le _) ?_ ?_
  · (refine ent ?_ ?_; (repeat refine fr_cons rfl ?_); exact fr_nil; (repeat (exact List.Sublist.refl _)))
  · intro k hk
    by_cases hlt : k < l.length
    · obtain ⟨x, hx⟩ : ∃ x, l[k]? = some x := ⟨_, List.getElem?_eq_getElem hlt⟩
      have ux := encS_len x
      have hsu := numM_succ hn hx
      have hnd : ((numM (l.take k)).map (·.1)).Nodup := by rw [numM_keys]; exact hn.sublist (List.take_sublist _ _)
      repeat' (first | (apply J_updT (eV := nV) (E := kencS) (v := k); exact rfl; exact rfl; exact rfl; infer_instance; exact rfl; exact hnd; exact hsu) | (apply Jq_move; exact rfl; exact rfl) | (apply Jq_assign; exact rfl; exact rfl) | (apply Jq_cmp; exact rfl; exact rfl; exact rfl; exact rfl) | (apply Jq_add; exact rfl; exact rfl; exact rfl; omega) | (apply Jq_loadW; exact rfl; exact rfl; (exact mb); (omega)) | (apply J_sW; exact rfl; exact rfl; infer_instance; (exact rfl); (omega); (exact u8s_one _); infer_instance) | (apply Jq_indexRs; exact rfl; exact rfl; exact rfl; (exact rb); omega) | (apply Jq_loadRA; exact rfl; exact rfl; (exact rb); (exact fl_at encS_len hx); (omega); decide) | (apply J_alloc (cs := u8s Z8); exact rfl; exact rfl; (intro _)) | refine thenQ_normal ?_ | refine inBlockQ_normal ?_ | refine JC_seq ?_ | refine JC_region ?_ | refine J_nil ?_ | refine JC_block ?_ | refine JC_skip ?_ | (apply JC_dec_true; exact rfl; omega))
      refine ⟨k + 1, by omega, by omega, ?_⟩
      (refine ent ?_ ?_; (repeat refine fr_cons rfl ?_); exact fr_nil; (repeat (first | exact List.Sublist.refl _ | refine List.Sublist.cons _ ?_)))
    · obtain rfl : k = l.length := by omega
      rw [List.take_length]
      repeat' (first | (apply Jq_move; exact rfl; exact rfl) | (apply Jq_assign; exact rfl; exact rfl) | (apply Jq_cmp; exact rfl; exact rfl; exact rfl; exact rfl) | refine thenQ_normal ?_ | refine thenQ_exit ?_ | refine inBlockQ_here ?_ | refine JC_seq ?_ | refine JC_region ?_ | refine J_nil ?_ | refine JC_ret ?_ | refine JC_exit ?_ | (apply JC_dec_false; exact rfl; omega))
      refine SL.e1 (H' := .obj b3 (mapO (encM stK nV (numM l))) :: H) rfl rfl rfl ?_ ⟨b3, rfl, rfl⟩
      (refine ent ?_ ?_; (repeat refine fr_cons rfl ?_); exact fr_nil; (repeat (exact List.Sublist.refl _)))
end Go.Proofs.YtmbbcmebdefggaaGreatDoor
