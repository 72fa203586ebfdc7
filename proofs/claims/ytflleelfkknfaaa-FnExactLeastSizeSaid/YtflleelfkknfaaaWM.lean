/- Walks: the least of all shifts, in both texts. -/
import Derived.Test.YtflleelfkknfaaaPK
import Derived.Test.YtflleelfkknfaaaWL
namespace Go.Proofs.Ytflleelfkknfaaa
open Go Go.RowKit SL
theorem rolled_cand (n u k : Nat) (X O : List Nat) (bX : isB X) (bO : isB O) (g : okG (n : Int) X O) (hu : u < n) (hk : (n - u) % n = k) (w : World) :
    Gives Try.prog 43 #[.agg (gv n X O).toArray, .int .i64 (-(X.getD k 0 : Int)), .int .i64 (u : Int)] (.agg (gv n (candS n (X, O) u).1 (candS n (X, O) u).2).toArray) w := by
  have hn := g.1
  have pX := g.2.1
  simp only [Int.toNat_natCast] at pX
  have hlt := pX.1 k (by rw [← hk]; exact Nat.mod_lt _ (by omega))
  have h := rolled_gives n u (-(X.getD k 0 : Int)) X O bX bO g (by omega) (by omega) w
  have e : ((-(X.getD k 0 : Int)) % (n : Int)).toNat = vz n X u := by
    rw [vz, hk]
    generalize X.getD k 0 = x at hlt
    by_cases hz : x = 0
    · subst hz; simp
    · rw [Nat.mod_eq_of_lt (by omega), show (-(x : Int)) % n = (n : Int) - x by
        rw [show (-(x : Int)) % (n : Int) = (-(x : Int) + n) % n by rw [Int.add_emod_right]]
        rw [Int.emod_eq_of_lt (by omega) (by omega)]; omega]
      omega
  rw [e] at h
  exact h
set_option maxRecDepth 100000 in
theorem lcan_gives (n : Nat) (X O : List Nat) (bX : isB X) (bO : isB O) (g : okG (n : Int) X O) (w : World) :
    Gives Try.prog 24 #[.agg (gv n X O).toArray] (.agg (gv n (can n (X, O)).1 (can n (X, O)).2).toArray) w := by
  have ug := gv_len (n := n) bX.1 bO.1
  have lX := bX.1
  have hn := g.1
  have hb0 := bX.2 (Int.toNat 0)
  have c0 := cS_ok (k := 0) g
  have lc0 : (gv n (candS n (X, O) 0).1 (candS n (X, O) 0).2).length = 17 := gv_len c0.2.1.1 c0.2.2.1
  refine gives_of (args := [.agg (gv n X O).toArray]) [(0, .agg (gv n X O).toArray)] [] Try.func24 rfl Try.ntmps24 rfl (argsF_cons rfl argsF_nil) (Holds.start w) ?_
  repeat' (first | (apply Jq_assign; exact rfl; exact rfl) | (apply Jq_load; exact rfl; exact rfl; (exact mb); (refine gv_X lX ?_; omega)) | (apply Jq_fieldAddr; exact rfl; exact rfl) | (apply Jq_index; exact rfl; exact rfl; exact rfl; omega; omega) | (apply Jc; exact rfl; exact rfl; exact rfl; infer_instance; ((intro w hw); exact rolled_cand n 0 0 X O bX bO g (by omega) (by rw [Nat.sub_zero, Nat.mod_self]) w)) | (apply Jq_loadW; exact rfl; exact rfl; (exact mb); (omega)) | (apply J_sW; exact rfl; exact rfl; infer_instance; (exact rfl); (omega); (exact gv_one _ _ _); infer_instance) | (apply J_box; exact rfl; exact rfl; exact rfl; (intro _)) | (apply Jq_neg; exact rfl; exact rfl; omega) | (apply J_alloc (cs := gv 0 Z8 Z8); exact rfl; exact rfl; (intro _)) | refine thenQ_normal ?_ | refine JC_seq ?_ | refine JC_region ?_ | refine J_nil ?_ | refine JC_block ?_ | (apply Jq_conv; exact rfl; exact rfl; exact wrap64_nat (bX.2 _)))
  rename_i b1 b2 b3
  refine JC_loop (X := Nat) (fun k => k ≤ n - 1) (fun k => [(4, .int .i64 ((k + 1 : Nat) : Int)), (1, .pointer (some ⟨b1, 0, none⟩)), (2, .pointer (some ⟨b2, 0, none⟩)), (3, .pointer (some ⟨b3, 0, none⟩))])
    (fun k => [.blk b3 (gv n (cS n (X, O) k).1 (cS n (X, O) k).2) 27, .blk b2 (gv 0 Z8 Z8) 27, .blk b1 (gv n X O) 27]) (fun k => n - 1 - k) 0 (Nat.zero_le _) ?_ ?_
  · (refine ent ?_ ?_; (repeat refine fr_cons rfl ?_); exact fr_nil; (repeat (exact List.Sublist.refl _)))
  · intro k hk
    have ck := cS_ok (k := k) g
    have lck := gv_len (n := n) ck.2.1.1 ck.2.2.1
    by_cases hlt : k < n - 1
    · have ca : isB (candS n (X, O) (k + 1)).1 ∧ isB (candS n (X, O) (k + 1)).2 := ⟨isB_rol (by omega) (by omega), isB_rol (by omega) (by omega)⟩
      have lca := gv_len (n := n) ca.1.1 ca.2.1
      have hs : (n : Int) - ((k + 1 : Nat) : Int) = ((n - (k + 1) : Nat) : Int) := by omega
      have hb1 := bX.2 (n - (k + 1))
      repeat' (first | (apply Jq_move; exact rfl; exact rfl) | (apply Jq_load; exact rfl; exact rfl; (exact mb); (exact rfl)) | (apply Jq_fieldAddr; exact rfl; exact rfl) | (apply Jq_cmp; exact rfl; exact rfl; exact rfl; exact rfl) | refine thenQ_normal ?_ | refine JC_seq ?_ | refine JC_region ?_ | refine J_nil ?_ | refine JC_block ?_ | refine JC_skip ?_ | (apply JC_dec_true; exact rfl; omega))
      refine JC_cutT (Y := Nat) (fun _ => True) (fun b => [(4, .int .i64 ((k + 1 : Nat) : Int)), (1, .pointer (some ⟨b1, 0, none⟩)), (2, .pointer (some ⟨b2, 0, none⟩)), (3, .pointer (some ⟨b3, 0, none⟩)), (5, .pointer (some ⟨b, 0, none⟩))])
        (fun b => [.blk b (gv n (candS n (X, O) (k + 1)).1 (candS n (X, O) (k + 1)).2) 27, .blk b3 (gv n (cS n (X, O) k).1 (cS n (X, O) k).2) 27, .blk b2 (gv 0 Z8 Z8) 27, .blk b1 (gv n X O) 27]) ?_ ?_
      ·
        refine JC_any (m := 14) rfl _ mixed (fun _ h => h) ?_
        (apply JF_q 0; exact rfl; kernel_rfl; exact rfl; (intro E hE; (apply q_loadW; exact rfl; (refine hE _ ?_; exact mb); (omega))))
        (apply JF_q 1; exact rfl; kernel_rfl; exact rfl; (intro E hE; (apply q_fieldAddr; exact rfl)))
        (apply JF_q 2; exact rfl; kernel_rfl; exact rfl; (intro E hE; (apply q_load; exact rfl; (refine hE _ ?_; exact mb); (exact rfl))))
        (apply JF_q 3; exact rfl; kernel_rfl; exact rfl; (intro E hE; (apply q_move; exact rfl)))
        (apply JF_q 4; exact rfl; kernel_rfl; exact rfl; (intro E hE; (apply q_subR; exact rfl; exact rfl; omega; exact hs)))
        (apply JF_q 5; exact rfl; kernel_rfl; exact rfl; (intro E hE; (apply q_fieldAddr; exact rfl)))
        (apply JF_q 6; exact rfl; kernel_rfl; exact rfl; (intro E hE; (apply q_indexN; exact rfl; exact rfl; omega)))
        (apply JF_q 7; exact rfl; kernel_rfl; exact rfl; (intro E hE; (apply q_load; exact rfl; (refine hE _ ?_; exact mb); (refine gv_X lX ?_; omega))))
        (apply JF_q 8; exact rfl; kernel_rfl; exact rfl; (intro E hE; (apply q_conv; exact rfl; exact wrap64_nat (bX.2 _))))
        (apply JF_q 9; exact rfl; kernel_rfl; exact rfl; (intro E hE; (apply q_neg; exact rfl; omega)))
        (apply JF_q 10; exact rfl; kernel_rfl; exact rfl; (intro E hE; (apply q_move; exact rfl)))
        (apply JF_q 11; exact rfl; kernel_rfl; exact rfl; (intro E hE; ((apply q_callE; exact rfl; exact rfl; infer_instance; ((intro w hw); exact rolled_cand n (k + 1) (n - (k + 1)) X O bX bO g (by omega) (Nat.mod_eq_of_lt (by omega)) w)))))
        (apply JF_all [12]; kernel_rfl)
        (apply JFs_cons; exact rfl)
        · (apply J_alloc (cs := gv 0 Z8 Z8); exact rfl; exact rfl; (intro _))
          (apply J_nil; apply JF_end; ((repeat (apply sub_cons; (focus ((with_reducible (repeat (first | exact m0 | refine mS ?_))); done)))); exact sub_nil))
          (apply JF_all [13]; kernel_rfl)
          (apply JFs_cons; exact rfl)
          · (apply J_sW; exact rfl; exact rfl; infer_instance; (exact rfl); (omega); (exact gv_one _ _ _); infer_instance)
            (apply J_nil; apply JF_end; ((repeat (apply sub_cons; (focus ((with_reducible (repeat (first | exact m0 | refine mS ?_))); done)))); exact sub_nil))
            (apply JF_done; kernel_rfl)
            (apply thenQ_normal; apply ex1; refine ⟨trivial, ?_⟩; (refine entP (ent ?_ (List.nil_sublist _)) ?_; (repeat refine fr_cons rfl ?_); exact fr_nil; (repeat (first | exact sp_nil | (with_reducible apply sp0)))))
          exact JFs_nil
        exact JFs_nil
      · intro b5 _
        have es : cS n (X, O) (k + 1) = if keyP (candS n (X, O) (k + 1)) < keyP (cS n (X, O) k) then candS n (X, O) (k + 1) else cS n (X, O) k := rfl
        repeat' (first | (apply Jq_move; exact rfl; exact rfl) | (apply Jq_assign; exact rfl; exact rfl) | (apply Jq_add; exact rfl; exact rfl; exact rfl; omega) | (apply Jc; exact rfl; exact rfl; exact rfl; infer_instance; ((intro w hw); exact less_gives n _ _ _ _ ca.1 ca.2 ck.2.1 ck.2.2 w)) | (apply Jq_loadW; exact rfl; exact rfl; (exact mb); (omega)) | (apply J_sW; exact rfl; exact rfl; infer_instance; (omega); (omega); (exact gv_one _ _ _); infer_instance) | refine thenQ_normal ?_ | refine inBlockQ_normal ?_ | refine JC_seq ?_ | refine JC_region ?_ | refine J_nil ?_ | refine JC_skip ?_ | refine JC_dec rfl (fun _ => ?_) (fun _ => ?_))
        · rename_i hl
          have es := es.trans (if_pos hl)
          refine ⟨k + 1, by omega, by omega, ?_⟩
          rw [es]
          (refine ent ?_ ?_; (repeat refine fr_cons rfl ?_); exact fr_nil; (repeat (first | exact List.Sublist.refl _ | refine List.Sublist.cons _ ?_)))
        · rename_i hl
          have es := es.trans (if_neg hl)
          refine ⟨k + 1, by omega, by omega, ?_⟩
          rw [es]
          (refine ent ?_ ?_; (repeat refine fr_cons rfl ?_); exact fr_nil; (repeat (first | exact List.Sublist.refl _ | refine List.Sublist.cons _ ?_)))
    · obtain rfl : k = n - 1 := by omega
      repeat' (first | (apply Jq_move; exact rfl; exact rfl) | (apply Jq_load; exact rfl; exact rfl; (exact mb); (exact rfl)) | (apply Jq_fieldAddr; exact rfl; exact rfl) | (apply Jq_cmp; exact rfl; exact rfl; exact rfl; exact rfl) | (apply Jq_loadW; exact rfl; exact rfl; (exact mb); (omega)) | (apply J_sW; exact rfl; exact rfl; infer_instance; (exact rfl); (omega); (exact gv_one _ _ _); infer_instance) | refine thenQ_normal ?_ | refine thenQ_exit ?_ | refine inBlockQ_here ?_ | refine JC_seq ?_ | refine JC_region ?_ | refine J_nil ?_ | refine JC_ret ?_ | refine JC_exit ?_ | (apply JC_dec_false; exact rfl; omega))
      exact gC rfl rfl rfl (.tail _ (.head _)) (by omega) rfl
set_option maxRecDepth 100000 in
theorem ican_gives (n : Nat) (X O : List Nat) (bX : isB X) (bO : isB O) (g : okG (n : Int) X O) (w : World) :
    Gives Try.prog 30 #[.agg (gv n X O).toArray] (.agg (gv n (can n (X, O)).1 (can n (X, O)).2).toArray) w := by
  have ug := gv_len (n := n) bX.1 bO.1
  have lX := bX.1
  have lO := bO.1
  have hn := g.1
  have pX := g.2.1
  simp only [Int.toNat_natCast] at pX
  refine gives_of (args := [.agg (gv n X O).toArray]) [(0, .agg (gv n X O).toArray)] [] Try.func30 rfl Try.ntmps30 rfl (argsF_cons rfl argsF_nil) (Holds.start w) ?_
  repeat' (first | (apply Jq_move; exact rfl; exact rfl) | (apply Jc; exact rfl; exact rfl; exact rfl; infer_instance; ((intro w hw); exact n_gives n X O w)) | (apply Jq_loadW; exact rfl; exact rfl; (exact mb); (omega)) | (apply J_sW; exact rfl; exact rfl; infer_instance; (exact rfl); (omega); (exact gv_one _ _ _); infer_instance) | (apply J_box; exact rfl; exact rfl; exact rfl; (intro _)) | (apply J_alloc (cs := gv 0 Z8 Z8); exact rfl; exact rfl; (intro _)) | refine thenQ_normal ?_ | refine JC_seq ?_ | refine JC_region ?_ | refine J_nil ?_ | refine JC_block ?_)
  rename_i b1 b2 b3
  refine JC_loop (X := Nat × List Nat × List Nat) (fun p => p.1 ≤ n ∧ minUp n p.1 0 (X, O) p.2) (fun p => [(10, .int .i64 (p.1 : Int)), (9, .int .i64 (n : Int)), (1, .pointer (some ⟨b1, 0, none⟩)), (2, .pointer (some ⟨b2, 0, none⟩)), (3, .pointer (some ⟨b3, 0, none⟩))])
    (fun p => [.blk b3 (gv n p.2.1 p.2.2) 27, .blk b2 (gv 0 Z8 Z8) 27, .blk b1 (gv n X O) 27]) (fun p => n - p.1) (0, X, O) ⟨Nat.zero_le _, minUp_start g lX lO⟩ ?_ ?_
  · (refine ent ?_ ?_; (repeat refine fr_cons rfl ?_); exact fr_nil; (repeat (exact List.Sublist.refl _)))
  · rintro ⟨v, Y, U⟩ ⟨hv, hm⟩
    dsimp only at hv hm ⊢
    by_cases hlt : v < n
    · repeat' (first | (apply Jq_move; exact rfl; exact rfl) | (apply Jq_assign; exact rfl; exact rfl) | (apply Jq_cmp; exact rfl; exact rfl; exact rfl; exact rfl) | (apply Jc; exact rfl; exact rfl; exact rfl; infer_instance; ((intro w hw); exact n_gives n X O w)) | (apply Jq_loadW; exact rfl; exact rfl; (exact mb); (omega)) | refine thenQ_normal ?_ | refine JC_seq ?_ | refine JC_region ?_ | refine J_nil ?_ | refine JC_block ?_ | refine JC_skip ?_ | (apply JC_dec_true; exact rfl; omega))
      refine JC_loop (X := Nat × List Nat × List Nat) (fun p => p.1 ≤ n ∧ minUp n v p.1 (X, O) p.2) (fun p => [(15, .int .i64 (p.1 : Int)), (14, .int .i64 (n : Int)), (4, .int .i64 (v : Int)), (10, .int .i64 (v : Int)), (9, .int .i64 (n : Int)), (1, .pointer (some ⟨b1, 0, none⟩)), (2, .pointer (some ⟨b2, 0, none⟩)), (3, .pointer (some ⟨b3, 0, none⟩))])
        (fun p => [.blk b3 (gv n p.2.1 p.2.2) 27, .blk b2 (gv 0 Z8 Z8) 27, .blk b1 (gv n X O) 27]) (fun p => n - p.1) (0, Y, U) ⟨Nat.zero_le _, hm⟩ ?_ ?_
      · (refine ent ?_ ?_; (repeat refine fr_cons rfl ?_); exact fr_nil; (repeat (exact List.Sublist.refl _)))
      · rintro ⟨u, Y, U⟩ ⟨hu, hm⟩
        dsimp only at hu hm ⊢
        have oY := minUp_ok g hm
        have lY := gv_len (n := n) oY.2.1.1 oY.2.2.1
        by_cases hlu : u < n
        · have bR : isB (rol n v u X n) := isB_rol (by omega) (by omega)
          have bS : isB (rol n v u O n) := isB_rol (by omega) (by omega)
          have lR := gv_len (n := n) bR.1 bS.1
          repeat' (first | (apply Jq_move; exact rfl; exact rfl) | (apply Jq_assign; exact rfl; exact rfl) | (apply Jq_cmp; exact rfl; exact rfl; exact rfl; exact rfl) | (apply Jq_add; exact rfl; exact rfl; exact rfl; omega) | (apply Jc; exact rfl; exact rfl; exact rfl; infer_instance; ((intro w hw); first | exact shift_gives n u v X O bX bO g (by omega) (by omega) w | exact compare_gives n n _ _ _ _ bR bS oY.2.1 oY.2.2 w)) | (apply Jq_loadW; exact rfl; exact rfl; (exact mb); (omega)) | (apply J_sW; exact rfl; exact rfl; infer_instance; (first | exact rfl | omega); (omega); (exact gv_one _ _ _); infer_instance) | (apply J_alloc (cs := gv 0 Z8 Z8); exact rfl; exact rfl; (intro _)) | refine thenQ_normal ?_ | refine inBlockQ_normal ?_ | refine JC_seq ?_ | refine JC_region ?_ | refine J_nil ?_ | refine JC_block ?_ | refine JC_skip ?_ | (apply JC_dec_true; exact rfl; omega) | refine JC_dec rfl (fun _ => ?_) (fun _ => ?_))
          · rename_i hl
            refine ⟨(u + 1, rolG n v u (X, O)), ⟨by omega, minUp_take hm hlt hlu ((cmpG_lt bR bS oY.2.1 oY.2.2).1 hl)⟩, by omega, ?_⟩
            (refine ent ?_ ?_; (repeat refine fr_cons rfl ?_); exact fr_nil; (repeat (first | exact List.Sublist.refl _ | refine List.Sublist.cons _ ?_)))
          · rename_i hl
            refine ⟨(u + 1, Y, U), ⟨by omega, minUp_leave hm fun h => hl ((cmpG_lt bR bS oY.2.1 oY.2.2).2 h)⟩, by omega, ?_⟩
            (refine ent ?_ ?_; (repeat refine fr_cons rfl ?_); exact fr_nil; (repeat (first | exact List.Sublist.refl _ | refine List.Sublist.cons _ ?_)))
        · obtain rfl : u = n := by omega
          repeat' (first | (apply Jq_move; exact rfl; exact rfl) | (apply Jq_cmp; exact rfl; exact rfl; exact rfl; exact rfl) | (apply Jq_add; exact rfl; exact rfl; exact rfl; omega) | refine thenQ_normal ?_ | refine thenQ_exit ?_ | refine inBlockQ_normal ?_ | refine inBlockQ_here ?_ | refine JC_seq ?_ | refine JC_region ?_ | refine J_nil ?_ | refine JC_exit ?_ | (apply JC_dec_false; exact rfl; omega))
          refine ⟨(v + 1, Y, U), ⟨by omega, minUp_row hm⟩, by omega, ?_⟩
          (refine ent ?_ ?_; (repeat refine fr_cons rfl ?_); exact fr_nil; (repeat (exact List.Sublist.refl _)))
    · obtain rfl : v = n := by omega
      have oY := minUp_ok g hm
      have lY := gv_len (n := v) oY.2.1.1 oY.2.2.1
      have e := minUp_end (by omega) (by omega) pX hm
      rw [← e]
      repeat' (first | (apply Jq_cmp; exact rfl; exact rfl; exact rfl; exact rfl) | (apply Jq_loadW; exact rfl; exact rfl; (exact mb); (omega)) | (apply J_sW; exact rfl; exact rfl; infer_instance; (exact rfl); (omega); (exact gv_one _ _ _); infer_instance) | refine thenQ_normal ?_ | refine thenQ_exit ?_ | refine inBlockQ_here ?_ | refine JC_seq ?_ | refine JC_region ?_ | refine J_nil ?_ | refine JC_ret ?_ | refine JC_exit ?_ | (apply JC_dec_false; exact rfl; omega))
      exact gC rfl rfl rfl (.tail _ (.head _)) (by omega) rfl
end Go.Proofs.Ytflleelfkknfaaa
