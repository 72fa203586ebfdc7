/- Walks: DistanceTo, in both texts, and its law. -/
import Derived.Test.YtflleelfkknfaaaLD
namespace Go.Proofs.Ytflleelfkknfaaa
open Go Go.RowKit SL
open Classical in
/-- The distance: so many rounds may still be made, k have been. -/
noncomputable def dsF (p t : GridB) : Nat → Nat → Int × Int
  | 0, k => match rnds p k with
    | none => (0, 3)
    | some q => if t ∈ q.1 then ((k : Int), 0) else (0, 4)
  | f + 1, k => match rnds p k with
    | none => (0, 3)
    | some q => if t ∈ q.1 then ((k : Int), 0) else dsF p t f (k + 1)
theorem dsF_hit {p t : GridB} {f k : Nat} {q : RSt} (h : rnds p k = some q) (ht : t ∈ q.1) : dsF p t f k = ((k : Int), 0) := by
  cases f <;> simp only [dsF, h, if_pos ht]
theorem dsF_end {p t : GridB} {k : Nat} {q : RSt} (h : rnds p k = some q) (ht : t ∉ q.1) : dsF p t 0 k = (0, 4) := by simp only [dsF, h, if_neg ht]
theorem dsF_next {p t : GridB} {f k : Nat} {q : RSt} (h : rnds p k = some q) (ht : t ∉ q.1) : dsF p t (f + 1) k = dsF p t f (k + 1) := by simp only [dsF, h, if_neg ht]
theorem dsF_fail {p t : GridB} {f k : Nat} (h : rnds p k = none) : dsF p t f k = (0, 3) := by
  cases f <;> simp only [dsF, h]
theorem dsF_stop {p t : GridB} {S : List GridB} (ht : t ∉ S) : ∀ {f k : Nat}, rnds p k = some (S, []) → dsF p t f k = (0, 4)
  | 0, _, h => dsF_end h ht
  | f + 1, k, h => by rw [dsF_next h ht]; exact dsF_stop ht (rnds_stop h (Nat.le_succ k))
def dsV (r : Int × Int) : Value := .tuple #[.int .i64 r.1, .int .i64 r.2]
theorem dsV_eq {r : Int × Int} {a b : Int} (h : r = (a, b)) : Value.tuple #[.int .i64 a, .int .i64 b] = dsV r := by subst h; rfl
set_option maxRecDepth 100000 in
theorem sDT_good {p t : GridB} (hp : okB p) (ht : okB t) (w : World) : Gives Try.prog 8 #[.agg (encG p).toArray, .agg (encG t).toArray] (dsV (dsF (canB p) (canB t) 6 0)) w := by
  have ug := encG_len p
  have ut := encG_len t
  have uc := encG_len (canB p)
  have ud := encG_len (canB t)
  have hcan := canB_spec hp
  have hcant := canB_spec ht
  have h1 : ∀ x : GridB, ∀ u ∈ encG x, u.oneCell' = true := fun x => gv_one _ _ _
  have g : okG p.1.1 p.1.2.1 p.1.2.2 := hp
  have gt : okG t.1.1 t.1.2.1 t.1.2.2 := ht
  have e1 : [canB p].flatMap encG = encG (canB p) := by simp
  have hs0 : (0 : Nat) < 17 := by decide
  have hs1 : (17 : Nat) ≤ 1000 := by decide
  refine gives_of (args := [.agg (encG p).toArray, .agg (encG t).toArray]) [(0, .agg (encG p).toArray), (1, .agg (encG t).toArray)] [] Try.func8 rfl Try.ntmps8 rfl (argsF_cons rfl (argsF_cons rfl argsF_nil)) (Holds.start w) ?_
  repeat' (first | (apply J_gnF; exact rfl; exact rfl; exact g) | (apply JC_ndec_false; exact rfl; exact gt) | (apply Jq_move; exact rfl; exact rfl) | (apply Jq_assign; exact rfl; exact rfl) | (apply Jq_not; exact rfl; exact rfl) | (apply Jq_pick_false; exact rfl; exact rfl; exact rfl) | (apply J_on; exact rfl; exact rfl) | (apply Jc; exact rfl; exact rfl; exact rfl; infer_instance; ((intro w hw); first | exact l01Is_gives p.1.1 p.1.2.1 p.1.2.2 p.2.1 p.2.2 w | exact l01Is_gives t.1.1 t.1.2.1 t.1.2.2 t.2.1 t.2.2 w)) | (apply Jq_loadW; exact rfl; exact rfl; (exact mb); (omega)) | (apply J_box; exact rfl; exact rfl; exact rfl; (intro _)) | refine thenQ_normal ?_ | refine JC_seq ?_ | refine JC_region ?_ | refine J_nil ?_ | refine JC_skip ?_)
  rename_i b2 b3
  refine JC_cutT (Y := Nat × Nat) (fun _ => True) (fun x => [(6, .slice (some ⟨x.1, 0, none⟩) 1 1), (7, .pointer (some ⟨x.2, 0, none⟩))]) (fun x => [.row (.slice (some ⟨x.1, 0, none⟩) 1 1) 27 17 (encG (canB p)), .blk x.2 (encG (canB t)) 27]) ?_ ?_
  ·
    refine JC_any (m := 8) rfl [.blk b3 (encG t) 27, .blk b2 (encG p) 27] mixed (by ((repeat (apply sub_cons; (focus ((with_reducible (repeat (first | exact m0 | refine mS ?_))); done)))); exact sub_nil)) ?_
    (apply JF_q 0; exact rfl; kernel_rfl; exact rfl; (intro E hE; (apply q_loadW; exact rfl; (refine hE _ ?_; exact mb); (omega))))
    (apply JF_q 1; exact rfl; kernel_rfl; exact rfl; (intro E hE; (apply q_callE; exact rfl; exact rfl; infer_instance; ((intro w hw); exact hcan.2.2 w))))
    (apply JF_q 3; exact rfl; kernel_rfl; exact rfl; (intro E hE; (apply q_loadW; exact rfl; (refine hE _ ?_; exact mb); (omega))))
    (apply JF_q 4; exact rfl; kernel_rfl; exact rfl; (intro E hE; (apply q_callE; exact rfl; exact rfl; infer_instance; ((intro w hw); exact hcant.2.2 w))))
    (apply JF_all [2, 5]; kernel_rfl)
    (apply JFs_cons; exact rfl)
    · (apply J_lit1s; exact rfl; exact rfl; exact uc; exact hs0; exact hs1; (intro bl))
      (apply J_nil; apply JF_end; ((repeat (apply sub_cons; (focus ((with_reducible (repeat (first | exact m0 | refine mS ?_))); done)))); exact sub_nil))
      (apply JF_all [5]; kernel_rfl)
      (apply JFs_cons; exact rfl)
      · (apply J_alloc (cs := gv 0 Z8 Z8); exact rfl; exact rfl; (intro b7))
        (apply J_nil; apply JF_end; ((repeat (apply sub_cons; (focus ((with_reducible (repeat (first | exact m0 | refine mS ?_))); done)))); exact sub_nil))
        (apply JF_q 6; exact rfl; kernel_rfl; exact rfl; (intro E hE; (apply q_assign; exact rfl)))
        (apply JF_all [7]; kernel_rfl)
        (apply JFs_cons; exact rfl)
        · (apply J_sW; exact rfl; exact rfl; infer_instance; (exact rfl); (omega); (exact gv_one _ _ _); infer_instance)
          (apply J_nil; apply JF_end; ((repeat (apply sub_cons; (focus ((with_reducible (repeat (first | exact m0 | refine mS ?_))); done)))); exact sub_nil))
          (apply JF_done; kernel_rfl)
          (apply thenQ_normal; refine ⟨(bl, b7), trivial, ?_⟩; (refine entP (ent ?_ (List.nil_sublist _)) ?_; (repeat refine fr_cons rfl ?_); exact fr_nil; (repeat (first | exact sp_nil | (with_reducible apply sp0) | (with_reducible apply sp1)))))
        exact JFs_nil
      exact JFs_nil
    (apply JFs_cons; exact rfl)
    · (apply J_alloc (cs := gv 0 Z8 Z8); exact rfl; exact rfl; (intro b7))
      (apply J_nil; apply JF_end; ((repeat (apply sub_cons; (focus ((with_reducible (repeat (first | exact m0 | refine mS ?_))); done)))); exact sub_nil))
      (apply JF_all [2]; kernel_rfl)
      (apply JFs_cons; exact rfl)
      · (apply J_lit1s; exact rfl; exact rfl; exact uc; exact hs0; exact hs1; (intro bl))
        (apply J_nil; apply JF_end; ((repeat (apply sub_cons; (focus ((with_reducible (repeat (first | exact m0 | refine mS ?_))); done)))); exact sub_nil))
        (apply JF_q 6; exact rfl; kernel_rfl; exact rfl; (intro E hE; (apply q_assign; exact rfl)))
        (apply JF_all [7]; kernel_rfl)
        (apply JFs_cons; exact rfl)
        · (apply J_sW; exact rfl; exact rfl; infer_instance; (exact rfl); (omega); (exact gv_one _ _ _); infer_instance)
          (apply J_nil; apply JF_end; ((repeat (apply sub_cons; (focus ((with_reducible (repeat (first | exact m0 | refine mS ?_))); done)))); exact sub_nil))
          (apply JF_done; kernel_rfl)
          (apply thenQ_normal; refine ⟨(bl, b7), trivial, ?_⟩; (refine entP (ent ?_ (List.nil_sublist _)) ?_; (repeat refine fr_cons rfl ?_); exact fr_nil; (repeat (first | exact sp_nil | (with_reducible apply sp0)))))
        exact JFs_nil
      exact JFs_nil
    exact JFs_nil
  · rintro ⟨bl, b7⟩ _
    dsimp only
    repeat' (first | (apply Jq_move; exact rfl; exact rfl) | (apply Jq_assign; exact rfl; exact rfl) | refine thenQ_normal ?_ | refine JC_seq ?_ | refine JC_region ?_ | refine J_nil ?_ | refine JC_block ?_)
    refine JC_loop (X := Nat × Value × List GridB × Value × RSt × Hp) (fun x => x.1 ≤ 6 ∧ rnds (canB p) x.1 = some x.2.2.2.2.1 ∧ dsF (canB p) (canB t) 6 0 = dsF (canB p) (canB t) (6 - x.1) x.1 ∧ Asc rkG x.2.2.1 ∧ (∀ y, y ∈ x.2.2.1 ↔ y ∈ x.2.2.2.2.1.1) ∧ x.2.2.1.length = x.2.2.2.2.1.1.length ∧ It.row x.2.1 27 17 (x.2.2.1.flatMap encG) ∈ x.2.2.2.2.2 ∧ It.row x.2.2.2.1 27 17 (x.2.2.2.2.1.2.flatMap encG) ∈ x.2.2.2.2.2 ∧ It.blk b7 (encG (canB t)) 27 ∈ x.2.2.2.2.2)
      (fun x => [(9, .int .i64 (x.1 : Int)), (6, x.2.1), (8, x.2.2.2.1), (7, .pointer (some ⟨b7, 0, none⟩))]) (fun x => x.2.2.2.2.2) (fun x => 7 - x.1)
      (0, .slice (some ⟨bl, 0, none⟩) 1 1, [canB p], .slice (some ⟨bl, 0, none⟩) 1 1, ([canB p], [canB p]), [.row (.slice (some ⟨bl, 0, none⟩) 1 1) 27 17 (encG (canB p)), .blk b7 (encG (canB t)) 27]) ⟨Nat.zero_le _, rfl, rfl, List.pairwise_singleton _ _, fun _ => Iff.rfl, rfl, by rw [e1]; exact m0, by dsimp only; rw [e1]; exact m0, mS m0⟩ ?_ ?_
    · dsimp only
      (refine entP (ent ?_ (List.nil_sublist _)) ?_; (repeat refine fr_cons rfl ?_); exact fr_nil; (repeat (exact sp_refl)))
    · rintro ⟨j, v, L, u, q, Hx⟩ ⟨hj, hq, hd, ha, hm, hl, hv, hu, hb⟩
      dsimp only at hj hq hd ha hm hl hv hu hb ⊢
      have hri := rnds_RI hcan.1 hq
      have hle := hri.le
      have hfl := hri.fl
      have iv : RB v Hx 27 17 (L.flatMap encG) := ⟨hv⟩
      have lq := flat_len q.2
      have iu : RB u Hx 27 17 (q.2.flatMap encG) := ⟨hu⟩
      have ib : MB b7 Hx (encG (canB t)) 27 := ⟨hb⟩
      by_cases htm : canB t ∈ L
      · have hR := hd.trans (dsF_hit hq ((hm _).1 htm))
        repeat' (first | (apply JcE; exact rfl; exact rfl; exact rfl; infer_instance; (exact insert_gives L (canB t) hv (by omega) ha); (intro v' H' hV; rcases hV with ⟨_, rfl, rfl⟩ | ⟨hn, _⟩; rotate_left; exact absurd htm hn)) | (apply Jq_move; exact rfl; exact rfl) | (apply Jq_assign; exact rfl; exact rfl) | (apply Jq_cmp; exact rfl; exact rfl; exact rfl; exact rfl) | (apply Jq_not; exact rfl; exact rfl) | (apply Jq_loadW; exact rfl; exact rfl; (exact mb); (omega)) | (apply Jq_ext20; exact rfl; exact rfl) | (apply Jq_ext21; exact rfl; exact rfl) | refine thenQ_normal ?_ | refine thenQ_ret ?_ | refine inBlockQ_ret ?_ | refine JC_seq ?_ | refine JC_region ?_ | refine J_nil ?_ | refine JC_block ?_ | refine JC_skip ?_ | refine JC_ret ?_ | (apply JC_if_true; exact rfl) | (apply JC_dec_true; exact rfl; omega))
        exact g2 rfl rfl rfl rfl (dsV_eq hR)
      · have htq : canB t ∉ q.1 := fun h => htm ((hm _).2 h)
        by_cases h6 : j = 6
        · have hR : dsF (canB p) (canB t) 6 0 = (0, 4) := by rw [hd]; subst h6; exact dsF_end hq htq
          repeat' (first | (apply JcE; exact rfl; exact rfl; exact rfl; infer_instance; (exact insert_gives L (canB t) hv (by omega) ha); (intro v' H' hV; rcases hV with ⟨hn, _⟩ | ⟨_, u2, L2, rfl, _, _, _, rfl⟩; exact absurd hn htm)) | (apply Jq_move; exact rfl; exact rfl) | (apply Jq_assign; exact rfl; exact rfl) | (apply Jq_cmp; exact rfl; exact rfl; exact rfl; exact rfl) | (apply Jq_not; exact rfl; exact rfl) | (apply Jq_pick_true; exact rfl; exact rfl; exact rfl) | (apply J_skip; exact rfl; exact rfl; exact rfl; exact rfl) | (apply Jq_loadW; exact rfl; exact rfl; (exact mb); (omega)) | (apply Jq_ext20; exact rfl; exact rfl) | (apply Jq_ext21; exact rfl; exact rfl) | refine thenQ_normal ?_ | refine thenQ_exit ?_ | refine inBlockQ_here ?_ | (apply inBlockQ_on; exact rfl) | refine JC_seq ?_ | refine JC_region ?_ | refine J_nil ?_ | refine JC_block ?_ | refine JC_skip ?_ | refine JC_ret ?_ | refine JC_exit ?_ | (apply JC_if_true; exact rfl) | (apply JC_if_false; exact rfl) | (apply JC_dec_true; exact rfl; omega) | (apply J_gdT; exact rfl; exact rfl; omega))
          exact g2 rfl rfl rfl rfl (dsV_eq hR)
        · by_cases hf : 0 < q.2.length
          · have e6 : 6 - j = (6 - (j + 1)) + 1 := by omega
            have hR : dsF (canB p) (canB t) 6 0 = dsF (canB p) (canB t) (6 - (j + 1)) (j + 1) := by rw [hd, e6]; exact dsF_next hq htq
            repeat' (first | (apply JcE; exact rfl; exact rfl; exact rfl; infer_instance; (exact insert_gives L (canB t) hv (by omega) ha); (intro v' H' hV; rcases hV with ⟨hn, _⟩ | ⟨_, u2, L2, rfl, _, _, _, rfl⟩; exact absurd hn htm)) | (apply JcE; exact rfl; exact rfl; exact rfl; infer_instance; (exact round_gives q hri L ha hm hl (mS hv) (mS hu)); (intro v' H' hV; rcases hV with ⟨hn, rfl, _⟩ | ⟨q', v1, v2, L', Hy, hq', rfl, ha', hm', hl', rfl, hr1, hsub⟩)) | (apply Jq_move; exact rfl; exact rfl) | (apply Jq_assign; exact rfl; exact rfl) | (apply Jq_cmp; exact rfl; exact rfl; exact rfl; exact rfl) | (apply Jq_add; exact rfl; exact rfl; exact rfl; omega) | (apply Jq_not; exact rfl; exact rfl) | (apply Jq_pick_false; exact rfl; exact rfl; exact rfl) | (apply J_on; exact rfl; exact rfl) | (apply Jq_loadW; exact rfl; exact rfl; (exact mb); (omega)) | (apply Jq_ext20; exact rfl; exact rfl) | (apply Jq_ext21; exact rfl; exact rfl) | (apply Jq_extract; exact rfl; exact rfl; exact rfl) | (apply Jq_lenRs; exact rfl; exact rfl; (exact rb); exact lq; decide) | refine thenQ_normal ?_ | refine thenQ_ret ?_ | refine inBlockQ_normal ?_ | refine inBlockQ_ret ?_ | refine JC_seq ?_ | refine JC_region ?_ | refine J_nil ?_ | refine JC_block ?_ | refine JC_skip ?_ | refine JC_ret ?_ | (apply JC_if_true; exact rfl) | (apply JC_if_false; exact rfl) | (apply JC_dec_true; exact rfl; omega) | (apply JC_dec_false; exact rfl; omega) | (apply J_gdF; exact rfl; exact rfl; omega))
            · exact g2 rfl rfl rfl rfl (dsV_eq (hR.trans (dsF_fail (by rw [rnds_succ hq]; exact hn))))
            · refine ⟨(j + 1, v1, L', v2, q', .row v2 27 17 (q'.2.flatMap encG) :: Hy), ⟨by dsimp only; omega, by dsimp only; rw [rnds_succ hq]; exact hq', hR, ha', hm', hl', mS hr1, m0, mS (hsub _ (mS hb))⟩, by dsimp only; omega, ?_⟩
              dsimp only
              (refine entP (ent ?_ (List.nil_sublist _)) ?_; (repeat refine fr_cons rfl ?_); exact fr_nil; (repeat (exact sp_refl)))
          · have hq0 : q = (q.1, []) := Prod.ext rfl (List.eq_nil_of_length_eq_zero (by omega))
            have hR := hd.trans (dsF_stop htq (by rw [← hq0]; exact hq))
            repeat' (first | (apply JcE; exact rfl; exact rfl; exact rfl; infer_instance; (exact insert_gives L (canB t) hv (by omega) ha); (intro v' H' hV; rcases hV with ⟨hn, _⟩ | ⟨_, u2, L2, rfl, _, _, _, rfl⟩; exact absurd hn htm)) | (apply Jq_move; exact rfl; exact rfl) | (apply Jq_assign; exact rfl; exact rfl) | (apply Jq_cmp; exact rfl; exact rfl; exact rfl; exact rfl) | (apply Jq_not; exact rfl; exact rfl) | (apply Jq_pick_false; exact rfl; exact rfl; exact rfl) | (apply J_on; exact rfl; exact rfl) | (apply Jq_loadW; exact rfl; exact rfl; (exact mb); (omega)) | (apply Jq_ext20; exact rfl; exact rfl) | (apply Jq_ext21; exact rfl; exact rfl) | (apply Jq_lenRs; exact rfl; exact rfl; (exact rb); exact lq; decide) | refine thenQ_normal ?_ | refine thenQ_exit ?_ | refine inBlockQ_here ?_ | (apply inBlockQ_on; exact rfl) | refine JC_seq ?_ | refine JC_region ?_ | refine J_nil ?_ | refine JC_block ?_ | refine JC_skip ?_ | refine JC_ret ?_ | refine JC_exit ?_ | (apply JC_if_false; exact rfl) | (apply JC_dec_true; exact rfl; omega) | (apply J_gdF; exact rfl; exact rfl; omega))
            exact g2 rfl rfl rfl rfl (dsV_eq hR)
set_option maxRecDepth 100000 in
theorem iDT_good {p t : GridB} (hp : okB p) (ht : okB t) (w : World) : Gives Try.prog 10 #[.agg (encG p).toArray, .agg (encG t).toArray] (dsV (dsF (canB p) (canB t) 6 0)) w := by
  have ug := encG_len p
  have ut := encG_len t
  have uc := encG_len (canB p)
  have ud := encG_len (canB t)
  have hcan := canB_spec hp
  have hcant := canB_spec ht
  have h1 : ∀ x : GridB, ∀ u ∈ encG x, u.oneCell' = true := fun x => gv_one _ _ _
  have g : okG p.1.1 p.1.2.1 p.1.2.2 := hp
  have gt : okG t.1.1 t.1.2.1 t.1.2.2 := ht
  refine gives_of (args := [.agg (encG p).toArray, .agg (encG t).toArray]) [(0, .agg (encG p).toArray), (1, .agg (encG t).toArray)] [] Try.func10 rfl Try.ntmps10 rfl (argsF_cons rfl (argsF_cons rfl argsF_nil)) (Holds.start w) ?_
  repeat' (first | (apply J_gnF; exact rfl; exact rfl; exact g) | (apply JC_ndec_false; exact rfl; exact gt) | (apply Jq_move; exact rfl; exact rfl) | (apply Jq_assign; exact rfl; exact rfl) | (apply Jq_not; exact rfl; exact rfl) | (apply Jq_pick_false; exact rfl; exact rfl; exact rfl) | (apply J_on; exact rfl; exact rfl) | (apply Jc; exact rfl; exact rfl; exact rfl; infer_instance; ((intro w hw); first | exact IsGrid_gives p.1.1 p.1.2.1 p.1.2.2 p.2.1 p.2.2 w | exact IsGrid_gives t.1.1 t.1.2.1 t.1.2.2 t.2.1 t.2.2 w)) | (apply Jq_loadW; exact rfl; exact rfl; (exact mb); (omega)) | (apply J_box; exact rfl; exact rfl; exact rfl; (intro _)) | refine thenQ_normal ?_ | refine JC_seq ?_ | refine JC_region ?_ | refine J_nil ?_ | refine JC_skip ?_)
  rename_i b2 b3
  refine JC_cutT (Y := Nat × Nat × Value × Nat) (fun _ => True) (fun x => [(6, .pointer (some ⟨x.1, 0, none⟩)), (7, .pointer (some ⟨x.2.2.2, 0, none⟩))]) (fun x => [.blk x.1 [.map (some x.2.1), x.2.2.1] 54, .obj x.2.1 (mapO (encM grV uV (mp [canB p]))), .row x.2.2.1 27 17 ([canB p].flatMap encG), .blk x.2.2.2 (encG (canB t)) 27]) ?_ ?_
  ·
    refine JC_any (m := 7) rfl [.blk b3 (encG t) 27, .blk b2 (encG p) 27] mixed (by ((repeat (apply sub_cons; (focus ((with_reducible (repeat (first | exact m0 | refine mS ?_))); done)))); exact sub_nil)) ?_
    (apply JF_q 0; exact rfl; kernel_rfl; exact rfl; (intro E hE; (apply q_loadW; exact rfl; (refine hE _ ?_; exact mb); (omega))))
    (apply JF_q 2; exact rfl; kernel_rfl; exact rfl; (intro E hE; (apply q_loadW; exact rfl; (refine hE _ ?_; exact mb); (omega))))
    (apply JF_all [1, 4]; kernel_rfl)
    (apply JFs_cons; exact rfl)
    · (apply JcN (N := stR (canB p)); exact rfl; exact rfl; exact rfl; infer_instance; (intro w _; exact start_gives hp w); exact stR_mine; (intro v its h; obtain ⟨b, bm, u, rfl, rfl⟩ := h; refine J_app3 ?_))
      (apply J_nil; apply JF_end; ((repeat (apply sub_cons; (focus ((with_reducible (repeat (first | exact m0 | refine mS ?_))); done)))); exact sub_nil))
      (apply JF_q 3; exact rfl; kernel_rfl; exact rfl; (intro E hE; (apply q_callE; exact rfl; exact rfl; infer_instance; ((intro w hw); exact hcant.2.1 w))))
      (apply JF_all [4]; kernel_rfl)
      (apply JFs_cons; exact rfl)
      · (apply J_alloc (cs := gv 0 Z8 Z8); exact rfl; exact rfl; (intro b7))
        (apply J_nil; apply JF_end; ((repeat (apply sub_cons; (focus ((with_reducible (repeat (first | exact m0 | refine mS ?_))); done)))); exact sub_nil))
        (apply JF_q 5; exact rfl; kernel_rfl; exact rfl; (intro E hE; (apply q_assign; exact rfl)))
        (apply JF_all [6]; kernel_rfl)
        (apply JFs_cons; exact rfl)
        · (apply J_sW; exact rfl; exact rfl; infer_instance; (exact rfl); (omega); (exact gv_one _ _ _); infer_instance)
          (apply J_nil; apply JF_end; ((repeat (apply sub_cons; (focus ((with_reducible (repeat (first | exact m0 | refine mS ?_))); done)))); exact sub_nil))
          (apply JF_done; kernel_rfl)
          (apply thenQ_normal; refine ⟨(b, bm, u, b7), trivial, ?_⟩; (refine entP (ent ?_ (List.nil_sublist _)) ?_; (repeat refine fr_cons rfl ?_); exact fr_nil; (repeat (first | exact sp_nil | (with_reducible apply sp0) | (with_reducible apply sp1)))))
        exact JFs_nil
      exact JFs_nil
    (apply JFs_cons; exact rfl)
    · (apply J_alloc (cs := gv 0 Z8 Z8); exact rfl; exact rfl; (intro b7))
      (apply J_nil; apply JF_end; ((repeat (apply sub_cons; (focus ((with_reducible (repeat (first | exact m0 | refine mS ?_))); done)))); exact sub_nil))
      (apply JF_all [1]; kernel_rfl)
      (apply JFs_cons; exact rfl)
      · (apply JcN (N := stR (canB p)); exact rfl; exact rfl; exact rfl; infer_instance; (intro w _; exact start_gives hp w); exact stR_mine; (intro v its h; obtain ⟨b, bm, u, rfl, rfl⟩ := h; refine J_app3 ?_))
        (apply J_nil; apply JF_end; ((repeat (apply sub_cons; (focus ((with_reducible (repeat (first | exact m0 | refine mS ?_))); done)))); exact sub_nil))
        (apply JF_q 3; exact rfl; kernel_rfl; exact rfl; (intro E hE; (apply q_callE; exact rfl; exact rfl; infer_instance; ((intro w hw); exact hcant.2.1 w))))
        (apply JF_q 5; exact rfl; kernel_rfl; exact rfl; (intro E hE; (apply q_assign; exact rfl)))
        (apply JF_all [6]; kernel_rfl)
        (apply JFs_cons; exact rfl)
        · (apply J_sW; exact rfl; exact rfl; infer_instance; (exact rfl); (omega); (exact gv_one _ _ _); infer_instance)
          (apply J_nil; apply JF_end; ((repeat (apply sub_cons; (focus ((with_reducible (repeat (first | exact m0 | refine mS ?_))); done)))); exact sub_nil))
          (apply JF_done; kernel_rfl)
          (apply thenQ_normal; refine ⟨(b, bm, u, b7), trivial, ?_⟩; (refine entP (ent ?_ (List.nil_sublist _)) ?_; (repeat refine fr_cons rfl ?_); exact fr_nil; (repeat (first | exact sp_nil | (with_reducible apply sp0)))))
        exact JFs_nil
      exact JFs_nil
    exact JFs_nil
  · rintro ⟨b, bm, u0, b7⟩ _
    dsimp only
    repeat' (first | (apply Jq_assign; exact rfl; exact rfl) | refine thenQ_normal ?_ | refine JC_seq ?_ | refine JC_region ?_ | refine J_nil ?_ | refine JC_block ?_)
    refine JC_loop (X := Nat × Value × RSt) (fun x => x.1 ≤ 6 ∧ rnds (canB p) x.1 = some x.2.2 ∧ dsF (canB p) (canB t) 6 0 = dsF (canB p) (canB t) (6 - x.1) x.1)
      (fun x => [(8, .int .i64 (x.1 : Int)), (6, .pointer (some ⟨b, 0, none⟩)), (7, .pointer (some ⟨b7, 0, none⟩))]) (fun x => [.blk b [.map (some bm), x.2.1] 54, .obj bm (mapO (encM grV uV (mp x.2.2.1))), .row x.2.1 27 17 (x.2.2.2.flatMap encG), .blk b7 (encG (canB t)) 27]) (fun x => 7 - x.1)
      (0, u0, ([canB p], [canB p])) ⟨Nat.zero_le _, rfl, rfl⟩ ?_ ?_
    · dsimp only
      (refine entP (ent ?_ (List.nil_sublist _)) ?_; (repeat refine fr_cons rfl ?_); exact fr_nil; (repeat (exact sp_refl)))
    · clear u0
      rintro ⟨j, u, q⟩ ⟨hj, hq, hd⟩
      dsimp only at hj hq hd ⊢
      have hri := rnds_RI hcan.1 hq
      have hnd : ((mp q.1).map (·.1)).Nodup := by rw [mp_keys]; exact hri.nd
      by_cases htq : canB t ∈ q.1
      · have hR : dsF (canB p) (canB t) 6 0 = ((j : Int), 0) := by rw [hd]; exact dsF_hit hq htq
        have hlk := lkM_yes (M := mp q.1) (q := canB t) (by rw [mp_keys]; exact htq)
        repeat' (first | (apply Jq_lookT (eV := uV) (E := kencG) (k := canB t); exact rfl; exact rfl; exact rfl; exact mo; exact hnd; exact hlk) | (apply Jq_move; exact rfl; exact rfl) | (apply Jq_assign; exact rfl; exact rfl) | (apply Jq_load; exact rfl; exact rfl; (exact mb); (exact rfl)) | (apply Jq_fieldAddr; exact rfl; exact rfl) | (apply Jq_loadW; exact rfl; exact rfl; (exact mb); (omega)) | (apply Jq_nilCheck; exact rfl; exact rfl) | refine thenQ_normal ?_ | refine thenQ_ret ?_ | refine inBlockQ_ret ?_ | refine JC_seq ?_ | refine JC_region ?_ | (apply JC_draw mixed; kernel_rfl) | refine J_nil ?_ | refine JC_block ?_ | refine JC_ret ?_ | (apply JC_if_true; exact rfl))
        exact g2 rfl rfl rfl rfl (dsV_eq hR)
      · have hlk := lkM_no (M := mp q.1) (q := canB t) (by rw [mp_keys]; exact htq)
        by_cases h6 : j = 6
        · have hR : dsF (canB p) (canB t) 6 0 = (0, 4) := by rw [hd]; subst h6; exact dsF_end hq htq
          repeat' (first | (apply Jq_lookT (eV := uV) (E := kencG) (k := canB t); exact rfl; exact rfl; exact rfl; exact mo; exact hnd; exact hlk) | (apply Jq_move; exact rfl; exact rfl) | (apply Jq_assign; exact rfl; exact rfl) | (apply Jq_load; exact rfl; exact rfl; (exact mb); (exact rfl)) | (apply Jq_fieldAddr; exact rfl; exact rfl) | (apply Jq_cmp; exact rfl; exact rfl; exact rfl; exact rfl) | (apply Jq_loadW; exact rfl; exact rfl; (exact mb); (omega)) | (apply Jq_nilCheck; exact rfl; exact rfl) | refine thenQ_normal ?_ | refine thenQ_ret ?_ | refine inBlockQ_ret ?_ | refine JC_seq ?_ | refine JC_region ?_ | (apply JC_draw mixed; kernel_rfl) | refine J_nil ?_ | refine JC_block ?_ | refine JC_ret ?_ | (apply JC_if_false; exact rfl) | (apply JC_dec_true; exact rfl; omega))
          exact g2 rfl rfl rfl rfl (dsV_eq hR)
        · have e6 : 6 - j = (6 - (j + 1)) + 1 := by omega
          have hR : dsF (canB p) (canB t) 6 0 = dsF (canB p) (canB t) (6 - (j + 1)) (j + 1) := by rw [hd, e6]; exact dsF_next hq htq
          repeat' (first | (apply Jq_lookT (eV := uV) (E := kencG) (k := canB t); exact rfl; exact rfl; exact rfl; exact mo; exact hnd; exact hlk) | (apply JcE; exact rfl; exact rfl; exact rfl; infer_instance; (exact rnext_gives q hri); (intro v' H' hV; rcases hV with ⟨hn, rfl, rfl⟩ | ⟨q', v2, hq', rfl, rfl⟩)) | (apply Jq_move; exact rfl; exact rfl) | (apply Jq_assign; exact rfl; exact rfl) | (apply Jq_load; exact rfl; exact rfl; (exact mb); (exact rfl)) | (apply Jq_fieldAddr; exact rfl; exact rfl) | (apply Jq_cmp; exact rfl; exact rfl; exact rfl; exact rfl) | (apply Jq_add; exact rfl; exact rfl; exact rfl; omega) | (apply Jq_not; exact rfl; exact rfl) | (apply Jq_loadW; exact rfl; exact rfl; (exact mb); (omega)) | (apply Jq_nilCheck; exact rfl; exact rfl) | refine thenQ_normal ?_ | refine thenQ_ret ?_ | refine inBlockQ_normal ?_ | refine inBlockQ_ret ?_ | refine JC_seq ?_ | refine JC_region ?_ | (apply JC_draw mixed; kernel_rfl) | refine J_nil ?_ | refine JC_block ?_ | refine JC_skip ?_ | refine JC_ret ?_ | (apply JC_if_true; exact rfl) | (apply JC_if_false; exact rfl) | (apply JC_dec_false; exact rfl; omega))
          · exact g2 rfl rfl rfl rfl (dsV_eq (hR.trans (dsF_fail (by rw [rnds_succ hq]; exact hn))))
          · refine ⟨(j + 1, v2, q'), ⟨by dsimp only; omega, by dsimp only; rw [rnds_succ hq]; exact hq', hR⟩, by dsimp only; omega, ?_⟩
            dsimp only
            (refine entP (ent ?_ (List.nil_sublist _)) ?_; (repeat refine fr_cons rfl ?_); exact fr_nil; (repeat (exact sp_refl)))
set_option maxRecDepth 100000 in
theorem iDT_bad (n m : Int) (X O Y U : List Nat) (bX : isB X) (bO : isB O) (bY : isB Y) (bU : isB U) (g : ¬ (okG n X O ∧ okG m Y U)) (w : World) :
    Gives Try.prog 10 #[.agg (gv n X O).toArray, .agg (gv m Y U).toArray] (.tuple #[.int .i64 0, .int .i64 1]) w := by
  have ug := gv_len (n := n) bX.1 bO.1
  have uh := gv_len (n := m) bY.1 bU.1
  refine gives_of (args := [.agg (gv n X O).toArray, .agg (gv m Y U).toArray]) [(0, .agg (gv n X O).toArray), (1, .agg (gv m Y U).toArray)] [] Try.func10 rfl Try.ntmps10 rfl (argsF_cons rfl (argsF_cons rfl argsF_nil)) (Holds.start w) ?_
  by_cases h : okG n X O
  · have k : ¬ okG m Y U := fun k => g ⟨h, k⟩
    repeat' (first | (apply J_gnF; exact rfl; exact rfl; exact h) | (apply JC_ndec_true; exact rfl; exact k) | (apply Jq_move; exact rfl; exact rfl) | (apply Jq_assign; exact rfl; exact rfl) | (apply Jq_not; exact rfl; exact rfl) | (apply Jq_pick_false; exact rfl; exact rfl; exact rfl) | (apply J_on; exact rfl; exact rfl) | (apply Jc; exact rfl; exact rfl; exact rfl; infer_instance; ((intro w hw); first | exact IsGrid_gives n X O bX bO w | exact IsGrid_gives m Y U bY bU w)) | (apply Jq_loadW; exact rfl; exact rfl; (exact mb); (omega)) | (apply J_box; exact rfl; exact rfl; exact rfl; (intro _)) | refine thenQ_normal ?_ | refine thenQ_ret ?_ | refine JC_seq ?_ | refine JC_region ?_ | refine J_nil ?_ | refine JC_ret ?_)
    exact g2 rfl rfl rfl rfl rfl
  · repeat' (first | (apply J_gnT; exact rfl; exact rfl; exact h) | (apply Jq_move; exact rfl; exact rfl) | (apply Jq_assign; exact rfl; exact rfl) | (apply Jq_not; exact rfl; exact rfl) | (apply Jq_pick_true; exact rfl; exact rfl; exact rfl) | (apply J_skip; exact rfl; exact rfl; exact rfl; exact rfl) | (apply Jc; exact rfl; exact rfl; exact rfl; infer_instance; ((intro w hw); exact IsGrid_gives n X O bX bO w)) | (apply Jq_loadW; exact rfl; exact rfl; (exact mb); (omega)) | (apply J_box; exact rfl; exact rfl; exact rfl; (intro _)) | refine thenQ_normal ?_ | refine thenQ_ret ?_ | refine JC_seq ?_ | refine JC_region ?_ | refine J_nil ?_ | refine JC_ret ?_ | (apply JC_if_true; exact rfl))
    exact g2 rfl rfl rfl rfl rfl
set_option maxRecDepth 100000 in
theorem sDT_bad (n m : Int) (X O Y U : List Nat) (bX : isB X) (bO : isB O) (bY : isB Y) (bU : isB U) (g : ¬ (okG n X O ∧ okG m Y U)) (w : World) :
    Gives Try.prog 8 #[.agg (gv n X O).toArray, .agg (gv m Y U).toArray] (.tuple #[.int .i64 0, .int .i64 1]) w := by
  have ug := gv_len (n := n) bX.1 bO.1
  have uh := gv_len (n := m) bY.1 bU.1
  refine gives_of (args := [.agg (gv n X O).toArray, .agg (gv m Y U).toArray]) [(0, .agg (gv n X O).toArray), (1, .agg (gv m Y U).toArray)] [] Try.func8 rfl Try.ntmps8 rfl (argsF_cons rfl (argsF_cons rfl argsF_nil)) (Holds.start w) ?_
  by_cases h : okG n X O
  · have k : ¬ okG m Y U := fun k => g ⟨h, k⟩
    repeat' (first | (apply J_gnF; exact rfl; exact rfl; exact h) | (apply JC_ndec_true; exact rfl; exact k) | (apply Jq_move; exact rfl; exact rfl) | (apply Jq_assign; exact rfl; exact rfl) | (apply Jq_not; exact rfl; exact rfl) | (apply Jq_pick_false; exact rfl; exact rfl; exact rfl) | (apply J_on; exact rfl; exact rfl) | (apply Jc; exact rfl; exact rfl; exact rfl; infer_instance; ((intro w hw); first | exact l01Is_gives n X O bX bO w | exact l01Is_gives m Y U bY bU w)) | (apply Jq_loadW; exact rfl; exact rfl; (exact mb); (omega)) | (apply J_box; exact rfl; exact rfl; exact rfl; (intro _)) | refine thenQ_normal ?_ | refine thenQ_ret ?_ | refine JC_seq ?_ | refine JC_region ?_ | refine J_nil ?_ | refine JC_ret ?_)
    exact g2 rfl rfl rfl rfl rfl
  · repeat' (first | (apply J_gnT; exact rfl; exact rfl; exact h) | (apply Jq_move; exact rfl; exact rfl) | (apply Jq_assign; exact rfl; exact rfl) | (apply Jq_not; exact rfl; exact rfl) | (apply Jq_pick_true; exact rfl; exact rfl; exact rfl) | (apply J_skip; exact rfl; exact rfl; exact rfl; exact rfl) | (apply Jc; exact rfl; exact rfl; exact rfl; infer_instance; ((intro w hw); exact l01Is_gives n X O bX bO w)) | (apply Jq_loadW; exact rfl; exact rfl; (exact mb); (omega)) | (apply J_box; exact rfl; exact rfl; exact rfl; (intro _)) | refine thenQ_normal ?_ | refine thenQ_ret ?_ | refine JC_seq ?_ | refine JC_region ?_ | refine J_nil ?_ | refine JC_ret ?_ | (apply JC_if_true; exact rfl))
    exact g2 rfl rfl rfl rfl rfl
set_option maxRecDepth 100000 in
theorem lawDT_gives (n m : Int) (X O Y U : List Nat) (bX : isB X) (bO : isB O) (bY : isB Y) (bU : isB U) (w : World) : Gives Try.prog 3 #[.agg (gv n X O).toArray, .agg (gv m Y U).toArray] (.bool true) w := by
  have ug := gv_len (n := n) bX.1 bO.1
  have uh := gv_len (n := m) bY.1 bU.1
  refine gives_of (args := [.agg (gv n X O).toArray, .agg (gv m Y U).toArray]) [(0, .agg (gv n X O).toArray), (1, .agg (gv m Y U).toArray)] [] Try.func3 rfl Try.ntmps3 rfl (argsF_cons rfl (argsF_cons rfl argsF_nil)) (Holds.start w) ?_
  by_cases g : okG n X O ∧ okG m Y U
  · have hs := sDT_good (p := ⟨(n, X, O), bX, bO⟩) (t := ⟨(m, Y, U), bY, bU⟩) g.1 g.2
    have hi := iDT_good (p := ⟨(n, X, O), bX, bO⟩) (t := ⟨(m, Y, U), bY, bU⟩) g.1 g.2
    generalize dsF _ _ 6 0 = r at hs hi
    obtain ⟨a, c⟩ := r
    unfold dsV at hs hi
    dsimp only at hs hi
    repeat' (first | (apply Jq_move; exact rfl; exact rfl) | (apply Jq_assign; exact rfl; exact rfl) | (apply Jq_cmp; exact rfl; exact rfl; exact rfl; exact rfl) | (apply Jq_pick_false; exact rfl; exact rfl; exact rfl) | (apply J_on; exact rfl; exact rfl) | (apply Jc; exact rfl; exact rfl; exact rfl; infer_instance; ((intro w hw); first | exact toGrid_gives n X O bX.1 bO.1 w | exact toGrid_gives m Y U bY.1 bU.1 w | exact hs w | exact hi w)) | (apply Jq_loadW; exact rfl; exact rfl; (exact mb); (omega)) | (apply Jq_ext20; exact rfl; exact rfl) | (apply Jq_ext21; exact rfl; exact rfl) | (apply J_box; exact rfl; exact rfl; exact rfl; (intro _)) | refine thenQ_normal ?_ | refine JC_seq ?_ | refine JC_region ?_ | (apply JC_draw mixed; kernel_rfl) | refine J_nil ?_ | refine JC_skip ?_ | refine JC_ret ?_ | (apply JC_ndec_false; exact rfl; omega) | (apply J_gnF; exact rfl; exact rfl; omega))
    all_goals exact g1 rfl rfl rfl rfl
  · repeat' (first | (apply Jq_move; exact rfl; exact rfl) | (apply Jq_assign; exact rfl; exact rfl) | (apply Jq_cmp; exact rfl; exact rfl; exact rfl; exact rfl) | (apply Jq_pick_false; exact rfl; exact rfl; exact rfl) | (apply J_on; exact rfl; exact rfl) | (apply Jc; exact rfl; exact rfl; exact rfl; infer_instance; ((intro w hw); first | exact toGrid_gives n X O bX.1 bO.1 w | exact toGrid_gives m Y U bY.1 bU.1 w | exact sDT_bad n m X O Y U bX bO bY bU g w | exact iDT_bad n m X O Y U bX bO bY bU g w)) | (apply Jq_loadW; exact rfl; exact rfl; (exact mb); (omega)) | (apply Jq_ext20; exact rfl; exact rfl) | (apply Jq_ext21; exact rfl; exact rfl) | (apply J_box; exact rfl; exact rfl; exact rfl; (intro _)) | refine thenQ_normal ?_ | refine JC_seq ?_ | refine JC_region ?_ | (apply JC_draw mixed; kernel_rfl) | refine J_nil ?_ | refine JC_skip ?_ | refine JC_ret ?_ | (apply JC_if_false; exact rfl))
    exact g1 rfl rfl rfl rfl
end Go.Proofs.Ytflleelfkknfaaa
