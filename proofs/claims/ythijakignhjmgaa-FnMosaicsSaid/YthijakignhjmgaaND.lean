/- Walks: the program's grid of a mosaic. -/
import Derived.Test.YthijakignhjmgaaNE
namespace Go.Proofs.Ythijakignhjmgaa
open Go Go.RowKit SL
namespace SL
instance (priority := low) RB_N {v : Value} {A H : Hp} {e sz : Nat} {xs : List Value} [h : RB v H e sz xs] : RB v (A ++ H) e sz xs := ⟨List.mem_append.2 (.inr h.out)⟩
instance (priority := low) MB_N {b : Nat} {A H : Hp} {cs : List Value} {E : TypeId} [h : MB b H cs E] : MB b (A ++ H) cs E := ⟨List.mem_append.2 (.inr h.out)⟩
instance (priority := low) RB_L {v : Value} {A H : Hp} {e sz : Nat} {xs : List Value} [h : RB v A e sz xs] : RB v (A ++ H) e sz xs := ⟨List.mem_append.2 (.inl h.out)⟩
instance (priority := low) MU_N {b : Nat} {A H H' : Hp} {cs cs' : List Value} {E : TypeId} [h : MU b H cs E cs' H'] : MU b (A ++ H) cs E cs' (A ++ H') := ⟨by
  obtain ⟨H1, H2, rfl, rfl⟩ := h.out
  exact ⟨A ++ H1, H2, (List.append_assoc ..).symm, (List.append_assoc ..).symm⟩⟩
instance (priority := low) RF_N {v : Value} {A H : Hp} {H' : Value → List Value → Hp} {e sz : Nat} {xs : List Value} [h : RF v H e sz xs H'] : RF v (A ++ H) e sz xs (fun v' xs' => A ++ H' v' xs') := ⟨by
  obtain ⟨H1, H2, rfl, h2⟩ := h.out
  exact ⟨A ++ H1, H2, (List.append_assoc ..).symm, fun v' xs' => by rw [h2, List.append_assoc]⟩⟩
section
variable {P : Program} {B : Nat} {w0 : World} {n : Nat} {Q : Po} {F : Fr}
theorem owned_nilsN (A C : Hp) (c : Nat) : owned (A ++ (rwN (List.replicate c (.slice none 0 0, [])) ++ C)) = owned (A ++ C) := by
  unfold owned rwN
  rw [List.filterMap_append, List.filterMap_append, List.filterMap_append, List.map_replicate]
  have : List.filterMap It.own (List.replicate c (It.row (.slice none 0 0) 3 1 (i64s []))) = [] := by
    rw [List.filterMap_eq_nil_iff]
    intro a ha
    rw [List.eq_of_mem_replicate ha]
    rfl
  rw [this, List.nil_append]
theorem JC_nilsN {c : Code} {A C : Hp} (m : Nat) (k : JC P B w0 n c Q F (A ++ (rwN (List.replicate m (.slice none 0 0, [])) ++ C))) : JC P B w0 n c Q F (A ++ C) := by
  unfold JC at *
  refine fun a w ha hw => k a w ha ⟨hw.below, hw.base, fun x hx => ?_, by rw [owned_nilsN]; exact hw.apart⟩
  rcases List.mem_append.1 hx with hx | hx
  · exact hw.ok x (List.mem_append.2 (.inl hx))
  · rcases List.mem_append.1 hx with hx | hx
    · unfold rwN at hx
      rw [List.map_replicate] at hx
      rw [List.eq_of_mem_replicate hx]
      exact ⟨0, World.ownsRow_nil w B 3 1⟩
    · exact hw.ok x (List.mem_append.2 (.inr hx))
theorem JC_onesN {c : Code} {us : List Value} {H : Hp} (hm : ∀ u ∈ us, ∃ e sz xs, It.row u e sz xs ∈ H) (k : (∀ u ∈ us, u.oneCell' = true) → JC P B w0 n c Q F H) : JC P B w0 n c Q F H := by
  unfold JC at *
  intro a w ha hw
  refine k (fun u hu => ?_) a w ha hw
  obtain ⟨e, sz, xs, h⟩ := hm u hu
  obtain ⟨m, _, h2⟩ := hw.row_slice h
  rcases h2 with ⟨rfl, _⟩ | ⟨_, _, _, rfl, _⟩ <;> rfl
end
end SL
abbrev sl (b n : Nat) : Value := .slice (some ⟨b, 0, none⟩) n n
def Hcr (b5 b6 n : Nat) (LC LR : LN) (H : Hp) : Hp := .row (sl b5 n) 92 1 (LC.map (·.1)) :: .row (sl b6 n) 92 1 (LR.map (·.1)) :: (rwN LC ++ (rwN LR ++ H))
set_option maxHeartbeats 1000000 in
set_option maxRecDepth 100000 in
theorem igrid_good (n : Nat) (T : List Nat) (bT : isB64 T) (g : okM (n : Int) T) (w : World) :
    Gives Try.prog 14 #[.agg (mv (n : Int) T).toArray] (endG n T (gridS n (crT n T) (Z8, Z8, F8) n)) w := by
  have lT := bT.1
  have ug := mv_len (n := (n : Int)) lT
  have h2 : 2 ≤ n := by have := g.1; omega
  have h8 : n ≤ 8 := by have := g.1; omega
  have h64 := nn_le (n := n) (by omega)
  have hc : crT n T = crT n T := rfl
  refine gives_of (args := [.agg (mv (n : Int) T).toArray]) [(0, .agg (mv (n : Int) T).toArray)] [] Try.func14 rfl Try.ntmps14 rfl (argsF_cons rfl argsF_nil) (Holds.start w) ?_
  repeat' (first | (apply Jq_move; exact rfl; exact rfl) | (apply Jq_assign; exact rfl; exact rfl) | (apply Jq_load; exact rfl; exact rfl; (exact mb); (first | exact rfl)) | (apply Jq_fieldAddr; exact rfl; exact rfl) | (apply Jq_indexN; exact rfl; exact rfl; exact rfl; omega) | (apply Jq_index; exact rfl; exact rfl; exact rfl; omega; omega) | (apply Jq_indexSN; exact rfl; exact rfl; exact rfl; omega) | (apply Jq_cmp; exact rfl; exact rfl; exact rfl; exact rfl) | (apply Jq_add; exact rfl; exact rfl; exact rfl; omega) | (apply Jq_sub; exact rfl; exact rfl; exact rfl; omega) | (apply Jq_mul; exact rfl; exact rfl; exact rfl; omega) | (apply Jq_not; exact rfl; exact rfl) | (apply Jq_pick_true; exact rfl; exact rfl; exact rfl) | (apply Jq_pick_false; exact rfl; exact rfl; exact rfl) | (apply J_on; exact rfl; exact rfl) | (apply J_skip; exact rfl; exact rfl; exact rfl; exact rfl) | (apply Jc; exact rfl; exact rfl; exact rfl; infer_instance; ((intro w hw); first | exact IsMosaic_gives n T bT w)) | (apply Jq_loadW; exact rfl; exact rfl; (exact mb); (first | exact rfl | omega)) | (apply Jq_loadA; exact rfl; exact rfl; (exact mb); (first | exact rfl); (first | exact rfl | omega)) | (apply J_s1; exact rfl; exact rfl; exact rfl; infer_instance; (first | exact rfl | omega); (first | exact rfl); infer_instance) | (apply J_sW; exact rfl; exact rfl; infer_instance; (first | exact rfl | omega); (first | exact rfl | omega); (first | exact ones_of rfl | exact u8s_one _ | exact i64s_one _ | exact bls_one _ | exact gv_one _ _ _ | exact dv_one _ _ _ _ _ _ | exact mv_one _ _); infer_instance) | (apply J_sR; exact rfl; exact rfl; exact rfl; infer_instance; (first | exact rfl | omega); (first | exact i64s_setR)) | (apply J_lit1; exact rfl; exact rfl; exact rfl; (intro _)) | (apply J_ap; exact Nat.one_pos; exact rfl; exact rfl; exact rfl; infer_instance; (first | exact rb | assumption); exact List.cons_ne_nil _ _; exact ones_of rfl; ((show (_ + 1) * _ ≤ _); omega); decide; (first | exact i64s_snoc | exact u8s_snoc | exact rfl); (intro _)) | (apply Jq_indexRN; exact rfl; exact rfl; exact rfl; (first | exact rb | assumption); omega) | (apply Jq_loadR; exact rfl; exact rfl; (first | exact rb | assumption); (first | exact rfl)) | (apply J_box; exact rfl; exact rfl; exact rfl; (intro _)) | (apply J_make1; exact rfl; exact rfl; exact rfl; omega; ((show _ ≤ maxLen); (simp only [maxLen]); omega); exact rfl; (intro _)) | (apply J_alloc (cs := gv 0 Z8 Z8); exact rfl; exact rfl; (intro _)) | (apply J_alloc (cs := dv 0 Z8 Z8 0 Z8 Z8); exact rfl; exact rfl; (intro _)) | (apply J_alloc (cs := u8s Z8); exact rfl; exact rfl; (intro _)) | (apply J_alloc (cs := i64s Z8); exact rfl; exact rfl; (intro _)) | (apply J_alloc (cs := bls F8); exact rfl; exact rfl; (intro _)) | (apply J_alloc; exact rfl; exact rfl; (intro _)) | (apply Jz (cs := gv 0 Z8 Z8); exact rfl; exact rfl) | (apply Jz (cs := dv 0 Z8 Z8 0 Z8 Z8); exact rfl; exact rfl) | (apply Jz (cs := u8s Z8); exact rfl; exact rfl) | (apply Jz (cs := i64s Z8); exact rfl; exact rfl) | (apply Jz (cs := bls F8); exact rfl; exact rfl) | (apply Jq_build0; exact rfl) | refine thenQ_normal ?_ | refine thenQ_exit ?_ | refine thenQ_ret ?_ | refine inBlockQ_normal ?_ | refine inBlockQ_ret ?_ | refine inBlockQ_here ?_ | (apply inBlockQ_on; exact rfl) | refine JC_seq ?_ | refine JC_region ?_ | refine J_nil ?_ | refine JC_block ?_ | refine JC_skip ?_ | refine JC_ret ?_ | refine JC_exit ?_ | (apply JC_if_true; exact rfl) | (apply JC_if_false; exact rfl) | (apply JC_dec_true; exact rfl; omega) | (apply JC_dec_false; exact rfl; omega) | (apply JC_ndec_true; exact rfl; omega) | (apply JC_ndec_false; exact rfl; omega) | (apply J_gdT; exact rfl; exact rfl; omega) | (apply J_gdF; exact rfl; exact rfl; omega) | (apply J_gnT; exact rfl; exact rfl; omega) | (apply J_gnF; exact rfl; exact rfl; omega) | refine JC_dec rfl (fun _ => ?_) (fun _ => ?_) | refine JC_ndec rfl (fun _ => ?_) (fun _ => ?_) | refine JC_if rfl (fun _ => ?_) (fun _ => ?_) | refine J_gd rfl rfl (fun _ => ?_) (fun _ => ?_) | refine J_gn rfl rfl (fun _ => ?_) (fun _ => ?_) | refine J_gb rfl rfl (fun _ => ?_) (fun _ => ?_))
  rename_i b1 b2
  refine JC_cutT (Y := Nat × Nat) (fun _ => True) (fun p => [(5, sl p.1 n), (6, sl p.2 n), (4, .int .i64 (n : Int)), (3, .int .i64 0), (2, .pointer (some ⟨b2, 0, none⟩)), (1, .pointer (some ⟨b1, 0, none⟩))]) (fun p => [.row (sl p.1 n) 92 1 (List.replicate n (.slice none 0 0)), .row (sl p.2 n) 92 1 (List.replicate n (.slice none 0 0)), .blk b2 (gv 0 Z8 Z8) 27, .blk b1 (mv (n : Int) T) 30]) ?_ ?_
  ·
    refine JC_any (m := 6) rfl [] mixed (by exact sub_nil) ?_
    (apply JF_q 0; exact rfl; kernel_rfl; exact rfl; (intro E hE; (first | (apply q_move; exact rfl))))
    (apply JF_q 2; exact rfl; kernel_rfl; exact rfl; (intro E hE; (first | (apply q_move; exact rfl))))
    (apply JF_all [1, 3]; kernel_rfl)
    (apply JFs_cons; exact rfl)
    · (first | (apply J_make1; exact rfl; exact rfl; exact rfl; omega; ((show _ ≤ maxLen); (simp only [maxLen]); omega); exact rfl; (intro _)))
      (apply J_nil; apply JF_end; exact sub_nil)
      (apply JF_q 4; exact rfl; kernel_rfl; exact rfl; (intro E hE; (first | (apply q_assign; exact rfl))))
      (apply JF_all [3]; kernel_rfl)
      (apply JFs_cons; exact rfl)
      · (first | (apply J_make1; exact rfl; exact rfl; exact rfl; omega; ((show _ ≤ maxLen); (simp only [maxLen]); omega); exact rfl; (intro _)))
        (apply J_nil; apply JF_end; exact sub_nil)
        (apply JF_q 5; exact rfl; kernel_rfl; exact rfl; (intro E hE; (first | (apply q_assign; exact rfl))))
        (apply JF_done; kernel_rfl)
        (apply thenQ_normal; apply ex2; refine ⟨trivial, ?_⟩; dsimp only; (refine entP (ent ?_ (List.nil_sublist _)) ?_; (repeat refine fr_cons rfl ?_); exact fr_nil; (repeat (first | exact sp_nil | exact sp_refl | exact sp_end | (with_reducible apply sp0) | (with_reducible apply sp1) | (with_reducible apply sp2) | (with_reducible apply sp3) | (with_reducible apply sp4) | (with_reducible apply sp5) | (with_reducible apply sp6) | (with_reducible apply sp7) | apply sp0 | apply sp1 | apply sp2 | apply sp3 | apply sp4 | apply sp5))))
      exact JFs_nil
    (apply JFs_cons; exact rfl)
    · (first | (apply J_make1; exact rfl; exact rfl; exact rfl; omega; ((show _ ≤ maxLen); (simp only [maxLen]); omega); exact rfl; (intro _)))
      (apply J_nil; apply JF_end; exact sub_nil)
      (apply JF_all [1]; kernel_rfl)
      (apply JFs_cons; exact rfl)
      · (first | (apply J_make1; exact rfl; exact rfl; exact rfl; omega; ((show _ ≤ maxLen); (simp only [maxLen]); omega); exact rfl; (intro _)))
        (apply J_nil; apply JF_end; exact sub_nil)
        (apply JF_q 4; exact rfl; kernel_rfl; exact rfl; (intro E hE; (first | (apply q_assign; exact rfl))))
        (apply JF_q 5; exact rfl; kernel_rfl; exact rfl; (intro E hE; (first | (apply q_assign; exact rfl))))
        (apply JF_done; kernel_rfl)
        (apply thenQ_normal; apply ex2; refine ⟨trivial, ?_⟩; dsimp only; (refine entP (ent ?_ (List.nil_sublist _)) ?_; (repeat refine fr_cons rfl ?_); exact fr_nil; (repeat (first | exact sp_nil | exact sp_refl | exact sp_end | (with_reducible apply sp0) | (with_reducible apply sp1) | (with_reducible apply sp2) | (with_reducible apply sp3) | (with_reducible apply sp4) | (with_reducible apply sp5) | (with_reducible apply sp6) | (with_reducible apply sp7) | apply sp0 | apply sp1 | apply sp2 | apply sp3 | apply sp4 | apply sp5))))
      exact JFs_nil
    exact JFs_nil
  · rintro ⟨b5, b6⟩ _
    dsimp only
    refine JC_nilsN (A := [.row (sl b5 n) 92 1 (List.replicate n (.slice none 0 0)), .row (sl b6 n) 92 1 (List.replicate n (.slice none 0 0))]) n ?_
    refine JC_nilsN (A := [.row (sl b5 n) 92 1 (List.replicate n (.slice none 0 0)), .row (sl b6 n) 92 1 (List.replicate n (.slice none 0 0))]) n ?_
    dsimp only [List.cons_append, List.nil_append]
    repeat' (first | (apply Jq_move; exact rfl; exact rfl) | (apply Jq_assign; exact rfl; exact rfl) | (apply Jq_load; exact rfl; exact rfl; (exact mb); (first | exact rfl)) | (apply Jq_fieldAddr; exact rfl; exact rfl) | (apply Jq_indexN; exact rfl; exact rfl; exact rfl; omega) | (apply Jq_index; exact rfl; exact rfl; exact rfl; omega; omega) | (apply Jq_indexSN; exact rfl; exact rfl; exact rfl; omega) | (apply Jq_cmp; exact rfl; exact rfl; exact rfl; exact rfl) | (apply Jq_add; exact rfl; exact rfl; exact rfl; omega) | (apply Jq_sub; exact rfl; exact rfl; exact rfl; omega) | (apply Jq_mul; exact rfl; exact rfl; exact rfl; omega) | (apply Jq_not; exact rfl; exact rfl) | (apply Jq_pick_true; exact rfl; exact rfl; exact rfl) | (apply Jq_pick_false; exact rfl; exact rfl; exact rfl) | (apply J_on; exact rfl; exact rfl) | (apply J_skip; exact rfl; exact rfl; exact rfl; exact rfl) | (apply Jq_loadW; exact rfl; exact rfl; (exact mb); (first | exact rfl | omega)) | (apply Jq_loadA; exact rfl; exact rfl; (exact mb); (first | exact rfl); (first | exact rfl | omega)) | (apply J_s1; exact rfl; exact rfl; exact rfl; infer_instance; (first | exact rfl | omega); (first | exact rfl); infer_instance) | (apply J_sW; exact rfl; exact rfl; infer_instance; (first | exact rfl | omega); (first | exact rfl | omega); (first | exact ones_of rfl | exact u8s_one _ | exact i64s_one _ | exact bls_one _ | exact gv_one _ _ _ | exact dv_one _ _ _ _ _ _); infer_instance) | (apply J_sR; exact rfl; exact rfl; exact rfl; infer_instance; (first | exact rfl | omega); (first | exact i64s_setR)) | (apply J_lit1; exact rfl; exact rfl; exact rfl; (intro _)) | (apply J_ap; exact Nat.one_pos; exact rfl; exact rfl; exact rfl; infer_instance; (first | exact rb | assumption); exact List.cons_ne_nil _ _; exact ones_of rfl; ((show (_ + 1) * _ ≤ _); omega); decide; (first | exact i64s_snoc | exact u8s_snoc | exact rfl); (intro _)) | (apply Jq_indexRN; exact rfl; exact rfl; exact rfl; (first | exact rb | assumption); omega) | (apply Jq_loadR; exact rfl; exact rfl; (first | exact rb | assumption); (first | exact rfl)) | (apply J_box; exact rfl; exact rfl; exact rfl; (intro _)) | (apply J_make1; exact rfl; exact rfl; exact rfl; omega; ((show _ ≤ maxLen); (simp only [maxLen]); omega); exact rfl; (intro _)) | (apply J_alloc (cs := gv 0 Z8 Z8); exact rfl; exact rfl; (intro _)) | (apply J_alloc (cs := dv 0 Z8 Z8 0 Z8 Z8); exact rfl; exact rfl; (intro _)) | (apply J_alloc (cs := u8s Z8); exact rfl; exact rfl; (intro _)) | (apply J_alloc (cs := i64s Z8); exact rfl; exact rfl; (intro _)) | (apply J_alloc (cs := bls F8); exact rfl; exact rfl; (intro _)) | (apply J_alloc; exact rfl; exact rfl; (intro _)) | (apply Jz (cs := gv 0 Z8 Z8); exact rfl; exact rfl) | (apply Jz (cs := dv 0 Z8 Z8 0 Z8 Z8); exact rfl; exact rfl) | (apply Jz (cs := u8s Z8); exact rfl; exact rfl) | (apply Jz (cs := i64s Z8); exact rfl; exact rfl) | (apply Jz (cs := bls F8); exact rfl; exact rfl) | (apply Jq_build0; exact rfl) | refine thenQ_normal ?_ | refine thenQ_exit ?_ | refine thenQ_ret ?_ | refine inBlockQ_normal ?_ | refine inBlockQ_ret ?_ | refine inBlockQ_here ?_ | (apply inBlockQ_on; exact rfl) | refine JC_seq ?_ | refine JC_region ?_ | (apply JC_draw mixed; kernel_rfl) | refine J_nil ?_ | refine JC_block ?_ | refine JC_skip ?_ | refine JC_ret ?_ | refine JC_exit ?_ | (apply JC_if_true; exact rfl) | (apply JC_if_false; exact rfl) | (apply JC_dec_true; exact rfl; omega) | (apply JC_dec_false; exact rfl; omega) | (apply JC_ndec_true; exact rfl; omega) | (apply JC_ndec_false; exact rfl; omega) | (apply J_gdT; exact rfl; exact rfl; omega) | (apply J_gdF; exact rfl; exact rfl; omega) | (apply J_gnT; exact rfl; exact rfl; omega) | (apply J_gnF; exact rfl; exact rfl; omega) | refine JC_dec rfl (fun _ => ?_) (fun _ => ?_) | refine JC_ndec rfl (fun _ => ?_) (fun _ => ?_) | refine JC_if rfl (fun _ => ?_) (fun _ => ?_) | refine J_gd rfl rfl (fun _ => ?_) (fun _ => ?_) | refine J_gn rfl rfl (fun _ => ?_) (fun _ => ?_) | refine J_gb rfl rfl (fun _ => ?_) (fun _ => ?_))
    obtain ⟨Hb, hHb⟩ : ∃ Hb : Hp, Hb = [.blk b2 (gv 0 Z8 Z8) 27, .blk b1 (mv (n : Int) T) 30] := ⟨_, rfl⟩
    have j2 : MB b2 Hb (gv 0 Z8 Z8) 27 := ⟨by rw [hHb]; exact m0⟩
    have j1 : MB b1 Hb (mv (n : Int) T) 30 := ⟨by rw [hHb]; exact mS m0⟩
    rw [← hHb]
    have hrep : (List.replicate n ((.slice none 0 0 : Value), ([] : List Nat))).map (·.1) = List.replicate n (.slice none 0 0) := List.map_replicate
    rw [← hrep]
    refine JC_cutB (Y := LN × LN) (fun p => colOK n (crT n T) n 0 p.1 ∧ rowOK n (crT n T) n 0 p.2) (fun _ => [(5, sl b5 n), (6, sl b6 n), (4, .int .i64 (n : Int)), (3, .int .i64 0), (2, .pointer (some ⟨b2, 0, none⟩)), (1, .pointer (some ⟨b1, 0, none⟩))]) (fun p => Hcr b5 b6 n p.1 p.2 Hb) ?_ ?_
    · refine JC_loop (X := Nat × LN × LN) (fun p => p.1 ≤ n ∧ colOK n (crT n T) p.1 0 p.2.1 ∧ rowOK n (crT n T) p.1 0 p.2.2) (fun p => [(27, .int .i64 (p.1 : Int)), (26, .int .i64 (n : Int)), (5, sl b5 n), (6, sl b6 n), (4, .int .i64 (n : Int)), (3, .int .i64 0), (2, .pointer (some ⟨b2, 0, none⟩)), (1, .pointer (some ⟨b1, 0, none⟩))]) (fun p => Hcr b5 b6 n p.2.1 p.2.2 Hb) (fun p => n - p.1) (0, List.replicate n (.slice none 0 0, []), List.replicate n (.slice none 0 0, [])) ⟨Nat.zero_le _, colOK.start _ _, rowOK.start _ _⟩ ?_ ?_
      · (try unfold Hcr)
        (refine ent ?_ ?_; (repeat refine fr_cons rfl ?_); exact fr_nil; (repeat (first | exact List.nil_sublist _ | exact List.Sublist.refl _ | refine List.Sublist.cons_cons _ ?_ | refine List.Sublist.cons _ ?_)))
      · rintro ⟨r, LC, LR⟩ ⟨hr, hC, hR⟩
        dsimp only at hr hC hR ⊢
        unfold Hcr
        by_cases hrn : r < n
        · repeat' (first | (apply Jq_move; exact rfl; exact rfl) | (apply Jq_assign; exact rfl; exact rfl) | (apply Jq_load; exact rfl; exact rfl; (exact mb); (first | exact rfl)) | (apply Jq_fieldAddr; exact rfl; exact rfl) | (apply Jq_indexN; exact rfl; exact rfl; exact rfl; omega) | (apply Jq_index; exact rfl; exact rfl; exact rfl; omega; omega) | (apply Jq_indexSN; exact rfl; exact rfl; exact rfl; omega) | (apply Jq_cmp; exact rfl; exact rfl; exact rfl; exact rfl) | (apply Jq_add; exact rfl; exact rfl; exact rfl; omega) | (apply Jq_sub; exact rfl; exact rfl; exact rfl; omega) | (apply Jq_mul; exact rfl; exact rfl; exact rfl; omega) | (apply Jq_not; exact rfl; exact rfl) | (apply Jq_pick_true; exact rfl; exact rfl; exact rfl) | (apply Jq_pick_false; exact rfl; exact rfl; exact rfl) | (apply J_on; exact rfl; exact rfl) | (apply J_skip; exact rfl; exact rfl; exact rfl; exact rfl) | (apply Jq_loadW; exact rfl; exact rfl; (exact mb); (first | exact rfl | omega)) | (apply Jq_loadA; exact rfl; exact rfl; (exact mb); (first | exact rfl); (first | exact rfl | omega)) | (apply J_s1; exact rfl; exact rfl; exact rfl; infer_instance; (first | exact rfl | omega); (first | exact rfl); infer_instance) | (apply J_sW; exact rfl; exact rfl; infer_instance; (first | exact rfl | omega); (first | exact rfl | omega); (first | exact ones_of rfl | exact u8s_one _ | exact i64s_one _ | exact bls_one _ | exact gv_one _ _ _ | exact dv_one _ _ _ _ _ _); infer_instance) | (apply J_sR; exact rfl; exact rfl; exact rfl; infer_instance; (first | exact rfl | omega); (first | exact i64s_setR)) | (apply J_lit1; exact rfl; exact rfl; exact rfl; (intro _)) | (apply J_ap; exact Nat.one_pos; exact rfl; exact rfl; exact rfl; infer_instance; (first | exact rb | assumption); exact List.cons_ne_nil _ _; exact ones_of rfl; ((show (_ + 1) * _ ≤ _); omega); decide; (first | exact i64s_snoc | exact u8s_snoc | exact rfl); (intro _)) | (apply Jq_indexRN; exact rfl; exact rfl; exact rfl; (first | exact rb | assumption); omega) | (apply Jq_loadR; exact rfl; exact rfl; (first | exact rb | assumption); (first | exact rfl)) | (apply J_box; exact rfl; exact rfl; exact rfl; (intro _)) | (apply J_make1; exact rfl; exact rfl; exact rfl; omega; ((show _ ≤ maxLen); (simp only [maxLen]); omega); exact rfl; (intro _)) | (apply J_alloc (cs := gv 0 Z8 Z8); exact rfl; exact rfl; (intro _)) | (apply J_alloc (cs := dv 0 Z8 Z8 0 Z8 Z8); exact rfl; exact rfl; (intro _)) | (apply J_alloc (cs := u8s Z8); exact rfl; exact rfl; (intro _)) | (apply J_alloc (cs := i64s Z8); exact rfl; exact rfl; (intro _)) | (apply J_alloc (cs := bls F8); exact rfl; exact rfl; (intro _)) | (apply J_alloc; exact rfl; exact rfl; (intro _)) | (apply Jz (cs := gv 0 Z8 Z8); exact rfl; exact rfl) | (apply Jz (cs := dv 0 Z8 Z8 0 Z8 Z8); exact rfl; exact rfl) | (apply Jz (cs := u8s Z8); exact rfl; exact rfl) | (apply Jz (cs := i64s Z8); exact rfl; exact rfl) | (apply Jz (cs := bls F8); exact rfl; exact rfl) | (apply Jq_build0; exact rfl) | refine thenQ_normal ?_ | refine thenQ_exit ?_ | refine thenQ_ret ?_ | refine inBlockQ_normal ?_ | refine inBlockQ_ret ?_ | refine inBlockQ_here ?_ | (apply inBlockQ_on; exact rfl) | refine JC_seq ?_ | refine JC_region ?_ | (apply JC_draw mixed; kernel_rfl) | refine J_nil ?_ | refine JC_block ?_ | refine JC_skip ?_ | refine JC_ret ?_ | refine JC_exit ?_ | (apply JC_if_true; exact rfl) | (apply JC_if_false; exact rfl) | (apply JC_dec_true; exact rfl; omega) | (apply JC_dec_false; exact rfl; omega) | (apply JC_ndec_true; exact rfl; omega) | (apply JC_ndec_false; exact rfl; omega) | (apply J_gdT; exact rfl; exact rfl; omega) | (apply J_gdF; exact rfl; exact rfl; omega) | (apply J_gnT; exact rfl; exact rfl; omega) | (apply J_gnF; exact rfl; exact rfl; omega) | refine JC_dec rfl (fun _ => ?_) (fun _ => ?_) | refine JC_ndec rfl (fun _ => ?_) (fun _ => ?_) | refine JC_if rfl (fun _ => ?_) (fun _ => ?_) | refine J_gd rfl rfl (fun _ => ?_) (fun _ => ?_) | refine J_gn rfl rfl (fun _ => ?_) (fun _ => ?_) | refine J_gb rfl rfl (fun _ => ?_) (fun _ => ?_))
          refine JC_loop (X := Nat × LN × LN) (fun p => p.1 ≤ n ∧ colOK n (crT n T) r p.1 p.2.1 ∧ rowOK n (crT n T) r p.1 p.2.2) (fun p => [(31, .int .i64 (p.1 : Int)), (30, .int .i64 (n : Int)), (7, .int .i64 (r : Int)), (27, .int .i64 (r : Int)), (26, .int .i64 (n : Int)), (5, sl b5 n), (6, sl b6 n), (4, .int .i64 (n : Int)), (3, .int .i64 0), (2, .pointer (some ⟨b2, 0, none⟩)), (1, .pointer (some ⟨b1, 0, none⟩))]) (fun p => Hcr b5 b6 n p.2.1 p.2.2 Hb) (fun p => n - p.1) (0, LC, LR) ⟨Nat.zero_le _, hC, hR⟩ ?_ ?_
          · (try unfold Hcr)
            (refine ent ?_ ?_; (repeat refine fr_cons rfl ?_); exact fr_nil; (repeat (first | exact List.nil_sublist _ | exact List.Sublist.refl _ | refine List.Sublist.cons_cons _ ?_ | refine List.Sublist.cons _ ?_)))
          · rintro ⟨i, LC, LR⟩ ⟨hi, hC, hR⟩
            dsimp only at hi hC hR ⊢
            (try unfold Hcr)
            by_cases hin : i < n
            · have hri := rc_lt hrn hin
              have e1 : (n : Int) * (r : Int) = ((n * r : Nat) : Int) := rfl
              have e2 : ((n * r : Nat) : Int) + (i : Int) = ((n * r + i : Nat) : Int) := rfl
              repeat' (first | (apply Jq_mulR; exact rfl; exact rfl; exact rfl; omega; exact e1) | (apply Jq_addR; exact rfl; exact rfl; exact rfl; omega; exact e2) | (apply Jq_move; exact rfl; exact rfl) | (apply Jq_assign; exact rfl; exact rfl) | (apply Jq_load; exact rfl; exact rfl; (exact mb); (first | exact rfl | (refine mv_at ?_; omega))) | (apply Jq_fieldAddr; exact rfl; exact rfl) | (apply Jq_indexN; exact rfl; exact rfl; exact rfl; omega) | (apply Jq_index; exact rfl; exact rfl; exact rfl; omega; omega) | (apply Jq_indexSN; exact rfl; exact rfl; exact rfl; omega) | (apply Jq_cmp; exact rfl; exact rfl; exact rfl; exact rfl) | (apply Jq_add; exact rfl; exact rfl; exact rfl; omega) | (apply Jq_sub; exact rfl; exact rfl; exact rfl; omega) | (apply Jq_mul; exact rfl; exact rfl; exact rfl; omega) | (apply Jq_not; exact rfl; exact rfl) | (apply Jq_pick_true; exact rfl; exact rfl; exact rfl) | (apply Jq_pick_false; exact rfl; exact rfl; exact rfl) | (apply J_on; exact rfl; exact rfl) | (apply J_skip; exact rfl; exact rfl; exact rfl; exact rfl) | (apply Jq_loadW; exact rfl; exact rfl; (exact mb); (first | exact rfl | omega)) | (apply Jq_loadA; exact rfl; exact rfl; (exact mb); (first | (refine mv_at ?_; omega) | exact rfl); (first | exact rfl | omega)) | (apply J_s1; exact rfl; exact rfl; exact rfl; infer_instance; (first | exact rfl | omega); (first | exact rfl); infer_instance) | (apply J_sW; exact rfl; exact rfl; infer_instance; (first | exact rfl | omega); (first | exact rfl | omega); (first | exact ones_of rfl | exact u8s_one _ | exact i64s_one _ | exact bls_one _ | exact gv_one _ _ _ | exact dv_one _ _ _ _ _ _); infer_instance) | (apply J_sR; exact rfl; exact rfl; exact rfl; infer_instance; (first | exact rfl | omega); (first | exact i64s_setR)) | (apply J_lit1; exact rfl; exact rfl; exact rfl; (intro _)) | (apply J_ap; exact Nat.one_pos; exact rfl; exact rfl; exact rfl; infer_instance; (first | exact rb | assumption); exact List.cons_ne_nil _ _; exact ones_of rfl; ((show (_ + 1) * _ ≤ _); omega); decide; (first | exact i64s_snoc | exact u8s_snoc | exact rfl); (intro _)) | (apply Jq_indexRN; exact rfl; exact rfl; exact rfl; (first | exact rb | assumption); omega) | (apply Jq_loadR; exact rfl; exact rfl; (first | exact rb | assumption); (first | exact rfl | (refine mv_at ?_; omega))) | (apply J_box; exact rfl; exact rfl; exact rfl; (intro _)) | (apply J_make1; exact rfl; exact rfl; exact rfl; omega; ((show _ ≤ maxLen); (simp only [maxLen]); omega); exact rfl; (intro _)) | (apply J_alloc (cs := gv 0 Z8 Z8); exact rfl; exact rfl; (intro _)) | (apply J_alloc (cs := dv 0 Z8 Z8 0 Z8 Z8); exact rfl; exact rfl; (intro _)) | (apply J_alloc (cs := u8s Z8); exact rfl; exact rfl; (intro _)) | (apply J_alloc (cs := i64s Z8); exact rfl; exact rfl; (intro _)) | (apply J_alloc (cs := bls F8); exact rfl; exact rfl; (intro _)) | (apply J_alloc; exact rfl; exact rfl; (intro _)) | (apply Jz (cs := gv 0 Z8 Z8); exact rfl; exact rfl) | (apply Jz (cs := dv 0 Z8 Z8 0 Z8 Z8); exact rfl; exact rfl) | (apply Jz (cs := u8s Z8); exact rfl; exact rfl) | (apply Jz (cs := i64s Z8); exact rfl; exact rfl) | (apply Jz (cs := bls F8); exact rfl; exact rfl) | (apply Jq_build0; exact rfl) | refine thenQ_normal ?_ | refine thenQ_exit ?_ | refine thenQ_ret ?_ | refine inBlockQ_normal ?_ | refine inBlockQ_ret ?_ | refine inBlockQ_here ?_ | (apply inBlockQ_on; exact rfl) | refine JC_seq ?_ | refine JC_region ?_ | refine J_nil ?_ | refine JC_block ?_ | refine JC_skip ?_ | refine JC_ret ?_ | refine JC_exit ?_ | (apply JC_if_true; exact rfl) | (apply JC_if_false; exact rfl) | (apply JC_dec_true; exact rfl; omega) | (apply JC_dec_false; exact rfl; omega) | (apply JC_ndec_true; exact rfl; omega) | (apply JC_ndec_false; exact rfl; omega) | (apply J_gdT; exact rfl; exact rfl; omega) | (apply J_gdF; exact rfl; exact rfl; omega) | (apply J_gnT; exact rfl; exact rfl; omega) | (apply J_gnF; exact rfl; exact rfl; omega) | refine JC_dec rfl (fun _ => ?_) (fun _ => ?_) | refine JC_ndec rfl (fun _ => ?_) (fun _ => ?_) | refine JC_if rfl (fun _ => ?_) (fun _ => ?_) | refine J_gd rfl rfl (fun _ => ?_) (fun _ => ?_) | refine J_gn rfl rfl (fun _ => ?_) (fun _ => ?_) | refine J_gb rfl rfl (fun _ => ?_) (fun _ => ?_))
              · have hcr : crT n T r i = true := decide_eq_true (by omega)
                obtain ⟨A, ⟨u, pl⟩, C, rfl, hA⟩ := splitN (show i < LC.length by rw [hC.1]; exact hin)
                obtain ⟨A', ⟨u', ql⟩, C', rfl, hA'⟩ := splitN (show r < LR.length by rw [hR.1]; exact hrn)
                have bp : pl.length ≤ 8 := by
                  have h1 := hC.2 A.length (u, pl) (by simp)
                  dsimp only at h1
                  rw [h1, if_neg (by omega)]
                  exact Nat.le_trans (colP_len _ _ _) (by omega)
                have bq : ql.length ≤ 8 := by
                  have h1 := hR.2 A'.length (u', ql) (by simp)
                  dsimp only at h1
                  rw [h1, if_neg (by omega), if_pos hA']
                  exact Nat.le_trans (rowP_len _ _ _) (by omega)
                have lp := i64s_len pl
                have lq := i64s_len ql
                have lC : ((A ++ (u, pl) :: C).map (·.1)).length = n := by rw [List.length_map]; exact hC.1
                have lR : ((A' ++ (u', ql) :: C').map (·.1)).length = n := by rw [List.length_map]; exact hR.1
                have hg1 : ((A ++ (u, pl) :: C).map (·.1))[0 + i * 1]? = some u := by rw [show 0 + i * 1 = A.length by omega]; simp
                have hg2 : ((A' ++ (u', ql) :: C').map (·.1))[0 + r * 1]? = some u' := by rw [show 0 + r * 1 = A'.length by omega]; simp
                have hs1 : ∀ v', ((A ++ (u, pl) :: C).map (·.1)).set (0 + i * 1) v' = (A ++ (v', pl ++ [r]) :: C).map (·.1) := fun v' => by rw [show 0 + i * 1 = A.length by omega]; simp
                have hs2 : ∀ v', ((A' ++ (u', ql) :: C').map (·.1)).set (0 + r * 1) v' = (A' ++ (v', ql ++ [i]) :: C').map (·.1) := fun v' => by rw [show 0 + r * 1 = A'.length by omega]; simp
                have eH : ∀ p q : Value × List Nat, rwN (A ++ p :: C) ++ (rwN (A' ++ q :: C') ++ Hb) = rwN A ++ (.row p.1 3 1 (i64s p.2) :: (rwN C ++ (rwN A' ++ (.row q.1 3 1 (i64s q.2) :: (rwN C' ++ Hb))))) := fun p q => by
                  rw [rwN_app, rwN_app, List.append_assoc, List.append_assoc]; rfl
                rw [eH]
                dsimp only
                refine JC_cutB (Y := Value × Value) (fun _ => True) (fun _ => [(31, .int .i64 (i : Int)), (30, .int .i64 (n : Int)), (7, .int .i64 (r : Int)), (27, .int .i64 (r : Int)), (26, .int .i64 (n : Int)), (5, sl b5 n), (6, sl b6 n), (4, .int .i64 (n : Int)), (3, .int .i64 0), (2, .pointer (some ⟨b2, 0, none⟩)), (1, .pointer (some ⟨b1, 0, none⟩))]) (fun p => .row (sl b5 n) 92 1 ((A ++ (p.1, pl ++ [r]) :: C).map (·.1)) :: .row (sl b6 n) 92 1 ((A' ++ (p.2, ql ++ [i]) :: C').map (·.1)) :: (rwN A ++ (.row p.1 3 1 (i64s (pl ++ [r])) :: (rwN C ++ (rwN A' ++ (.row p.2 3 1 (i64s (ql ++ [i])) :: (rwN C' ++ Hb))))))) ?_ ?_
                ·
                  refine JC_any (m := 22) rfl [] mixed (by exact sub_nil) ?_
                  (apply JF_q 0; exact rfl; kernel_rfl; exact rfl; (intro E hE; (first | (apply q_move; exact rfl))))
                  (apply JF_q 1; exact rfl; kernel_rfl; exact rfl; (intro E hE; (first | (apply q_move; exact rfl))))
                  (apply JF_q 2; exact rfl; kernel_rfl; exact rfl; (intro E hE; (first | (apply q_move; exact rfl))))
                  (apply JF_q 3; exact rfl; kernel_rfl; exact rfl; (intro E hE; (first | (apply q_move; exact rfl))))
                  (apply JF_q 4; exact rfl; kernel_rfl; exact rfl; (intro E hE; (first | (apply q_move; exact rfl))))
                  (apply JF_q 5; exact rfl; kernel_rfl; exact rfl; (intro E hE; (first | (apply q_move; exact rfl))))
                  (apply JF_q 6; exact rfl; kernel_rfl; exact rfl; (intro E hE; (first | (apply q_indexN; exact rfl; exact rfl; omega) | (apply q_index; exact rfl; exact rfl; omega; omega) | (apply q_indexSN; exact rfl; exact rfl; omega) | (apply q_indexRN; exact rfl; exact rfl; (refine hE _ ?_; exact rb); omega))))
                  (apply JF_q 8; exact rfl; kernel_rfl; exact rfl; (intro E hE; (first | (apply q_move; exact rfl))))
                  (apply JF_q 11; exact rfl; kernel_rfl; exact rfl; (intro E hE; (first | (apply q_move; exact rfl))))
                  (apply JF_q 12; exact rfl; kernel_rfl; exact rfl; (intro E hE; (first | (apply q_move; exact rfl))))
                  (apply JF_q 13; exact rfl; kernel_rfl; exact rfl; (intro E hE; (first | (apply q_indexN; exact rfl; exact rfl; omega) | (apply q_index; exact rfl; exact rfl; omega; omega) | (apply q_indexSN; exact rfl; exact rfl; omega) | (apply q_indexRN; exact rfl; exact rfl; (refine hE _ ?_; exact rb); omega))))
                  (apply JF_q 15; exact rfl; kernel_rfl; exact rfl; (intro E hE; (first | (apply q_move; exact rfl))))
                  (apply JF_all [7, 9, 14, 16]; kernel_rfl)
                  (apply JFs_cons; exact rfl)
                  · (first | (apply Jq_loadR (v := sl b5 n); exact rfl; exact rfl; exact rb; exact hg1))
                    (apply J_nil; apply JF_end; exact sub_nil)
                    (apply JF_all [9, 14, 16]; kernel_rfl)
                    (apply JFs_cons; exact rfl)
                    · (first | (apply J_lit1; exact rfl; exact rfl; exact rfl; (intro _)))
                      (apply J_nil; apply JF_end; exact sub_nil)
                      (apply JF_all [10, 14, 16]; kernel_rfl)
                      (apply JFs_cons; exact rfl)
                      · (first | (apply J_ap (v := u); decide; exact rfl; exact rfl; exact rfl; infer_instance; exact rb; exact List.cons_ne_nil _ _; exact ones_of rfl; ((show (_ + 1) * _ ≤ _); omega); decide; exact i64s_snoc; (intro v'); (refine J_row1' (v := v') rb (fun oa _ => ?_))))
                        (apply J_nil; apply JF_end; exact sub_nil)
                        (apply JF_all [14, 16]; kernel_rfl)
                        (apply JFs_cons; exact rfl)
                        · (first | (apply Jq_loadR (v := sl b6 n); exact rfl; exact rfl; exact rb; exact hg2))
                          (apply J_nil; apply JF_end; exact sub_nil)
                          (apply JF_all [16]; kernel_rfl)
                          (apply JFs_cons; exact rfl)
                          · (first | (apply J_lit1; exact rfl; exact rfl; exact rfl; (intro _)))
                            (apply J_nil; apply JF_end; exact sub_nil)
                            (apply JF_all [17]; kernel_rfl)
                            (apply JFs_cons; exact rfl)
                            · (first | (apply J_ap (v := u'); decide; exact rfl; exact rfl; exact rfl; infer_instance; exact rb; exact List.cons_ne_nil _ _; exact ones_of rfl; ((show (_ + 1) * _ ≤ _); omega); decide; exact i64s_snoc; (intro v2); (refine J_row1' (v := v2) rb (fun oa2 _ => ?_))))
                              (apply J_nil; apply JF_end; exact sub_nil)
                              (apply JF_q 18; exact rfl; kernel_rfl; exact rfl; (intro E hE; (first | (apply q_indexN; exact rfl; exact rfl; omega) | (apply q_index; exact rfl; exact rfl; omega; omega) | (apply q_indexSN; exact rfl; exact rfl; omega) | (apply q_indexRN; exact rfl; exact rfl; (refine hE _ ?_; exact rb); omega))))
                              (apply JF_all [19]; kernel_rfl)
                              (apply JFs_cons; exact rfl)
                              · (first | (apply J_sR (v := sl b5 n); exact rfl; exact rfl; exact oa; infer_instance; omega; exact hs1 _))
                                (apply J_nil; apply JF_end; exact sub_nil)
                                (apply JF_q 20; exact rfl; kernel_rfl; exact rfl; (intro E hE; (first | (apply q_indexN; exact rfl; exact rfl; omega) | (apply q_index; exact rfl; exact rfl; omega; omega) | (apply q_indexSN; exact rfl; exact rfl; omega) | (apply q_indexRN; exact rfl; exact rfl; (refine hE _ ?_; exact rb); omega))))
                                (apply JF_all [21]; kernel_rfl)
                                (apply JFs_cons; exact rfl)
                                · (first | (apply J_sR (v := sl b6 n); exact rfl; exact rfl; exact oa2; infer_instance; omega; exact hs2 _))
                                  (apply J_nil; apply JF_end; exact sub_nil)
                                  (apply JF_done; kernel_rfl)
                                  (apply inBlockQ_normal; apply thenQ_normal; apply ex2; refine ⟨trivial, ?_⟩; dsimp only; (refine ent ?_ ?_; (repeat refine fr_cons rfl ?_); exact fr_nil; (repeat (first | exact List.nil_sublist _ | exact List.Sublist.refl _ | refine List.Sublist.cons_cons _ ?_ | refine List.Sublist.cons _ ?_))))
                                exact JFs_nil
                              exact JFs_nil
                            exact JFs_nil
                          exact JFs_nil
                        (apply JFs_cons; exact rfl)
                        · (first | (apply J_lit1; exact rfl; exact rfl; exact rfl; (intro _)))
                          (apply J_nil; apply JF_end; exact sub_nil)
                          (apply JF_all [14]; kernel_rfl)
                          (apply JFs_cons; exact rfl)
                          · (first | (apply Jq_loadR (v := sl b6 n); exact rfl; exact rfl; exact rb; exact hg2))
                            (apply J_nil; apply JF_end; exact sub_nil)
                            (apply JF_all [17]; kernel_rfl)
                            (apply JFs_cons; exact rfl)
                            · (first | (apply J_ap (v := u'); decide; exact rfl; exact rfl; exact rfl; infer_instance; exact rb; exact List.cons_ne_nil _ _; exact ones_of rfl; ((show (_ + 1) * _ ≤ _); omega); decide; exact i64s_snoc; (intro v2); (refine J_row1' (v := v2) rb (fun oa2 _ => ?_))))
                              (apply J_nil; apply JF_end; exact sub_nil)
                              (apply JF_q 18; exact rfl; kernel_rfl; exact rfl; (intro E hE; (first | (apply q_indexN; exact rfl; exact rfl; omega) | (apply q_index; exact rfl; exact rfl; omega; omega) | (apply q_indexSN; exact rfl; exact rfl; omega) | (apply q_indexRN; exact rfl; exact rfl; (refine hE _ ?_; exact rb); omega))))
                              (apply JF_all [19]; kernel_rfl)
                              (apply JFs_cons; exact rfl)
                              · (first | (apply J_sR (v := sl b5 n); exact rfl; exact rfl; exact oa; infer_instance; omega; exact hs1 _))
                                (apply J_nil; apply JF_end; exact sub_nil)
                                (apply JF_q 20; exact rfl; kernel_rfl; exact rfl; (intro E hE; (first | (apply q_indexN; exact rfl; exact rfl; omega) | (apply q_index; exact rfl; exact rfl; omega; omega) | (apply q_indexSN; exact rfl; exact rfl; omega) | (apply q_indexRN; exact rfl; exact rfl; (refine hE _ ?_; exact rb); omega))))
                                (apply JF_all [21]; kernel_rfl)
                                (apply JFs_cons; exact rfl)
                                · (first | (apply J_sR (v := sl b6 n); exact rfl; exact rfl; exact oa2; infer_instance; omega; exact hs2 _))
                                  (apply J_nil; apply JF_end; exact sub_nil)
                                  (apply JF_done; kernel_rfl)
                                  (apply inBlockQ_normal; apply thenQ_normal; apply ex2; refine ⟨trivial, ?_⟩; dsimp only; (refine ent ?_ ?_; (repeat refine fr_cons rfl ?_); exact fr_nil; (repeat (first | exact List.nil_sublist _ | exact List.Sublist.refl _ | refine List.Sublist.cons_cons _ ?_ | refine List.Sublist.cons _ ?_))))
                                exact JFs_nil
                              exact JFs_nil
                            exact JFs_nil
                          exact JFs_nil
                        exact JFs_nil
                      (apply JFs_cons; exact rfl)
                      · (first | (apply Jq_loadR (v := sl b6 n); exact rfl; exact rfl; exact rb; exact hg2))
                        (apply J_nil; apply JF_end; exact sub_nil)
                        (apply JF_all [10, 16]; kernel_rfl)
                        (apply JFs_cons; exact rfl)
                        · (first | (apply J_ap (v := u); decide; exact rfl; exact rfl; exact rfl; infer_instance; exact rb; exact List.cons_ne_nil _ _; exact ones_of rfl; ((show (_ + 1) * _ ≤ _); omega); decide; exact i64s_snoc; (intro v'); (refine J_row1' (v := v') rb (fun oa _ => ?_))))
                          (apply J_nil; apply JF_end; exact sub_nil)
                          (apply JF_all [16]; kernel_rfl)
                          (apply JFs_cons; exact rfl)
                          · (first | (apply J_lit1; exact rfl; exact rfl; exact rfl; (intro _)))
                            (apply J_nil; apply JF_end; exact sub_nil)
                            (apply JF_all [17]; kernel_rfl)
                            (apply JFs_cons; exact rfl)
                            · (first | (apply J_ap (v := u'); decide; exact rfl; exact rfl; exact rfl; infer_instance; exact rb; exact List.cons_ne_nil _ _; exact ones_of rfl; ((show (_ + 1) * _ ≤ _); omega); decide; exact i64s_snoc; (intro v2); (refine J_row1' (v := v2) rb (fun oa2 _ => ?_))))
                              (apply J_nil; apply JF_end; exact sub_nil)
                              (apply JF_q 18; exact rfl; kernel_rfl; exact rfl; (intro E hE; (first | (apply q_indexN; exact rfl; exact rfl; omega) | (apply q_index; exact rfl; exact rfl; omega; omega) | (apply q_indexSN; exact rfl; exact rfl; omega) | (apply q_indexRN; exact rfl; exact rfl; (refine hE _ ?_; exact rb); omega))))
                              (apply JF_all [19]; kernel_rfl)
                              (apply JFs_cons; exact rfl)
                              · (first | (apply J_sR (v := sl b5 n); exact rfl; exact rfl; exact oa; infer_instance; omega; exact hs1 _))
                                (apply J_nil; apply JF_end; exact sub_nil)
                                (apply JF_q 20; exact rfl; kernel_rfl; exact rfl; (intro E hE; (first | (apply q_indexN; exact rfl; exact rfl; omega) | (apply q_index; exact rfl; exact rfl; omega; omega) | (apply q_indexSN; exact rfl; exact rfl; omega) | (apply q_indexRN; exact rfl; exact rfl; (refine hE _ ?_; exact rb); omega))))
                                (apply JF_all [21]; kernel_rfl)
                                (apply JFs_cons; exact rfl)
                                · (first | (apply J_sR (v := sl b6 n); exact rfl; exact rfl; exact oa2; infer_instance; omega; exact hs2 _))
                                  (apply J_nil; apply JF_end; exact sub_nil)
                                  (apply JF_done; kernel_rfl)
                                  (apply inBlockQ_normal; apply thenQ_normal; apply ex2; refine ⟨trivial, ?_⟩; dsimp only; (refine ent ?_ ?_; (repeat refine fr_cons rfl ?_); exact fr_nil; (repeat (first | exact List.nil_sublist _ | exact List.Sublist.refl _ | refine List.Sublist.cons_cons _ ?_ | refine List.Sublist.cons _ ?_))))
                                exact JFs_nil
                              exact JFs_nil
                            exact JFs_nil
                          exact JFs_nil
                        (apply JFs_cons; exact rfl)
                        · (first | (apply J_lit1; exact rfl; exact rfl; exact rfl; (intro _)))
                          (apply J_nil; apply JF_end; exact sub_nil)
                          (apply JF_all [10]; kernel_rfl)
                          (apply JFs_cons; exact rfl)
                          · (first | (apply J_ap (v := u); decide; exact rfl; exact rfl; exact rfl; infer_instance; exact rb; exact List.cons_ne_nil _ _; exact ones_of rfl; ((show (_ + 1) * _ ≤ _); omega); decide; exact i64s_snoc; (intro v'); (refine J_row1' (v := v') rb (fun oa _ => ?_))))
                            (apply J_nil; apply JF_end; exact sub_nil)
                            (apply JF_all [17]; kernel_rfl)
                            (apply JFs_cons; exact rfl)
                            · (first | (apply J_ap (v := u'); decide; exact rfl; exact rfl; exact rfl; infer_instance; exact rb; exact List.cons_ne_nil _ _; exact ones_of rfl; ((show (_ + 1) * _ ≤ _); omega); decide; exact i64s_snoc; (intro v2); (refine J_row1' (v := v2) rb (fun oa2 _ => ?_))))
                              (apply J_nil; apply JF_end; exact sub_nil)
                              (apply JF_q 18; exact rfl; kernel_rfl; exact rfl; (intro E hE; (first | (apply q_indexN; exact rfl; exact rfl; omega) | (apply q_index; exact rfl; exact rfl; omega; omega) | (apply q_indexSN; exact rfl; exact rfl; omega) | (apply q_indexRN; exact rfl; exact rfl; (refine hE _ ?_; exact rb); omega))))
                              (apply JF_all [19]; kernel_rfl)
                              (apply JFs_cons; exact rfl)
                              · (first | (apply J_sR (v := sl b5 n); exact rfl; exact rfl; exact oa; infer_instance; omega; exact hs1 _))
                                (apply J_nil; apply JF_end; exact sub_nil)
                                (apply JF_q 20; exact rfl; kernel_rfl; exact rfl; (intro E hE; (first | (apply q_indexN; exact rfl; exact rfl; omega) | (apply q_index; exact rfl; exact rfl; omega; omega) | (apply q_indexSN; exact rfl; exact rfl; omega) | (apply q_indexRN; exact rfl; exact rfl; (refine hE _ ?_; exact rb); omega))))
                                (apply JF_all [21]; kernel_rfl)
                                (apply JFs_cons; exact rfl)
                                · (first | (apply J_sR (v := sl b6 n); exact rfl; exact rfl; exact oa2; infer_instance; omega; exact hs2 _))
                                  (apply J_nil; apply JF_end; exact sub_nil)
                                  (apply JF_done; kernel_rfl)
                                  (apply inBlockQ_normal; apply thenQ_normal; apply ex2; refine ⟨trivial, ?_⟩; dsimp only; (refine ent ?_ ?_; (repeat refine fr_cons rfl ?_); exact fr_nil; (repeat (first | exact List.nil_sublist _ | exact List.Sublist.refl _ | refine List.Sublist.cons_cons _ ?_ | refine List.Sublist.cons _ ?_))))
                                exact JFs_nil
                              exact JFs_nil
                            exact JFs_nil
                          exact JFs_nil
                        exact JFs_nil
                      (apply JFs_cons; exact rfl)
                      · (first | (apply J_lit1; exact rfl; exact rfl; exact rfl; (intro _)))
                        (apply J_nil; apply JF_end; exact sub_nil)
                        (apply JF_all [10, 14]; kernel_rfl)
                        (apply JFs_cons; exact rfl)
                        · (first | (apply J_ap (v := u); decide; exact rfl; exact rfl; exact rfl; infer_instance; exact rb; exact List.cons_ne_nil _ _; exact ones_of rfl; ((show (_ + 1) * _ ≤ _); omega); decide; exact i64s_snoc; (intro v'); (refine J_row1' (v := v') rb (fun oa _ => ?_))))
                          (apply J_nil; apply JF_end; exact sub_nil)
                          (apply JF_all [14]; kernel_rfl)
                          (apply JFs_cons; exact rfl)
                          · (first | (apply Jq_loadR (v := sl b6 n); exact rfl; exact rfl; exact rb; exact hg2))
                            (apply J_nil; apply JF_end; exact sub_nil)
                            (apply JF_all [17]; kernel_rfl)
                            (apply JFs_cons; exact rfl)
                            · (first | (apply J_ap (v := u'); decide; exact rfl; exact rfl; exact rfl; infer_instance; exact rb; exact List.cons_ne_nil _ _; exact ones_of rfl; ((show (_ + 1) * _ ≤ _); omega); decide; exact i64s_snoc; (intro v2); (refine J_row1' (v := v2) rb (fun oa2 _ => ?_))))
                              (apply J_nil; apply JF_end; exact sub_nil)
                              (apply JF_q 18; exact rfl; kernel_rfl; exact rfl; (intro E hE; (first | (apply q_indexN; exact rfl; exact rfl; omega) | (apply q_index; exact rfl; exact rfl; omega; omega) | (apply q_indexSN; exact rfl; exact rfl; omega) | (apply q_indexRN; exact rfl; exact rfl; (refine hE _ ?_; exact rb); omega))))
                              (apply JF_all [19]; kernel_rfl)
                              (apply JFs_cons; exact rfl)
                              · (first | (apply J_sR (v := sl b5 n); exact rfl; exact rfl; exact oa; infer_instance; omega; exact hs1 _))
                                (apply J_nil; apply JF_end; exact sub_nil)
                                (apply JF_q 20; exact rfl; kernel_rfl; exact rfl; (intro E hE; (first | (apply q_indexN; exact rfl; exact rfl; omega) | (apply q_index; exact rfl; exact rfl; omega; omega) | (apply q_indexSN; exact rfl; exact rfl; omega) | (apply q_indexRN; exact rfl; exact rfl; (refine hE _ ?_; exact rb); omega))))
                                (apply JF_all [21]; kernel_rfl)
                                (apply JFs_cons; exact rfl)
                                · (first | (apply J_sR (v := sl b6 n); exact rfl; exact rfl; exact oa2; infer_instance; omega; exact hs2 _))
                                  (apply J_nil; apply JF_end; exact sub_nil)
                                  (apply JF_done; kernel_rfl)
                                  (apply inBlockQ_normal; apply thenQ_normal; apply ex2; refine ⟨trivial, ?_⟩; dsimp only; (refine ent ?_ ?_; (repeat refine fr_cons rfl ?_); exact fr_nil; (repeat (first | exact List.nil_sublist _ | exact List.Sublist.refl _ | refine List.Sublist.cons_cons _ ?_ | refine List.Sublist.cons _ ?_))))
                                exact JFs_nil
                              exact JFs_nil
                            exact JFs_nil
                          exact JFs_nil
                        (apply JFs_cons; exact rfl)
                        · (first | (apply Jq_loadR (v := sl b6 n); exact rfl; exact rfl; exact rb; exact hg2))
                          (apply J_nil; apply JF_end; exact sub_nil)
                          (apply JF_all [10]; kernel_rfl)
                          (apply JFs_cons; exact rfl)
                          · (first | (apply J_ap (v := u); decide; exact rfl; exact rfl; exact rfl; infer_instance; exact rb; exact List.cons_ne_nil _ _; exact ones_of rfl; ((show (_ + 1) * _ ≤ _); omega); decide; exact i64s_snoc; (intro v'); (refine J_row1' (v := v') rb (fun oa _ => ?_))))
                            (apply J_nil; apply JF_end; exact sub_nil)
                            (apply JF_all [17]; kernel_rfl)
                            (apply JFs_cons; exact rfl)
                            · (first | (apply J_ap (v := u'); decide; exact rfl; exact rfl; exact rfl; infer_instance; exact rb; exact List.cons_ne_nil _ _; exact ones_of rfl; ((show (_ + 1) * _ ≤ _); omega); decide; exact i64s_snoc; (intro v2); (refine J_row1' (v := v2) rb (fun oa2 _ => ?_))))
                              (apply J_nil; apply JF_end; exact sub_nil)
                              (apply JF_q 18; exact rfl; kernel_rfl; exact rfl; (intro E hE; (first | (apply q_indexN; exact rfl; exact rfl; omega) | (apply q_index; exact rfl; exact rfl; omega; omega) | (apply q_indexSN; exact rfl; exact rfl; omega) | (apply q_indexRN; exact rfl; exact rfl; (refine hE _ ?_; exact rb); omega))))
                              (apply JF_all [19]; kernel_rfl)
                              (apply JFs_cons; exact rfl)
                              · (first | (apply J_sR (v := sl b5 n); exact rfl; exact rfl; exact oa; infer_instance; omega; exact hs1 _))
                                (apply J_nil; apply JF_end; exact sub_nil)
                                (apply JF_q 20; exact rfl; kernel_rfl; exact rfl; (intro E hE; (first | (apply q_indexN; exact rfl; exact rfl; omega) | (apply q_index; exact rfl; exact rfl; omega; omega) | (apply q_indexSN; exact rfl; exact rfl; omega) | (apply q_indexRN; exact rfl; exact rfl; (refine hE _ ?_; exact rb); omega))))
                                (apply JF_all [21]; kernel_rfl)
                                (apply JFs_cons; exact rfl)
                                · (first | (apply J_sR (v := sl b6 n); exact rfl; exact rfl; exact oa2; infer_instance; omega; exact hs2 _))
                                  (apply J_nil; apply JF_end; exact sub_nil)
                                  (apply JF_done; kernel_rfl)
                                  (apply inBlockQ_normal; apply thenQ_normal; apply ex2; refine ⟨trivial, ?_⟩; dsimp only; (refine ent ?_ ?_; (repeat refine fr_cons rfl ?_); exact fr_nil; (repeat (first | exact List.nil_sublist _ | exact List.Sublist.refl _ | refine List.Sublist.cons_cons _ ?_ | refine List.Sublist.cons _ ?_))))
                                exact JFs_nil
                              exact JFs_nil
                            exact JFs_nil
                          exact JFs_nil
                        exact JFs_nil
                      exact JFs_nil
                    (apply JFs_cons; exact rfl)
                    · (first | (apply Jq_loadR (v := sl b6 n); exact rfl; exact rfl; exact rb; exact hg2))
                      (apply J_nil; apply JF_end; exact sub_nil)
                      (apply JF_all [9, 16]; kernel_rfl)
                      (apply JFs_cons; exact rfl)
                      · (first | (apply J_lit1; exact rfl; exact rfl; exact rfl; (intro _)))
                        (apply J_nil; apply JF_end; exact sub_nil)
                        (apply JF_all [10, 16]; kernel_rfl)
                        (apply JFs_cons; exact rfl)
                        · (first | (apply J_ap (v := u); decide; exact rfl; exact rfl; exact rfl; infer_instance; exact rb; exact List.cons_ne_nil _ _; exact ones_of rfl; ((show (_ + 1) * _ ≤ _); omega); decide; exact i64s_snoc; (intro v'); (refine J_row1' (v := v') rb (fun oa _ => ?_))))
                          (apply J_nil; apply JF_end; exact sub_nil)
                          (apply JF_all [16]; kernel_rfl)
                          (apply JFs_cons; exact rfl)
                          · (first | (apply J_lit1; exact rfl; exact rfl; exact rfl; (intro _)))
                            (apply J_nil; apply JF_end; exact sub_nil)
                            (apply JF_all [17]; kernel_rfl)
                            (apply JFs_cons; exact rfl)
                            · (first | (apply J_ap (v := u'); decide; exact rfl; exact rfl; exact rfl; infer_instance; exact rb; exact List.cons_ne_nil _ _; exact ones_of rfl; ((show (_ + 1) * _ ≤ _); omega); decide; exact i64s_snoc; (intro v2); (refine J_row1' (v := v2) rb (fun oa2 _ => ?_))))
                              (apply J_nil; apply JF_end; exact sub_nil)
                              (apply JF_q 18; exact rfl; kernel_rfl; exact rfl; (intro E hE; (first | (apply q_indexN; exact rfl; exact rfl; omega) | (apply q_index; exact rfl; exact rfl; omega; omega) | (apply q_indexSN; exact rfl; exact rfl; omega) | (apply q_indexRN; exact rfl; exact rfl; (refine hE _ ?_; exact rb); omega))))
                              (apply JF_all [19]; kernel_rfl)
                              (apply JFs_cons; exact rfl)
                              · (first | (apply J_sR (v := sl b5 n); exact rfl; exact rfl; exact oa; infer_instance; omega; exact hs1 _))
                                (apply J_nil; apply JF_end; exact sub_nil)
                                (apply JF_q 20; exact rfl; kernel_rfl; exact rfl; (intro E hE; (first | (apply q_indexN; exact rfl; exact rfl; omega) | (apply q_index; exact rfl; exact rfl; omega; omega) | (apply q_indexSN; exact rfl; exact rfl; omega) | (apply q_indexRN; exact rfl; exact rfl; (refine hE _ ?_; exact rb); omega))))
                                (apply JF_all [21]; kernel_rfl)
                                (apply JFs_cons; exact rfl)
                                · (first | (apply J_sR (v := sl b6 n); exact rfl; exact rfl; exact oa2; infer_instance; omega; exact hs2 _))
                                  (apply J_nil; apply JF_end; exact sub_nil)
                                  (apply JF_done; kernel_rfl)
                                  (apply inBlockQ_normal; apply thenQ_normal; apply ex2; refine ⟨trivial, ?_⟩; dsimp only; (refine ent ?_ ?_; (repeat refine fr_cons rfl ?_); exact fr_nil; (repeat (first | exact List.nil_sublist _ | exact List.Sublist.refl _ | refine List.Sublist.cons_cons _ ?_ | refine List.Sublist.cons _ ?_))))
                                exact JFs_nil
                              exact JFs_nil
                            exact JFs_nil
                          exact JFs_nil
                        (apply JFs_cons; exact rfl)
                        · (first | (apply J_lit1; exact rfl; exact rfl; exact rfl; (intro _)))
                          (apply J_nil; apply JF_end; exact sub_nil)
                          (apply JF_all [10]; kernel_rfl)
                          (apply JFs_cons; exact rfl)
                          · (first | (apply J_ap (v := u); decide; exact rfl; exact rfl; exact rfl; infer_instance; exact rb; exact List.cons_ne_nil _ _; exact ones_of rfl; ((show (_ + 1) * _ ≤ _); omega); decide; exact i64s_snoc; (intro v'); (refine J_row1' (v := v') rb (fun oa _ => ?_))))
                            (apply J_nil; apply JF_end; exact sub_nil)
                            (apply JF_all [17]; kernel_rfl)
                            (apply JFs_cons; exact rfl)
                            · (first | (apply J_ap (v := u'); decide; exact rfl; exact rfl; exact rfl; infer_instance; exact rb; exact List.cons_ne_nil _ _; exact ones_of rfl; ((show (_ + 1) * _ ≤ _); omega); decide; exact i64s_snoc; (intro v2); (refine J_row1' (v := v2) rb (fun oa2 _ => ?_))))
                              (apply J_nil; apply JF_end; exact sub_nil)
                              (apply JF_q 18; exact rfl; kernel_rfl; exact rfl; (intro E hE; (first | (apply q_indexN; exact rfl; exact rfl; omega) | (apply q_index; exact rfl; exact rfl; omega; omega) | (apply q_indexSN; exact rfl; exact rfl; omega) | (apply q_indexRN; exact rfl; exact rfl; (refine hE _ ?_; exact rb); omega))))
                              (apply JF_all [19]; kernel_rfl)
                              (apply JFs_cons; exact rfl)
                              · (first | (apply J_sR (v := sl b5 n); exact rfl; exact rfl; exact oa; infer_instance; omega; exact hs1 _))
                                (apply J_nil; apply JF_end; exact sub_nil)
                                (apply JF_q 20; exact rfl; kernel_rfl; exact rfl; (intro E hE; (first | (apply q_indexN; exact rfl; exact rfl; omega) | (apply q_index; exact rfl; exact rfl; omega; omega) | (apply q_indexSN; exact rfl; exact rfl; omega) | (apply q_indexRN; exact rfl; exact rfl; (refine hE _ ?_; exact rb); omega))))
                                (apply JF_all [21]; kernel_rfl)
                                (apply JFs_cons; exact rfl)
                                · (first | (apply J_sR (v := sl b6 n); exact rfl; exact rfl; exact oa2; infer_instance; omega; exact hs2 _))
                                  (apply J_nil; apply JF_end; exact sub_nil)
                                  (apply JF_done; kernel_rfl)
                                  (apply inBlockQ_normal; apply thenQ_normal; apply ex2; refine ⟨trivial, ?_⟩; dsimp only; (refine ent ?_ ?_; (repeat refine fr_cons rfl ?_); exact fr_nil; (repeat (first | exact List.nil_sublist _ | exact List.Sublist.refl _ | refine List.Sublist.cons_cons _ ?_ | refine List.Sublist.cons _ ?_))))
                                exact JFs_nil
                              exact JFs_nil
                            exact JFs_nil
                          exact JFs_nil
                        exact JFs_nil
                      (apply JFs_cons; exact rfl)
                      · (first | (apply J_lit1; exact rfl; exact rfl; exact rfl; (intro _)))
                        (apply J_nil; apply JF_end; exact sub_nil)
                        (apply JF_all [9]; kernel_rfl)
                        (apply JFs_cons; exact rfl)
                        · (first | (apply J_lit1; exact rfl; exact rfl; exact rfl; (intro _)))
                          (apply J_nil; apply JF_end; exact sub_nil)
                          (apply JF_all [10]; kernel_rfl)
                          (apply JFs_cons; exact rfl)
                          · (first | (apply J_ap (v := u); decide; exact rfl; exact rfl; exact rfl; infer_instance; exact rb; exact List.cons_ne_nil _ _; exact ones_of rfl; ((show (_ + 1) * _ ≤ _); omega); decide; exact i64s_snoc; (intro v'); (refine J_row1' (v := v') rb (fun oa _ => ?_))))
                            (apply J_nil; apply JF_end; exact sub_nil)
                            (apply JF_all [17]; kernel_rfl)
                            (apply JFs_cons; exact rfl)
                            · (first | (apply J_ap (v := u'); decide; exact rfl; exact rfl; exact rfl; infer_instance; exact rb; exact List.cons_ne_nil _ _; exact ones_of rfl; ((show (_ + 1) * _ ≤ _); omega); decide; exact i64s_snoc; (intro v2); (refine J_row1' (v := v2) rb (fun oa2 _ => ?_))))
                              (apply J_nil; apply JF_end; exact sub_nil)
                              (apply JF_q 18; exact rfl; kernel_rfl; exact rfl; (intro E hE; (first | (apply q_indexN; exact rfl; exact rfl; omega) | (apply q_index; exact rfl; exact rfl; omega; omega) | (apply q_indexSN; exact rfl; exact rfl; omega) | (apply q_indexRN; exact rfl; exact rfl; (refine hE _ ?_; exact rb); omega))))
                              (apply JF_all [19]; kernel_rfl)
                              (apply JFs_cons; exact rfl)
                              · (first | (apply J_sR (v := sl b5 n); exact rfl; exact rfl; exact oa; infer_instance; omega; exact hs1 _))
                                (apply J_nil; apply JF_end; exact sub_nil)
                                (apply JF_q 20; exact rfl; kernel_rfl; exact rfl; (intro E hE; (first | (apply q_indexN; exact rfl; exact rfl; omega) | (apply q_index; exact rfl; exact rfl; omega; omega) | (apply q_indexSN; exact rfl; exact rfl; omega) | (apply q_indexRN; exact rfl; exact rfl; (refine hE _ ?_; exact rb); omega))))
                                (apply JF_all [21]; kernel_rfl)
                                (apply JFs_cons; exact rfl)
                                · (first | (apply J_sR (v := sl b6 n); exact rfl; exact rfl; exact oa2; infer_instance; omega; exact hs2 _))
                                  (apply J_nil; apply JF_end; exact sub_nil)
                                  (apply JF_done; kernel_rfl)
                                  (apply inBlockQ_normal; apply thenQ_normal; apply ex2; refine ⟨trivial, ?_⟩; dsimp only; (refine ent ?_ ?_; (repeat refine fr_cons rfl ?_); exact fr_nil; (repeat (first | exact List.nil_sublist _ | exact List.Sublist.refl _ | refine List.Sublist.cons_cons _ ?_ | refine List.Sublist.cons _ ?_))))
                                exact JFs_nil
                              exact JFs_nil
                            exact JFs_nil
                          exact JFs_nil
                        exact JFs_nil
                      exact JFs_nil
                    (apply JFs_cons; exact rfl)
                    · (first | (apply J_lit1; exact rfl; exact rfl; exact rfl; (intro _)))
                      (apply J_nil; apply JF_end; exact sub_nil)
                      (apply JF_all [9, 14]; kernel_rfl)
                      (apply JFs_cons; exact rfl)
                      · (first | (apply J_lit1; exact rfl; exact rfl; exact rfl; (intro _)))
                        (apply J_nil; apply JF_end; exact sub_nil)
                        (apply JF_all [10, 14]; kernel_rfl)
                        (apply JFs_cons; exact rfl)
                        · (first | (apply J_ap (v := u); decide; exact rfl; exact rfl; exact rfl; infer_instance; exact rb; exact List.cons_ne_nil _ _; exact ones_of rfl; ((show (_ + 1) * _ ≤ _); omega); decide; exact i64s_snoc; (intro v'); (refine J_row1' (v := v') rb (fun oa _ => ?_))))
                          (apply J_nil; apply JF_end; exact sub_nil)
                          (apply JF_all [14]; kernel_rfl)
                          (apply JFs_cons; exact rfl)
                          · (first | (apply Jq_loadR (v := sl b6 n); exact rfl; exact rfl; exact rb; exact hg2))
                            (apply J_nil; apply JF_end; exact sub_nil)
                            (apply JF_all [17]; kernel_rfl)
                            (apply JFs_cons; exact rfl)
                            · (first | (apply J_ap (v := u'); decide; exact rfl; exact rfl; exact rfl; infer_instance; exact rb; exact List.cons_ne_nil _ _; exact ones_of rfl; ((show (_ + 1) * _ ≤ _); omega); decide; exact i64s_snoc; (intro v2); (refine J_row1' (v := v2) rb (fun oa2 _ => ?_))))
                              (apply J_nil; apply JF_end; exact sub_nil)
                              (apply JF_q 18; exact rfl; kernel_rfl; exact rfl; (intro E hE; (first | (apply q_indexN; exact rfl; exact rfl; omega) | (apply q_index; exact rfl; exact rfl; omega; omega) | (apply q_indexSN; exact rfl; exact rfl; omega) | (apply q_indexRN; exact rfl; exact rfl; (refine hE _ ?_; exact rb); omega))))
                              (apply JF_all [19]; kernel_rfl)
                              (apply JFs_cons; exact rfl)
                              · (first | (apply J_sR (v := sl b5 n); exact rfl; exact rfl; exact oa; infer_instance; omega; exact hs1 _))
                                (apply J_nil; apply JF_end; exact sub_nil)
                                (apply JF_q 20; exact rfl; kernel_rfl; exact rfl; (intro E hE; (first | (apply q_indexN; exact rfl; exact rfl; omega) | (apply q_index; exact rfl; exact rfl; omega; omega) | (apply q_indexSN; exact rfl; exact rfl; omega) | (apply q_indexRN; exact rfl; exact rfl; (refine hE _ ?_; exact rb); omega))))
                                (apply JF_all [21]; kernel_rfl)
                                (apply JFs_cons; exact rfl)
                                · (first | (apply J_sR (v := sl b6 n); exact rfl; exact rfl; exact oa2; infer_instance; omega; exact hs2 _))
                                  (apply J_nil; apply JF_end; exact sub_nil)
                                  (apply JF_done; kernel_rfl)
                                  (apply inBlockQ_normal; apply thenQ_normal; apply ex2; refine ⟨trivial, ?_⟩; dsimp only; (refine ent ?_ ?_; (repeat refine fr_cons rfl ?_); exact fr_nil; (repeat (first | exact List.nil_sublist _ | exact List.Sublist.refl _ | refine List.Sublist.cons_cons _ ?_ | refine List.Sublist.cons _ ?_))))
                                exact JFs_nil
                              exact JFs_nil
                            exact JFs_nil
                          exact JFs_nil
                        (apply JFs_cons; exact rfl)
                        · (first | (apply Jq_loadR (v := sl b6 n); exact rfl; exact rfl; exact rb; exact hg2))
                          (apply J_nil; apply JF_end; exact sub_nil)
                          (apply JF_all [10]; kernel_rfl)
                          (apply JFs_cons; exact rfl)
                          · (first | (apply J_ap (v := u); decide; exact rfl; exact rfl; exact rfl; infer_instance; exact rb; exact List.cons_ne_nil _ _; exact ones_of rfl; ((show (_ + 1) * _ ≤ _); omega); decide; exact i64s_snoc; (intro v'); (refine J_row1' (v := v') rb (fun oa _ => ?_))))
                            (apply J_nil; apply JF_end; exact sub_nil)
                            (apply JF_all [17]; kernel_rfl)
                            (apply JFs_cons; exact rfl)
                            · (first | (apply J_ap (v := u'); decide; exact rfl; exact rfl; exact rfl; infer_instance; exact rb; exact List.cons_ne_nil _ _; exact ones_of rfl; ((show (_ + 1) * _ ≤ _); omega); decide; exact i64s_snoc; (intro v2); (refine J_row1' (v := v2) rb (fun oa2 _ => ?_))))
                              (apply J_nil; apply JF_end; exact sub_nil)
                              (apply JF_q 18; exact rfl; kernel_rfl; exact rfl; (intro E hE; (first | (apply q_indexN; exact rfl; exact rfl; omega) | (apply q_index; exact rfl; exact rfl; omega; omega) | (apply q_indexSN; exact rfl; exact rfl; omega) | (apply q_indexRN; exact rfl; exact rfl; (refine hE _ ?_; exact rb); omega))))
                              (apply JF_all [19]; kernel_rfl)
                              (apply JFs_cons; exact rfl)
                              · (first | (apply J_sR (v := sl b5 n); exact rfl; exact rfl; exact oa; infer_instance; omega; exact hs1 _))
                                (apply J_nil; apply JF_end; exact sub_nil)
                                (apply JF_q 20; exact rfl; kernel_rfl; exact rfl; (intro E hE; (first | (apply q_indexN; exact rfl; exact rfl; omega) | (apply q_index; exact rfl; exact rfl; omega; omega) | (apply q_indexSN; exact rfl; exact rfl; omega) | (apply q_indexRN; exact rfl; exact rfl; (refine hE _ ?_; exact rb); omega))))
                                (apply JF_all [21]; kernel_rfl)
                                (apply JFs_cons; exact rfl)
                                · (first | (apply J_sR (v := sl b6 n); exact rfl; exact rfl; exact oa2; infer_instance; omega; exact hs2 _))
                                  (apply J_nil; apply JF_end; exact sub_nil)
                                  (apply JF_done; kernel_rfl)
                                  (apply inBlockQ_normal; apply thenQ_normal; apply ex2; refine ⟨trivial, ?_⟩; dsimp only; (refine ent ?_ ?_; (repeat refine fr_cons rfl ?_); exact fr_nil; (repeat (first | exact List.nil_sublist _ | exact List.Sublist.refl _ | refine List.Sublist.cons_cons _ ?_ | refine List.Sublist.cons _ ?_))))
                                exact JFs_nil
                              exact JFs_nil
                            exact JFs_nil
                          exact JFs_nil
                        exact JFs_nil
                      (apply JFs_cons; exact rfl)
                      · (first | (apply Jq_loadR (v := sl b6 n); exact rfl; exact rfl; exact rb; exact hg2))
                        (apply J_nil; apply JF_end; exact sub_nil)
                        (apply JF_all [9]; kernel_rfl)
                        (apply JFs_cons; exact rfl)
                        · (first | (apply J_lit1; exact rfl; exact rfl; exact rfl; (intro _)))
                          (apply J_nil; apply JF_end; exact sub_nil)
                          (apply JF_all [10]; kernel_rfl)
                          (apply JFs_cons; exact rfl)
                          · (first | (apply J_ap (v := u); decide; exact rfl; exact rfl; exact rfl; infer_instance; exact rb; exact List.cons_ne_nil _ _; exact ones_of rfl; ((show (_ + 1) * _ ≤ _); omega); decide; exact i64s_snoc; (intro v'); (refine J_row1' (v := v') rb (fun oa _ => ?_))))
                            (apply J_nil; apply JF_end; exact sub_nil)
                            (apply JF_all [17]; kernel_rfl)
                            (apply JFs_cons; exact rfl)
                            · (first | (apply J_ap (v := u'); decide; exact rfl; exact rfl; exact rfl; infer_instance; exact rb; exact List.cons_ne_nil _ _; exact ones_of rfl; ((show (_ + 1) * _ ≤ _); omega); decide; exact i64s_snoc; (intro v2); (refine J_row1' (v := v2) rb (fun oa2 _ => ?_))))
                              (apply J_nil; apply JF_end; exact sub_nil)
                              (apply JF_q 18; exact rfl; kernel_rfl; exact rfl; (intro E hE; (first | (apply q_indexN; exact rfl; exact rfl; omega) | (apply q_index; exact rfl; exact rfl; omega; omega) | (apply q_indexSN; exact rfl; exact rfl; omega) | (apply q_indexRN; exact rfl; exact rfl; (refine hE _ ?_; exact rb); omega))))
                              (apply JF_all [19]; kernel_rfl)
                              (apply JFs_cons; exact rfl)
                              · (first | (apply J_sR (v := sl b5 n); exact rfl; exact rfl; exact oa; infer_instance; omega; exact hs1 _))
                                (apply J_nil; apply JF_end; exact sub_nil)
                                (apply JF_q 20; exact rfl; kernel_rfl; exact rfl; (intro E hE; (first | (apply q_indexN; exact rfl; exact rfl; omega) | (apply q_index; exact rfl; exact rfl; omega; omega) | (apply q_indexSN; exact rfl; exact rfl; omega) | (apply q_indexRN; exact rfl; exact rfl; (refine hE _ ?_; exact rb); omega))))
                                (apply JF_all [21]; kernel_rfl)
                                (apply JFs_cons; exact rfl)
                                · (first | (apply J_sR (v := sl b6 n); exact rfl; exact rfl; exact oa2; infer_instance; omega; exact hs2 _))
                                  (apply J_nil; apply JF_end; exact sub_nil)
                                  (apply JF_done; kernel_rfl)
                                  (apply inBlockQ_normal; apply thenQ_normal; apply ex2; refine ⟨trivial, ?_⟩; dsimp only; (refine ent ?_ ?_; (repeat refine fr_cons rfl ?_); exact fr_nil; (repeat (first | exact List.nil_sublist _ | exact List.Sublist.refl _ | refine List.Sublist.cons_cons _ ?_ | refine List.Sublist.cons _ ?_))))
                                exact JFs_nil
                              exact JFs_nil
                            exact JFs_nil
                          exact JFs_nil
                        exact JFs_nil
                      exact JFs_nil
                    exact JFs_nil
                  (apply JFs_cons; exact rfl)
                  · (first | (apply J_lit1; exact rfl; exact rfl; exact rfl; (intro _)))
                    (apply J_nil; apply JF_end; exact sub_nil)
                    (apply JF_all [7, 14, 16]; kernel_rfl)
                    (apply JFs_cons; exact rfl)
                    · (first | (apply Jq_loadR (v := sl b5 n); exact rfl; exact rfl; exact rb; exact hg1))
                      (apply J_nil; apply JF_end; exact sub_nil)
                      (apply JF_all [10, 14, 16]; kernel_rfl)
                      (apply JFs_cons; exact rfl)
                      · (first | (apply J_ap (v := u); decide; exact rfl; exact rfl; exact rfl; infer_instance; exact rb; exact List.cons_ne_nil _ _; exact ones_of rfl; ((show (_ + 1) * _ ≤ _); omega); decide; exact i64s_snoc; (intro v'); (refine J_row1' (v := v') rb (fun oa _ => ?_))))
                        (apply J_nil; apply JF_end; exact sub_nil)
                        (apply JF_all [14, 16]; kernel_rfl)
                        (apply JFs_cons; exact rfl)
                        · (first | (apply Jq_loadR (v := sl b6 n); exact rfl; exact rfl; exact rb; exact hg2))
                          (apply J_nil; apply JF_end; exact sub_nil)
                          (apply JF_all [16]; kernel_rfl)
                          (apply JFs_cons; exact rfl)
                          · (first | (apply J_lit1; exact rfl; exact rfl; exact rfl; (intro _)))
                            (apply J_nil; apply JF_end; exact sub_nil)
                            (apply JF_all [17]; kernel_rfl)
                            (apply JFs_cons; exact rfl)
                            · (first | (apply J_ap (v := u'); decide; exact rfl; exact rfl; exact rfl; infer_instance; exact rb; exact List.cons_ne_nil _ _; exact ones_of rfl; ((show (_ + 1) * _ ≤ _); omega); decide; exact i64s_snoc; (intro v2); (refine J_row1' (v := v2) rb (fun oa2 _ => ?_))))
                              (apply J_nil; apply JF_end; exact sub_nil)
                              (apply JF_q 18; exact rfl; kernel_rfl; exact rfl; (intro E hE; (first | (apply q_indexN; exact rfl; exact rfl; omega) | (apply q_index; exact rfl; exact rfl; omega; omega) | (apply q_indexSN; exact rfl; exact rfl; omega) | (apply q_indexRN; exact rfl; exact rfl; (refine hE _ ?_; exact rb); omega))))
                              (apply JF_all [19]; kernel_rfl)
                              (apply JFs_cons; exact rfl)
                              · (first | (apply J_sR (v := sl b5 n); exact rfl; exact rfl; exact oa; infer_instance; omega; exact hs1 _))
                                (apply J_nil; apply JF_end; exact sub_nil)
                                (apply JF_q 20; exact rfl; kernel_rfl; exact rfl; (intro E hE; (first | (apply q_indexN; exact rfl; exact rfl; omega) | (apply q_index; exact rfl; exact rfl; omega; omega) | (apply q_indexSN; exact rfl; exact rfl; omega) | (apply q_indexRN; exact rfl; exact rfl; (refine hE _ ?_; exact rb); omega))))
                                (apply JF_all [21]; kernel_rfl)
                                (apply JFs_cons; exact rfl)
                                · (first | (apply J_sR (v := sl b6 n); exact rfl; exact rfl; exact oa2; infer_instance; omega; exact hs2 _))
                                  (apply J_nil; apply JF_end; exact sub_nil)
                                  (apply JF_done; kernel_rfl)
                                  (apply inBlockQ_normal; apply thenQ_normal; apply ex2; refine ⟨trivial, ?_⟩; dsimp only; (refine ent ?_ ?_; (repeat refine fr_cons rfl ?_); exact fr_nil; (repeat (first | exact List.nil_sublist _ | exact List.Sublist.refl _ | refine List.Sublist.cons_cons _ ?_ | refine List.Sublist.cons _ ?_))))
                                exact JFs_nil
                              exact JFs_nil
                            exact JFs_nil
                          exact JFs_nil
                        (apply JFs_cons; exact rfl)
                        · (first | (apply J_lit1; exact rfl; exact rfl; exact rfl; (intro _)))
                          (apply J_nil; apply JF_end; exact sub_nil)
                          (apply JF_all [14]; kernel_rfl)
                          (apply JFs_cons; exact rfl)
                          · (first | (apply Jq_loadR (v := sl b6 n); exact rfl; exact rfl; exact rb; exact hg2))
                            (apply J_nil; apply JF_end; exact sub_nil)
                            (apply JF_all [17]; kernel_rfl)
                            (apply JFs_cons; exact rfl)
                            · (first | (apply J_ap (v := u'); decide; exact rfl; exact rfl; exact rfl; infer_instance; exact rb; exact List.cons_ne_nil _ _; exact ones_of rfl; ((show (_ + 1) * _ ≤ _); omega); decide; exact i64s_snoc; (intro v2); (refine J_row1' (v := v2) rb (fun oa2 _ => ?_))))
                              (apply J_nil; apply JF_end; exact sub_nil)
                              (apply JF_q 18; exact rfl; kernel_rfl; exact rfl; (intro E hE; (first | (apply q_indexN; exact rfl; exact rfl; omega) | (apply q_index; exact rfl; exact rfl; omega; omega) | (apply q_indexSN; exact rfl; exact rfl; omega) | (apply q_indexRN; exact rfl; exact rfl; (refine hE _ ?_; exact rb); omega))))
                              (apply JF_all [19]; kernel_rfl)
                              (apply JFs_cons; exact rfl)
                              · (first | (apply J_sR (v := sl b5 n); exact rfl; exact rfl; exact oa; infer_instance; omega; exact hs1 _))
                                (apply J_nil; apply JF_end; exact sub_nil)
                                (apply JF_q 20; exact rfl; kernel_rfl; exact rfl; (intro E hE; (first | (apply q_indexN; exact rfl; exact rfl; omega) | (apply q_index; exact rfl; exact rfl; omega; omega) | (apply q_indexSN; exact rfl; exact rfl; omega) | (apply q_indexRN; exact rfl; exact rfl; (refine hE _ ?_; exact rb); omega))))
                                (apply JF_all [21]; kernel_rfl)
                                (apply JFs_cons; exact rfl)
                                · (first | (apply J_sR (v := sl b6 n); exact rfl; exact rfl; exact oa2; infer_instance; omega; exact hs2 _))
                                  (apply J_nil; apply JF_end; exact sub_nil)
                                  (apply JF_done; kernel_rfl)
                                  (apply inBlockQ_normal; apply thenQ_normal; apply ex2; refine ⟨trivial, ?_⟩; dsimp only; (refine ent ?_ ?_; (repeat refine fr_cons rfl ?_); exact fr_nil; (repeat (first | exact List.nil_sublist _ | exact List.Sublist.refl _ | refine List.Sublist.cons_cons _ ?_ | refine List.Sublist.cons _ ?_))))
                                exact JFs_nil
                              exact JFs_nil
                            exact JFs_nil
                          exact JFs_nil
                        exact JFs_nil
                      (apply JFs_cons; exact rfl)
                      · (first | (apply Jq_loadR (v := sl b6 n); exact rfl; exact rfl; exact rb; exact hg2))
                        (apply J_nil; apply JF_end; exact sub_nil)
                        (apply JF_all [10, 16]; kernel_rfl)
                        (apply JFs_cons; exact rfl)
                        · (first | (apply J_ap (v := u); decide; exact rfl; exact rfl; exact rfl; infer_instance; exact rb; exact List.cons_ne_nil _ _; exact ones_of rfl; ((show (_ + 1) * _ ≤ _); omega); decide; exact i64s_snoc; (intro v'); (refine J_row1' (v := v') rb (fun oa _ => ?_))))
                          (apply J_nil; apply JF_end; exact sub_nil)
                          (apply JF_all [16]; kernel_rfl)
                          (apply JFs_cons; exact rfl)
                          · (first | (apply J_lit1; exact rfl; exact rfl; exact rfl; (intro _)))
                            (apply J_nil; apply JF_end; exact sub_nil)
                            (apply JF_all [17]; kernel_rfl)
                            (apply JFs_cons; exact rfl)
                            · (first | (apply J_ap (v := u'); decide; exact rfl; exact rfl; exact rfl; infer_instance; exact rb; exact List.cons_ne_nil _ _; exact ones_of rfl; ((show (_ + 1) * _ ≤ _); omega); decide; exact i64s_snoc; (intro v2); (refine J_row1' (v := v2) rb (fun oa2 _ => ?_))))
                              (apply J_nil; apply JF_end; exact sub_nil)
                              (apply JF_q 18; exact rfl; kernel_rfl; exact rfl; (intro E hE; (first | (apply q_indexN; exact rfl; exact rfl; omega) | (apply q_index; exact rfl; exact rfl; omega; omega) | (apply q_indexSN; exact rfl; exact rfl; omega) | (apply q_indexRN; exact rfl; exact rfl; (refine hE _ ?_; exact rb); omega))))
                              (apply JF_all [19]; kernel_rfl)
                              (apply JFs_cons; exact rfl)
                              · (first | (apply J_sR (v := sl b5 n); exact rfl; exact rfl; exact oa; infer_instance; omega; exact hs1 _))
                                (apply J_nil; apply JF_end; exact sub_nil)
                                (apply JF_q 20; exact rfl; kernel_rfl; exact rfl; (intro E hE; (first | (apply q_indexN; exact rfl; exact rfl; omega) | (apply q_index; exact rfl; exact rfl; omega; omega) | (apply q_indexSN; exact rfl; exact rfl; omega) | (apply q_indexRN; exact rfl; exact rfl; (refine hE _ ?_; exact rb); omega))))
                                (apply JF_all [21]; kernel_rfl)
                                (apply JFs_cons; exact rfl)
                                · (first | (apply J_sR (v := sl b6 n); exact rfl; exact rfl; exact oa2; infer_instance; omega; exact hs2 _))
                                  (apply J_nil; apply JF_end; exact sub_nil)
                                  (apply JF_done; kernel_rfl)
                                  (apply inBlockQ_normal; apply thenQ_normal; apply ex2; refine ⟨trivial, ?_⟩; dsimp only; (refine ent ?_ ?_; (repeat refine fr_cons rfl ?_); exact fr_nil; (repeat (first | exact List.nil_sublist _ | exact List.Sublist.refl _ | refine List.Sublist.cons_cons _ ?_ | refine List.Sublist.cons _ ?_))))
                                exact JFs_nil
                              exact JFs_nil
                            exact JFs_nil
                          exact JFs_nil
                        (apply JFs_cons; exact rfl)
                        · (first | (apply J_lit1; exact rfl; exact rfl; exact rfl; (intro _)))
                          (apply J_nil; apply JF_end; exact sub_nil)
                          (apply JF_all [10]; kernel_rfl)
                          (apply JFs_cons; exact rfl)
                          · (first | (apply J_ap (v := u); decide; exact rfl; exact rfl; exact rfl; infer_instance; exact rb; exact List.cons_ne_nil _ _; exact ones_of rfl; ((show (_ + 1) * _ ≤ _); omega); decide; exact i64s_snoc; (intro v'); (refine J_row1' (v := v') rb (fun oa _ => ?_))))
                            (apply J_nil; apply JF_end; exact sub_nil)
                            (apply JF_all [17]; kernel_rfl)
                            (apply JFs_cons; exact rfl)
                            · (first | (apply J_ap (v := u'); decide; exact rfl; exact rfl; exact rfl; infer_instance; exact rb; exact List.cons_ne_nil _ _; exact ones_of rfl; ((show (_ + 1) * _ ≤ _); omega); decide; exact i64s_snoc; (intro v2); (refine J_row1' (v := v2) rb (fun oa2 _ => ?_))))
                              (apply J_nil; apply JF_end; exact sub_nil)
                              (apply JF_q 18; exact rfl; kernel_rfl; exact rfl; (intro E hE; (first | (apply q_indexN; exact rfl; exact rfl; omega) | (apply q_index; exact rfl; exact rfl; omega; omega) | (apply q_indexSN; exact rfl; exact rfl; omega) | (apply q_indexRN; exact rfl; exact rfl; (refine hE _ ?_; exact rb); omega))))
                              (apply JF_all [19]; kernel_rfl)
                              (apply JFs_cons; exact rfl)
                              · (first | (apply J_sR (v := sl b5 n); exact rfl; exact rfl; exact oa; infer_instance; omega; exact hs1 _))
                                (apply J_nil; apply JF_end; exact sub_nil)
                                (apply JF_q 20; exact rfl; kernel_rfl; exact rfl; (intro E hE; (first | (apply q_indexN; exact rfl; exact rfl; omega) | (apply q_index; exact rfl; exact rfl; omega; omega) | (apply q_indexSN; exact rfl; exact rfl; omega) | (apply q_indexRN; exact rfl; exact rfl; (refine hE _ ?_; exact rb); omega))))
                                (apply JF_all [21]; kernel_rfl)
                                (apply JFs_cons; exact rfl)
                                · (first | (apply J_sR (v := sl b6 n); exact rfl; exact rfl; exact oa2; infer_instance; omega; exact hs2 _))
                                  (apply J_nil; apply JF_end; exact sub_nil)
                                  (apply JF_done; kernel_rfl)
                                  (apply inBlockQ_normal; apply thenQ_normal; apply ex2; refine ⟨trivial, ?_⟩; dsimp only; (refine ent ?_ ?_; (repeat refine fr_cons rfl ?_); exact fr_nil; (repeat (first | exact List.nil_sublist _ | exact List.Sublist.refl _ | refine List.Sublist.cons_cons _ ?_ | refine List.Sublist.cons _ ?_))))
                                exact JFs_nil
                              exact JFs_nil
                            exact JFs_nil
                          exact JFs_nil
                        exact JFs_nil
                      (apply JFs_cons; exact rfl)
                      · (first | (apply J_lit1; exact rfl; exact rfl; exact rfl; (intro _)))
                        (apply J_nil; apply JF_end; exact sub_nil)
                        (apply JF_all [10, 14]; kernel_rfl)
                        (apply JFs_cons; exact rfl)
                        · (first | (apply J_ap (v := u); decide; exact rfl; exact rfl; exact rfl; infer_instance; exact rb; exact List.cons_ne_nil _ _; exact ones_of rfl; ((show (_ + 1) * _ ≤ _); omega); decide; exact i64s_snoc; (intro v'); (refine J_row1' (v := v') rb (fun oa _ => ?_))))
                          (apply J_nil; apply JF_end; exact sub_nil)
                          (apply JF_all [14]; kernel_rfl)
                          (apply JFs_cons; exact rfl)
                          · (first | (apply Jq_loadR (v := sl b6 n); exact rfl; exact rfl; exact rb; exact hg2))
                            (apply J_nil; apply JF_end; exact sub_nil)
                            (apply JF_all [17]; kernel_rfl)
                            (apply JFs_cons; exact rfl)
                            · (first | (apply J_ap (v := u'); decide; exact rfl; exact rfl; exact rfl; infer_instance; exact rb; exact List.cons_ne_nil _ _; exact ones_of rfl; ((show (_ + 1) * _ ≤ _); omega); decide; exact i64s_snoc; (intro v2); (refine J_row1' (v := v2) rb (fun oa2 _ => ?_))))
                              (apply J_nil; apply JF_end; exact sub_nil)
                              (apply JF_q 18; exact rfl; kernel_rfl; exact rfl; (intro E hE; (first | (apply q_indexN; exact rfl; exact rfl; omega) | (apply q_index; exact rfl; exact rfl; omega; omega) | (apply q_indexSN; exact rfl; exact rfl; omega) | (apply q_indexRN; exact rfl; exact rfl; (refine hE _ ?_; exact rb); omega))))
                              (apply JF_all [19]; kernel_rfl)
                              (apply JFs_cons; exact rfl)
                              · (first | (apply J_sR (v := sl b5 n); exact rfl; exact rfl; exact oa; infer_instance; omega; exact hs1 _))
                                (apply J_nil; apply JF_end; exact sub_nil)
                                (apply JF_q 20; exact rfl; kernel_rfl; exact rfl; (intro E hE; (first | (apply q_indexN; exact rfl; exact rfl; omega) | (apply q_index; exact rfl; exact rfl; omega; omega) | (apply q_indexSN; exact rfl; exact rfl; omega) | (apply q_indexRN; exact rfl; exact rfl; (refine hE _ ?_; exact rb); omega))))
                                (apply JF_all [21]; kernel_rfl)
                                (apply JFs_cons; exact rfl)
                                · (first | (apply J_sR (v := sl b6 n); exact rfl; exact rfl; exact oa2; infer_instance; omega; exact hs2 _))
                                  (apply J_nil; apply JF_end; exact sub_nil)
                                  (apply JF_done; kernel_rfl)
                                  (apply inBlockQ_normal; apply thenQ_normal; apply ex2; refine ⟨trivial, ?_⟩; dsimp only; (refine ent ?_ ?_; (repeat refine fr_cons rfl ?_); exact fr_nil; (repeat (first | exact List.nil_sublist _ | exact List.Sublist.refl _ | refine List.Sublist.cons_cons _ ?_ | refine List.Sublist.cons _ ?_))))
                                exact JFs_nil
                              exact JFs_nil
                            exact JFs_nil
                          exact JFs_nil
                        (apply JFs_cons; exact rfl)
                        · (first | (apply Jq_loadR (v := sl b6 n); exact rfl; exact rfl; exact rb; exact hg2))
                          (apply J_nil; apply JF_end; exact sub_nil)
                          (apply JF_all [10]; kernel_rfl)
                          (apply JFs_cons; exact rfl)
                          · (first | (apply J_ap (v := u); decide; exact rfl; exact rfl; exact rfl; infer_instance; exact rb; exact List.cons_ne_nil _ _; exact ones_of rfl; ((show (_ + 1) * _ ≤ _); omega); decide; exact i64s_snoc; (intro v'); (refine J_row1' (v := v') rb (fun oa _ => ?_))))
                            (apply J_nil; apply JF_end; exact sub_nil)
                            (apply JF_all [17]; kernel_rfl)
                            (apply JFs_cons; exact rfl)
                            · (first | (apply J_ap (v := u'); decide; exact rfl; exact rfl; exact rfl; infer_instance; exact rb; exact List.cons_ne_nil _ _; exact ones_of rfl; ((show (_ + 1) * _ ≤ _); omega); decide; exact i64s_snoc; (intro v2); (refine J_row1' (v := v2) rb (fun oa2 _ => ?_))))
                              (apply J_nil; apply JF_end; exact sub_nil)
                              (apply JF_q 18; exact rfl; kernel_rfl; exact rfl; (intro E hE; (first | (apply q_indexN; exact rfl; exact rfl; omega) | (apply q_index; exact rfl; exact rfl; omega; omega) | (apply q_indexSN; exact rfl; exact rfl; omega) | (apply q_indexRN; exact rfl; exact rfl; (refine hE _ ?_; exact rb); omega))))
                              (apply JF_all [19]; kernel_rfl)
                              (apply JFs_cons; exact rfl)
                              · (first | (apply J_sR (v := sl b5 n); exact rfl; exact rfl; exact oa; infer_instance; omega; exact hs1 _))
                                (apply J_nil; apply JF_end; exact sub_nil)
                                (apply JF_q 20; exact rfl; kernel_rfl; exact rfl; (intro E hE; (first | (apply q_indexN; exact rfl; exact rfl; omega) | (apply q_index; exact rfl; exact rfl; omega; omega) | (apply q_indexSN; exact rfl; exact rfl; omega) | (apply q_indexRN; exact rfl; exact rfl; (refine hE _ ?_; exact rb); omega))))
                                (apply JF_all [21]; kernel_rfl)
                                (apply JFs_cons; exact rfl)
                                · (first | (apply J_sR (v := sl b6 n); exact rfl; exact rfl; exact oa2; infer_instance; omega; exact hs2 _))
                                  (apply J_nil; apply JF_end; exact sub_nil)
                                  (apply JF_done; kernel_rfl)
                                  (apply inBlockQ_normal; apply thenQ_normal; apply ex2; refine ⟨trivial, ?_⟩; dsimp only; (refine ent ?_ ?_; (repeat refine fr_cons rfl ?_); exact fr_nil; (repeat (first | exact List.nil_sublist _ | exact List.Sublist.refl _ | refine List.Sublist.cons_cons _ ?_ | refine List.Sublist.cons _ ?_))))
                                exact JFs_nil
                              exact JFs_nil
                            exact JFs_nil
                          exact JFs_nil
                        exact JFs_nil
                      exact JFs_nil
                    (apply JFs_cons; exact rfl)
                    · (first | (apply Jq_loadR (v := sl b6 n); exact rfl; exact rfl; exact rb; exact hg2))
                      (apply J_nil; apply JF_end; exact sub_nil)
                      (apply JF_all [7, 16]; kernel_rfl)
                      (apply JFs_cons; exact rfl)
                      · (first | (apply Jq_loadR (v := sl b5 n); exact rfl; exact rfl; exact rb; exact hg1))
                        (apply J_nil; apply JF_end; exact sub_nil)
                        (apply JF_all [10, 16]; kernel_rfl)
                        (apply JFs_cons; exact rfl)
                        · (first | (apply J_ap (v := u); decide; exact rfl; exact rfl; exact rfl; infer_instance; exact rb; exact List.cons_ne_nil _ _; exact ones_of rfl; ((show (_ + 1) * _ ≤ _); omega); decide; exact i64s_snoc; (intro v'); (refine J_row1' (v := v') rb (fun oa _ => ?_))))
                          (apply J_nil; apply JF_end; exact sub_nil)
                          (apply JF_all [16]; kernel_rfl)
                          (apply JFs_cons; exact rfl)
                          · (first | (apply J_lit1; exact rfl; exact rfl; exact rfl; (intro _)))
                            (apply J_nil; apply JF_end; exact sub_nil)
                            (apply JF_all [17]; kernel_rfl)
                            (apply JFs_cons; exact rfl)
                            · (first | (apply J_ap (v := u'); decide; exact rfl; exact rfl; exact rfl; infer_instance; exact rb; exact List.cons_ne_nil _ _; exact ones_of rfl; ((show (_ + 1) * _ ≤ _); omega); decide; exact i64s_snoc; (intro v2); (refine J_row1' (v := v2) rb (fun oa2 _ => ?_))))
                              (apply J_nil; apply JF_end; exact sub_nil)
                              (apply JF_q 18; exact rfl; kernel_rfl; exact rfl; (intro E hE; (first | (apply q_indexN; exact rfl; exact rfl; omega) | (apply q_index; exact rfl; exact rfl; omega; omega) | (apply q_indexSN; exact rfl; exact rfl; omega) | (apply q_indexRN; exact rfl; exact rfl; (refine hE _ ?_; exact rb); omega))))
                              (apply JF_all [19]; kernel_rfl)
                              (apply JFs_cons; exact rfl)
                              · (first | (apply J_sR (v := sl b5 n); exact rfl; exact rfl; exact oa; infer_instance; omega; exact hs1 _))
                                (apply J_nil; apply JF_end; exact sub_nil)
                                (apply JF_q 20; exact rfl; kernel_rfl; exact rfl; (intro E hE; (first | (apply q_indexN; exact rfl; exact rfl; omega) | (apply q_index; exact rfl; exact rfl; omega; omega) | (apply q_indexSN; exact rfl; exact rfl; omega) | (apply q_indexRN; exact rfl; exact rfl; (refine hE _ ?_; exact rb); omega))))
                                (apply JF_all [21]; kernel_rfl)
                                (apply JFs_cons; exact rfl)
                                · (first | (apply J_sR (v := sl b6 n); exact rfl; exact rfl; exact oa2; infer_instance; omega; exact hs2 _))
                                  (apply J_nil; apply JF_end; exact sub_nil)
                                  (apply JF_done; kernel_rfl)
                                  (apply inBlockQ_normal; apply thenQ_normal; apply ex2; refine ⟨trivial, ?_⟩; dsimp only; (refine ent ?_ ?_; (repeat refine fr_cons rfl ?_); exact fr_nil; (repeat (first | exact List.nil_sublist _ | exact List.Sublist.refl _ | refine List.Sublist.cons_cons _ ?_ | refine List.Sublist.cons _ ?_))))
                                exact JFs_nil
                              exact JFs_nil
                            exact JFs_nil
                          exact JFs_nil
                        (apply JFs_cons; exact rfl)
                        · (first | (apply J_lit1; exact rfl; exact rfl; exact rfl; (intro _)))
                          (apply J_nil; apply JF_end; exact sub_nil)
                          (apply JF_all [10]; kernel_rfl)
                          (apply JFs_cons; exact rfl)
                          · (first | (apply J_ap (v := u); decide; exact rfl; exact rfl; exact rfl; infer_instance; exact rb; exact List.cons_ne_nil _ _; exact ones_of rfl; ((show (_ + 1) * _ ≤ _); omega); decide; exact i64s_snoc; (intro v'); (refine J_row1' (v := v') rb (fun oa _ => ?_))))
                            (apply J_nil; apply JF_end; exact sub_nil)
                            (apply JF_all [17]; kernel_rfl)
                            (apply JFs_cons; exact rfl)
                            · (first | (apply J_ap (v := u'); decide; exact rfl; exact rfl; exact rfl; infer_instance; exact rb; exact List.cons_ne_nil _ _; exact ones_of rfl; ((show (_ + 1) * _ ≤ _); omega); decide; exact i64s_snoc; (intro v2); (refine J_row1' (v := v2) rb (fun oa2 _ => ?_))))
                              (apply J_nil; apply JF_end; exact sub_nil)
                              (apply JF_q 18; exact rfl; kernel_rfl; exact rfl; (intro E hE; (first | (apply q_indexN; exact rfl; exact rfl; omega) | (apply q_index; exact rfl; exact rfl; omega; omega) | (apply q_indexSN; exact rfl; exact rfl; omega) | (apply q_indexRN; exact rfl; exact rfl; (refine hE _ ?_; exact rb); omega))))
                              (apply JF_all [19]; kernel_rfl)
                              (apply JFs_cons; exact rfl)
                              · (first | (apply J_sR (v := sl b5 n); exact rfl; exact rfl; exact oa; infer_instance; omega; exact hs1 _))
                                (apply J_nil; apply JF_end; exact sub_nil)
                                (apply JF_q 20; exact rfl; kernel_rfl; exact rfl; (intro E hE; (first | (apply q_indexN; exact rfl; exact rfl; omega) | (apply q_index; exact rfl; exact rfl; omega; omega) | (apply q_indexSN; exact rfl; exact rfl; omega) | (apply q_indexRN; exact rfl; exact rfl; (refine hE _ ?_; exact rb); omega))))
                                (apply JF_all [21]; kernel_rfl)
                                (apply JFs_cons; exact rfl)
                                · (first | (apply J_sR (v := sl b6 n); exact rfl; exact rfl; exact oa2; infer_instance; omega; exact hs2 _))
                                  (apply J_nil; apply JF_end; exact sub_nil)
                                  (apply JF_done; kernel_rfl)
                                  (apply inBlockQ_normal; apply thenQ_normal; apply ex2; refine ⟨trivial, ?_⟩; dsimp only; (refine ent ?_ ?_; (repeat refine fr_cons rfl ?_); exact fr_nil; (repeat (first | exact List.nil_sublist _ | exact List.Sublist.refl _ | refine List.Sublist.cons_cons _ ?_ | refine List.Sublist.cons _ ?_))))
                                exact JFs_nil
                              exact JFs_nil
                            exact JFs_nil
                          exact JFs_nil
                        exact JFs_nil
                      (apply JFs_cons; exact rfl)
                      · (first | (apply J_lit1; exact rfl; exact rfl; exact rfl; (intro _)))
                        (apply J_nil; apply JF_end; exact sub_nil)
                        (apply JF_all [7]; kernel_rfl)
                        (apply JFs_cons; exact rfl)
                        · (first | (apply Jq_loadR (v := sl b5 n); exact rfl; exact rfl; exact rb; exact hg1))
                          (apply J_nil; apply JF_end; exact sub_nil)
                          (apply JF_all [10]; kernel_rfl)
                          (apply JFs_cons; exact rfl)
                          · (first | (apply J_ap (v := u); decide; exact rfl; exact rfl; exact rfl; infer_instance; exact rb; exact List.cons_ne_nil _ _; exact ones_of rfl; ((show (_ + 1) * _ ≤ _); omega); decide; exact i64s_snoc; (intro v'); (refine J_row1' (v := v') rb (fun oa _ => ?_))))
                            (apply J_nil; apply JF_end; exact sub_nil)
                            (apply JF_all [17]; kernel_rfl)
                            (apply JFs_cons; exact rfl)
                            · (first | (apply J_ap (v := u'); decide; exact rfl; exact rfl; exact rfl; infer_instance; exact rb; exact List.cons_ne_nil _ _; exact ones_of rfl; ((show (_ + 1) * _ ≤ _); omega); decide; exact i64s_snoc; (intro v2); (refine J_row1' (v := v2) rb (fun oa2 _ => ?_))))
                              (apply J_nil; apply JF_end; exact sub_nil)
                              (apply JF_q 18; exact rfl; kernel_rfl; exact rfl; (intro E hE; (first | (apply q_indexN; exact rfl; exact rfl; omega) | (apply q_index; exact rfl; exact rfl; omega; omega) | (apply q_indexSN; exact rfl; exact rfl; omega) | (apply q_indexRN; exact rfl; exact rfl; (refine hE _ ?_; exact rb); omega))))
                              (apply JF_all [19]; kernel_rfl)
                              (apply JFs_cons; exact rfl)
                              · (first | (apply J_sR (v := sl b5 n); exact rfl; exact rfl; exact oa; infer_instance; omega; exact hs1 _))
                                (apply J_nil; apply JF_end; exact sub_nil)
                                (apply JF_q 20; exact rfl; kernel_rfl; exact rfl; (intro E hE; (first | (apply q_indexN; exact rfl; exact rfl; omega) | (apply q_index; exact rfl; exact rfl; omega; omega) | (apply q_indexSN; exact rfl; exact rfl; omega) | (apply q_indexRN; exact rfl; exact rfl; (refine hE _ ?_; exact rb); omega))))
                                (apply JF_all [21]; kernel_rfl)
                                (apply JFs_cons; exact rfl)
                                · (first | (apply J_sR (v := sl b6 n); exact rfl; exact rfl; exact oa2; infer_instance; omega; exact hs2 _))
                                  (apply J_nil; apply JF_end; exact sub_nil)
                                  (apply JF_done; kernel_rfl)
                                  (apply inBlockQ_normal; apply thenQ_normal; apply ex2; refine ⟨trivial, ?_⟩; dsimp only; (refine ent ?_ ?_; (repeat refine fr_cons rfl ?_); exact fr_nil; (repeat (first | exact List.nil_sublist _ | exact List.Sublist.refl _ | refine List.Sublist.cons_cons _ ?_ | refine List.Sublist.cons _ ?_))))
                                exact JFs_nil
                              exact JFs_nil
                            exact JFs_nil
                          exact JFs_nil
                        exact JFs_nil
                      exact JFs_nil
                    (apply JFs_cons; exact rfl)
                    · (first | (apply J_lit1; exact rfl; exact rfl; exact rfl; (intro _)))
                      (apply J_nil; apply JF_end; exact sub_nil)
                      (apply JF_all [7, 14]; kernel_rfl)
                      (apply JFs_cons; exact rfl)
                      · (first | (apply Jq_loadR (v := sl b5 n); exact rfl; exact rfl; exact rb; exact hg1))
                        (apply J_nil; apply JF_end; exact sub_nil)
                        (apply JF_all [10, 14]; kernel_rfl)
                        (apply JFs_cons; exact rfl)
                        · (first | (apply J_ap (v := u); decide; exact rfl; exact rfl; exact rfl; infer_instance; exact rb; exact List.cons_ne_nil _ _; exact ones_of rfl; ((show (_ + 1) * _ ≤ _); omega); decide; exact i64s_snoc; (intro v'); (refine J_row1' (v := v') rb (fun oa _ => ?_))))
                          (apply J_nil; apply JF_end; exact sub_nil)
                          (apply JF_all [14]; kernel_rfl)
                          (apply JFs_cons; exact rfl)
                          · (first | (apply Jq_loadR (v := sl b6 n); exact rfl; exact rfl; exact rb; exact hg2))
                            (apply J_nil; apply JF_end; exact sub_nil)
                            (apply JF_all [17]; kernel_rfl)
                            (apply JFs_cons; exact rfl)
                            · (first | (apply J_ap (v := u'); decide; exact rfl; exact rfl; exact rfl; infer_instance; exact rb; exact List.cons_ne_nil _ _; exact ones_of rfl; ((show (_ + 1) * _ ≤ _); omega); decide; exact i64s_snoc; (intro v2); (refine J_row1' (v := v2) rb (fun oa2 _ => ?_))))
                              (apply J_nil; apply JF_end; exact sub_nil)
                              (apply JF_q 18; exact rfl; kernel_rfl; exact rfl; (intro E hE; (first | (apply q_indexN; exact rfl; exact rfl; omega) | (apply q_index; exact rfl; exact rfl; omega; omega) | (apply q_indexSN; exact rfl; exact rfl; omega) | (apply q_indexRN; exact rfl; exact rfl; (refine hE _ ?_; exact rb); omega))))
                              (apply JF_all [19]; kernel_rfl)
                              (apply JFs_cons; exact rfl)
                              · (first | (apply J_sR (v := sl b5 n); exact rfl; exact rfl; exact oa; infer_instance; omega; exact hs1 _))
                                (apply J_nil; apply JF_end; exact sub_nil)
                                (apply JF_q 20; exact rfl; kernel_rfl; exact rfl; (intro E hE; (first | (apply q_indexN; exact rfl; exact rfl; omega) | (apply q_index; exact rfl; exact rfl; omega; omega) | (apply q_indexSN; exact rfl; exact rfl; omega) | (apply q_indexRN; exact rfl; exact rfl; (refine hE _ ?_; exact rb); omega))))
                                (apply JF_all [21]; kernel_rfl)
                                (apply JFs_cons; exact rfl)
                                · (first | (apply J_sR (v := sl b6 n); exact rfl; exact rfl; exact oa2; infer_instance; omega; exact hs2 _))
                                  (apply J_nil; apply JF_end; exact sub_nil)
                                  (apply JF_done; kernel_rfl)
                                  (apply inBlockQ_normal; apply thenQ_normal; apply ex2; refine ⟨trivial, ?_⟩; dsimp only; (refine ent ?_ ?_; (repeat refine fr_cons rfl ?_); exact fr_nil; (repeat (first | exact List.nil_sublist _ | exact List.Sublist.refl _ | refine List.Sublist.cons_cons _ ?_ | refine List.Sublist.cons _ ?_))))
                                exact JFs_nil
                              exact JFs_nil
                            exact JFs_nil
                          exact JFs_nil
                        (apply JFs_cons; exact rfl)
                        · (first | (apply Jq_loadR (v := sl b6 n); exact rfl; exact rfl; exact rb; exact hg2))
                          (apply J_nil; apply JF_end; exact sub_nil)
                          (apply JF_all [10]; kernel_rfl)
                          (apply JFs_cons; exact rfl)
                          · (first | (apply J_ap (v := u); decide; exact rfl; exact rfl; exact rfl; infer_instance; exact rb; exact List.cons_ne_nil _ _; exact ones_of rfl; ((show (_ + 1) * _ ≤ _); omega); decide; exact i64s_snoc; (intro v'); (refine J_row1' (v := v') rb (fun oa _ => ?_))))
                            (apply J_nil; apply JF_end; exact sub_nil)
                            (apply JF_all [17]; kernel_rfl)
                            (apply JFs_cons; exact rfl)
                            · (first | (apply J_ap (v := u'); decide; exact rfl; exact rfl; exact rfl; infer_instance; exact rb; exact List.cons_ne_nil _ _; exact ones_of rfl; ((show (_ + 1) * _ ≤ _); omega); decide; exact i64s_snoc; (intro v2); (refine J_row1' (v := v2) rb (fun oa2 _ => ?_))))
                              (apply J_nil; apply JF_end; exact sub_nil)
                              (apply JF_q 18; exact rfl; kernel_rfl; exact rfl; (intro E hE; (first | (apply q_indexN; exact rfl; exact rfl; omega) | (apply q_index; exact rfl; exact rfl; omega; omega) | (apply q_indexSN; exact rfl; exact rfl; omega) | (apply q_indexRN; exact rfl; exact rfl; (refine hE _ ?_; exact rb); omega))))
                              (apply JF_all [19]; kernel_rfl)
                              (apply JFs_cons; exact rfl)
                              · (first | (apply J_sR (v := sl b5 n); exact rfl; exact rfl; exact oa; infer_instance; omega; exact hs1 _))
                                (apply J_nil; apply JF_end; exact sub_nil)
                                (apply JF_q 20; exact rfl; kernel_rfl; exact rfl; (intro E hE; (first | (apply q_indexN; exact rfl; exact rfl; omega) | (apply q_index; exact rfl; exact rfl; omega; omega) | (apply q_indexSN; exact rfl; exact rfl; omega) | (apply q_indexRN; exact rfl; exact rfl; (refine hE _ ?_; exact rb); omega))))
                                (apply JF_all [21]; kernel_rfl)
                                (apply JFs_cons; exact rfl)
                                · (first | (apply J_sR (v := sl b6 n); exact rfl; exact rfl; exact oa2; infer_instance; omega; exact hs2 _))
                                  (apply J_nil; apply JF_end; exact sub_nil)
                                  (apply JF_done; kernel_rfl)
                                  (apply inBlockQ_normal; apply thenQ_normal; apply ex2; refine ⟨trivial, ?_⟩; dsimp only; (refine ent ?_ ?_; (repeat refine fr_cons rfl ?_); exact fr_nil; (repeat (first | exact List.nil_sublist _ | exact List.Sublist.refl _ | refine List.Sublist.cons_cons _ ?_ | refine List.Sublist.cons _ ?_))))
                                exact JFs_nil
                              exact JFs_nil
                            exact JFs_nil
                          exact JFs_nil
                        exact JFs_nil
                      (apply JFs_cons; exact rfl)
                      · (first | (apply Jq_loadR (v := sl b6 n); exact rfl; exact rfl; exact rb; exact hg2))
                        (apply J_nil; apply JF_end; exact sub_nil)
                        (apply JF_all [7]; kernel_rfl)
                        (apply JFs_cons; exact rfl)
                        · (first | (apply Jq_loadR (v := sl b5 n); exact rfl; exact rfl; exact rb; exact hg1))
                          (apply J_nil; apply JF_end; exact sub_nil)
                          (apply JF_all [10]; kernel_rfl)
                          (apply JFs_cons; exact rfl)
                          · (first | (apply J_ap (v := u); decide; exact rfl; exact rfl; exact rfl; infer_instance; exact rb; exact List.cons_ne_nil _ _; exact ones_of rfl; ((show (_ + 1) * _ ≤ _); omega); decide; exact i64s_snoc; (intro v'); (refine J_row1' (v := v') rb (fun oa _ => ?_))))
                            (apply J_nil; apply JF_end; exact sub_nil)
                            (apply JF_all [17]; kernel_rfl)
                            (apply JFs_cons; exact rfl)
                            · (first | (apply J_ap (v := u'); decide; exact rfl; exact rfl; exact rfl; infer_instance; exact rb; exact List.cons_ne_nil _ _; exact ones_of rfl; ((show (_ + 1) * _ ≤ _); omega); decide; exact i64s_snoc; (intro v2); (refine J_row1' (v := v2) rb (fun oa2 _ => ?_))))
                              (apply J_nil; apply JF_end; exact sub_nil)
                              (apply JF_q 18; exact rfl; kernel_rfl; exact rfl; (intro E hE; (first | (apply q_indexN; exact rfl; exact rfl; omega) | (apply q_index; exact rfl; exact rfl; omega; omega) | (apply q_indexSN; exact rfl; exact rfl; omega) | (apply q_indexRN; exact rfl; exact rfl; (refine hE _ ?_; exact rb); omega))))
                              (apply JF_all [19]; kernel_rfl)
                              (apply JFs_cons; exact rfl)
                              · (first | (apply J_sR (v := sl b5 n); exact rfl; exact rfl; exact oa; infer_instance; omega; exact hs1 _))
                                (apply J_nil; apply JF_end; exact sub_nil)
                                (apply JF_q 20; exact rfl; kernel_rfl; exact rfl; (intro E hE; (first | (apply q_indexN; exact rfl; exact rfl; omega) | (apply q_index; exact rfl; exact rfl; omega; omega) | (apply q_indexSN; exact rfl; exact rfl; omega) | (apply q_indexRN; exact rfl; exact rfl; (refine hE _ ?_; exact rb); omega))))
                                (apply JF_all [21]; kernel_rfl)
                                (apply JFs_cons; exact rfl)
                                · (first | (apply J_sR (v := sl b6 n); exact rfl; exact rfl; exact oa2; infer_instance; omega; exact hs2 _))
                                  (apply J_nil; apply JF_end; exact sub_nil)
                                  (apply JF_done; kernel_rfl)
                                  (apply inBlockQ_normal; apply thenQ_normal; apply ex2; refine ⟨trivial, ?_⟩; dsimp only; (refine ent ?_ ?_; (repeat refine fr_cons rfl ?_); exact fr_nil; (repeat (first | exact List.nil_sublist _ | exact List.Sublist.refl _ | refine List.Sublist.cons_cons _ ?_ | refine List.Sublist.cons _ ?_))))
                                exact JFs_nil
                              exact JFs_nil
                            exact JFs_nil
                          exact JFs_nil
                        exact JFs_nil
                      exact JFs_nil
                    exact JFs_nil
                  (apply JFs_cons; exact rfl)
                  · (first | (apply Jq_loadR (v := sl b6 n); exact rfl; exact rfl; exact rb; exact hg2))
                    (apply J_nil; apply JF_end; exact sub_nil)
                    (apply JF_all [7, 9, 16]; kernel_rfl)
                    (apply JFs_cons; exact rfl)
                    · (first | (apply Jq_loadR (v := sl b5 n); exact rfl; exact rfl; exact rb; exact hg1))
                      (apply J_nil; apply JF_end; exact sub_nil)
                      (apply JF_all [9, 16]; kernel_rfl)
                      (apply JFs_cons; exact rfl)
                      · (first | (apply J_lit1; exact rfl; exact rfl; exact rfl; (intro _)))
                        (apply J_nil; apply JF_end; exact sub_nil)
                        (apply JF_all [10, 16]; kernel_rfl)
                        (apply JFs_cons; exact rfl)
                        · (first | (apply J_ap (v := u); decide; exact rfl; exact rfl; exact rfl; infer_instance; exact rb; exact List.cons_ne_nil _ _; exact ones_of rfl; ((show (_ + 1) * _ ≤ _); omega); decide; exact i64s_snoc; (intro v'); (refine J_row1' (v := v') rb (fun oa _ => ?_))))
                          (apply J_nil; apply JF_end; exact sub_nil)
                          (apply JF_all [16]; kernel_rfl)
                          (apply JFs_cons; exact rfl)
                          · (first | (apply J_lit1; exact rfl; exact rfl; exact rfl; (intro _)))
                            (apply J_nil; apply JF_end; exact sub_nil)
                            (apply JF_all [17]; kernel_rfl)
                            (apply JFs_cons; exact rfl)
                            · (first | (apply J_ap (v := u'); decide; exact rfl; exact rfl; exact rfl; infer_instance; exact rb; exact List.cons_ne_nil _ _; exact ones_of rfl; ((show (_ + 1) * _ ≤ _); omega); decide; exact i64s_snoc; (intro v2); (refine J_row1' (v := v2) rb (fun oa2 _ => ?_))))
                              (apply J_nil; apply JF_end; exact sub_nil)
                              (apply JF_q 18; exact rfl; kernel_rfl; exact rfl; (intro E hE; (first | (apply q_indexN; exact rfl; exact rfl; omega) | (apply q_index; exact rfl; exact rfl; omega; omega) | (apply q_indexSN; exact rfl; exact rfl; omega) | (apply q_indexRN; exact rfl; exact rfl; (refine hE _ ?_; exact rb); omega))))
                              (apply JF_all [19]; kernel_rfl)
                              (apply JFs_cons; exact rfl)
                              · (first | (apply J_sR (v := sl b5 n); exact rfl; exact rfl; exact oa; infer_instance; omega; exact hs1 _))
                                (apply J_nil; apply JF_end; exact sub_nil)
                                (apply JF_q 20; exact rfl; kernel_rfl; exact rfl; (intro E hE; (first | (apply q_indexN; exact rfl; exact rfl; omega) | (apply q_index; exact rfl; exact rfl; omega; omega) | (apply q_indexSN; exact rfl; exact rfl; omega) | (apply q_indexRN; exact rfl; exact rfl; (refine hE _ ?_; exact rb); omega))))
                                (apply JF_all [21]; kernel_rfl)
                                (apply JFs_cons; exact rfl)
                                · (first | (apply J_sR (v := sl b6 n); exact rfl; exact rfl; exact oa2; infer_instance; omega; exact hs2 _))
                                  (apply J_nil; apply JF_end; exact sub_nil)
                                  (apply JF_done; kernel_rfl)
                                  (apply inBlockQ_normal; apply thenQ_normal; apply ex2; refine ⟨trivial, ?_⟩; dsimp only; (refine ent ?_ ?_; (repeat refine fr_cons rfl ?_); exact fr_nil; (repeat (first | exact List.nil_sublist _ | exact List.Sublist.refl _ | refine List.Sublist.cons_cons _ ?_ | refine List.Sublist.cons _ ?_))))
                                exact JFs_nil
                              exact JFs_nil
                            exact JFs_nil
                          exact JFs_nil
                        (apply JFs_cons; exact rfl)
                        · (first | (apply J_lit1; exact rfl; exact rfl; exact rfl; (intro _)))
                          (apply J_nil; apply JF_end; exact sub_nil)
                          (apply JF_all [10]; kernel_rfl)
                          (apply JFs_cons; exact rfl)
                          · (first | (apply J_ap (v := u); decide; exact rfl; exact rfl; exact rfl; infer_instance; exact rb; exact List.cons_ne_nil _ _; exact ones_of rfl; ((show (_ + 1) * _ ≤ _); omega); decide; exact i64s_snoc; (intro v'); (refine J_row1' (v := v') rb (fun oa _ => ?_))))
                            (apply J_nil; apply JF_end; exact sub_nil)
                            (apply JF_all [17]; kernel_rfl)
                            (apply JFs_cons; exact rfl)
                            · (first | (apply J_ap (v := u'); decide; exact rfl; exact rfl; exact rfl; infer_instance; exact rb; exact List.cons_ne_nil _ _; exact ones_of rfl; ((show (_ + 1) * _ ≤ _); omega); decide; exact i64s_snoc; (intro v2); (refine J_row1' (v := v2) rb (fun oa2 _ => ?_))))
                              (apply J_nil; apply JF_end; exact sub_nil)
                              (apply JF_q 18; exact rfl; kernel_rfl; exact rfl; (intro E hE; (first | (apply q_indexN; exact rfl; exact rfl; omega) | (apply q_index; exact rfl; exact rfl; omega; omega) | (apply q_indexSN; exact rfl; exact rfl; omega) | (apply q_indexRN; exact rfl; exact rfl; (refine hE _ ?_; exact rb); omega))))
                              (apply JF_all [19]; kernel_rfl)
                              (apply JFs_cons; exact rfl)
                              · (first | (apply J_sR (v := sl b5 n); exact rfl; exact rfl; exact oa; infer_instance; omega; exact hs1 _))
                                (apply J_nil; apply JF_end; exact sub_nil)
                                (apply JF_q 20; exact rfl; kernel_rfl; exact rfl; (intro E hE; (first | (apply q_indexN; exact rfl; exact rfl; omega) | (apply q_index; exact rfl; exact rfl; omega; omega) | (apply q_indexSN; exact rfl; exact rfl; omega) | (apply q_indexRN; exact rfl; exact rfl; (refine hE _ ?_; exact rb); omega))))
                                (apply JF_all [21]; kernel_rfl)
                                (apply JFs_cons; exact rfl)
                                · (first | (apply J_sR (v := sl b6 n); exact rfl; exact rfl; exact oa2; infer_instance; omega; exact hs2 _))
                                  (apply J_nil; apply JF_end; exact sub_nil)
                                  (apply JF_done; kernel_rfl)
                                  (apply inBlockQ_normal; apply thenQ_normal; apply ex2; refine ⟨trivial, ?_⟩; dsimp only; (refine ent ?_ ?_; (repeat refine fr_cons rfl ?_); exact fr_nil; (repeat (first | exact List.nil_sublist _ | exact List.Sublist.refl _ | refine List.Sublist.cons_cons _ ?_ | refine List.Sublist.cons _ ?_))))
                                exact JFs_nil
                              exact JFs_nil
                            exact JFs_nil
                          exact JFs_nil
                        exact JFs_nil
                      (apply JFs_cons; exact rfl)
                      · (first | (apply J_lit1; exact rfl; exact rfl; exact rfl; (intro _)))
                        (apply J_nil; apply JF_end; exact sub_nil)
                        (apply JF_all [9]; kernel_rfl)
                        (apply JFs_cons; exact rfl)
                        · (first | (apply J_lit1; exact rfl; exact rfl; exact rfl; (intro _)))
                          (apply J_nil; apply JF_end; exact sub_nil)
                          (apply JF_all [10]; kernel_rfl)
                          (apply JFs_cons; exact rfl)
                          · (first | (apply J_ap (v := u); decide; exact rfl; exact rfl; exact rfl; infer_instance; exact rb; exact List.cons_ne_nil _ _; exact ones_of rfl; ((show (_ + 1) * _ ≤ _); omega); decide; exact i64s_snoc; (intro v'); (refine J_row1' (v := v') rb (fun oa _ => ?_))))
                            (apply J_nil; apply JF_end; exact sub_nil)
                            (apply JF_all [17]; kernel_rfl)
                            (apply JFs_cons; exact rfl)
                            · (first | (apply J_ap (v := u'); decide; exact rfl; exact rfl; exact rfl; infer_instance; exact rb; exact List.cons_ne_nil _ _; exact ones_of rfl; ((show (_ + 1) * _ ≤ _); omega); decide; exact i64s_snoc; (intro v2); (refine J_row1' (v := v2) rb (fun oa2 _ => ?_))))
                              (apply J_nil; apply JF_end; exact sub_nil)
                              (apply JF_q 18; exact rfl; kernel_rfl; exact rfl; (intro E hE; (first | (apply q_indexN; exact rfl; exact rfl; omega) | (apply q_index; exact rfl; exact rfl; omega; omega) | (apply q_indexSN; exact rfl; exact rfl; omega) | (apply q_indexRN; exact rfl; exact rfl; (refine hE _ ?_; exact rb); omega))))
                              (apply JF_all [19]; kernel_rfl)
                              (apply JFs_cons; exact rfl)
                              · (first | (apply J_sR (v := sl b5 n); exact rfl; exact rfl; exact oa; infer_instance; omega; exact hs1 _))
                                (apply J_nil; apply JF_end; exact sub_nil)
                                (apply JF_q 20; exact rfl; kernel_rfl; exact rfl; (intro E hE; (first | (apply q_indexN; exact rfl; exact rfl; omega) | (apply q_index; exact rfl; exact rfl; omega; omega) | (apply q_indexSN; exact rfl; exact rfl; omega) | (apply q_indexRN; exact rfl; exact rfl; (refine hE _ ?_; exact rb); omega))))
                                (apply JF_all [21]; kernel_rfl)
                                (apply JFs_cons; exact rfl)
                                · (first | (apply J_sR (v := sl b6 n); exact rfl; exact rfl; exact oa2; infer_instance; omega; exact hs2 _))
                                  (apply J_nil; apply JF_end; exact sub_nil)
                                  (apply JF_done; kernel_rfl)
                                  (apply inBlockQ_normal; apply thenQ_normal; apply ex2; refine ⟨trivial, ?_⟩; dsimp only; (refine ent ?_ ?_; (repeat refine fr_cons rfl ?_); exact fr_nil; (repeat (first | exact List.nil_sublist _ | exact List.Sublist.refl _ | refine List.Sublist.cons_cons _ ?_ | refine List.Sublist.cons _ ?_))))
                                exact JFs_nil
                              exact JFs_nil
                            exact JFs_nil
                          exact JFs_nil
                        exact JFs_nil
                      exact JFs_nil
                    (apply JFs_cons; exact rfl)
                    · (first | (apply J_lit1; exact rfl; exact rfl; exact rfl; (intro _)))
                      (apply J_nil; apply JF_end; exact sub_nil)
                      (apply JF_all [7, 16]; kernel_rfl)
                      (apply JFs_cons; exact rfl)
                      · (first | (apply Jq_loadR (v := sl b5 n); exact rfl; exact rfl; exact rb; exact hg1))
                        (apply J_nil; apply JF_end; exact sub_nil)
                        (apply JF_all [10, 16]; kernel_rfl)
                        (apply JFs_cons; exact rfl)
                        · (first | (apply J_ap (v := u); decide; exact rfl; exact rfl; exact rfl; infer_instance; exact rb; exact List.cons_ne_nil _ _; exact ones_of rfl; ((show (_ + 1) * _ ≤ _); omega); decide; exact i64s_snoc; (intro v'); (refine J_row1' (v := v') rb (fun oa _ => ?_))))
                          (apply J_nil; apply JF_end; exact sub_nil)
                          (apply JF_all [16]; kernel_rfl)
                          (apply JFs_cons; exact rfl)
                          · (first | (apply J_lit1; exact rfl; exact rfl; exact rfl; (intro _)))
                            (apply J_nil; apply JF_end; exact sub_nil)
                            (apply JF_all [17]; kernel_rfl)
                            (apply JFs_cons; exact rfl)
                            · (first | (apply J_ap (v := u'); decide; exact rfl; exact rfl; exact rfl; infer_instance; exact rb; exact List.cons_ne_nil _ _; exact ones_of rfl; ((show (_ + 1) * _ ≤ _); omega); decide; exact i64s_snoc; (intro v2); (refine J_row1' (v := v2) rb (fun oa2 _ => ?_))))
                              (apply J_nil; apply JF_end; exact sub_nil)
                              (apply JF_q 18; exact rfl; kernel_rfl; exact rfl; (intro E hE; (first | (apply q_indexN; exact rfl; exact rfl; omega) | (apply q_index; exact rfl; exact rfl; omega; omega) | (apply q_indexSN; exact rfl; exact rfl; omega) | (apply q_indexRN; exact rfl; exact rfl; (refine hE _ ?_; exact rb); omega))))
                              (apply JF_all [19]; kernel_rfl)
                              (apply JFs_cons; exact rfl)
                              · (first | (apply J_sR (v := sl b5 n); exact rfl; exact rfl; exact oa; infer_instance; omega; exact hs1 _))
                                (apply J_nil; apply JF_end; exact sub_nil)
                                (apply JF_q 20; exact rfl; kernel_rfl; exact rfl; (intro E hE; (first | (apply q_indexN; exact rfl; exact rfl; omega) | (apply q_index; exact rfl; exact rfl; omega; omega) | (apply q_indexSN; exact rfl; exact rfl; omega) | (apply q_indexRN; exact rfl; exact rfl; (refine hE _ ?_; exact rb); omega))))
                                (apply JF_all [21]; kernel_rfl)
                                (apply JFs_cons; exact rfl)
                                · (first | (apply J_sR (v := sl b6 n); exact rfl; exact rfl; exact oa2; infer_instance; omega; exact hs2 _))
                                  (apply J_nil; apply JF_end; exact sub_nil)
                                  (apply JF_done; kernel_rfl)
                                  (apply inBlockQ_normal; apply thenQ_normal; apply ex2; refine ⟨trivial, ?_⟩; dsimp only; (refine ent ?_ ?_; (repeat refine fr_cons rfl ?_); exact fr_nil; (repeat (first | exact List.nil_sublist _ | exact List.Sublist.refl _ | refine List.Sublist.cons_cons _ ?_ | refine List.Sublist.cons _ ?_))))
                                exact JFs_nil
                              exact JFs_nil
                            exact JFs_nil
                          exact JFs_nil
                        (apply JFs_cons; exact rfl)
                        · (first | (apply J_lit1; exact rfl; exact rfl; exact rfl; (intro _)))
                          (apply J_nil; apply JF_end; exact sub_nil)
                          (apply JF_all [10]; kernel_rfl)
                          (apply JFs_cons; exact rfl)
                          · (first | (apply J_ap (v := u); decide; exact rfl; exact rfl; exact rfl; infer_instance; exact rb; exact List.cons_ne_nil _ _; exact ones_of rfl; ((show (_ + 1) * _ ≤ _); omega); decide; exact i64s_snoc; (intro v'); (refine J_row1' (v := v') rb (fun oa _ => ?_))))
                            (apply J_nil; apply JF_end; exact sub_nil)
                            (apply JF_all [17]; kernel_rfl)
                            (apply JFs_cons; exact rfl)
                            · (first | (apply J_ap (v := u'); decide; exact rfl; exact rfl; exact rfl; infer_instance; exact rb; exact List.cons_ne_nil _ _; exact ones_of rfl; ((show (_ + 1) * _ ≤ _); omega); decide; exact i64s_snoc; (intro v2); (refine J_row1' (v := v2) rb (fun oa2 _ => ?_))))
                              (apply J_nil; apply JF_end; exact sub_nil)
                              (apply JF_q 18; exact rfl; kernel_rfl; exact rfl; (intro E hE; (first | (apply q_indexN; exact rfl; exact rfl; omega) | (apply q_index; exact rfl; exact rfl; omega; omega) | (apply q_indexSN; exact rfl; exact rfl; omega) | (apply q_indexRN; exact rfl; exact rfl; (refine hE _ ?_; exact rb); omega))))
                              (apply JF_all [19]; kernel_rfl)
                              (apply JFs_cons; exact rfl)
                              · (first | (apply J_sR (v := sl b5 n); exact rfl; exact rfl; exact oa; infer_instance; omega; exact hs1 _))
                                (apply J_nil; apply JF_end; exact sub_nil)
                                (apply JF_q 20; exact rfl; kernel_rfl; exact rfl; (intro E hE; (first | (apply q_indexN; exact rfl; exact rfl; omega) | (apply q_index; exact rfl; exact rfl; omega; omega) | (apply q_indexSN; exact rfl; exact rfl; omega) | (apply q_indexRN; exact rfl; exact rfl; (refine hE _ ?_; exact rb); omega))))
                                (apply JF_all [21]; kernel_rfl)
                                (apply JFs_cons; exact rfl)
                                · (first | (apply J_sR (v := sl b6 n); exact rfl; exact rfl; exact oa2; infer_instance; omega; exact hs2 _))
                                  (apply J_nil; apply JF_end; exact sub_nil)
                                  (apply JF_done; kernel_rfl)
                                  (apply inBlockQ_normal; apply thenQ_normal; apply ex2; refine ⟨trivial, ?_⟩; dsimp only; (refine ent ?_ ?_; (repeat refine fr_cons rfl ?_); exact fr_nil; (repeat (first | exact List.nil_sublist _ | exact List.Sublist.refl _ | refine List.Sublist.cons_cons _ ?_ | refine List.Sublist.cons _ ?_))))
                                exact JFs_nil
                              exact JFs_nil
                            exact JFs_nil
                          exact JFs_nil
                        exact JFs_nil
                      (apply JFs_cons; exact rfl)
                      · (first | (apply J_lit1; exact rfl; exact rfl; exact rfl; (intro _)))
                        (apply J_nil; apply JF_end; exact sub_nil)
                        (apply JF_all [7]; kernel_rfl)
                        (apply JFs_cons; exact rfl)
                        · (first | (apply Jq_loadR (v := sl b5 n); exact rfl; exact rfl; exact rb; exact hg1))
                          (apply J_nil; apply JF_end; exact sub_nil)
                          (apply JF_all [10]; kernel_rfl)
                          (apply JFs_cons; exact rfl)
                          · (first | (apply J_ap (v := u); decide; exact rfl; exact rfl; exact rfl; infer_instance; exact rb; exact List.cons_ne_nil _ _; exact ones_of rfl; ((show (_ + 1) * _ ≤ _); omega); decide; exact i64s_snoc; (intro v'); (refine J_row1' (v := v') rb (fun oa _ => ?_))))
                            (apply J_nil; apply JF_end; exact sub_nil)
                            (apply JF_all [17]; kernel_rfl)
                            (apply JFs_cons; exact rfl)
                            · (first | (apply J_ap (v := u'); decide; exact rfl; exact rfl; exact rfl; infer_instance; exact rb; exact List.cons_ne_nil _ _; exact ones_of rfl; ((show (_ + 1) * _ ≤ _); omega); decide; exact i64s_snoc; (intro v2); (refine J_row1' (v := v2) rb (fun oa2 _ => ?_))))
                              (apply J_nil; apply JF_end; exact sub_nil)
                              (apply JF_q 18; exact rfl; kernel_rfl; exact rfl; (intro E hE; (first | (apply q_indexN; exact rfl; exact rfl; omega) | (apply q_index; exact rfl; exact rfl; omega; omega) | (apply q_indexSN; exact rfl; exact rfl; omega) | (apply q_indexRN; exact rfl; exact rfl; (refine hE _ ?_; exact rb); omega))))
                              (apply JF_all [19]; kernel_rfl)
                              (apply JFs_cons; exact rfl)
                              · (first | (apply J_sR (v := sl b5 n); exact rfl; exact rfl; exact oa; infer_instance; omega; exact hs1 _))
                                (apply J_nil; apply JF_end; exact sub_nil)
                                (apply JF_q 20; exact rfl; kernel_rfl; exact rfl; (intro E hE; (first | (apply q_indexN; exact rfl; exact rfl; omega) | (apply q_index; exact rfl; exact rfl; omega; omega) | (apply q_indexSN; exact rfl; exact rfl; omega) | (apply q_indexRN; exact rfl; exact rfl; (refine hE _ ?_; exact rb); omega))))
                                (apply JF_all [21]; kernel_rfl)
                                (apply JFs_cons; exact rfl)
                                · (first | (apply J_sR (v := sl b6 n); exact rfl; exact rfl; exact oa2; infer_instance; omega; exact hs2 _))
                                  (apply J_nil; apply JF_end; exact sub_nil)
                                  (apply JF_done; kernel_rfl)
                                  (apply inBlockQ_normal; apply thenQ_normal; apply ex2; refine ⟨trivial, ?_⟩; dsimp only; (refine ent ?_ ?_; (repeat refine fr_cons rfl ?_); exact fr_nil; (repeat (first | exact List.nil_sublist _ | exact List.Sublist.refl _ | refine List.Sublist.cons_cons _ ?_ | refine List.Sublist.cons _ ?_))))
                                exact JFs_nil
                              exact JFs_nil
                            exact JFs_nil
                          exact JFs_nil
                        exact JFs_nil
                      exact JFs_nil
                    (apply JFs_cons; exact rfl)
                    · (first | (apply J_lit1; exact rfl; exact rfl; exact rfl; (intro _)))
                      (apply J_nil; apply JF_end; exact sub_nil)
                      (apply JF_all [7, 9]; kernel_rfl)
                      (apply JFs_cons; exact rfl)
                      · (first | (apply Jq_loadR (v := sl b5 n); exact rfl; exact rfl; exact rb; exact hg1))
                        (apply J_nil; apply JF_end; exact sub_nil)
                        (apply JF_all [9]; kernel_rfl)
                        (apply JFs_cons; exact rfl)
                        · (first | (apply J_lit1; exact rfl; exact rfl; exact rfl; (intro _)))
                          (apply J_nil; apply JF_end; exact sub_nil)
                          (apply JF_all [10]; kernel_rfl)
                          (apply JFs_cons; exact rfl)
                          · (first | (apply J_ap (v := u); decide; exact rfl; exact rfl; exact rfl; infer_instance; exact rb; exact List.cons_ne_nil _ _; exact ones_of rfl; ((show (_ + 1) * _ ≤ _); omega); decide; exact i64s_snoc; (intro v'); (refine J_row1' (v := v') rb (fun oa _ => ?_))))
                            (apply J_nil; apply JF_end; exact sub_nil)
                            (apply JF_all [17]; kernel_rfl)
                            (apply JFs_cons; exact rfl)
                            · (first | (apply J_ap (v := u'); decide; exact rfl; exact rfl; exact rfl; infer_instance; exact rb; exact List.cons_ne_nil _ _; exact ones_of rfl; ((show (_ + 1) * _ ≤ _); omega); decide; exact i64s_snoc; (intro v2); (refine J_row1' (v := v2) rb (fun oa2 _ => ?_))))
                              (apply J_nil; apply JF_end; exact sub_nil)
                              (apply JF_q 18; exact rfl; kernel_rfl; exact rfl; (intro E hE; (first | (apply q_indexN; exact rfl; exact rfl; omega) | (apply q_index; exact rfl; exact rfl; omega; omega) | (apply q_indexSN; exact rfl; exact rfl; omega) | (apply q_indexRN; exact rfl; exact rfl; (refine hE _ ?_; exact rb); omega))))
                              (apply JF_all [19]; kernel_rfl)
                              (apply JFs_cons; exact rfl)
                              · (first | (apply J_sR (v := sl b5 n); exact rfl; exact rfl; exact oa; infer_instance; omega; exact hs1 _))
                                (apply J_nil; apply JF_end; exact sub_nil)
                                (apply JF_q 20; exact rfl; kernel_rfl; exact rfl; (intro E hE; (first | (apply q_indexN; exact rfl; exact rfl; omega) | (apply q_index; exact rfl; exact rfl; omega; omega) | (apply q_indexSN; exact rfl; exact rfl; omega) | (apply q_indexRN; exact rfl; exact rfl; (refine hE _ ?_; exact rb); omega))))
                                (apply JF_all [21]; kernel_rfl)
                                (apply JFs_cons; exact rfl)
                                · (first | (apply J_sR (v := sl b6 n); exact rfl; exact rfl; exact oa2; infer_instance; omega; exact hs2 _))
                                  (apply J_nil; apply JF_end; exact sub_nil)
                                  (apply JF_done; kernel_rfl)
                                  (apply inBlockQ_normal; apply thenQ_normal; apply ex2; refine ⟨trivial, ?_⟩; dsimp only; (refine ent ?_ ?_; (repeat refine fr_cons rfl ?_); exact fr_nil; (repeat (first | exact List.nil_sublist _ | exact List.Sublist.refl _ | refine List.Sublist.cons_cons _ ?_ | refine List.Sublist.cons _ ?_))))
                                exact JFs_nil
                              exact JFs_nil
                            exact JFs_nil
                          exact JFs_nil
                        exact JFs_nil
                      (apply JFs_cons; exact rfl)
                      · (first | (apply J_lit1; exact rfl; exact rfl; exact rfl; (intro _)))
                        (apply J_nil; apply JF_end; exact sub_nil)
                        (apply JF_all [7]; kernel_rfl)
                        (apply JFs_cons; exact rfl)
                        · (first | (apply Jq_loadR (v := sl b5 n); exact rfl; exact rfl; exact rb; exact hg1))
                          (apply J_nil; apply JF_end; exact sub_nil)
                          (apply JF_all [10]; kernel_rfl)
                          (apply JFs_cons; exact rfl)
                          · (first | (apply J_ap (v := u); decide; exact rfl; exact rfl; exact rfl; infer_instance; exact rb; exact List.cons_ne_nil _ _; exact ones_of rfl; ((show (_ + 1) * _ ≤ _); omega); decide; exact i64s_snoc; (intro v'); (refine J_row1' (v := v') rb (fun oa _ => ?_))))
                            (apply J_nil; apply JF_end; exact sub_nil)
                            (apply JF_all [17]; kernel_rfl)
                            (apply JFs_cons; exact rfl)
                            · (first | (apply J_ap (v := u'); decide; exact rfl; exact rfl; exact rfl; infer_instance; exact rb; exact List.cons_ne_nil _ _; exact ones_of rfl; ((show (_ + 1) * _ ≤ _); omega); decide; exact i64s_snoc; (intro v2); (refine J_row1' (v := v2) rb (fun oa2 _ => ?_))))
                              (apply J_nil; apply JF_end; exact sub_nil)
                              (apply JF_q 18; exact rfl; kernel_rfl; exact rfl; (intro E hE; (first | (apply q_indexN; exact rfl; exact rfl; omega) | (apply q_index; exact rfl; exact rfl; omega; omega) | (apply q_indexSN; exact rfl; exact rfl; omega) | (apply q_indexRN; exact rfl; exact rfl; (refine hE _ ?_; exact rb); omega))))
                              (apply JF_all [19]; kernel_rfl)
                              (apply JFs_cons; exact rfl)
                              · (first | (apply J_sR (v := sl b5 n); exact rfl; exact rfl; exact oa; infer_instance; omega; exact hs1 _))
                                (apply J_nil; apply JF_end; exact sub_nil)
                                (apply JF_q 20; exact rfl; kernel_rfl; exact rfl; (intro E hE; (first | (apply q_indexN; exact rfl; exact rfl; omega) | (apply q_index; exact rfl; exact rfl; omega; omega) | (apply q_indexSN; exact rfl; exact rfl; omega) | (apply q_indexRN; exact rfl; exact rfl; (refine hE _ ?_; exact rb); omega))))
                                (apply JF_all [21]; kernel_rfl)
                                (apply JFs_cons; exact rfl)
                                · (first | (apply J_sR (v := sl b6 n); exact rfl; exact rfl; exact oa2; infer_instance; omega; exact hs2 _))
                                  (apply J_nil; apply JF_end; exact sub_nil)
                                  (apply JF_done; kernel_rfl)
                                  (apply inBlockQ_normal; apply thenQ_normal; apply ex2; refine ⟨trivial, ?_⟩; dsimp only; (refine ent ?_ ?_; (repeat refine fr_cons rfl ?_); exact fr_nil; (repeat (first | exact List.nil_sublist _ | exact List.Sublist.refl _ | refine List.Sublist.cons_cons _ ?_ | refine List.Sublist.cons _ ?_))))
                                exact JFs_nil
                              exact JFs_nil
                            exact JFs_nil
                          exact JFs_nil
                        exact JFs_nil
                      exact JFs_nil
                    exact JFs_nil
                  (apply JFs_cons; exact rfl)
                  · (first | (apply J_lit1; exact rfl; exact rfl; exact rfl; (intro _)))
                    (apply J_nil; apply JF_end; exact sub_nil)
                    (apply JF_all [7, 9, 14]; kernel_rfl)
                    (apply JFs_cons; exact rfl)
                    · (first | (apply Jq_loadR (v := sl b5 n); exact rfl; exact rfl; exact rb; exact hg1))
                      (apply J_nil; apply JF_end; exact sub_nil)
                      (apply JF_all [9, 14]; kernel_rfl)
                      (apply JFs_cons; exact rfl)
                      · (first | (apply J_lit1; exact rfl; exact rfl; exact rfl; (intro _)))
                        (apply J_nil; apply JF_end; exact sub_nil)
                        (apply JF_all [10, 14]; kernel_rfl)
                        (apply JFs_cons; exact rfl)
                        · (first | (apply J_ap (v := u); decide; exact rfl; exact rfl; exact rfl; infer_instance; exact rb; exact List.cons_ne_nil _ _; exact ones_of rfl; ((show (_ + 1) * _ ≤ _); omega); decide; exact i64s_snoc; (intro v'); (refine J_row1' (v := v') rb (fun oa _ => ?_))))
                          (apply J_nil; apply JF_end; exact sub_nil)
                          (apply JF_all [14]; kernel_rfl)
                          (apply JFs_cons; exact rfl)
                          · (first | (apply Jq_loadR (v := sl b6 n); exact rfl; exact rfl; exact rb; exact hg2))
                            (apply J_nil; apply JF_end; exact sub_nil)
                            (apply JF_all [17]; kernel_rfl)
                            (apply JFs_cons; exact rfl)
                            · (first | (apply J_ap (v := u'); decide; exact rfl; exact rfl; exact rfl; infer_instance; exact rb; exact List.cons_ne_nil _ _; exact ones_of rfl; ((show (_ + 1) * _ ≤ _); omega); decide; exact i64s_snoc; (intro v2); (refine J_row1' (v := v2) rb (fun oa2 _ => ?_))))
                              (apply J_nil; apply JF_end; exact sub_nil)
                              (apply JF_q 18; exact rfl; kernel_rfl; exact rfl; (intro E hE; (first | (apply q_indexN; exact rfl; exact rfl; omega) | (apply q_index; exact rfl; exact rfl; omega; omega) | (apply q_indexSN; exact rfl; exact rfl; omega) | (apply q_indexRN; exact rfl; exact rfl; (refine hE _ ?_; exact rb); omega))))
                              (apply JF_all [19]; kernel_rfl)
                              (apply JFs_cons; exact rfl)
                              · (first | (apply J_sR (v := sl b5 n); exact rfl; exact rfl; exact oa; infer_instance; omega; exact hs1 _))
                                (apply J_nil; apply JF_end; exact sub_nil)
                                (apply JF_q 20; exact rfl; kernel_rfl; exact rfl; (intro E hE; (first | (apply q_indexN; exact rfl; exact rfl; omega) | (apply q_index; exact rfl; exact rfl; omega; omega) | (apply q_indexSN; exact rfl; exact rfl; omega) | (apply q_indexRN; exact rfl; exact rfl; (refine hE _ ?_; exact rb); omega))))
                                (apply JF_all [21]; kernel_rfl)
                                (apply JFs_cons; exact rfl)
                                · (first | (apply J_sR (v := sl b6 n); exact rfl; exact rfl; exact oa2; infer_instance; omega; exact hs2 _))
                                  (apply J_nil; apply JF_end; exact sub_nil)
                                  (apply JF_done; kernel_rfl)
                                  (apply inBlockQ_normal; apply thenQ_normal; apply ex2; refine ⟨trivial, ?_⟩; dsimp only; (refine ent ?_ ?_; (repeat refine fr_cons rfl ?_); exact fr_nil; (repeat (first | exact List.nil_sublist _ | exact List.Sublist.refl _ | refine List.Sublist.cons_cons _ ?_ | refine List.Sublist.cons _ ?_))))
                                exact JFs_nil
                              exact JFs_nil
                            exact JFs_nil
                          exact JFs_nil
                        (apply JFs_cons; exact rfl)
                        · (first | (apply Jq_loadR (v := sl b6 n); exact rfl; exact rfl; exact rb; exact hg2))
                          (apply J_nil; apply JF_end; exact sub_nil)
                          (apply JF_all [10]; kernel_rfl)
                          (apply JFs_cons; exact rfl)
                          · (first | (apply J_ap (v := u); decide; exact rfl; exact rfl; exact rfl; infer_instance; exact rb; exact List.cons_ne_nil _ _; exact ones_of rfl; ((show (_ + 1) * _ ≤ _); omega); decide; exact i64s_snoc; (intro v'); (refine J_row1' (v := v') rb (fun oa _ => ?_))))
                            (apply J_nil; apply JF_end; exact sub_nil)
                            (apply JF_all [17]; kernel_rfl)
                            (apply JFs_cons; exact rfl)
                            · (first | (apply J_ap (v := u'); decide; exact rfl; exact rfl; exact rfl; infer_instance; exact rb; exact List.cons_ne_nil _ _; exact ones_of rfl; ((show (_ + 1) * _ ≤ _); omega); decide; exact i64s_snoc; (intro v2); (refine J_row1' (v := v2) rb (fun oa2 _ => ?_))))
                              (apply J_nil; apply JF_end; exact sub_nil)
                              (apply JF_q 18; exact rfl; kernel_rfl; exact rfl; (intro E hE; (first | (apply q_indexN; exact rfl; exact rfl; omega) | (apply q_index; exact rfl; exact rfl; omega; omega) | (apply q_indexSN; exact rfl; exact rfl; omega) | (apply q_indexRN; exact rfl; exact rfl; (refine hE _ ?_; exact rb); omega))))
                              (apply JF_all [19]; kernel_rfl)
                              (apply JFs_cons; exact rfl)
                              · (first | (apply J_sR (v := sl b5 n); exact rfl; exact rfl; exact oa; infer_instance; omega; exact hs1 _))
                                (apply J_nil; apply JF_end; exact sub_nil)
                                (apply JF_q 20; exact rfl; kernel_rfl; exact rfl; (intro E hE; (first | (apply q_indexN; exact rfl; exact rfl; omega) | (apply q_index; exact rfl; exact rfl; omega; omega) | (apply q_indexSN; exact rfl; exact rfl; omega) | (apply q_indexRN; exact rfl; exact rfl; (refine hE _ ?_; exact rb); omega))))
                                (apply JF_all [21]; kernel_rfl)
                                (apply JFs_cons; exact rfl)
                                · (first | (apply J_sR (v := sl b6 n); exact rfl; exact rfl; exact oa2; infer_instance; omega; exact hs2 _))
                                  (apply J_nil; apply JF_end; exact sub_nil)
                                  (apply JF_done; kernel_rfl)
                                  (apply inBlockQ_normal; apply thenQ_normal; apply ex2; refine ⟨trivial, ?_⟩; dsimp only; (refine ent ?_ ?_; (repeat refine fr_cons rfl ?_); exact fr_nil; (repeat (first | exact List.nil_sublist _ | exact List.Sublist.refl _ | refine List.Sublist.cons_cons _ ?_ | refine List.Sublist.cons _ ?_))))
                                exact JFs_nil
                              exact JFs_nil
                            exact JFs_nil
                          exact JFs_nil
                        exact JFs_nil
                      (apply JFs_cons; exact rfl)
                      · (first | (apply Jq_loadR (v := sl b6 n); exact rfl; exact rfl; exact rb; exact hg2))
                        (apply J_nil; apply JF_end; exact sub_nil)
                        (apply JF_all [9]; kernel_rfl)
                        (apply JFs_cons; exact rfl)
                        · (first | (apply J_lit1; exact rfl; exact rfl; exact rfl; (intro _)))
                          (apply J_nil; apply JF_end; exact sub_nil)
                          (apply JF_all [10]; kernel_rfl)
                          (apply JFs_cons; exact rfl)
                          · (first | (apply J_ap (v := u); decide; exact rfl; exact rfl; exact rfl; infer_instance; exact rb; exact List.cons_ne_nil _ _; exact ones_of rfl; ((show (_ + 1) * _ ≤ _); omega); decide; exact i64s_snoc; (intro v'); (refine J_row1' (v := v') rb (fun oa _ => ?_))))
                            (apply J_nil; apply JF_end; exact sub_nil)
                            (apply JF_all [17]; kernel_rfl)
                            (apply JFs_cons; exact rfl)
                            · (first | (apply J_ap (v := u'); decide; exact rfl; exact rfl; exact rfl; infer_instance; exact rb; exact List.cons_ne_nil _ _; exact ones_of rfl; ((show (_ + 1) * _ ≤ _); omega); decide; exact i64s_snoc; (intro v2); (refine J_row1' (v := v2) rb (fun oa2 _ => ?_))))
                              (apply J_nil; apply JF_end; exact sub_nil)
                              (apply JF_q 18; exact rfl; kernel_rfl; exact rfl; (intro E hE; (first | (apply q_indexN; exact rfl; exact rfl; omega) | (apply q_index; exact rfl; exact rfl; omega; omega) | (apply q_indexSN; exact rfl; exact rfl; omega) | (apply q_indexRN; exact rfl; exact rfl; (refine hE _ ?_; exact rb); omega))))
                              (apply JF_all [19]; kernel_rfl)
                              (apply JFs_cons; exact rfl)
                              · (first | (apply J_sR (v := sl b5 n); exact rfl; exact rfl; exact oa; infer_instance; omega; exact hs1 _))
                                (apply J_nil; apply JF_end; exact sub_nil)
                                (apply JF_q 20; exact rfl; kernel_rfl; exact rfl; (intro E hE; (first | (apply q_indexN; exact rfl; exact rfl; omega) | (apply q_index; exact rfl; exact rfl; omega; omega) | (apply q_indexSN; exact rfl; exact rfl; omega) | (apply q_indexRN; exact rfl; exact rfl; (refine hE _ ?_; exact rb); omega))))
                                (apply JF_all [21]; kernel_rfl)
                                (apply JFs_cons; exact rfl)
                                · (first | (apply J_sR (v := sl b6 n); exact rfl; exact rfl; exact oa2; infer_instance; omega; exact hs2 _))
                                  (apply J_nil; apply JF_end; exact sub_nil)
                                  (apply JF_done; kernel_rfl)
                                  (apply inBlockQ_normal; apply thenQ_normal; apply ex2; refine ⟨trivial, ?_⟩; dsimp only; (refine ent ?_ ?_; (repeat refine fr_cons rfl ?_); exact fr_nil; (repeat (first | exact List.nil_sublist _ | exact List.Sublist.refl _ | refine List.Sublist.cons_cons _ ?_ | refine List.Sublist.cons _ ?_))))
                                exact JFs_nil
                              exact JFs_nil
                            exact JFs_nil
                          exact JFs_nil
                        exact JFs_nil
                      exact JFs_nil
                    (apply JFs_cons; exact rfl)
                    · (first | (apply J_lit1; exact rfl; exact rfl; exact rfl; (intro _)))
                      (apply J_nil; apply JF_end; exact sub_nil)
                      (apply JF_all [7, 14]; kernel_rfl)
                      (apply JFs_cons; exact rfl)
                      · (first | (apply Jq_loadR (v := sl b5 n); exact rfl; exact rfl; exact rb; exact hg1))
                        (apply J_nil; apply JF_end; exact sub_nil)
                        (apply JF_all [10, 14]; kernel_rfl)
                        (apply JFs_cons; exact rfl)
                        · (first | (apply J_ap (v := u); decide; exact rfl; exact rfl; exact rfl; infer_instance; exact rb; exact List.cons_ne_nil _ _; exact ones_of rfl; ((show (_ + 1) * _ ≤ _); omega); decide; exact i64s_snoc; (intro v'); (refine J_row1' (v := v') rb (fun oa _ => ?_))))
                          (apply J_nil; apply JF_end; exact sub_nil)
                          (apply JF_all [14]; kernel_rfl)
                          (apply JFs_cons; exact rfl)
                          · (first | (apply Jq_loadR (v := sl b6 n); exact rfl; exact rfl; exact rb; exact hg2))
                            (apply J_nil; apply JF_end; exact sub_nil)
                            (apply JF_all [17]; kernel_rfl)
                            (apply JFs_cons; exact rfl)
                            · (first | (apply J_ap (v := u'); decide; exact rfl; exact rfl; exact rfl; infer_instance; exact rb; exact List.cons_ne_nil _ _; exact ones_of rfl; ((show (_ + 1) * _ ≤ _); omega); decide; exact i64s_snoc; (intro v2); (refine J_row1' (v := v2) rb (fun oa2 _ => ?_))))
                              (apply J_nil; apply JF_end; exact sub_nil)
                              (apply JF_q 18; exact rfl; kernel_rfl; exact rfl; (intro E hE; (first | (apply q_indexN; exact rfl; exact rfl; omega) | (apply q_index; exact rfl; exact rfl; omega; omega) | (apply q_indexSN; exact rfl; exact rfl; omega) | (apply q_indexRN; exact rfl; exact rfl; (refine hE _ ?_; exact rb); omega))))
                              (apply JF_all [19]; kernel_rfl)
                              (apply JFs_cons; exact rfl)
                              · (first | (apply J_sR (v := sl b5 n); exact rfl; exact rfl; exact oa; infer_instance; omega; exact hs1 _))
                                (apply J_nil; apply JF_end; exact sub_nil)
                                (apply JF_q 20; exact rfl; kernel_rfl; exact rfl; (intro E hE; (first | (apply q_indexN; exact rfl; exact rfl; omega) | (apply q_index; exact rfl; exact rfl; omega; omega) | (apply q_indexSN; exact rfl; exact rfl; omega) | (apply q_indexRN; exact rfl; exact rfl; (refine hE _ ?_; exact rb); omega))))
                                (apply JF_all [21]; kernel_rfl)
                                (apply JFs_cons; exact rfl)
                                · (first | (apply J_sR (v := sl b6 n); exact rfl; exact rfl; exact oa2; infer_instance; omega; exact hs2 _))
                                  (apply J_nil; apply JF_end; exact sub_nil)
                                  (apply JF_done; kernel_rfl)
                                  (apply inBlockQ_normal; apply thenQ_normal; apply ex2; refine ⟨trivial, ?_⟩; dsimp only; (refine ent ?_ ?_; (repeat refine fr_cons rfl ?_); exact fr_nil; (repeat (first | exact List.nil_sublist _ | exact List.Sublist.refl _ | refine List.Sublist.cons_cons _ ?_ | refine List.Sublist.cons _ ?_))))
                                exact JFs_nil
                              exact JFs_nil
                            exact JFs_nil
                          exact JFs_nil
                        (apply JFs_cons; exact rfl)
                        · (first | (apply Jq_loadR (v := sl b6 n); exact rfl; exact rfl; exact rb; exact hg2))
                          (apply J_nil; apply JF_end; exact sub_nil)
                          (apply JF_all [10]; kernel_rfl)
                          (apply JFs_cons; exact rfl)
                          · (first | (apply J_ap (v := u); decide; exact rfl; exact rfl; exact rfl; infer_instance; exact rb; exact List.cons_ne_nil _ _; exact ones_of rfl; ((show (_ + 1) * _ ≤ _); omega); decide; exact i64s_snoc; (intro v'); (refine J_row1' (v := v') rb (fun oa _ => ?_))))
                            (apply J_nil; apply JF_end; exact sub_nil)
                            (apply JF_all [17]; kernel_rfl)
                            (apply JFs_cons; exact rfl)
                            · (first | (apply J_ap (v := u'); decide; exact rfl; exact rfl; exact rfl; infer_instance; exact rb; exact List.cons_ne_nil _ _; exact ones_of rfl; ((show (_ + 1) * _ ≤ _); omega); decide; exact i64s_snoc; (intro v2); (refine J_row1' (v := v2) rb (fun oa2 _ => ?_))))
                              (apply J_nil; apply JF_end; exact sub_nil)
                              (apply JF_q 18; exact rfl; kernel_rfl; exact rfl; (intro E hE; (first | (apply q_indexN; exact rfl; exact rfl; omega) | (apply q_index; exact rfl; exact rfl; omega; omega) | (apply q_indexSN; exact rfl; exact rfl; omega) | (apply q_indexRN; exact rfl; exact rfl; (refine hE _ ?_; exact rb); omega))))
                              (apply JF_all [19]; kernel_rfl)
                              (apply JFs_cons; exact rfl)
                              · (first | (apply J_sR (v := sl b5 n); exact rfl; exact rfl; exact oa; infer_instance; omega; exact hs1 _))
                                (apply J_nil; apply JF_end; exact sub_nil)
                                (apply JF_q 20; exact rfl; kernel_rfl; exact rfl; (intro E hE; (first | (apply q_indexN; exact rfl; exact rfl; omega) | (apply q_index; exact rfl; exact rfl; omega; omega) | (apply q_indexSN; exact rfl; exact rfl; omega) | (apply q_indexRN; exact rfl; exact rfl; (refine hE _ ?_; exact rb); omega))))
                                (apply JF_all [21]; kernel_rfl)
                                (apply JFs_cons; exact rfl)
                                · (first | (apply J_sR (v := sl b6 n); exact rfl; exact rfl; exact oa2; infer_instance; omega; exact hs2 _))
                                  (apply J_nil; apply JF_end; exact sub_nil)
                                  (apply JF_done; kernel_rfl)
                                  (apply inBlockQ_normal; apply thenQ_normal; apply ex2; refine ⟨trivial, ?_⟩; dsimp only; (refine ent ?_ ?_; (repeat refine fr_cons rfl ?_); exact fr_nil; (repeat (first | exact List.nil_sublist _ | exact List.Sublist.refl _ | refine List.Sublist.cons_cons _ ?_ | refine List.Sublist.cons _ ?_))))
                                exact JFs_nil
                              exact JFs_nil
                            exact JFs_nil
                          exact JFs_nil
                        exact JFs_nil
                      (apply JFs_cons; exact rfl)
                      · (first | (apply Jq_loadR (v := sl b6 n); exact rfl; exact rfl; exact rb; exact hg2))
                        (apply J_nil; apply JF_end; exact sub_nil)
                        (apply JF_all [7]; kernel_rfl)
                        (apply JFs_cons; exact rfl)
                        · (first | (apply Jq_loadR (v := sl b5 n); exact rfl; exact rfl; exact rb; exact hg1))
                          (apply J_nil; apply JF_end; exact sub_nil)
                          (apply JF_all [10]; kernel_rfl)
                          (apply JFs_cons; exact rfl)
                          · (first | (apply J_ap (v := u); decide; exact rfl; exact rfl; exact rfl; infer_instance; exact rb; exact List.cons_ne_nil _ _; exact ones_of rfl; ((show (_ + 1) * _ ≤ _); omega); decide; exact i64s_snoc; (intro v'); (refine J_row1' (v := v') rb (fun oa _ => ?_))))
                            (apply J_nil; apply JF_end; exact sub_nil)
                            (apply JF_all [17]; kernel_rfl)
                            (apply JFs_cons; exact rfl)
                            · (first | (apply J_ap (v := u'); decide; exact rfl; exact rfl; exact rfl; infer_instance; exact rb; exact List.cons_ne_nil _ _; exact ones_of rfl; ((show (_ + 1) * _ ≤ _); omega); decide; exact i64s_snoc; (intro v2); (refine J_row1' (v := v2) rb (fun oa2 _ => ?_))))
                              (apply J_nil; apply JF_end; exact sub_nil)
                              (apply JF_q 18; exact rfl; kernel_rfl; exact rfl; (intro E hE; (first | (apply q_indexN; exact rfl; exact rfl; omega) | (apply q_index; exact rfl; exact rfl; omega; omega) | (apply q_indexSN; exact rfl; exact rfl; omega) | (apply q_indexRN; exact rfl; exact rfl; (refine hE _ ?_; exact rb); omega))))
                              (apply JF_all [19]; kernel_rfl)
                              (apply JFs_cons; exact rfl)
                              · (first | (apply J_sR (v := sl b5 n); exact rfl; exact rfl; exact oa; infer_instance; omega; exact hs1 _))
                                (apply J_nil; apply JF_end; exact sub_nil)
                                (apply JF_q 20; exact rfl; kernel_rfl; exact rfl; (intro E hE; (first | (apply q_indexN; exact rfl; exact rfl; omega) | (apply q_index; exact rfl; exact rfl; omega; omega) | (apply q_indexSN; exact rfl; exact rfl; omega) | (apply q_indexRN; exact rfl; exact rfl; (refine hE _ ?_; exact rb); omega))))
                                (apply JF_all [21]; kernel_rfl)
                                (apply JFs_cons; exact rfl)
                                · (first | (apply J_sR (v := sl b6 n); exact rfl; exact rfl; exact oa2; infer_instance; omega; exact hs2 _))
                                  (apply J_nil; apply JF_end; exact sub_nil)
                                  (apply JF_done; kernel_rfl)
                                  (apply inBlockQ_normal; apply thenQ_normal; apply ex2; refine ⟨trivial, ?_⟩; dsimp only; (refine ent ?_ ?_; (repeat refine fr_cons rfl ?_); exact fr_nil; (repeat (first | exact List.nil_sublist _ | exact List.Sublist.refl _ | refine List.Sublist.cons_cons _ ?_ | refine List.Sublist.cons _ ?_))))
                                exact JFs_nil
                              exact JFs_nil
                            exact JFs_nil
                          exact JFs_nil
                        exact JFs_nil
                      exact JFs_nil
                    (apply JFs_cons; exact rfl)
                    · (first | (apply Jq_loadR (v := sl b6 n); exact rfl; exact rfl; exact rb; exact hg2))
                      (apply J_nil; apply JF_end; exact sub_nil)
                      (apply JF_all [7, 9]; kernel_rfl)
                      (apply JFs_cons; exact rfl)
                      · (first | (apply Jq_loadR (v := sl b5 n); exact rfl; exact rfl; exact rb; exact hg1))
                        (apply J_nil; apply JF_end; exact sub_nil)
                        (apply JF_all [9]; kernel_rfl)
                        (apply JFs_cons; exact rfl)
                        · (first | (apply J_lit1; exact rfl; exact rfl; exact rfl; (intro _)))
                          (apply J_nil; apply JF_end; exact sub_nil)
                          (apply JF_all [10]; kernel_rfl)
                          (apply JFs_cons; exact rfl)
                          · (first | (apply J_ap (v := u); decide; exact rfl; exact rfl; exact rfl; infer_instance; exact rb; exact List.cons_ne_nil _ _; exact ones_of rfl; ((show (_ + 1) * _ ≤ _); omega); decide; exact i64s_snoc; (intro v'); (refine J_row1' (v := v') rb (fun oa _ => ?_))))
                            (apply J_nil; apply JF_end; exact sub_nil)
                            (apply JF_all [17]; kernel_rfl)
                            (apply JFs_cons; exact rfl)
                            · (first | (apply J_ap (v := u'); decide; exact rfl; exact rfl; exact rfl; infer_instance; exact rb; exact List.cons_ne_nil _ _; exact ones_of rfl; ((show (_ + 1) * _ ≤ _); omega); decide; exact i64s_snoc; (intro v2); (refine J_row1' (v := v2) rb (fun oa2 _ => ?_))))
                              (apply J_nil; apply JF_end; exact sub_nil)
                              (apply JF_q 18; exact rfl; kernel_rfl; exact rfl; (intro E hE; (first | (apply q_indexN; exact rfl; exact rfl; omega) | (apply q_index; exact rfl; exact rfl; omega; omega) | (apply q_indexSN; exact rfl; exact rfl; omega) | (apply q_indexRN; exact rfl; exact rfl; (refine hE _ ?_; exact rb); omega))))
                              (apply JF_all [19]; kernel_rfl)
                              (apply JFs_cons; exact rfl)
                              · (first | (apply J_sR (v := sl b5 n); exact rfl; exact rfl; exact oa; infer_instance; omega; exact hs1 _))
                                (apply J_nil; apply JF_end; exact sub_nil)
                                (apply JF_q 20; exact rfl; kernel_rfl; exact rfl; (intro E hE; (first | (apply q_indexN; exact rfl; exact rfl; omega) | (apply q_index; exact rfl; exact rfl; omega; omega) | (apply q_indexSN; exact rfl; exact rfl; omega) | (apply q_indexRN; exact rfl; exact rfl; (refine hE _ ?_; exact rb); omega))))
                                (apply JF_all [21]; kernel_rfl)
                                (apply JFs_cons; exact rfl)
                                · (first | (apply J_sR (v := sl b6 n); exact rfl; exact rfl; exact oa2; infer_instance; omega; exact hs2 _))
                                  (apply J_nil; apply JF_end; exact sub_nil)
                                  (apply JF_done; kernel_rfl)
                                  (apply inBlockQ_normal; apply thenQ_normal; apply ex2; refine ⟨trivial, ?_⟩; dsimp only; (refine ent ?_ ?_; (repeat refine fr_cons rfl ?_); exact fr_nil; (repeat (first | exact List.nil_sublist _ | exact List.Sublist.refl _ | refine List.Sublist.cons_cons _ ?_ | refine List.Sublist.cons _ ?_))))
                                exact JFs_nil
                              exact JFs_nil
                            exact JFs_nil
                          exact JFs_nil
                        exact JFs_nil
                      (apply JFs_cons; exact rfl)
                      · (first | (apply J_lit1; exact rfl; exact rfl; exact rfl; (intro _)))
                        (apply J_nil; apply JF_end; exact sub_nil)
                        (apply JF_all [7]; kernel_rfl)
                        (apply JFs_cons; exact rfl)
                        · (first | (apply Jq_loadR (v := sl b5 n); exact rfl; exact rfl; exact rb; exact hg1))
                          (apply J_nil; apply JF_end; exact sub_nil)
                          (apply JF_all [10]; kernel_rfl)
                          (apply JFs_cons; exact rfl)
                          · (first | (apply J_ap (v := u); decide; exact rfl; exact rfl; exact rfl; infer_instance; exact rb; exact List.cons_ne_nil _ _; exact ones_of rfl; ((show (_ + 1) * _ ≤ _); omega); decide; exact i64s_snoc; (intro v'); (refine J_row1' (v := v') rb (fun oa _ => ?_))))
                            (apply J_nil; apply JF_end; exact sub_nil)
                            (apply JF_all [17]; kernel_rfl)
                            (apply JFs_cons; exact rfl)
                            · (first | (apply J_ap (v := u'); decide; exact rfl; exact rfl; exact rfl; infer_instance; exact rb; exact List.cons_ne_nil _ _; exact ones_of rfl; ((show (_ + 1) * _ ≤ _); omega); decide; exact i64s_snoc; (intro v2); (refine J_row1' (v := v2) rb (fun oa2 _ => ?_))))
                              (apply J_nil; apply JF_end; exact sub_nil)
                              (apply JF_q 18; exact rfl; kernel_rfl; exact rfl; (intro E hE; (first | (apply q_indexN; exact rfl; exact rfl; omega) | (apply q_index; exact rfl; exact rfl; omega; omega) | (apply q_indexSN; exact rfl; exact rfl; omega) | (apply q_indexRN; exact rfl; exact rfl; (refine hE _ ?_; exact rb); omega))))
                              (apply JF_all [19]; kernel_rfl)
                              (apply JFs_cons; exact rfl)
                              · (first | (apply J_sR (v := sl b5 n); exact rfl; exact rfl; exact oa; infer_instance; omega; exact hs1 _))
                                (apply J_nil; apply JF_end; exact sub_nil)
                                (apply JF_q 20; exact rfl; kernel_rfl; exact rfl; (intro E hE; (first | (apply q_indexN; exact rfl; exact rfl; omega) | (apply q_index; exact rfl; exact rfl; omega; omega) | (apply q_indexSN; exact rfl; exact rfl; omega) | (apply q_indexRN; exact rfl; exact rfl; (refine hE _ ?_; exact rb); omega))))
                                (apply JF_all [21]; kernel_rfl)
                                (apply JFs_cons; exact rfl)
                                · (first | (apply J_sR (v := sl b6 n); exact rfl; exact rfl; exact oa2; infer_instance; omega; exact hs2 _))
                                  (apply J_nil; apply JF_end; exact sub_nil)
                                  (apply JF_done; kernel_rfl)
                                  (apply inBlockQ_normal; apply thenQ_normal; apply ex2; refine ⟨trivial, ?_⟩; dsimp only; (refine ent ?_ ?_; (repeat refine fr_cons rfl ?_); exact fr_nil; (repeat (first | exact List.nil_sublist _ | exact List.Sublist.refl _ | refine List.Sublist.cons_cons _ ?_ | refine List.Sublist.cons _ ?_))))
                                exact JFs_nil
                              exact JFs_nil
                            exact JFs_nil
                          exact JFs_nil
                        exact JFs_nil
                      exact JFs_nil
                    exact JFs_nil
                  exact JFs_nil
                · rintro ⟨v1, v2⟩ _
                  dsimp only
                  repeat' (first | (apply Jq_move; exact rfl; exact rfl) | (apply Jq_assign; exact rfl; exact rfl) | (apply Jq_load; exact rfl; exact rfl; (exact mb); (first | exact rfl)) | (apply Jq_fieldAddr; exact rfl; exact rfl) | (apply Jq_indexN; exact rfl; exact rfl; exact rfl; omega) | (apply Jq_index; exact rfl; exact rfl; exact rfl; omega; omega) | (apply Jq_indexSN; exact rfl; exact rfl; exact rfl; omega) | (apply Jq_cmp; exact rfl; exact rfl; exact rfl; exact rfl) | (apply Jq_add; exact rfl; exact rfl; exact rfl; omega) | (apply Jq_sub; exact rfl; exact rfl; exact rfl; omega) | (apply Jq_mul; exact rfl; exact rfl; exact rfl; omega) | (apply Jq_not; exact rfl; exact rfl) | (apply Jq_pick_true; exact rfl; exact rfl; exact rfl) | (apply Jq_pick_false; exact rfl; exact rfl; exact rfl) | (apply J_on; exact rfl; exact rfl) | (apply J_skip; exact rfl; exact rfl; exact rfl; exact rfl) | (apply Jq_loadW; exact rfl; exact rfl; (exact mb); (first | exact rfl | omega)) | (apply Jq_loadA; exact rfl; exact rfl; (exact mb); (first | exact rfl); (first | exact rfl | omega)) | (apply J_s1; exact rfl; exact rfl; exact rfl; infer_instance; (first | exact rfl | omega); (first | exact rfl); infer_instance) | (apply J_sW; exact rfl; exact rfl; infer_instance; (first | exact rfl | omega); (first | exact rfl | omega); (first | exact ones_of rfl | exact u8s_one _ | exact i64s_one _ | exact bls_one _ | exact gv_one _ _ _ | exact dv_one _ _ _ _ _ _); infer_instance) | (apply J_sR; exact rfl; exact rfl; exact rfl; infer_instance; (first | exact rfl | omega); (first | exact i64s_setR)) | (apply J_lit1; exact rfl; exact rfl; exact rfl; (intro _)) | (apply J_ap; exact Nat.one_pos; exact rfl; exact rfl; exact rfl; infer_instance; (first | exact rb | assumption); exact List.cons_ne_nil _ _; exact ones_of rfl; ((show (_ + 1) * _ ≤ _); omega); decide; (first | exact i64s_snoc | exact u8s_snoc | exact rfl); (intro _)) | (apply Jq_indexRN; exact rfl; exact rfl; exact rfl; (first | exact rb | assumption); omega) | (apply Jq_loadR; exact rfl; exact rfl; (first | exact rb | assumption); (first | exact rfl)) | (apply J_box; exact rfl; exact rfl; exact rfl; (intro _)) | (apply J_make1; exact rfl; exact rfl; exact rfl; omega; ((show _ ≤ maxLen); (simp only [maxLen]); omega); exact rfl; (intro _)) | (apply J_alloc (cs := gv 0 Z8 Z8); exact rfl; exact rfl; (intro _)) | (apply J_alloc (cs := dv 0 Z8 Z8 0 Z8 Z8); exact rfl; exact rfl; (intro _)) | (apply J_alloc (cs := u8s Z8); exact rfl; exact rfl; (intro _)) | (apply J_alloc (cs := i64s Z8); exact rfl; exact rfl; (intro _)) | (apply J_alloc (cs := bls F8); exact rfl; exact rfl; (intro _)) | (apply J_alloc; exact rfl; exact rfl; (intro _)) | (apply Jz (cs := gv 0 Z8 Z8); exact rfl; exact rfl) | (apply Jz (cs := dv 0 Z8 Z8 0 Z8 Z8); exact rfl; exact rfl) | (apply Jz (cs := u8s Z8); exact rfl; exact rfl) | (apply Jz (cs := i64s Z8); exact rfl; exact rfl) | (apply Jz (cs := bls F8); exact rfl; exact rfl) | (apply Jq_build0; exact rfl) | refine thenQ_normal ?_ | refine thenQ_exit ?_ | refine thenQ_ret ?_ | refine inBlockQ_normal ?_ | refine inBlockQ_ret ?_ | refine inBlockQ_here ?_ | (apply inBlockQ_on; exact rfl) | refine JC_seq ?_ | refine JC_region ?_ | (apply JC_draw mixed; kernel_rfl) | refine J_nil ?_ | refine JC_block ?_ | refine JC_skip ?_ | refine JC_ret ?_ | refine JC_exit ?_ | (apply JC_if_true; exact rfl) | (apply JC_if_false; exact rfl) | (apply JC_dec_true; exact rfl; omega) | (apply JC_dec_false; exact rfl; omega) | (apply JC_ndec_true; exact rfl; omega) | (apply JC_ndec_false; exact rfl; omega) | (apply J_gdT; exact rfl; exact rfl; omega) | (apply J_gdF; exact rfl; exact rfl; omega) | (apply J_gnT; exact rfl; exact rfl; omega) | (apply J_gnF; exact rfl; exact rfl; omega) | refine JC_dec rfl (fun _ => ?_) (fun _ => ?_) | refine JC_ndec rfl (fun _ => ?_) (fun _ => ?_) | refine JC_if rfl (fun _ => ?_) (fun _ => ?_) | refine J_gd rfl rfl (fun _ => ?_) (fun _ => ?_) | refine J_gn rfl rfl (fun _ => ?_) (fun _ => ?_) | refine J_gb rfl rfl (fun _ => ?_) (fun _ => ?_))
                  refine ⟨(i + 1, A ++ (v1, pl ++ [r]) :: C, A' ++ (v2, ql ++ [i]) :: C'), ⟨by dsimp only; omega, hC.put hA hcr, hR.put hA' hcr⟩, by dsimp only; omega, ?_⟩
                  (try unfold Hcr)
                  dsimp only
                  rw [eH]
                  (refine ent ?_ ?_; (repeat refine fr_cons rfl ?_); exact fr_nil; (repeat (first | exact List.nil_sublist _ | exact List.Sublist.refl _ | refine List.Sublist.cons_cons _ ?_ | refine List.Sublist.cons _ ?_)))
              · have hcr : crT n T r i = false := decide_eq_false (by omega)
                refine ⟨(i + 1, LC, LR), ⟨by dsimp only; omega, hC.skip hcr, hR.skip hcr⟩, by dsimp only; omega, ?_⟩
                (try unfold Hcr)
                (refine ent ?_ ?_; (repeat refine fr_cons rfl ?_); exact fr_nil; (repeat (first | exact List.nil_sublist _ | exact List.Sublist.refl _ | refine List.Sublist.cons_cons _ ?_ | refine List.Sublist.cons _ ?_)))
              · have hcr : crT n T r i = false := decide_eq_false (by omega)
                refine ⟨(i + 1, LC, LR), ⟨by dsimp only; omega, hC.skip hcr, hR.skip hcr⟩, by dsimp only; omega, ?_⟩
                (try unfold Hcr)
                (refine ent ?_ ?_; (repeat refine fr_cons rfl ?_); exact fr_nil; (repeat (first | exact List.nil_sublist _ | exact List.Sublist.refl _ | refine List.Sublist.cons_cons _ ?_ | refine List.Sublist.cons _ ?_)))
            · obtain rfl : i = n := by omega
              repeat' (first | (apply Jq_move; exact rfl; exact rfl) | (apply Jq_assign; exact rfl; exact rfl) | (apply Jq_load; exact rfl; exact rfl; (exact mb); (first | exact rfl)) | (apply Jq_fieldAddr; exact rfl; exact rfl) | (apply Jq_indexN; exact rfl; exact rfl; exact rfl; omega) | (apply Jq_index; exact rfl; exact rfl; exact rfl; omega; omega) | (apply Jq_indexSN; exact rfl; exact rfl; exact rfl; omega) | (apply Jq_cmp; exact rfl; exact rfl; exact rfl; exact rfl) | (apply Jq_add; exact rfl; exact rfl; exact rfl; omega) | (apply Jq_sub; exact rfl; exact rfl; exact rfl; omega) | (apply Jq_mul; exact rfl; exact rfl; exact rfl; omega) | (apply Jq_not; exact rfl; exact rfl) | (apply Jq_pick_true; exact rfl; exact rfl; exact rfl) | (apply Jq_pick_false; exact rfl; exact rfl; exact rfl) | (apply J_on; exact rfl; exact rfl) | (apply J_skip; exact rfl; exact rfl; exact rfl; exact rfl) | (apply Jq_loadW; exact rfl; exact rfl; (exact mb); (first | exact rfl | omega)) | (apply Jq_loadA; exact rfl; exact rfl; (exact mb); (first | exact rfl); (first | exact rfl | omega)) | (apply J_s1; exact rfl; exact rfl; exact rfl; infer_instance; (first | exact rfl | omega); (first | exact rfl); infer_instance) | (apply J_sW; exact rfl; exact rfl; infer_instance; (first | exact rfl | omega); (first | exact rfl | omega); (first | exact ones_of rfl | exact u8s_one _ | exact i64s_one _ | exact bls_one _ | exact gv_one _ _ _ | exact dv_one _ _ _ _ _ _); infer_instance) | (apply J_sR; exact rfl; exact rfl; exact rfl; infer_instance; (first | exact rfl | omega); (first | exact i64s_setR)) | (apply J_lit1; exact rfl; exact rfl; exact rfl; (intro _)) | (apply J_ap; exact Nat.one_pos; exact rfl; exact rfl; exact rfl; infer_instance; (first | exact rb | assumption); exact List.cons_ne_nil _ _; exact ones_of rfl; ((show (_ + 1) * _ ≤ _); omega); decide; (first | exact i64s_snoc | exact u8s_snoc | exact rfl); (intro _)) | (apply Jq_indexRN; exact rfl; exact rfl; exact rfl; (first | exact rb | assumption); omega) | (apply Jq_loadR; exact rfl; exact rfl; (first | exact rb | assumption); (first | exact rfl)) | (apply J_box; exact rfl; exact rfl; exact rfl; (intro _)) | (apply J_make1; exact rfl; exact rfl; exact rfl; omega; ((show _ ≤ maxLen); (simp only [maxLen]); omega); exact rfl; (intro _)) | (apply J_alloc (cs := gv 0 Z8 Z8); exact rfl; exact rfl; (intro _)) | (apply J_alloc (cs := dv 0 Z8 Z8 0 Z8 Z8); exact rfl; exact rfl; (intro _)) | (apply J_alloc (cs := u8s Z8); exact rfl; exact rfl; (intro _)) | (apply J_alloc (cs := i64s Z8); exact rfl; exact rfl; (intro _)) | (apply J_alloc (cs := bls F8); exact rfl; exact rfl; (intro _)) | (apply J_alloc; exact rfl; exact rfl; (intro _)) | (apply Jz (cs := gv 0 Z8 Z8); exact rfl; exact rfl) | (apply Jz (cs := dv 0 Z8 Z8 0 Z8 Z8); exact rfl; exact rfl) | (apply Jz (cs := u8s Z8); exact rfl; exact rfl) | (apply Jz (cs := i64s Z8); exact rfl; exact rfl) | (apply Jz (cs := bls F8); exact rfl; exact rfl) | (apply Jq_build0; exact rfl) | refine thenQ_normal ?_ | refine thenQ_exit ?_ | refine thenQ_ret ?_ | refine inBlockQ_normal ?_ | refine inBlockQ_ret ?_ | refine inBlockQ_here ?_ | (apply inBlockQ_on; exact rfl) | refine JC_seq ?_ | refine JC_region ?_ | (apply JC_draw mixed; kernel_rfl) | refine J_nil ?_ | refine JC_block ?_ | refine JC_skip ?_ | refine JC_ret ?_ | refine JC_exit ?_ | (apply JC_if_true; exact rfl) | (apply JC_if_false; exact rfl) | (apply JC_dec_true; exact rfl; omega) | (apply JC_dec_false; exact rfl; omega) | (apply JC_ndec_true; exact rfl; omega) | (apply JC_ndec_false; exact rfl; omega) | (apply J_gdT; exact rfl; exact rfl; omega) | (apply J_gdF; exact rfl; exact rfl; omega) | (apply J_gnT; exact rfl; exact rfl; omega) | (apply J_gnF; exact rfl; exact rfl; omega) | refine JC_dec rfl (fun _ => ?_) (fun _ => ?_) | refine JC_ndec rfl (fun _ => ?_) (fun _ => ?_) | refine JC_if rfl (fun _ => ?_) (fun _ => ?_) | refine J_gd rfl rfl (fun _ => ?_) (fun _ => ?_) | refine J_gn rfl rfl (fun _ => ?_) (fun _ => ?_) | refine J_gb rfl rfl (fun _ => ?_) (fun _ => ?_))
              refine ⟨(r + 1, LC, LR), ⟨by dsimp only; omega, hC.down, hR.down⟩, by dsimp only; omega, ?_⟩
              (try unfold Hcr)
              (refine ent ?_ ?_; (repeat refine fr_cons rfl ?_); exact fr_nil; (repeat (first | exact List.nil_sublist _ | exact List.Sublist.refl _ | refine List.Sublist.cons_cons _ ?_ | refine List.Sublist.cons _ ?_)))
        · obtain rfl : r = n := by omega
          repeat' (first | (apply Jq_move; exact rfl; exact rfl) | (apply Jq_assign; exact rfl; exact rfl) | (apply Jq_load; exact rfl; exact rfl; (exact mb); (first | exact rfl)) | (apply Jq_fieldAddr; exact rfl; exact rfl) | (apply Jq_indexN; exact rfl; exact rfl; exact rfl; omega) | (apply Jq_index; exact rfl; exact rfl; exact rfl; omega; omega) | (apply Jq_indexSN; exact rfl; exact rfl; exact rfl; omega) | (apply Jq_cmp; exact rfl; exact rfl; exact rfl; exact rfl) | (apply Jq_add; exact rfl; exact rfl; exact rfl; omega) | (apply Jq_sub; exact rfl; exact rfl; exact rfl; omega) | (apply Jq_mul; exact rfl; exact rfl; exact rfl; omega) | (apply Jq_not; exact rfl; exact rfl) | (apply Jq_pick_true; exact rfl; exact rfl; exact rfl) | (apply Jq_pick_false; exact rfl; exact rfl; exact rfl) | (apply J_on; exact rfl; exact rfl) | (apply J_skip; exact rfl; exact rfl; exact rfl; exact rfl) | (apply Jq_loadW; exact rfl; exact rfl; (exact mb); (first | exact rfl | omega)) | (apply Jq_loadA; exact rfl; exact rfl; (exact mb); (first | exact rfl); (first | exact rfl | omega)) | (apply J_s1; exact rfl; exact rfl; exact rfl; infer_instance; (first | exact rfl | omega); (first | exact rfl); infer_instance) | (apply J_sW; exact rfl; exact rfl; infer_instance; (first | exact rfl | omega); (first | exact rfl | omega); (first | exact ones_of rfl | exact u8s_one _ | exact i64s_one _ | exact bls_one _ | exact gv_one _ _ _ | exact dv_one _ _ _ _ _ _); infer_instance) | (apply J_sR; exact rfl; exact rfl; exact rfl; infer_instance; (first | exact rfl | omega); (first | exact i64s_setR)) | (apply J_lit1; exact rfl; exact rfl; exact rfl; (intro _)) | (apply J_ap; exact Nat.one_pos; exact rfl; exact rfl; exact rfl; infer_instance; (first | exact rb | assumption); exact List.cons_ne_nil _ _; exact ones_of rfl; ((show (_ + 1) * _ ≤ _); omega); decide; (first | exact i64s_snoc | exact u8s_snoc | exact rfl); (intro _)) | (apply Jq_indexRN; exact rfl; exact rfl; exact rfl; (first | exact rb | assumption); omega) | (apply Jq_loadR; exact rfl; exact rfl; (first | exact rb | assumption); (first | exact rfl)) | (apply J_box; exact rfl; exact rfl; exact rfl; (intro _)) | (apply J_make1; exact rfl; exact rfl; exact rfl; omega; ((show _ ≤ maxLen); (simp only [maxLen]); omega); exact rfl; (intro _)) | (apply J_alloc (cs := gv 0 Z8 Z8); exact rfl; exact rfl; (intro _)) | (apply J_alloc (cs := dv 0 Z8 Z8 0 Z8 Z8); exact rfl; exact rfl; (intro _)) | (apply J_alloc (cs := u8s Z8); exact rfl; exact rfl; (intro _)) | (apply J_alloc (cs := i64s Z8); exact rfl; exact rfl; (intro _)) | (apply J_alloc (cs := bls F8); exact rfl; exact rfl; (intro _)) | (apply J_alloc; exact rfl; exact rfl; (intro _)) | (apply Jz (cs := gv 0 Z8 Z8); exact rfl; exact rfl) | (apply Jz (cs := dv 0 Z8 Z8 0 Z8 Z8); exact rfl; exact rfl) | (apply Jz (cs := u8s Z8); exact rfl; exact rfl) | (apply Jz (cs := i64s Z8); exact rfl; exact rfl) | (apply Jz (cs := bls F8); exact rfl; exact rfl) | (apply Jq_build0; exact rfl) | refine thenQ_normal ?_ | refine thenQ_exit ?_ | refine thenQ_ret ?_ | refine inBlockQ_normal ?_ | refine inBlockQ_ret ?_ | refine inBlockQ_here ?_ | (apply inBlockQ_on; exact rfl) | refine JC_seq ?_ | refine JC_region ?_ | (apply JC_draw mixed; kernel_rfl) | refine J_nil ?_ | refine JC_block ?_ | refine JC_skip ?_ | refine JC_ret ?_ | refine JC_exit ?_ | (apply JC_if_true; exact rfl) | (apply JC_if_false; exact rfl) | (apply JC_dec_true; exact rfl; omega) | (apply JC_dec_false; exact rfl; omega) | (apply JC_ndec_true; exact rfl; omega) | (apply JC_ndec_false; exact rfl; omega) | (apply J_gdT; exact rfl; exact rfl; omega) | (apply J_gdF; exact rfl; exact rfl; omega) | (apply J_gnT; exact rfl; exact rfl; omega) | (apply J_gnF; exact rfl; exact rfl; omega) | refine JC_dec rfl (fun _ => ?_) (fun _ => ?_) | refine JC_ndec rfl (fun _ => ?_) (fun _ => ?_) | refine JC_if rfl (fun _ => ?_) (fun _ => ?_) | refine J_gd rfl rfl (fun _ => ?_) (fun _ => ?_) | refine J_gn rfl rfl (fun _ => ?_) (fun _ => ?_) | refine J_gb rfl rfl (fun _ => ?_) (fun _ => ?_))
          refine ⟨(LC, LR), ⟨hC, hR⟩, ?_⟩
          (try unfold Hcr)
          (refine ent ?_ ?_; (repeat refine fr_cons rfl ?_); exact fr_nil; (repeat (first | exact List.nil_sublist _ | exact List.Sublist.refl _ | refine List.Sublist.cons_cons _ ?_ | refine List.Sublist.cons _ ?_)))
    · rintro ⟨LC, LR⟩ ⟨hC, hR⟩
      dsimp only at hC hR ⊢
      have lC := hC.1
      have lR := hR.1
      obtain ⟨Ha, hHa⟩ : ∃ Ha : Hp, Ha = .row (sl b5 n) 92 1 (LC.map (·.1)) :: .row (sl b6 n) 92 1 (LR.map (·.1)) :: (rwN LC ++ rwN LR) := ⟨_, rfl⟩
      have eHa : Hcr b5 b6 n LC LR Hb = Ha ++ [.blk b2 (gv 0 Z8 Z8) 27, .blk b1 (mv (n : Int) T) 30] := by
        rw [hHa, hHb]
        unfold Hcr
        rw [List.cons_append, List.cons_append, List.append_assoc]
      rw [eHa]
      have hmC : ∀ p ∈ LC, It.row p.1 3 1 (i64s p.2) ∈ Ha := fun p hp => by rw [hHa]; exact mS (mS (List.mem_append.2 (.inl (List.mem_map.2 ⟨p, hp, rfl⟩))))
      have hmR : ∀ p ∈ LR, It.row p.1 3 1 (i64s p.2) ∈ Ha := fun p hp => by rw [hHa]; exact mS (mS (List.mem_append.2 (.inr (List.mem_map.2 ⟨p, hp, rfl⟩))))
      have h5 : It.row (sl b5 n) 92 1 (LC.map (·.1)) ∈ Ha := by rw [hHa]; exact m0
      have h6 : It.row (sl b6 n) 92 1 (LR.map (·.1)) ∈ Ha := by rw [hHa]; exact mS m0
      have i5 : RB (sl b5 n) Ha 92 1 (LC.map (·.1)) := ⟨h5⟩
      have i6 : RB (sl b6 n) Ha 92 1 (LR.map (·.1)) := ⟨h6⟩
      have hsub : ∀ x ∈ rwN (LC ++ LR), x ∈ Ha := fun x hx => by
        obtain ⟨p, hp, rfl⟩ := List.mem_map.1 hx
        exact (List.mem_append.1 hp).elim (hmC p) (hmR p)
      have hfl : [(sl b5 n, LC.map (·.1)), (sl b6 n, LR.map (·.1))].flatMap (·.2) = (LC ++ LR).map (·.1) := by simp
      have hll : (LC ++ LR).length < 1000 := by rw [List.length_append]; omega
      have hones : ∀ (H : Hp) (L : LN), (∀ p ∈ L, It.row p.1 3 1 (i64s p.2) ∈ Ha) → ∀ u ∈ L.map (·.1), ∃ e sz xs, It.row u e sz xs ∈ Ha ++ H := fun H L hL u hu => by
        obtain ⟨p, hp, rfl⟩ := List.mem_map.1 hu
        exact ⟨_, _, _, List.mem_append.2 (.inl (hL p hp))⟩
      refine JC_onesN (hones _ LC hmC) fun oC => ?_
      refine JC_onesN (hones _ LR hmR) fun oR => ?_
      have hns : ∀ (v : Value) (H : Hp), nsIn [(sl b5 n, LC.map (·.1)), (sl b6 n, LR.map (·.1))] (.row v 91 1 [sl b5 n, sl b6 n] :: (Ha ++ H)) := fun v H p hp => by
        rcases List.mem_cons.1 hp with rfl | hp
        · exact ⟨mS (List.mem_append.2 (.inl h5)), by dsimp only; rw [List.length_map]; omega, oC⟩
        · obtain rfl := List.mem_singleton.1 hp
          exact ⟨mS (List.mem_append.2 (.inl h6)), by dsimp only; rw [List.length_map]; omega, oR⟩
      have hl2 : ([(sl b5 n, LC.map (·.1)), (sl b6 n, LR.map (·.1))].flatMap (·.2)).length < 100000000 := by rw [hfl, List.length_map]; omega
      by_cases h2c : ∀ k, k < n → (colP (crT n T) k n).length = 2 ∧ (rowP (crT n T) k n).length = 2
      · have two := two_of h2c
        rw [endG_ok h8 h2c]
        have hu : ∀ i, i < n → ∃ u, (LC.map (·.1))[0 + i * 1]? = some u ∧ RB u Ha 3 1 (i64s [aC (crT n T) n i, bC (crT n T) n i]) := fun i hi => by
          have e1 : LC[i]? = some (LC[i]'(by rw [lC]; exact hi)) := List.getElem?_eq_getElem _
          have e2 := hC.2 i _ e1
          rw [if_neg (Nat.not_lt_zero _), two_list (h2c i hi).1] at e2
          refine ⟨_, by rw [show 0 + i * 1 = i by omega, List.getElem?_map, e1]; rfl, ⟨?_⟩⟩
          rw [← e2]
          exact hmC _ (List.mem_of_getElem? e1)
        have hw : ∀ i, i < n → ∃ u, (LR.map (·.1))[0 + i * 1]? = some u ∧ RB u Ha 3 1 (i64s [pR (crT n T) n i, qR (crT n T) n i]) := fun i hi => by
          have e1 : LR[i]? = some (LR[i]'(by rw [lR]; exact hi)) := List.getElem?_eq_getElem _
          have e2 := hR.2 i _ e1
          rw [if_pos hi, two_list (h2c i hi).2] at e2
          refine ⟨_, by rw [show 0 + i * 1 = i by omega, List.getElem?_map, e1]; rfl, ⟨?_⟩⟩
          rw [← e2]
          exact hmR _ (List.mem_of_getElem? e1)
        repeat' (first | (apply J_lit2; exact rfl; exact rfl; exact rfl; exact rfl; exact rfl; (intro _)) | (apply JcE; exact rfl; exact rfl; exact rfl; infer_instance; (exact concatN_gives [(sl b5 n, LC.map (·.1)), (sl b6 n, LR.map (·.1))] m0 (hns _ _) (Nat.le_of_ble_eq_true rfl) hl2); (intro v' H' hV; rw [hfl] at hV; subst hV)) | (apply JcE; exact rfl; exact rfl; exact rfl; infer_instance; (exact contains_gives (LC ++ LR) m0 (fun x hx => mS (mS (List.mem_append.2 (.inl (hsub x hx))))) hll); (intro v' H' hV; obtain ⟨rfl, b, rfl, hb⟩ := hV; obtain rfl : b = false := Bool.eq_false_iff.2 fun e => (lens_iff hC hR).1 (hb.1 e) h2c)) | (apply Jq_move; exact rfl; exact rfl) | (apply Jq_assign; exact rfl; exact rfl) | (apply Jq_load; exact rfl; exact rfl; (exact mb); (first | exact rfl)) | (apply Jq_fieldAddr; exact rfl; exact rfl) | (apply Jq_indexN; exact rfl; exact rfl; exact rfl; omega) | (apply Jq_index; exact rfl; exact rfl; exact rfl; omega; omega) | (apply Jq_indexSN; exact rfl; exact rfl; exact rfl; omega) | (apply Jq_cmp; exact rfl; exact rfl; exact rfl; exact rfl) | (apply Jq_add; exact rfl; exact rfl; exact rfl; omega) | (apply Jq_sub; exact rfl; exact rfl; exact rfl; omega) | (apply Jq_mul; exact rfl; exact rfl; exact rfl; omega) | (apply Jq_not; exact rfl; exact rfl) | (apply Jq_pick_true; exact rfl; exact rfl; exact rfl) | (apply Jq_pick_false; exact rfl; exact rfl; exact rfl) | (apply J_on; exact rfl; exact rfl) | (apply J_skip; exact rfl; exact rfl; exact rfl; exact rfl) | (apply Jq_loadW; exact rfl; exact rfl; (exact mb); (first | exact rfl | omega)) | (apply Jq_loadA; exact rfl; exact rfl; (exact mb); (first | exact rfl); (first | exact rfl | omega)) | (apply J_s1; exact rfl; exact rfl; exact rfl; infer_instance; (first | exact rfl | omega); (first | exact rfl); infer_instance) | (apply J_sW; exact rfl; exact rfl; infer_instance; (first | exact rfl | omega); (first | exact rfl | omega); (first | exact ones_of rfl | exact u8s_one _ | exact i64s_one _ | exact bls_one _ | exact gv_one _ _ _ | exact dv_one _ _ _ _ _ _ | exact gv_one _ _ _); infer_instance) | (apply J_sR; exact rfl; exact rfl; exact rfl; infer_instance; (first | exact rfl | omega); (first | exact i64s_setR)) | (apply J_lit1; exact rfl; exact rfl; exact rfl; (intro _)) | (apply J_ap; exact Nat.one_pos; exact rfl; exact rfl; exact rfl; infer_instance; (first | exact rb | assumption); exact List.cons_ne_nil _ _; exact ones_of rfl; ((show (_ + 1) * _ ≤ _); omega); decide; (first | exact i64s_snoc | exact u8s_snoc | exact rfl); (intro _)) | (apply Jq_indexRN; exact rfl; exact rfl; exact rfl; (first | exact rb | assumption); omega) | (apply Jq_loadR; exact rfl; exact rfl; (first | exact rb | assumption); (first | exact rfl)) | (apply J_box; exact rfl; exact rfl; exact rfl; (intro _)) | (apply J_make1; exact rfl; exact rfl; exact rfl; omega; ((show _ ≤ maxLen); (simp only [maxLen]); omega); exact rfl; (intro _)) | (apply J_alloc (cs := gv 0 Z8 Z8); exact rfl; exact rfl; (intro _)) | (apply J_alloc (cs := dv 0 Z8 Z8 0 Z8 Z8); exact rfl; exact rfl; (intro _)) | (apply J_alloc (cs := u8s Z8); exact rfl; exact rfl; (intro _)) | (apply J_alloc (cs := i64s Z8); exact rfl; exact rfl; (intro _)) | (apply J_alloc (cs := bls F8); exact rfl; exact rfl; (intro _)) | (apply J_alloc (cs := gv 0 Z8 Z8); exact rfl; exact rfl; (intro _)) | (apply J_alloc; exact rfl; exact rfl; (intro _)) | (apply Jz (cs := gv 0 Z8 Z8); exact rfl; exact rfl) | (apply Jz (cs := dv 0 Z8 Z8 0 Z8 Z8); exact rfl; exact rfl) | (apply Jz (cs := u8s Z8); exact rfl; exact rfl) | (apply Jz (cs := i64s Z8); exact rfl; exact rfl) | (apply Jz (cs := bls F8); exact rfl; exact rfl) | (apply Jz (cs := gv 0 Z8 Z8); exact rfl; exact rfl) | (apply Jq_build0; exact rfl) | refine thenQ_normal ?_ | refine thenQ_exit ?_ | refine thenQ_ret ?_ | refine inBlockQ_normal ?_ | refine inBlockQ_ret ?_ | refine inBlockQ_here ?_ | (apply inBlockQ_on; exact rfl) | refine JC_seq ?_ | refine JC_region ?_ | refine J_nil ?_ | refine JC_block ?_ | refine JC_skip ?_ | refine JC_ret ?_ | refine JC_exit ?_ | (apply JC_if_true; exact rfl) | (apply JC_if_false; exact rfl) | (apply JC_dec_true; exact rfl; omega) | (apply JC_dec_false; exact rfl; omega) | (apply JC_ndec_true; exact rfl; omega) | (apply JC_ndec_false; exact rfl; omega) | (apply J_gdT; exact rfl; exact rfl; omega) | (apply J_gdF; exact rfl; exact rfl; omega) | (apply J_gnT; exact rfl; exact rfl; omega) | (apply J_gnF; exact rfl; exact rfl; omega) | refine JC_dec rfl (fun _ => ?_) (fun _ => ?_) | refine JC_ndec rfl (fun _ => ?_) (fun _ => ?_) | refine JC_if rfl (fun _ => ?_) (fun _ => ?_) | refine J_gd rfl rfl (fun _ => ?_) (fun _ => ?_) | refine J_gn rfl rfl (fun _ => ?_) (fun _ => ?_) | refine J_gb rfl rfl (fun _ => ?_) (fun _ => ?_))
        refine JC_cutT (Y := Nat × Nat) (fun _ => True) (fun p => [(10, .pointer (some ⟨p.1, 0, none⟩)), (11, sl p.2 n), (5, sl b5 n), (6, sl b6 n), (4, .int .i64 (n : Int)), (3, .int .i64 0), (2, .pointer (some ⟨b2, 0, none⟩)), (1, .pointer (some ⟨b1, 0, none⟩))]) (fun p => .blk p.1 (gv (n : Int) Z8 Z8) 27 :: .row (sl p.2 n) 4 1 (bls (F8.take n)) :: (Ha ++ [.blk b2 (gv 0 Z8 Z8) 27, .blk b1 (mv (n : Int) T) 30])) ?_ ?_
        · have hF8 : List.replicate n (Value.bool false) = bls (F8.take n) := by
            unfold F8
            rw [List.take_replicate, Nat.min_eq_left h8]
            unfold bls
            rw [List.map_replicate]
          rw [← hF8]
          have hb1 : It.blk b1 (mv (n : Int) T) 30 ∈ Ha ++ [.blk b2 (gv 0 Z8 Z8) 27, .blk b1 (mv (n : Int) T) 30] := List.mem_append.2 (.inr (mS m0))
          refine JC_any (m := 8) rfl [.blk b1 (mv (n : Int) T) 30] mixed (by ((repeat (apply sub_cons; (focus ((with_reducible (repeat (first | exact m0 | assumption | refine mS ?_))); done)))); exact sub_nil)) ?_
          (apply JF_q 0; exact rfl; kernel_rfl; exact rfl; (intro E hE; (first | (apply q_fieldAddr; exact rfl))))
          (apply JF_q 1; exact rfl; kernel_rfl; exact rfl; (intro E hE; (first | (apply q_load; exact rfl; (refine hE _ ?_; exact mb); (first | exact rfl | exact mv_0 _ _)) | (apply q_loadW; exact rfl; (refine hE _ ?_; exact mb); (first | exact rfl | omega)) | (apply q_loadA; exact rfl; (refine hE _ ?_; exact mb); (first | exact mv_0 _ _ | exact rfl); (first | exact rfl | omega)) | (apply q_loadR; exact rfl; (refine hE _ ?_; exact rb); (first | exact rfl | exact mv_0 _ _)))))
          (apply JF_q 2; exact rfl; kernel_rfl; exact rfl; (intro E hE; (first | (apply q_buildE; exact rfl; exact built_gridN _))))
          (apply JF_q 3; exact rfl; kernel_rfl; exact rfl; (intro E hE; (first | (apply q_move; exact rfl))))
          (apply JF_all [4, 5]; kernel_rfl)
          (apply JFs_cons; exact rfl)
          · (first | (apply J_make1; exact rfl; exact rfl; exact rfl; omega; ((show _ ≤ maxLen); (simp only [maxLen]); omega); exact rfl; (intro _)))
            (apply J_nil; apply JF_end; ((repeat (apply sub_cons; (focus ((with_reducible (repeat (first | exact m0 | assumption | refine mS ?_))); done)))); exact sub_nil))
            (apply JF_all [5]; kernel_rfl)
            (apply JFs_cons; exact rfl)
            · (first | (apply J_alloc (cs := gv 0 Z8 Z8); exact rfl; exact rfl; (intro _)) | (apply J_alloc (cs := dv 0 Z8 Z8 0 Z8 Z8); exact rfl; exact rfl; (intro _)) | (apply J_alloc (cs := u8s Z8); exact rfl; exact rfl; (intro _)) | (apply J_alloc (cs := i64s Z8); exact rfl; exact rfl; (intro _)) | (apply J_alloc (cs := bls F8); exact rfl; exact rfl; (intro _)) | (apply J_alloc; exact rfl; exact rfl; (intro _)))
              (apply J_nil; apply JF_end; ((repeat (apply sub_cons; (focus ((with_reducible (repeat (first | exact m0 | assumption | refine mS ?_))); done)))); exact sub_nil))
              (apply JF_all [6]; kernel_rfl)
              (apply JFs_cons; exact rfl)
              · (first | (apply J_s1; exact rfl; exact rfl; exact rfl; infer_instance; (first | exact rfl | omega); (first | exact rfl); infer_instance) | (apply J_sW; exact rfl; exact rfl; infer_instance; (first | exact rfl | omega); (first | exact rfl | omega); (first | exact ones_of rfl | exact u8s_one _ | exact i64s_one _ | exact bls_one _ | exact gv_one _ _ _ | exact dv_one _ _ _ _ _ _ | exact gv_one _ _ _ | exact mv_one _ _); infer_instance) | (apply J_sR; exact rfl; exact rfl; exact rfl; infer_instance; (first | exact rfl | omega); (first | exact i64s_setR)))
                (apply J_nil; apply JF_end; ((repeat (apply sub_cons; (focus ((with_reducible (repeat (first | exact m0 | assumption | refine mS ?_))); done)))); exact sub_nil))
                (apply JF_q 7; exact rfl; kernel_rfl; exact rfl; (intro E hE; (first | (apply q_assign; exact rfl))))
                (apply JF_done; kernel_rfl)
                (apply thenQ_normal; apply ex2; refine ⟨trivial, ?_⟩; dsimp only; (refine entP (ent ?_ (List.nil_sublist _)) ?_; (repeat refine fr_cons rfl ?_); exact fr_nil; (repeat (first | exact sp_nil | exact sp_refl | exact sp_end | (with_reducible apply sp0) | (with_reducible apply sp1) | (with_reducible apply sp2) | (with_reducible apply sp3) | (with_reducible apply sp4) | (with_reducible apply sp5) | (with_reducible apply sp6) | (with_reducible apply sp7) | apply sp0 | apply sp1 | apply sp2 | apply sp3 | apply sp4 | apply sp5))))
              exact JFs_nil
            exact JFs_nil
          (apply JFs_cons; exact rfl)
          · (first | (apply J_alloc (cs := gv 0 Z8 Z8); exact rfl; exact rfl; (intro _)) | (apply J_alloc (cs := dv 0 Z8 Z8 0 Z8 Z8); exact rfl; exact rfl; (intro _)) | (apply J_alloc (cs := u8s Z8); exact rfl; exact rfl; (intro _)) | (apply J_alloc (cs := i64s Z8); exact rfl; exact rfl; (intro _)) | (apply J_alloc (cs := bls F8); exact rfl; exact rfl; (intro _)) | (apply J_alloc; exact rfl; exact rfl; (intro _)))
            (apply J_nil; apply JF_end; ((repeat (apply sub_cons; (focus ((with_reducible (repeat (first | exact m0 | assumption | refine mS ?_))); done)))); exact sub_nil))
            (apply JF_all [4, 6]; kernel_rfl)
            (apply JFs_cons; exact rfl)
            · (first | (apply J_make1; exact rfl; exact rfl; exact rfl; omega; ((show _ ≤ maxLen); (simp only [maxLen]); omega); exact rfl; (intro _)))
              (apply J_nil; apply JF_end; ((repeat (apply sub_cons; (focus ((with_reducible (repeat (first | exact m0 | assumption | refine mS ?_))); done)))); exact sub_nil))
              (apply JF_all [6]; kernel_rfl)
              (apply JFs_cons; exact rfl)
              · (first | (apply J_s1; exact rfl; exact rfl; exact rfl; infer_instance; (first | exact rfl | omega); (first | exact rfl); infer_instance) | (apply J_sW; exact rfl; exact rfl; infer_instance; (first | exact rfl | omega); (first | exact rfl | omega); (first | exact ones_of rfl | exact u8s_one _ | exact i64s_one _ | exact bls_one _ | exact gv_one _ _ _ | exact dv_one _ _ _ _ _ _ | exact gv_one _ _ _ | exact mv_one _ _); infer_instance) | (apply J_sR; exact rfl; exact rfl; exact rfl; infer_instance; (first | exact rfl | omega); (first | exact i64s_setR)))
                (apply J_nil; apply JF_end; ((repeat (apply sub_cons; (focus ((with_reducible (repeat (first | exact m0 | assumption | refine mS ?_))); done)))); exact sub_nil))
                (apply JF_q 7; exact rfl; kernel_rfl; exact rfl; (intro E hE; (first | (apply q_assign; exact rfl))))
                (apply JF_done; kernel_rfl)
                (apply thenQ_normal; apply ex2; refine ⟨trivial, ?_⟩; dsimp only; (refine entP (ent ?_ (List.nil_sublist _)) ?_; (repeat refine fr_cons rfl ?_); exact fr_nil; (repeat (first | exact sp_nil | exact sp_refl | exact sp_end | (with_reducible apply sp0) | (with_reducible apply sp1) | (with_reducible apply sp2) | (with_reducible apply sp3) | (with_reducible apply sp4) | (with_reducible apply sp5) | (with_reducible apply sp6) | (with_reducible apply sp7) | apply sp0 | apply sp1 | apply sp2 | apply sp3 | apply sp4 | apply sp5))))
              exact JFs_nil
            (apply JFs_cons; exact rfl)
            · (first | (apply J_s1; exact rfl; exact rfl; exact rfl; infer_instance; (first | exact rfl | omega); (first | exact rfl); infer_instance) | (apply J_sW; exact rfl; exact rfl; infer_instance; (first | exact rfl | omega); (first | exact rfl | omega); (first | exact ones_of rfl | exact u8s_one _ | exact i64s_one _ | exact bls_one _ | exact gv_one _ _ _ | exact dv_one _ _ _ _ _ _ | exact gv_one _ _ _ | exact mv_one _ _); infer_instance) | (apply J_sR; exact rfl; exact rfl; exact rfl; infer_instance; (first | exact rfl | omega); (first | exact i64s_setR)))
              (apply J_nil; apply JF_end; ((repeat (apply sub_cons; (focus ((with_reducible (repeat (first | exact m0 | assumption | refine mS ?_))); done)))); exact sub_nil))
              (apply JF_all [4]; kernel_rfl)
              (apply JFs_cons; exact rfl)
              · (first | (apply J_make1; exact rfl; exact rfl; exact rfl; omega; ((show _ ≤ maxLen); (simp only [maxLen]); omega); exact rfl; (intro _)))
                (apply J_nil; apply JF_end; ((repeat (apply sub_cons; (focus ((with_reducible (repeat (first | exact m0 | assumption | refine mS ?_))); done)))); exact sub_nil))
                (apply JF_q 7; exact rfl; kernel_rfl; exact rfl; (intro E hE; (first | (apply q_assign; exact rfl))))
                (apply JF_done; kernel_rfl)
                (apply thenQ_normal; apply ex2; refine ⟨trivial, ?_⟩; dsimp only; (refine entP (ent ?_ (List.nil_sublist _)) ?_; (repeat refine fr_cons rfl ?_); exact fr_nil; (repeat (first | exact sp_nil | exact sp_refl | exact sp_end | (with_reducible apply sp0) | (with_reducible apply sp1) | (with_reducible apply sp2) | (with_reducible apply sp3) | (with_reducible apply sp4) | (with_reducible apply sp5) | (with_reducible apply sp6) | (with_reducible apply sp7) | apply sp0 | apply sp1 | apply sp2 | apply sp3 | apply sp4 | apply sp5))))
              exact JFs_nil
            exact JFs_nil
          exact JFs_nil
        · rintro ⟨b10, b11⟩ _
          dsimp only
          generalize aC (crT n T) n = a at two hu ⊢
          generalize bC (crT n T) n = b at two hu ⊢
          generalize pR (crT n T) n = p at two hw ⊢
          generalize qR (crT n T) n = q at two hw ⊢
          have g0 : ∀ x y : Nat, (i64s [x, y])[0]? = some (.int .i64 (x : Int)) := fun _ _ => rfl
          have g1 : ∀ x y : Nat, (i64s [x, y])[1]? = some (.int .i64 (y : Int)) := fun _ _ => rfl
          have t0 : ∀ x y : Nat, 0 < (i64s [x, y]).length := fun _ _ => Nat.succ_pos _
          have t1 : ∀ x y : Nat, 1 < (i64s [x, y]).length := fun _ _ => Nat.le_refl _
          repeat' (first | (apply Jq_move; exact rfl; exact rfl) | (apply Jq_assign; exact rfl; exact rfl) | (apply Jq_load; exact rfl; exact rfl; (exact mb); (first | exact rfl)) | (apply Jq_fieldAddr; exact rfl; exact rfl) | (apply Jq_indexN; exact rfl; exact rfl; exact rfl; omega) | (apply Jq_index; exact rfl; exact rfl; exact rfl; omega; omega) | (apply Jq_indexSN; exact rfl; exact rfl; exact rfl; omega) | (apply Jq_cmp; exact rfl; exact rfl; exact rfl; exact rfl) | (apply Jq_add; exact rfl; exact rfl; exact rfl; omega) | (apply Jq_sub; exact rfl; exact rfl; exact rfl; omega) | (apply Jq_mul; exact rfl; exact rfl; exact rfl; omega) | (apply Jq_not; exact rfl; exact rfl) | (apply Jq_pick_true; exact rfl; exact rfl; exact rfl) | (apply Jq_pick_false; exact rfl; exact rfl; exact rfl) | (apply J_on; exact rfl; exact rfl) | (apply J_skip; exact rfl; exact rfl; exact rfl; exact rfl) | (apply Jq_loadW; exact rfl; exact rfl; (exact mb); (first | exact rfl | omega)) | (apply Jq_loadA; exact rfl; exact rfl; (exact mb); (first | exact rfl); (first | exact rfl | omega)) | (apply J_s1; exact rfl; exact rfl; exact rfl; infer_instance; (first | exact rfl | omega); (first | exact rfl); infer_instance) | (apply J_sW; exact rfl; exact rfl; infer_instance; (first | exact rfl | omega); (first | exact rfl | omega); (first | exact ones_of rfl | exact u8s_one _ | exact i64s_one _ | exact bls_one _ | exact gv_one _ _ _ | exact dv_one _ _ _ _ _ _); infer_instance) | (apply J_sR; exact rfl; exact rfl; exact rfl; infer_instance; (first | exact rfl | omega); (first | exact i64s_setR)) | (apply J_lit1; exact rfl; exact rfl; exact rfl; (intro _)) | (apply J_ap; exact Nat.one_pos; exact rfl; exact rfl; exact rfl; infer_instance; (first | exact rb | assumption); exact List.cons_ne_nil _ _; exact ones_of rfl; ((show (_ + 1) * _ ≤ _); omega); decide; (first | exact i64s_snoc | exact u8s_snoc | exact rfl); (intro _)) | (apply Jq_indexRN; exact rfl; exact rfl; exact rfl; (first | exact rb | assumption); omega) | (apply Jq_loadR; exact rfl; exact rfl; (first | exact rb | assumption); (first | exact rfl)) | (apply J_box; exact rfl; exact rfl; exact rfl; (intro _)) | (apply J_make1; exact rfl; exact rfl; exact rfl; omega; ((show _ ≤ maxLen); (simp only [maxLen]); omega); exact rfl; (intro _)) | (apply J_alloc (cs := gv 0 Z8 Z8); exact rfl; exact rfl; (intro _)) | (apply J_alloc (cs := dv 0 Z8 Z8 0 Z8 Z8); exact rfl; exact rfl; (intro _)) | (apply J_alloc (cs := u8s Z8); exact rfl; exact rfl; (intro _)) | (apply J_alloc (cs := i64s Z8); exact rfl; exact rfl; (intro _)) | (apply J_alloc (cs := bls F8); exact rfl; exact rfl; (intro _)) | (apply J_alloc; exact rfl; exact rfl; (intro _)) | (apply Jz (cs := gv 0 Z8 Z8); exact rfl; exact rfl) | (apply Jz (cs := dv 0 Z8 Z8 0 Z8 Z8); exact rfl; exact rfl) | (apply Jz (cs := u8s Z8); exact rfl; exact rfl) | (apply Jz (cs := i64s Z8); exact rfl; exact rfl) | (apply Jz (cs := bls F8); exact rfl; exact rfl) | (apply Jq_build0; exact rfl) | refine thenQ_normal ?_ | refine thenQ_exit ?_ | refine thenQ_ret ?_ | refine inBlockQ_normal ?_ | refine inBlockQ_ret ?_ | refine inBlockQ_here ?_ | (apply inBlockQ_on; exact rfl) | refine JC_seq ?_ | refine JC_region ?_ | refine J_nil ?_ | refine JC_block ?_ | refine JC_skip ?_ | refine JC_ret ?_ | refine JC_exit ?_ | (apply JC_if_true; exact rfl) | (apply JC_if_false; exact rfl) | (apply JC_dec_true; exact rfl; omega) | (apply JC_dec_false; exact rfl; omega) | (apply JC_ndec_true; exact rfl; omega) | (apply JC_ndec_false; exact rfl; omega) | (apply J_gdT; exact rfl; exact rfl; omega) | (apply J_gdF; exact rfl; exact rfl; omega) | (apply J_gnT; exact rfl; exact rfl; omega) | (apply J_gnF; exact rfl; exact rfl; omega) | refine JC_dec rfl (fun _ => ?_) (fun _ => ?_) | refine JC_ndec rfl (fun _ => ?_) (fun _ => ?_) | refine JC_if rfl (fun _ => ?_) (fun _ => ?_) | refine J_gd rfl rfl (fun _ => ?_) (fun _ => ?_) | refine J_gn rfl rfl (fun _ => ?_) (fun _ => ?_) | refine J_gb rfl rfl (fun _ => ?_) (fun _ => ?_))
          refine JC_cutB (Y := List Nat × List Nat × List Bool) (fun s => isB s.1 ∧ isB s.2.1 ∧ s.2.2.length = 8 ∧ gridI n a b p q (Z8, Z8, F8) n = s) (fun _ => [(10, .pointer (some ⟨b10, 0, none⟩)), (11, sl b11 n), (5, sl b5 n), (6, sl b6 n), (4, .int .i64 (n : Int)), (3, .int .i64 0), (2, .pointer (some ⟨b2, 0, none⟩)), (1, .pointer (some ⟨b1, 0, none⟩))]) (fun s => .blk b10 (gv (n : Int) s.1 s.2.1) 27 :: .row (sl b11 n) 4 1 (bls (s.2.2.take n)) :: (Ha ++ [.blk b2 (gv 0 Z8 Z8) 27, .blk b1 (mv (n : Int) T) 30])) ?_ ?_
          · refine JC_loop (X := Nat × List Nat × List Nat × List Bool) (fun s => s.1 ≤ n ∧ isB s.2.1 ∧ isB s.2.2.1 ∧ s.2.2.2.length = 8 ∧ gridI n a b p q (Z8, Z8, F8) s.1 = s.2) (fun s => [(82, .int .i64 (s.1 : Int)), (81, .int .i64 (n : Int)), (10, .pointer (some ⟨b10, 0, none⟩)), (11, sl b11 n), (5, sl b5 n), (6, sl b6 n), (4, .int .i64 (n : Int)), (3, .int .i64 0), (2, .pointer (some ⟨b2, 0, none⟩)), (1, .pointer (some ⟨b1, 0, none⟩))]) (fun s => .blk b10 (gv (n : Int) s.2.1 s.2.2.1) 27 :: .row (sl b11 n) 4 1 (bls (s.2.2.2.take n)) :: (Ha ++ [.blk b2 (gv 0 Z8 Z8) 27, .blk b1 (mv (n : Int) T) 30])) (fun s => n - s.1) (0, Z8, Z8, F8) ⟨Nat.zero_le _, isB_Z0, isB_Z0, rfl, rfl⟩ ?_ ?_
            · (refine ent ?_ ?_; (repeat refine fr_cons rfl ?_); exact fr_nil; (repeat (first | exact List.nil_sublist _ | exact List.Sublist.refl _ | refine List.Sublist.cons_cons _ ?_ | refine List.Sublist.cons _ ?_)))
            · rintro ⟨k, X0, O0, D0⟩ ⟨hk, bX0, bO0, lD0, hg⟩
              dsimp only at hk bX0 bO0 lD0 hg ⊢
              by_cases hkn : k < n
              · obtain ⟨u, hgu, ju⟩ := hu k hkn
                have hak := two.ab k hkn
                repeat' (first | (apply Jq_loadR (v := sl b5 n); exact rfl; exact rfl; exact rb; exact hgu) | (apply Jq_indexRN (i := 0); exact rfl; exact rfl; exact rfl; exact rb; exact t0 _ _) | (apply Jq_move; exact rfl; exact rfl) | (apply Jq_assign; exact rfl; exact rfl) | (apply Jq_load; exact rfl; exact rfl; (exact mb); (first | exact rfl | exact g0 _ _ | exact g1 _ _)) | (apply Jq_fieldAddr; exact rfl; exact rfl) | (apply Jq_indexN; exact rfl; exact rfl; exact rfl; omega) | (apply Jq_index; exact rfl; exact rfl; exact rfl; omega; omega) | (apply Jq_indexSN; exact rfl; exact rfl; exact rfl; omega) | (apply Jq_cmp; exact rfl; exact rfl; exact rfl; exact rfl) | (apply Jq_add; exact rfl; exact rfl; exact rfl; omega) | (apply Jq_sub; exact rfl; exact rfl; exact rfl; omega) | (apply Jq_mul; exact rfl; exact rfl; exact rfl; omega) | (apply Jq_not; exact rfl; exact rfl) | (apply Jq_pick_true; exact rfl; exact rfl; exact rfl) | (apply Jq_pick_false; exact rfl; exact rfl; exact rfl) | (apply J_on; exact rfl; exact rfl) | (apply J_skip; exact rfl; exact rfl; exact rfl; exact rfl) | (apply Jq_loadW; exact rfl; exact rfl; (exact mb); (first | exact rfl | omega)) | (apply Jq_loadA; exact rfl; exact rfl; (exact mb); (first | exact g0 _ _ | exact g1 _ _ | exact rfl); (first | exact rfl | omega)) | (apply J_s1; exact rfl; exact rfl; exact rfl; infer_instance; (first | exact rfl | omega); (first | exact rfl); infer_instance) | (apply J_sW; exact rfl; exact rfl; infer_instance; (first | exact rfl | omega); (first | exact rfl | omega); (first | exact ones_of rfl | exact u8s_one _ | exact i64s_one _ | exact bls_one _ | exact gv_one _ _ _ | exact dv_one _ _ _ _ _ _); infer_instance) | (apply J_sR; exact rfl; exact rfl; exact rfl; infer_instance; (first | exact rfl | omega); (first | exact i64s_setR)) | (apply J_lit1; exact rfl; exact rfl; exact rfl; (intro _)) | (apply J_ap; exact Nat.one_pos; exact rfl; exact rfl; exact rfl; infer_instance; (first | exact rb | assumption); exact List.cons_ne_nil _ _; exact ones_of rfl; ((show (_ + 1) * _ ≤ _); omega); decide; (first | exact i64s_snoc | exact u8s_snoc | exact rfl); (intro _)) | (apply Jq_indexRN; exact rfl; exact rfl; exact rfl; (first | exact rb | assumption); omega) | (apply Jq_loadR; exact rfl; exact rfl; (first | exact rb | assumption); (first | exact rfl | exact g0 _ _ | exact g1 _ _)) | (apply J_box; exact rfl; exact rfl; exact rfl; (intro _)) | (apply J_make1; exact rfl; exact rfl; exact rfl; omega; ((show _ ≤ maxLen); (simp only [maxLen]); omega); exact rfl; (intro _)) | (apply J_alloc (cs := gv 0 Z8 Z8); exact rfl; exact rfl; (intro _)) | (apply J_alloc (cs := dv 0 Z8 Z8 0 Z8 Z8); exact rfl; exact rfl; (intro _)) | (apply J_alloc (cs := u8s Z8); exact rfl; exact rfl; (intro _)) | (apply J_alloc (cs := i64s Z8); exact rfl; exact rfl; (intro _)) | (apply J_alloc (cs := bls F8); exact rfl; exact rfl; (intro _)) | (apply J_alloc; exact rfl; exact rfl; (intro _)) | (apply Jz (cs := gv 0 Z8 Z8); exact rfl; exact rfl) | (apply Jz (cs := dv 0 Z8 Z8 0 Z8 Z8); exact rfl; exact rfl) | (apply Jz (cs := u8s Z8); exact rfl; exact rfl) | (apply Jz (cs := i64s Z8); exact rfl; exact rfl) | (apply Jz (cs := bls F8); exact rfl; exact rfl) | (apply Jq_build0; exact rfl) | refine thenQ_normal ?_ | refine thenQ_exit ?_ | refine thenQ_ret ?_ | refine inBlockQ_normal ?_ | refine inBlockQ_ret ?_ | refine inBlockQ_here ?_ | (apply inBlockQ_on; exact rfl) | refine JC_seq ?_ | refine JC_region ?_ | (apply JC_draw mixed; kernel_rfl) | refine J_nil ?_ | refine JC_block ?_ | refine JC_skip ?_ | refine JC_ret ?_ | refine JC_exit ?_ | (apply JC_if_true; exact rfl) | (apply JC_if_false; exact rfl) | (apply JC_dec_true; exact rfl; omega) | (apply JC_dec_false; exact rfl; omega) | (apply JC_ndec_true; exact rfl; omega) | (apply JC_ndec_false; exact rfl; omega) | (apply J_gdT; exact rfl; exact rfl; omega) | (apply J_gdF; exact rfl; exact rfl; omega) | (apply J_gnT; exact rfl; exact rfl; omega) | (apply J_gnF; exact rfl; exact rfl; omega) | refine JC_dec rfl (fun _ => ?_) (fun _ => ?_) | refine JC_ndec rfl (fun _ => ?_) (fun _ => ?_) | refine JC_if rfl (fun _ => ?_) (fun _ => ?_) | refine J_gd rfl rfl (fun _ => ?_) (fun _ => ?_) | refine J_gn rfl rfl (fun _ => ?_) (fun _ => ?_) | refine J_gb rfl rfl (fun _ => ?_) (fun _ => ?_))
                refine JC_loop (X := Nat × Nat × Nat × List Nat × List Nat × List Bool) (fun s => isB s.2.2.2.1 ∧ isB s.2.2.2.2.1 ∧ s.2.2.2.2.2.length = 8 ∧ s.2.1 < n ∧ s.2.2.1 < n ∧ crT n T s.2.2.1 s.2.1 = true ∧ unm s.2.2.2.2.2 n < s.1 ∧ gridI n a b p q (Z8, Z8, F8) (k + 1) = walkI a b p q s.1 s.2.1 s.2.2.1 s.2.2.2) (fun s => [(13, .int .i64 (s.2.1 : Int)), (14, .int .i64 (s.2.2.1 : Int)), (82, .int .i64 (k : Int)), (81, .int .i64 (n : Int)), (10, .pointer (some ⟨b10, 0, none⟩)), (11, sl b11 n), (5, sl b5 n), (6, sl b6 n), (4, .int .i64 (n : Int)), (3, .int .i64 0), (2, .pointer (some ⟨b2, 0, none⟩)), (1, .pointer (some ⟨b1, 0, none⟩))]) (fun s => .blk b10 (gv (n : Int) s.2.2.2.1 s.2.2.2.2.1) 27 :: .row (sl b11 n) 4 1 (bls (s.2.2.2.2.2.take n)) :: (Ha ++ [.blk b2 (gv 0 Z8 Z8) 27, .blk b1 (mv (n : Int) T) 30])) (fun s => s.1) (n + 1, k, a k, X0, O0, D0) ⟨bX0, bO0, lD0, hkn, by dsimp only; omega, (two.col k (a k) hkn (by omega)).2 (.inl rfl), by have := unm_le D0 n; dsimp only; omega, by dsimp only; rw [gridI, hg]⟩ ?_ ?_
                · (refine ent ?_ ?_; (repeat refine fr_cons rfl ?_); exact fr_nil; (repeat (first | exact List.nil_sublist _ | exact List.Sublist.refl _ | refine List.Sublist.cons_cons _ ?_ | refine List.Sublist.cons _ ?_)))
                · rintro ⟨f, i, r, X, O, D⟩ ⟨bX, bO, lD, hi, hr, hc, hf, he⟩
                  dsimp only at bX bO lD hi hr hc hf he ⊢
                  obtain ⟨f, rfl⟩ : ∃ f', f = f' + 1 := ⟨f - 1, by omega⟩
                  have ug1 := gv_len (n := (n : Int)) bX.1 bO.1
                  have lDn : (D.take n).length = n := by rw [List.length_take]; omega
                  have ld := bls_len (D.take n)
                  have egd : (D.take n).getD i false = D.getD i false := by rw [List.getD_eq_getElem?_getD, List.getD_eq_getElem?_getD, List.getElem?_take_of_lt hi]
                  have hb := bls_at (l := D.take n) (k := i) (by omega)
                  rw [egd] at hb
                  by_cases hd : D.getD i false = true
                  · rw [hd] at hb
                    have he2 : walkI a b p q (f + 1) i r (X, O, D) = (X, O, D) := by rw [walkI, if_pos hd]
                    repeat' (first | (apply Jq_loadR (v := sl b11 n); exact rfl; exact rfl; exact rb; exact hb) | (apply Jq_move; exact rfl; exact rfl) | (apply Jq_assign; exact rfl; exact rfl) | (apply Jq_load; exact rfl; exact rfl; (exact mb); (first | exact rfl)) | (apply Jq_fieldAddr; exact rfl; exact rfl) | (apply Jq_indexN; exact rfl; exact rfl; exact rfl; omega) | (apply Jq_index; exact rfl; exact rfl; exact rfl; omega; omega) | (apply Jq_indexSN; exact rfl; exact rfl; exact rfl; omega) | (apply Jq_cmp; exact rfl; exact rfl; exact rfl; exact rfl) | (apply Jq_add; exact rfl; exact rfl; exact rfl; omega) | (apply Jq_sub; exact rfl; exact rfl; exact rfl; omega) | (apply Jq_mul; exact rfl; exact rfl; exact rfl; omega) | (apply Jq_not; exact rfl; exact rfl) | (apply Jq_pick_true; exact rfl; exact rfl; exact rfl) | (apply Jq_pick_false; exact rfl; exact rfl; exact rfl) | (apply J_on; exact rfl; exact rfl) | (apply J_skip; exact rfl; exact rfl; exact rfl; exact rfl) | (apply Jq_loadW; exact rfl; exact rfl; (exact mb); (first | exact rfl | omega)) | (apply Jq_loadA; exact rfl; exact rfl; (exact mb); (first | exact rfl); (first | exact rfl | omega)) | (apply J_s1; exact rfl; exact rfl; exact rfl; infer_instance; (first | exact rfl | omega); (first | exact rfl); infer_instance) | (apply J_sW; exact rfl; exact rfl; infer_instance; (first | exact rfl | omega); (first | exact rfl | omega); (first | exact ones_of rfl | exact u8s_one _ | exact i64s_one _ | exact bls_one _ | exact gv_one _ _ _ | exact dv_one _ _ _ _ _ _); infer_instance) | (apply J_sR; exact rfl; exact rfl; exact rfl; infer_instance; (first | exact rfl | omega); (first | exact i64s_setR)) | (apply J_lit1; exact rfl; exact rfl; exact rfl; (intro _)) | (apply J_ap; exact Nat.one_pos; exact rfl; exact rfl; exact rfl; infer_instance; (first | exact rb | assumption); exact List.cons_ne_nil _ _; exact ones_of rfl; ((show (_ + 1) * _ ≤ _); omega); decide; (first | exact i64s_snoc | exact u8s_snoc | exact rfl); (intro _)) | (apply Jq_indexRN; exact rfl; exact rfl; exact rfl; (first | exact rb | assumption); omega) | (apply Jq_loadR; exact rfl; exact rfl; (first | exact rb | assumption); (first | exact rfl)) | (apply J_box; exact rfl; exact rfl; exact rfl; (intro _)) | (apply J_make1; exact rfl; exact rfl; exact rfl; omega; ((show _ ≤ maxLen); (simp only [maxLen]); omega); exact rfl; (intro _)) | (apply J_alloc (cs := gv 0 Z8 Z8); exact rfl; exact rfl; (intro _)) | (apply J_alloc (cs := dv 0 Z8 Z8 0 Z8 Z8); exact rfl; exact rfl; (intro _)) | (apply J_alloc (cs := u8s Z8); exact rfl; exact rfl; (intro _)) | (apply J_alloc (cs := i64s Z8); exact rfl; exact rfl; (intro _)) | (apply J_alloc (cs := bls F8); exact rfl; exact rfl; (intro _)) | (apply J_alloc; exact rfl; exact rfl; (intro _)) | (apply Jz (cs := gv 0 Z8 Z8); exact rfl; exact rfl) | (apply Jz (cs := dv 0 Z8 Z8 0 Z8 Z8); exact rfl; exact rfl) | (apply Jz (cs := u8s Z8); exact rfl; exact rfl) | (apply Jz (cs := i64s Z8); exact rfl; exact rfl) | (apply Jz (cs := bls F8); exact rfl; exact rfl) | (apply Jq_build0; exact rfl) | refine thenQ_normal ?_ | refine thenQ_exit ?_ | refine thenQ_ret ?_ | refine inBlockQ_normal ?_ | refine inBlockQ_ret ?_ | refine inBlockQ_here ?_ | (apply inBlockQ_on; exact rfl) | refine JC_seq ?_ | refine JC_region ?_ | (apply JC_draw mixed; kernel_rfl) | refine J_nil ?_ | refine JC_block ?_ | refine JC_skip ?_ | refine JC_ret ?_ | refine JC_exit ?_ | (apply JC_if_true; exact rfl) | (apply JC_if_false; exact rfl) | (apply JC_dec_true; exact rfl; omega) | (apply JC_dec_false; exact rfl; omega) | (apply JC_ndec_true; exact rfl; omega) | (apply JC_ndec_false; exact rfl; omega) | (apply J_gdT; exact rfl; exact rfl; omega) | (apply J_gdF; exact rfl; exact rfl; omega) | (apply J_gnT; exact rfl; exact rfl; omega) | (apply J_gnF; exact rfl; exact rfl; omega) | refine JC_dec rfl (fun _ => ?_) (fun _ => ?_) | refine JC_ndec rfl (fun _ => ?_) (fun _ => ?_) | refine JC_if rfl (fun _ => ?_) (fun _ => ?_) | refine J_gd rfl rfl (fun _ => ?_) (fun _ => ?_) | refine J_gn rfl rfl (fun _ => ?_) (fun _ => ?_) | refine J_gb rfl rfl (fun _ => ?_) (fun _ => ?_))
                    refine ⟨(k + 1, X, O, D), ⟨by dsimp only; omega, bX, bO, lD, he.trans he2⟩, by dsimp only; omega, ?_⟩
                    (refine ent ?_ ?_; (repeat refine fr_cons rfl ?_); exact fr_nil; (repeat (first | exact List.nil_sublist _ | exact List.Sublist.refl _ | refine List.Sublist.cons_cons _ ?_ | refine List.Sublist.cons _ ?_)))
                  · rw [Bool.eq_false_iff.2 hd] at hb
                    obtain ⟨o, ho⟩ : ∃ o, o = a i + b i - r := ⟨_, rfl⟩
                    obtain ⟨k1, k2, k3, k4, -⟩ := two.oc hi hr hc
                    rw [← ho] at k1 k2 k3 k4
                    obtain ⟨j, hj⟩ : ∃ j, j = p o + q o - i := ⟨_, rfl⟩
                    obtain ⟨m1, m2, m3, m4, -⟩ := two.xr hi k1 k3
                    rw [← hj] at m1 m2 m3 m4
                    have he2 : walkI a b p q (f + 1) i r (X, O, D) = walkI a b p q f j o (X.set i r, O.set i o, D.set i true) := by rw [walkI, if_neg hd, ← ho, ← hj]
                    obtain ⟨u1, hgu1, ju1⟩ := hu i hi
                    obtain ⟨w1, hgw1, jw1⟩ := hw o k1
                    have hai := two.ab i hi
                    have hpo := two.pq o k1
                    have hcol := (two.col i r hi hr).1 hc
                    have hrow := (two.row o i k1 hi).1 k3
                    have bX2 := isB_set8 (r := r) bX (show i < 8 by omega) (by omega)
                    have bO2 := isB_set8 (r := o) bO (show i < 8 by omega) (by omega)
                    have ug2 := gv_len (n := (n : Int)) bX2.1 bO.1
                    have lD2 : (D.set i true).length = 8 := by rw [List.length_set]; exact lD
                    have hun := (unm_set (k := n) (show i < D.length by omega) hd).2 hi
                    have hbs : (bls (D.take n)).set (0 + i * 1) (.bool true) = bls ((D.set i true).take n) := by rw [bls_set, List.take_set]
                    have e1 : ((a i : Nat) : Int) + (b i : Int) = ((a i + b i : Nat) : Int) := rfl
                    have e2 : ((p o : Nat) : Int) + (q o : Int) = ((p o + q o : Nat) : Int) := rfl
                    repeat' (first | (apply Jq_loadR (v := sl b11 n); exact rfl; exact rfl; exact rb; exact hb) | (apply J_sR (v := sl b11 n); exact rfl; exact rfl; exact rfl; infer_instance; omega; exact hbs) | (apply Jq_loadR (v := sl b5 n); exact rfl; exact rfl; exact rb; exact hgu1) | (apply Jq_loadR (v := sl b6 n); exact rfl; exact rfl; exact rb; exact hgw1) | (apply Jq_indexRN (i := 0); exact rfl; exact rfl; exact rfl; exact rb; exact t0 _ _) | (apply Jq_indexRN (i := 1); exact rfl; exact rfl; exact rfl; exact rb; exact t1 _ _) | (apply Jq_conv; exact rfl; exact rfl; exact wrap8 (by omega)) | (apply Jq_addR; exact rfl; exact rfl; exact rfl; omega; first | exact e1 | exact e2) | (apply Jq_subR (r := (o : Int)); exact rfl; exact rfl; exact rfl; omega; omega) | (apply Jq_subR (r := (j : Int)); exact rfl; exact rfl; exact rfl; omega; omega) | (apply Jq_move; exact rfl; exact rfl) | (apply Jq_assign; exact rfl; exact rfl) | (apply Jq_load; exact rfl; exact rfl; (exact mb); (first | exact rfl | exact hb | exact g0 _ _ | exact g1 _ _)) | (apply Jq_fieldAddr; exact rfl; exact rfl) | (apply Jq_indexN; exact rfl; exact rfl; exact rfl; omega) | (apply Jq_index; exact rfl; exact rfl; exact rfl; omega; omega) | (apply Jq_indexSN; exact rfl; exact rfl; exact rfl; omega) | (apply Jq_cmp; exact rfl; exact rfl; exact rfl; exact rfl) | (apply Jq_add; exact rfl; exact rfl; exact rfl; omega) | (apply Jq_sub; exact rfl; exact rfl; exact rfl; omega) | (apply Jq_mul; exact rfl; exact rfl; exact rfl; omega) | (apply Jq_not; exact rfl; exact rfl) | (apply Jq_pick_true; exact rfl; exact rfl; exact rfl) | (apply Jq_pick_false; exact rfl; exact rfl; exact rfl) | (apply J_on; exact rfl; exact rfl) | (apply J_skip; exact rfl; exact rfl; exact rfl; exact rfl) | (apply Jq_loadW; exact rfl; exact rfl; (exact mb); (first | exact rfl | omega)) | (apply Jq_loadA; exact rfl; exact rfl; (exact mb); (first | exact hb | exact g0 _ _ | exact g1 _ _ | exact rfl); (first | exact rfl | omega)) | (apply J_s1; exact rfl; exact rfl; exact rfl; infer_instance; (first | exact rfl | omega); (first | exact hbs | exact gv_setX bX.1 (by omega) | exact gv_setO bX2.1 | exact rfl); infer_instance) | (apply J_sW; exact rfl; exact rfl; infer_instance; (first | exact rfl | omega); (first | exact rfl | omega); (first | exact ones_of rfl | exact u8s_one _ | exact i64s_one _ | exact bls_one _ | exact gv_one _ _ _ | exact dv_one _ _ _ _ _ _); infer_instance) | (apply J_sR; exact rfl; exact rfl; exact rfl; infer_instance; (first | exact rfl | omega); (first | exact hbs | exact gv_setX bX.1 (by omega) | exact gv_setO bX2.1 | exact i64s_setR)) | (apply J_lit1; exact rfl; exact rfl; exact rfl; (intro _)) | (apply J_ap; exact Nat.one_pos; exact rfl; exact rfl; exact rfl; infer_instance; (first | exact rb | assumption); exact List.cons_ne_nil _ _; exact ones_of rfl; ((show (_ + 1) * _ ≤ _); omega); decide; (first | exact i64s_snoc | exact u8s_snoc | exact rfl); (intro _)) | (apply Jq_indexRN; exact rfl; exact rfl; exact rfl; (first | exact rb | assumption); omega) | (apply Jq_loadR; exact rfl; exact rfl; (first | exact rb | assumption); (first | exact rfl | exact hb | exact g0 _ _ | exact g1 _ _)) | (apply J_box; exact rfl; exact rfl; exact rfl; (intro _)) | (apply J_make1; exact rfl; exact rfl; exact rfl; omega; ((show _ ≤ maxLen); (simp only [maxLen]); omega); exact rfl; (intro _)) | (apply J_alloc (cs := gv 0 Z8 Z8); exact rfl; exact rfl; (intro _)) | (apply J_alloc (cs := dv 0 Z8 Z8 0 Z8 Z8); exact rfl; exact rfl; (intro _)) | (apply J_alloc (cs := u8s Z8); exact rfl; exact rfl; (intro _)) | (apply J_alloc (cs := i64s Z8); exact rfl; exact rfl; (intro _)) | (apply J_alloc (cs := bls F8); exact rfl; exact rfl; (intro _)) | (apply J_alloc; exact rfl; exact rfl; (intro _)) | (apply Jz (cs := gv 0 Z8 Z8); exact rfl; exact rfl) | (apply Jz (cs := dv 0 Z8 Z8 0 Z8 Z8); exact rfl; exact rfl) | (apply Jz (cs := u8s Z8); exact rfl; exact rfl) | (apply Jz (cs := i64s Z8); exact rfl; exact rfl) | (apply Jz (cs := bls F8); exact rfl; exact rfl) | (apply Jq_build0; exact rfl) | refine thenQ_normal ?_ | refine thenQ_exit ?_ | refine thenQ_ret ?_ | refine inBlockQ_normal ?_ | refine inBlockQ_ret ?_ | refine inBlockQ_here ?_ | (apply inBlockQ_on; exact rfl) | refine JC_seq ?_ | refine JC_region ?_ | (apply JC_draw mixed; kernel_rfl) | refine J_nil ?_ | refine JC_block ?_ | refine JC_skip ?_ | refine JC_ret ?_ | refine JC_exit ?_ | (apply JC_if_true; exact rfl) | (apply JC_if_false; exact rfl) | (apply JC_dec_true; exact rfl; omega) | (apply JC_dec_false; exact rfl; omega) | (apply JC_ndec_true; exact rfl; omega) | (apply JC_ndec_false; exact rfl; omega) | (apply J_gdT; exact rfl; exact rfl; omega) | (apply J_gdF; exact rfl; exact rfl; omega) | (apply J_gnT; exact rfl; exact rfl; omega) | (apply J_gnF; exact rfl; exact rfl; omega) | refine JC_dec rfl (fun _ => ?_) (fun _ => ?_) | refine JC_ndec rfl (fun _ => ?_) (fun _ => ?_) | refine JC_if rfl (fun _ => ?_) (fun _ => ?_) | refine J_gd rfl rfl (fun _ => ?_) (fun _ => ?_) | refine J_gn rfl rfl (fun _ => ?_) (fun _ => ?_) | refine J_gb rfl rfl (fun _ => ?_) (fun _ => ?_))
                    refine ⟨(f, j, o, X.set i r, O.set i o, D.set i true), ⟨bX2, bO2, lD2, m1, k1, m3, by dsimp only; omega, he.trans he2⟩, by dsimp only; omega, ?_⟩
                    (refine ent ?_ ?_; (repeat refine fr_cons rfl ?_); exact fr_nil; (repeat (first | exact List.nil_sublist _ | exact List.Sublist.refl _ | refine List.Sublist.cons_cons _ ?_ | refine List.Sublist.cons _ ?_)))
              · obtain rfl : k = n := by omega
                repeat' (first | (apply Jq_move; exact rfl; exact rfl) | (apply Jq_assign; exact rfl; exact rfl) | (apply Jq_load; exact rfl; exact rfl; (exact mb); (first | exact rfl)) | (apply Jq_fieldAddr; exact rfl; exact rfl) | (apply Jq_indexN; exact rfl; exact rfl; exact rfl; omega) | (apply Jq_index; exact rfl; exact rfl; exact rfl; omega; omega) | (apply Jq_indexSN; exact rfl; exact rfl; exact rfl; omega) | (apply Jq_cmp; exact rfl; exact rfl; exact rfl; exact rfl) | (apply Jq_add; exact rfl; exact rfl; exact rfl; omega) | (apply Jq_sub; exact rfl; exact rfl; exact rfl; omega) | (apply Jq_mul; exact rfl; exact rfl; exact rfl; omega) | (apply Jq_not; exact rfl; exact rfl) | (apply Jq_pick_true; exact rfl; exact rfl; exact rfl) | (apply Jq_pick_false; exact rfl; exact rfl; exact rfl) | (apply J_on; exact rfl; exact rfl) | (apply J_skip; exact rfl; exact rfl; exact rfl; exact rfl) | (apply Jq_loadW; exact rfl; exact rfl; (exact mb); (first | exact rfl | omega)) | (apply Jq_loadA; exact rfl; exact rfl; (exact mb); (first | exact rfl); (first | exact rfl | omega)) | (apply J_s1; exact rfl; exact rfl; exact rfl; infer_instance; (first | exact rfl | omega); (first | exact rfl); infer_instance) | (apply J_sW; exact rfl; exact rfl; infer_instance; (first | exact rfl | omega); (first | exact rfl | omega); (first | exact ones_of rfl | exact u8s_one _ | exact i64s_one _ | exact bls_one _ | exact gv_one _ _ _ | exact dv_one _ _ _ _ _ _); infer_instance) | (apply J_sR; exact rfl; exact rfl; exact rfl; infer_instance; (first | exact rfl | omega); (first | exact i64s_setR)) | (apply J_lit1; exact rfl; exact rfl; exact rfl; (intro _)) | (apply J_ap; exact Nat.one_pos; exact rfl; exact rfl; exact rfl; infer_instance; (first | exact rb | assumption); exact List.cons_ne_nil _ _; exact ones_of rfl; ((show (_ + 1) * _ ≤ _); omega); decide; (first | exact i64s_snoc | exact u8s_snoc | exact rfl); (intro _)) | (apply Jq_indexRN; exact rfl; exact rfl; exact rfl; (first | exact rb | assumption); omega) | (apply Jq_loadR; exact rfl; exact rfl; (first | exact rb | assumption); (first | exact rfl)) | (apply J_box; exact rfl; exact rfl; exact rfl; (intro _)) | (apply J_make1; exact rfl; exact rfl; exact rfl; omega; ((show _ ≤ maxLen); (simp only [maxLen]); omega); exact rfl; (intro _)) | (apply J_alloc (cs := gv 0 Z8 Z8); exact rfl; exact rfl; (intro _)) | (apply J_alloc (cs := dv 0 Z8 Z8 0 Z8 Z8); exact rfl; exact rfl; (intro _)) | (apply J_alloc (cs := u8s Z8); exact rfl; exact rfl; (intro _)) | (apply J_alloc (cs := i64s Z8); exact rfl; exact rfl; (intro _)) | (apply J_alloc (cs := bls F8); exact rfl; exact rfl; (intro _)) | (apply J_alloc; exact rfl; exact rfl; (intro _)) | (apply Jz (cs := gv 0 Z8 Z8); exact rfl; exact rfl) | (apply Jz (cs := dv 0 Z8 Z8 0 Z8 Z8); exact rfl; exact rfl) | (apply Jz (cs := u8s Z8); exact rfl; exact rfl) | (apply Jz (cs := i64s Z8); exact rfl; exact rfl) | (apply Jz (cs := bls F8); exact rfl; exact rfl) | (apply Jq_build0; exact rfl) | refine thenQ_normal ?_ | refine thenQ_exit ?_ | refine thenQ_ret ?_ | refine inBlockQ_normal ?_ | refine inBlockQ_ret ?_ | refine inBlockQ_here ?_ | (apply inBlockQ_on; exact rfl) | refine JC_seq ?_ | refine JC_region ?_ | (apply JC_draw mixed; kernel_rfl) | refine J_nil ?_ | refine JC_block ?_ | refine JC_skip ?_ | refine JC_ret ?_ | refine JC_exit ?_ | (apply JC_if_true; exact rfl) | (apply JC_if_false; exact rfl) | (apply JC_dec_true; exact rfl; omega) | (apply JC_dec_false; exact rfl; omega) | (apply JC_ndec_true; exact rfl; omega) | (apply JC_ndec_false; exact rfl; omega) | (apply J_gdT; exact rfl; exact rfl; omega) | (apply J_gdF; exact rfl; exact rfl; omega) | (apply J_gnT; exact rfl; exact rfl; omega) | (apply J_gnF; exact rfl; exact rfl; omega) | refine JC_dec rfl (fun _ => ?_) (fun _ => ?_) | refine JC_ndec rfl (fun _ => ?_) (fun _ => ?_) | refine JC_if rfl (fun _ => ?_) (fun _ => ?_) | refine J_gd rfl rfl (fun _ => ?_) (fun _ => ?_) | refine J_gn rfl rfl (fun _ => ?_) (fun _ => ?_) | refine J_gb rfl rfl (fun _ => ?_) (fun _ => ?_))
                refine ⟨(X0, O0, D0), ⟨bX0, bO0, lD0, hg⟩, ?_⟩
                (refine ent ?_ ?_; (repeat refine fr_cons rfl ?_); exact fr_nil; (repeat (first | exact List.nil_sublist _ | exact List.Sublist.refl _ | refine List.Sublist.cons_cons _ ?_ | refine List.Sublist.cons _ ?_)))
          · rintro ⟨X, O, D⟩ ⟨bX, bO, lD, he⟩
            dsimp only at bX bO lD he ⊢
            rw [he]
            have lM : (mosT n (tile n X O)).length = 64 := by simp [mosT]
            have ug1 := gv_len (n := (n : Int)) bX.1 bO.1
            by_cases gk : okG (n : Int) X O
            · by_cases hT : mosT n (tile n X O) = T
              · have he : endG n T (some (X, O, D)) = .tuple #[.agg (gv (n : Int) X O).toArray, .int .i64 0] := if_pos ⟨gk, hT⟩
                repeat' (first | (apply Jq_neA; exact rfl; exact rfl; exact rfl; kernel_rfl; (intro w; exact eq_mosaic _ _ _ _ lM lT w)) | (apply Jq_move; exact rfl; exact rfl) | (apply Jq_assign; exact rfl; exact rfl) | (apply Jq_load; exact rfl; exact rfl; (exact mb); (first | exact rfl)) | (apply Jq_fieldAddr; exact rfl; exact rfl) | (apply Jq_indexN; exact rfl; exact rfl; exact rfl; omega) | (apply Jq_index; exact rfl; exact rfl; exact rfl; omega; omega) | (apply Jq_indexSN; exact rfl; exact rfl; exact rfl; omega) | (apply Jq_cmp; exact rfl; exact rfl; exact rfl; exact rfl) | (apply Jq_add; exact rfl; exact rfl; exact rfl; omega) | (apply Jq_sub; exact rfl; exact rfl; exact rfl; omega) | (apply Jq_mul; exact rfl; exact rfl; exact rfl; omega) | (apply Jq_not; exact rfl; exact rfl) | (apply Jq_pick_true; exact rfl; exact rfl; exact rfl) | (apply Jq_pick_false; exact rfl; exact rfl; exact rfl) | (apply J_on; exact rfl; exact rfl) | (apply J_skip; exact rfl; exact rfl; exact rfl; exact rfl) | (apply Jc; exact rfl; exact rfl; exact rfl; infer_instance; ((intro w hw); first | exact IsGrid_gives _ X O bX bO w | exact imosaic_gives n X O bX bO gk w)) | (apply Jq_loadW; exact rfl; exact rfl; (exact mb); (first | exact rfl | omega)) | (apply Jq_loadA; exact rfl; exact rfl; (exact mb); (first | exact rfl); (first | exact rfl | omega)) | (apply J_s1; exact rfl; exact rfl; exact rfl; infer_instance; (first | exact rfl | omega); (first | exact rfl); infer_instance) | (apply J_sW; exact rfl; exact rfl; infer_instance; (first | exact rfl | omega); (first | exact rfl | omega); (first | exact ones_of rfl | exact u8s_one _ | exact i64s_one _ | exact bls_one _ | exact gv_one _ _ _ | exact dv_one _ _ _ _ _ _ | exact gv_one _ _ _); infer_instance) | (apply J_sR; exact rfl; exact rfl; exact rfl; infer_instance; (first | exact rfl | omega); (first | exact i64s_setR)) | (apply J_lit1; exact rfl; exact rfl; exact rfl; (intro _)) | (apply J_ap; exact Nat.one_pos; exact rfl; exact rfl; exact rfl; infer_instance; (first | exact rb | assumption); exact List.cons_ne_nil _ _; exact ones_of rfl; ((show (_ + 1) * _ ≤ _); omega); decide; (first | exact i64s_snoc | exact u8s_snoc | exact rfl); (intro _)) | (apply Jq_indexRN; exact rfl; exact rfl; exact rfl; (first | exact rb | assumption); omega) | (apply Jq_loadR; exact rfl; exact rfl; (first | exact rb | assumption); (first | exact rfl)) | (apply J_box; exact rfl; exact rfl; exact rfl; (intro _)) | (apply J_make1; exact rfl; exact rfl; exact rfl; omega; ((show _ ≤ maxLen); (simp only [maxLen]); omega); exact rfl; (intro _)) | (apply J_alloc (cs := gv 0 Z8 Z8); exact rfl; exact rfl; (intro _)) | (apply J_alloc (cs := dv 0 Z8 Z8 0 Z8 Z8); exact rfl; exact rfl; (intro _)) | (apply J_alloc (cs := u8s Z8); exact rfl; exact rfl; (intro _)) | (apply J_alloc (cs := i64s Z8); exact rfl; exact rfl; (intro _)) | (apply J_alloc (cs := bls F8); exact rfl; exact rfl; (intro _)) | (apply J_alloc; exact rfl; exact rfl; (intro _)) | (apply Jz (cs := gv 0 Z8 Z8); exact rfl; exact rfl) | (apply Jz (cs := dv 0 Z8 Z8 0 Z8 Z8); exact rfl; exact rfl) | (apply Jz (cs := u8s Z8); exact rfl; exact rfl) | (apply Jz (cs := i64s Z8); exact rfl; exact rfl) | (apply Jz (cs := bls F8); exact rfl; exact rfl) | (apply Jq_build0; exact rfl) | refine thenQ_normal ?_ | refine thenQ_exit ?_ | refine thenQ_ret ?_ | refine inBlockQ_normal ?_ | refine inBlockQ_ret ?_ | refine inBlockQ_here ?_ | (apply inBlockQ_on; exact rfl) | refine JC_seq ?_ | refine JC_region ?_ | (apply JC_draw mixed; kernel_rfl) | refine J_nil ?_ | refine JC_block ?_ | refine JC_skip ?_ | refine JC_ret ?_ | refine JC_exit ?_ | (apply JC_if_true; exact rfl) | (apply JC_if_false; exact rfl) | (apply JC_dec_true; exact rfl; omega) | (apply JC_dec_false; exact rfl; omega) | (apply JC_ndec_true; exact rfl; omega) | (apply JC_ndec_false; exact rfl; omega) | (apply J_gdT; exact rfl; exact rfl; omega) | (apply J_gdF; exact rfl; exact rfl; omega) | (apply J_gnT; exact rfl; exact rfl; omega) | (apply J_gnF; exact rfl; exact rfl; omega) | refine JC_dec rfl (fun _ => ?_) (fun _ => ?_) | refine JC_ndec rfl (fun _ => ?_) (fun _ => ?_) | refine JC_if rfl (fun _ => ?_) (fun _ => ?_) | refine J_gd rfl rfl (fun _ => ?_) (fun _ => ?_) | refine J_gn rfl rfl (fun _ => ?_) (fun _ => ?_) | refine J_gb rfl rfl (fun _ => ?_) (fun _ => ?_))
                · rename_i hh
                  exact absurd ⟨rfl, hT⟩ hh
                · exact gCT rfl rfl rfl rfl mb ug1 he.symm
              · have he : endG n T (some (X, O, D)) = .tuple #[.agg (gv 0 Z8 Z8).toArray, .int .i64 5] := if_neg fun h => hT h.2
                repeat' (first | (apply Jq_neA; exact rfl; exact rfl; exact rfl; kernel_rfl; (intro w; exact eq_mosaic _ _ _ _ lM lT w)) | (apply Jq_move; exact rfl; exact rfl) | (apply Jq_assign; exact rfl; exact rfl) | (apply Jq_load; exact rfl; exact rfl; (exact mb); (first | exact rfl)) | (apply Jq_fieldAddr; exact rfl; exact rfl) | (apply Jq_indexN; exact rfl; exact rfl; exact rfl; omega) | (apply Jq_index; exact rfl; exact rfl; exact rfl; omega; omega) | (apply Jq_indexSN; exact rfl; exact rfl; exact rfl; omega) | (apply Jq_cmp; exact rfl; exact rfl; exact rfl; exact rfl) | (apply Jq_add; exact rfl; exact rfl; exact rfl; omega) | (apply Jq_sub; exact rfl; exact rfl; exact rfl; omega) | (apply Jq_mul; exact rfl; exact rfl; exact rfl; omega) | (apply Jq_not; exact rfl; exact rfl) | (apply Jq_pick_true; exact rfl; exact rfl; exact rfl) | (apply Jq_pick_false; exact rfl; exact rfl; exact rfl) | (apply J_on; exact rfl; exact rfl) | (apply J_skip; exact rfl; exact rfl; exact rfl; exact rfl) | (apply Jc; exact rfl; exact rfl; exact rfl; infer_instance; ((intro w hw); first | exact IsGrid_gives _ X O bX bO w | exact imosaic_gives n X O bX bO gk w)) | (apply Jq_loadW; exact rfl; exact rfl; (exact mb); (first | exact rfl | omega)) | (apply Jq_loadA; exact rfl; exact rfl; (exact mb); (first | exact rfl); (first | exact rfl | omega)) | (apply J_s1; exact rfl; exact rfl; exact rfl; infer_instance; (first | exact rfl | omega); (first | exact rfl); infer_instance) | (apply J_sW; exact rfl; exact rfl; infer_instance; (first | exact rfl | omega); (first | exact rfl | omega); (first | exact ones_of rfl | exact u8s_one _ | exact i64s_one _ | exact bls_one _ | exact gv_one _ _ _ | exact dv_one _ _ _ _ _ _ | exact gv_one _ _ _); infer_instance) | (apply J_sR; exact rfl; exact rfl; exact rfl; infer_instance; (first | exact rfl | omega); (first | exact i64s_setR)) | (apply J_lit1; exact rfl; exact rfl; exact rfl; (intro _)) | (apply J_ap; exact Nat.one_pos; exact rfl; exact rfl; exact rfl; infer_instance; (first | exact rb | assumption); exact List.cons_ne_nil _ _; exact ones_of rfl; ((show (_ + 1) * _ ≤ _); omega); decide; (first | exact i64s_snoc | exact u8s_snoc | exact rfl); (intro _)) | (apply Jq_indexRN; exact rfl; exact rfl; exact rfl; (first | exact rb | assumption); omega) | (apply Jq_loadR; exact rfl; exact rfl; (first | exact rb | assumption); (first | exact rfl)) | (apply J_box; exact rfl; exact rfl; exact rfl; (intro _)) | (apply J_make1; exact rfl; exact rfl; exact rfl; omega; ((show _ ≤ maxLen); (simp only [maxLen]); omega); exact rfl; (intro _)) | (apply J_alloc (cs := gv 0 Z8 Z8); exact rfl; exact rfl; (intro _)) | (apply J_alloc (cs := dv 0 Z8 Z8 0 Z8 Z8); exact rfl; exact rfl; (intro _)) | (apply J_alloc (cs := u8s Z8); exact rfl; exact rfl; (intro _)) | (apply J_alloc (cs := i64s Z8); exact rfl; exact rfl; (intro _)) | (apply J_alloc (cs := bls F8); exact rfl; exact rfl; (intro _)) | (apply J_alloc (cs := gv 0 Z8 Z8); exact rfl; exact rfl; (intro _)) | (apply J_alloc; exact rfl; exact rfl; (intro _)) | (apply Jz (cs := gv 0 Z8 Z8); exact rfl; exact rfl) | (apply Jz (cs := dv 0 Z8 Z8 0 Z8 Z8); exact rfl; exact rfl) | (apply Jz (cs := u8s Z8); exact rfl; exact rfl) | (apply Jz (cs := i64s Z8); exact rfl; exact rfl) | (apply Jz (cs := bls F8); exact rfl; exact rfl) | (apply Jz (cs := gv 0 Z8 Z8); exact rfl; exact rfl) | (apply Jq_build0; exact rfl) | refine thenQ_normal ?_ | refine thenQ_exit ?_ | refine thenQ_ret ?_ | refine inBlockQ_normal ?_ | refine inBlockQ_ret ?_ | refine inBlockQ_here ?_ | (apply inBlockQ_on; exact rfl) | refine JC_seq ?_ | refine JC_region ?_ | (apply JC_draw mixed; kernel_rfl) | refine J_nil ?_ | refine JC_block ?_ | refine JC_skip ?_ | refine JC_ret ?_ | refine JC_exit ?_ | (apply JC_if_true; exact rfl) | (apply JC_if_false; exact rfl) | (apply JC_dec_true; exact rfl; omega) | (apply JC_dec_false; exact rfl; omega) | (apply JC_ndec_true; exact rfl; omega) | (apply JC_ndec_false; exact rfl; omega) | (apply J_gdT; exact rfl; exact rfl; omega) | (apply J_gdF; exact rfl; exact rfl; omega) | (apply J_gnT; exact rfl; exact rfl; omega) | (apply J_gnF; exact rfl; exact rfl; omega) | refine JC_dec rfl (fun _ => ?_) (fun _ => ?_) | refine JC_ndec rfl (fun _ => ?_) (fun _ => ?_) | refine JC_if rfl (fun _ => ?_) (fun _ => ?_) | refine J_gd rfl rfl (fun _ => ?_) (fun _ => ?_) | refine J_gn rfl rfl (fun _ => ?_) (fun _ => ?_) | refine J_gb rfl rfl (fun _ => ?_) (fun _ => ?_))
                · exact gCT rfl rfl rfl rfl mb rfl he.symm
                · rename_i hh
                  exact absurd hh.2 hT
            · have he : endG n T (some (X, O, D)) = .tuple #[.agg (gv 0 Z8 Z8).toArray, .int .i64 5] := if_neg fun h => gk h.1
              repeat' (first | (apply Jq_move; exact rfl; exact rfl) | (apply Jq_assign; exact rfl; exact rfl) | (apply Jq_load; exact rfl; exact rfl; (exact mb); (first | exact rfl)) | (apply Jq_fieldAddr; exact rfl; exact rfl) | (apply Jq_indexN; exact rfl; exact rfl; exact rfl; omega) | (apply Jq_index; exact rfl; exact rfl; exact rfl; omega; omega) | (apply Jq_indexSN; exact rfl; exact rfl; exact rfl; omega) | (apply Jq_cmp; exact rfl; exact rfl; exact rfl; exact rfl) | (apply Jq_add; exact rfl; exact rfl; exact rfl; omega) | (apply Jq_sub; exact rfl; exact rfl; exact rfl; omega) | (apply Jq_mul; exact rfl; exact rfl; exact rfl; omega) | (apply Jq_not; exact rfl; exact rfl) | (apply Jq_pick_true; exact rfl; exact rfl; exact rfl) | (apply Jq_pick_false; exact rfl; exact rfl; exact rfl) | (apply J_on; exact rfl; exact rfl) | (apply J_skip; exact rfl; exact rfl; exact rfl; exact rfl) | (apply Jc; exact rfl; exact rfl; exact rfl; infer_instance; ((intro w hw); first | exact IsGrid_gives _ X O bX bO w)) | (apply Jq_loadW; exact rfl; exact rfl; (exact mb); (first | exact rfl | omega)) | (apply Jq_loadA; exact rfl; exact rfl; (exact mb); (first | exact rfl); (first | exact rfl | omega)) | (apply J_s1; exact rfl; exact rfl; exact rfl; infer_instance; (first | exact rfl | omega); (first | exact rfl); infer_instance) | (apply J_sW; exact rfl; exact rfl; infer_instance; (first | exact rfl | omega); (first | exact rfl | omega); (first | exact ones_of rfl | exact u8s_one _ | exact i64s_one _ | exact bls_one _ | exact gv_one _ _ _ | exact dv_one _ _ _ _ _ _ | exact gv_one _ _ _); infer_instance) | (apply J_sR; exact rfl; exact rfl; exact rfl; infer_instance; (first | exact rfl | omega); (first | exact i64s_setR)) | (apply J_lit1; exact rfl; exact rfl; exact rfl; (intro _)) | (apply J_ap; exact Nat.one_pos; exact rfl; exact rfl; exact rfl; infer_instance; (first | exact rb | assumption); exact List.cons_ne_nil _ _; exact ones_of rfl; ((show (_ + 1) * _ ≤ _); omega); decide; (first | exact i64s_snoc | exact u8s_snoc | exact rfl); (intro _)) | (apply Jq_indexRN; exact rfl; exact rfl; exact rfl; (first | exact rb | assumption); omega) | (apply Jq_loadR; exact rfl; exact rfl; (first | exact rb | assumption); (first | exact rfl)) | (apply J_box; exact rfl; exact rfl; exact rfl; (intro _)) | (apply J_make1; exact rfl; exact rfl; exact rfl; omega; ((show _ ≤ maxLen); (simp only [maxLen]); omega); exact rfl; (intro _)) | (apply J_alloc (cs := gv 0 Z8 Z8); exact rfl; exact rfl; (intro _)) | (apply J_alloc (cs := dv 0 Z8 Z8 0 Z8 Z8); exact rfl; exact rfl; (intro _)) | (apply J_alloc (cs := u8s Z8); exact rfl; exact rfl; (intro _)) | (apply J_alloc (cs := i64s Z8); exact rfl; exact rfl; (intro _)) | (apply J_alloc (cs := bls F8); exact rfl; exact rfl; (intro _)) | (apply J_alloc (cs := gv 0 Z8 Z8); exact rfl; exact rfl; (intro _)) | (apply J_alloc; exact rfl; exact rfl; (intro _)) | (apply Jz (cs := gv 0 Z8 Z8); exact rfl; exact rfl) | (apply Jz (cs := dv 0 Z8 Z8 0 Z8 Z8); exact rfl; exact rfl) | (apply Jz (cs := u8s Z8); exact rfl; exact rfl) | (apply Jz (cs := i64s Z8); exact rfl; exact rfl) | (apply Jz (cs := bls F8); exact rfl; exact rfl) | (apply Jz (cs := gv 0 Z8 Z8); exact rfl; exact rfl) | (apply Jq_build0; exact rfl) | refine thenQ_normal ?_ | refine thenQ_exit ?_ | refine thenQ_ret ?_ | refine inBlockQ_normal ?_ | refine inBlockQ_ret ?_ | refine inBlockQ_here ?_ | (apply inBlockQ_on; exact rfl) | refine JC_seq ?_ | refine JC_region ?_ | (apply JC_draw mixed; kernel_rfl) | refine J_nil ?_ | refine JC_block ?_ | refine JC_skip ?_ | refine JC_ret ?_ | refine JC_exit ?_ | (apply JC_if_true; exact rfl) | (apply JC_if_false; exact rfl) | (apply JC_dec_true; exact rfl; omega) | (apply JC_dec_false; exact rfl; omega) | (apply JC_ndec_true; exact rfl; omega) | (apply JC_ndec_false; exact rfl; omega) | (apply J_gdT; exact rfl; exact rfl; omega) | (apply J_gdF; exact rfl; exact rfl; omega) | (apply J_gnT; exact rfl; exact rfl; omega) | (apply J_gnF; exact rfl; exact rfl; omega) | refine JC_dec rfl (fun _ => ?_) (fun _ => ?_) | refine JC_ndec rfl (fun _ => ?_) (fun _ => ?_) | refine JC_if rfl (fun _ => ?_) (fun _ => ?_) | refine J_gd rfl rfl (fun _ => ?_) (fun _ => ?_) | refine J_gn rfl rfl (fun _ => ?_) (fun _ => ?_) | refine J_gb rfl rfl (fun _ => ?_) (fun _ => ?_))
              exact gCT rfl rfl rfl rfl mb rfl he.symm
      · rw [endG_err h2c]
        repeat' (first | (apply J_lit2; exact rfl; exact rfl; exact rfl; exact rfl; exact rfl; (intro _)) | (apply JcE; exact rfl; exact rfl; exact rfl; infer_instance; (exact concatN_gives [(sl b5 n, LC.map (·.1)), (sl b6 n, LR.map (·.1))] m0 (hns _ _) (Nat.le_of_ble_eq_true rfl) hl2); (intro v' H' hV; rw [hfl] at hV; subst hV)) | (apply JcE; exact rfl; exact rfl; exact rfl; infer_instance; (exact contains_gives (LC ++ LR) m0 (fun x hx => mS (mS (List.mem_append.2 (.inl (hsub x hx))))) hll); (intro v' H' hV; obtain ⟨rfl, b, rfl, hb⟩ := hV; obtain rfl : b = true := hb.2 ((lens_iff hC hR).2 h2c))) | (apply Jq_move; exact rfl; exact rfl) | (apply Jq_assign; exact rfl; exact rfl) | (apply Jq_load; exact rfl; exact rfl; (exact mb); (first | exact rfl)) | (apply Jq_fieldAddr; exact rfl; exact rfl) | (apply Jq_indexN; exact rfl; exact rfl; exact rfl; omega) | (apply Jq_index; exact rfl; exact rfl; exact rfl; omega; omega) | (apply Jq_indexSN; exact rfl; exact rfl; exact rfl; omega) | (apply Jq_cmp; exact rfl; exact rfl; exact rfl; exact rfl) | (apply Jq_add; exact rfl; exact rfl; exact rfl; omega) | (apply Jq_sub; exact rfl; exact rfl; exact rfl; omega) | (apply Jq_mul; exact rfl; exact rfl; exact rfl; omega) | (apply Jq_not; exact rfl; exact rfl) | (apply Jq_pick_true; exact rfl; exact rfl; exact rfl) | (apply Jq_pick_false; exact rfl; exact rfl; exact rfl) | (apply J_on; exact rfl; exact rfl) | (apply J_skip; exact rfl; exact rfl; exact rfl; exact rfl) | (apply Jq_loadW; exact rfl; exact rfl; (exact mb); (first | exact rfl | omega)) | (apply Jq_loadA; exact rfl; exact rfl; (exact mb); (first | exact rfl); (first | exact rfl | omega)) | (apply J_s1; exact rfl; exact rfl; exact rfl; infer_instance; (first | exact rfl | omega); (first | exact rfl); infer_instance) | (apply J_sW; exact rfl; exact rfl; infer_instance; (first | exact rfl | omega); (first | exact rfl | omega); (first | exact ones_of rfl | exact u8s_one _ | exact i64s_one _ | exact bls_one _ | exact gv_one _ _ _ | exact dv_one _ _ _ _ _ _ | exact gv_one _ _ _); infer_instance) | (apply J_sR; exact rfl; exact rfl; exact rfl; infer_instance; (first | exact rfl | omega); (first | exact i64s_setR)) | (apply J_lit1; exact rfl; exact rfl; exact rfl; (intro _)) | (apply J_ap; exact Nat.one_pos; exact rfl; exact rfl; exact rfl; infer_instance; (first | exact rb | assumption); exact List.cons_ne_nil _ _; exact ones_of rfl; ((show (_ + 1) * _ ≤ _); omega); decide; (first | exact i64s_snoc | exact u8s_snoc | exact rfl); (intro _)) | (apply Jq_indexRN; exact rfl; exact rfl; exact rfl; (first | exact rb | assumption); omega) | (apply Jq_loadR; exact rfl; exact rfl; (first | exact rb | assumption); (first | exact rfl)) | (apply J_box; exact rfl; exact rfl; exact rfl; (intro _)) | (apply J_make1; exact rfl; exact rfl; exact rfl; omega; ((show _ ≤ maxLen); (simp only [maxLen]); omega); exact rfl; (intro _)) | (apply J_alloc (cs := gv 0 Z8 Z8); exact rfl; exact rfl; (intro _)) | (apply J_alloc (cs := dv 0 Z8 Z8 0 Z8 Z8); exact rfl; exact rfl; (intro _)) | (apply J_alloc (cs := u8s Z8); exact rfl; exact rfl; (intro _)) | (apply J_alloc (cs := i64s Z8); exact rfl; exact rfl; (intro _)) | (apply J_alloc (cs := bls F8); exact rfl; exact rfl; (intro _)) | (apply J_alloc (cs := gv 0 Z8 Z8); exact rfl; exact rfl; (intro _)) | (apply J_alloc; exact rfl; exact rfl; (intro _)) | (apply Jz (cs := gv 0 Z8 Z8); exact rfl; exact rfl) | (apply Jz (cs := dv 0 Z8 Z8 0 Z8 Z8); exact rfl; exact rfl) | (apply Jz (cs := u8s Z8); exact rfl; exact rfl) | (apply Jz (cs := i64s Z8); exact rfl; exact rfl) | (apply Jz (cs := bls F8); exact rfl; exact rfl) | (apply Jz (cs := gv 0 Z8 Z8); exact rfl; exact rfl) | (apply Jq_build0; exact rfl) | refine thenQ_normal ?_ | refine thenQ_exit ?_ | refine thenQ_ret ?_ | refine inBlockQ_normal ?_ | refine inBlockQ_ret ?_ | refine inBlockQ_here ?_ | (apply inBlockQ_on; exact rfl) | refine JC_seq ?_ | refine JC_region ?_ | (apply JC_draw mixed; kernel_rfl) | refine J_nil ?_ | refine JC_block ?_ | refine JC_skip ?_ | refine JC_ret ?_ | refine JC_exit ?_ | (apply JC_if_true; exact rfl) | (apply JC_if_false; exact rfl) | (apply JC_dec_true; exact rfl; omega) | (apply JC_dec_false; exact rfl; omega) | (apply JC_ndec_true; exact rfl; omega) | (apply JC_ndec_false; exact rfl; omega) | (apply J_gdT; exact rfl; exact rfl; omega) | (apply J_gdF; exact rfl; exact rfl; omega) | (apply J_gnT; exact rfl; exact rfl; omega) | (apply J_gnF; exact rfl; exact rfl; omega) | refine JC_dec rfl (fun _ => ?_) (fun _ => ?_) | refine JC_ndec rfl (fun _ => ?_) (fun _ => ?_) | refine JC_if rfl (fun _ => ?_) (fun _ => ?_) | refine J_gd rfl rfl (fun _ => ?_) (fun _ => ?_) | refine J_gn rfl rfl (fun _ => ?_) (fun _ => ?_) | refine J_gb rfl rfl (fun _ => ?_) (fun _ => ?_))
        exact gCT rfl rfl rfl rfl mb rfl rfl
set_option maxRecDepth 100000 in
theorem igrid_bad (n : Int) (T : List Nat) (bT : isB64 T) (g : ¬ okM n T) (w : World) :
    Gives Try.prog 14 #[.agg (mv n T).toArray] (.tuple #[.agg (gv 0 Z8 Z8).toArray, .int .i64 1]) w := by
  have lT := bT.1
  have ug := mv_len (n := n) lT
  refine gives_of (args := [.agg (mv n T).toArray]) [(0, .agg (mv n T).toArray)] [] Try.func14 rfl Try.ntmps14 rfl (argsF_cons rfl argsF_nil) (Holds.start w) ?_
  repeat' (first | (apply Jq_move; exact rfl; exact rfl) | (apply Jq_assign; exact rfl; exact rfl) | (apply Jq_load; exact rfl; exact rfl; (exact mb); (first | exact rfl)) | (apply Jq_fieldAddr; exact rfl; exact rfl) | (apply Jq_indexN; exact rfl; exact rfl; exact rfl; omega) | (apply Jq_index; exact rfl; exact rfl; exact rfl; omega; omega) | (apply Jq_indexSN; exact rfl; exact rfl; exact rfl; omega) | (apply Jq_cmp; exact rfl; exact rfl; exact rfl; exact rfl) | (apply Jq_add; exact rfl; exact rfl; exact rfl; omega) | (apply Jq_sub; exact rfl; exact rfl; exact rfl; omega) | (apply Jq_mul; exact rfl; exact rfl; exact rfl; omega) | (apply Jq_not; exact rfl; exact rfl) | (apply Jq_pick_true; exact rfl; exact rfl; exact rfl) | (apply Jq_pick_false; exact rfl; exact rfl; exact rfl) | (apply J_on; exact rfl; exact rfl) | (apply J_skip; exact rfl; exact rfl; exact rfl; exact rfl) | (apply Jc; exact rfl; exact rfl; exact rfl; infer_instance; ((intro w hw); first | exact IsMosaic_gives n T bT w)) | (apply Jq_loadW; exact rfl; exact rfl; (exact mb); (first | exact rfl | omega)) | (apply Jq_loadA; exact rfl; exact rfl; (exact mb); (first | exact rfl); (first | exact rfl | omega)) | (apply J_s1; exact rfl; exact rfl; exact rfl; infer_instance; (first | exact rfl | omega); (first | exact rfl); infer_instance) | (apply J_sW; exact rfl; exact rfl; infer_instance; (first | exact rfl | omega); (first | exact rfl | omega); (first | exact ones_of rfl | exact u8s_one _ | exact i64s_one _ | exact bls_one _ | exact gv_one _ _ _ | exact dv_one _ _ _ _ _ _ | exact mv_one _ _ | exact gv_one _ _ _); infer_instance) | (apply J_sR; exact rfl; exact rfl; exact rfl; infer_instance; (first | exact rfl | omega); (first | exact i64s_setR)) | (apply J_lit1; exact rfl; exact rfl; exact rfl; (intro _)) | (apply J_ap; exact Nat.one_pos; exact rfl; exact rfl; exact rfl; infer_instance; (first | exact rb | assumption); exact List.cons_ne_nil _ _; exact ones_of rfl; ((show (_ + 1) * _ ≤ _); omega); decide; (first | exact i64s_snoc | exact u8s_snoc | exact rfl); (intro _)) | (apply Jq_indexRN; exact rfl; exact rfl; exact rfl; (first | exact rb | assumption); omega) | (apply Jq_loadR; exact rfl; exact rfl; (first | exact rb | assumption); (first | exact rfl)) | (apply J_box; exact rfl; exact rfl; exact rfl; (intro _)) | (apply J_make1; exact rfl; exact rfl; exact rfl; omega; ((show _ ≤ maxLen); (simp only [maxLen]); omega); exact rfl; (intro _)) | (apply J_alloc (cs := gv 0 Z8 Z8); exact rfl; exact rfl; (intro _)) | (apply J_alloc (cs := dv 0 Z8 Z8 0 Z8 Z8); exact rfl; exact rfl; (intro _)) | (apply J_alloc (cs := u8s Z8); exact rfl; exact rfl; (intro _)) | (apply J_alloc (cs := i64s Z8); exact rfl; exact rfl; (intro _)) | (apply J_alloc (cs := bls F8); exact rfl; exact rfl; (intro _)) | (apply J_alloc (cs := gv 0 Z8 Z8); exact rfl; exact rfl; (intro _)) | (apply J_alloc; exact rfl; exact rfl; (intro _)) | (apply Jz (cs := gv 0 Z8 Z8); exact rfl; exact rfl) | (apply Jz (cs := dv 0 Z8 Z8 0 Z8 Z8); exact rfl; exact rfl) | (apply Jz (cs := u8s Z8); exact rfl; exact rfl) | (apply Jz (cs := i64s Z8); exact rfl; exact rfl) | (apply Jz (cs := bls F8); exact rfl; exact rfl) | (apply Jz (cs := gv 0 Z8 Z8); exact rfl; exact rfl) | (apply Jq_build0; exact rfl) | refine thenQ_normal ?_ | refine thenQ_exit ?_ | refine thenQ_ret ?_ | refine inBlockQ_normal ?_ | refine inBlockQ_ret ?_ | refine inBlockQ_here ?_ | (apply inBlockQ_on; exact rfl) | refine JC_seq ?_ | refine JC_region ?_ | refine J_nil ?_ | refine JC_block ?_ | refine JC_skip ?_ | refine JC_ret ?_ | refine JC_exit ?_ | (apply JC_if_true; exact rfl) | (apply JC_if_false; exact rfl) | (apply JC_dec_true; exact rfl; omega) | (apply JC_dec_false; exact rfl; omega) | (apply JC_ndec_true; exact rfl; omega) | (apply JC_ndec_false; exact rfl; omega) | (apply J_gdT; exact rfl; exact rfl; omega) | (apply J_gdF; exact rfl; exact rfl; omega) | (apply J_gnT; exact rfl; exact rfl; omega) | (apply J_gnF; exact rfl; exact rfl; omega) | refine JC_dec rfl (fun _ => ?_) (fun _ => ?_) | refine JC_ndec rfl (fun _ => ?_) (fun _ => ?_) | refine JC_if rfl (fun _ => ?_) (fun _ => ?_) | refine J_gd rfl rfl (fun _ => ?_) (fun _ => ?_) | refine J_gn rfl rfl (fun _ => ?_) (fun _ => ?_) | refine J_gb rfl rfl (fun _ => ?_) (fun _ => ?_))
  exact gCT rfl rfl rfl rfl mb rfl rfl
end Go.Proofs.Ythijakignhjmgaa
