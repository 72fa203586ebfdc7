/- Walks: the search for a smaller grid, grids made simple, both texts. -/
import Derived.Test.YtflleelfkknfaaaLH
namespace Go.Proofs.Ytflleelfkknfaaa
open Go Go.RowKit SL
namespace SL
theorem gCTT {P : Program} {n : Nat} {w : World} {fn : Func} {v : Value} {e : Exit} {F : Fr} {H : Hp} {t u u' : Tmp} {T : TypeId} {s b : Nat} {cs : List Value} {E : TypeId} {v' v'' : Value} [IsAg P T s] (he : isEnd e = true) (h : fn.results = #[.cell t T, .tmp u, .tmp u']) (hv : look F t = some (.pointer (some ⟨b, 0, none⟩))) (hv' : look F u = some v') (hv'' : look F u' = some v'') (hm : It.blk b cs E ∈ H) (hl : cs.length = s) (hvv : Value.tuple #[.agg cs.toArray, v', v''] = v) : givesQ P w n fn v e F H :=
  givesQ_mk he fun _ _ ha hw => by subst hvv; exact resultsCTT h ha hv hv' hv'' hw hm hl
end SL
/-- What the search gives, in the program and in the reference. -/
def smVI : Option (Option GridB) → Value
  | none => .tuple #[.agg (gv 0 Z8 Z8).toArray, .int .i64 3]
  | some none => .tuple #[.agg (gv 0 Z8 Z8).toArray, .int .i64 4]
  | some (some m) => .tuple #[.agg (encG m).toArray, .int .i64 0]
def smVS : Option (Option GridB) → Value
  | none => .tuple #[.agg (gv 0 Z8 Z8).toArray, .bool false, .int .i64 3]
  | some none => .tuple #[.agg (gv 0 Z8 Z8).toArray, .bool false, .int .i64 0]
  | some (some m) => .tuple #[.agg (encG m).toArray, .bool true, .int .i64 0]
theorem kp_hit {p m : GridB} {q q' : RSt} (e : q'.1 = q.1 ++ q'.2) (hq : ∀ x ∈ q.1, p.1.1 ≤ x.1.1) (h : isLeast (kp p q'.2) m) : m ∈ q'.1 ∧ (∀ y ∈ q'.1, rkG m ≤ rkG y) ∧ m.1.1 < p.1.1 := by
  obtain ⟨h1, h2⟩ := kp_mem.1 h.1
  refine ⟨by rw [e]; exact List.mem_append.2 (.inr h1), fun y hy => ?_, h2⟩
  by_cases hy2 : y.1.1 < p.1.1
  · rw [e] at hy
    rcases List.mem_append.1 hy with hy | hy
    · have := hq y hy; omega
    · exact h.2 y (kp_mem.2 ⟨hy, hy2⟩)
  · exact Int.le_of_lt (size_lt (by omega))
theorem kp_miss {p : GridB} {q q' : RSt} (e : q'.1 = q.1 ++ q'.2) (hq : ∀ x ∈ q.1, p.1.1 ≤ x.1.1) (h : ¬ 0 < (kp p q'.2).length) : ∀ x ∈ q'.1, p.1.1 ≤ x.1.1 := fun x hx => by
  by_cases hlt : x.1.1 < p.1.1
  · rw [e] at hx
    rcases List.mem_append.1 hx with hx | hx
    · exact hq x hx
    · exact absurd (List.length_pos_of_mem (kp_mem.2 ⟨hx, hlt⟩)) h
  · omega
set_option maxRecDepth 100000 in
theorem ismall_gives {p : GridB} (hp : okB p) (hc : canB p = p) (w : World) : Gives Try.prog 40 #[.agg (encG p).toArray] (smVI (smF p 6 0)) w := by
  have up := encG_len p
  have h1 : ∀ x : GridB, ∀ u ∈ encG x, u.oneCell' = true := fun x => gv_one _ _ _
  have lZ : Z8.length = 8 := rfl
  have uz := gv_len (n := 0) lZ lZ
  refine gives_of (args := [.agg (encG p).toArray]) [(0, .agg (encG p).toArray)] [] Try.func40 rfl Try.ntmps40 rfl (argsF_cons rfl argsF_nil) (Holds.start w) ?_
  repeat' (first | (apply JcN (N := stR (canB p)); exact rfl; exact rfl; exact rfl; infer_instance; (intro w _; exact start_gives hp w); exact stR_mine; (intro v its h; obtain ⟨b, bm, u, rfl, rfl⟩ := h; refine J_app3 ?_)) | (apply Jq_move; exact rfl; exact rfl) | (apply Jq_assign; exact rfl; exact rfl) | (apply Jq_loadW; exact rfl; exact rfl; (exact mb); (omega)) | (apply J_box; exact rfl; exact rfl; exact rfl; (intro _)) | (apply J_alloc (cs := gv 0 Z8 Z8); exact rfl; exact rfl; (intro _)) | refine thenQ_normal ?_ | refine JC_seq ?_ | refine JC_region ?_ | refine J_nil ?_ | refine JC_block ?_)
  rename_i b1 b2
  rw [hc]
  refine JC_loop (X := Nat × Value × RSt) (fun x => x.1 ≤ 6 ∧ rnds p x.1 = some x.2.2 ∧ smF p 6 0 = smF p (6 - x.1) x.1 ∧ ∀ y ∈ x.2.2.1, p.1.1 ≤ y.1.1)
    (fun x => [(8, .int .i64 (x.1 : Int)), (4, .pointer (some ⟨b, 0, none⟩)), (2, .pointer (some ⟨b2, 0, none⟩)), (1, .pointer (some ⟨b1, 0, none⟩))]) (fun x => [.blk b [.map (some bm), x.2.1] 54, .obj bm (mapO (encM grV uV (mp x.2.2.1))), .row x.2.1 27 17 (x.2.2.2.flatMap encG), .blk b2 (gv 0 Z8 Z8) 27, .blk b1 (encG p) 27]) (fun x => 6 - x.1)
    (0, u, ([p], [p])) ⟨Nat.zero_le _, rfl, rfl, fun y hy => by obtain rfl := List.mem_singleton.1 hy; exact Int.le_refl _⟩ ?_ ?_
  · dsimp only
    (refine entP (ent ?_ (List.nil_sublist _)) ?_; (repeat refine fr_cons rfl ?_); exact fr_nil; (repeat (exact sp_refl)))
  · clear u
    rintro ⟨j, u, q⟩ ⟨hj, hq, hd, hn⟩
    dsimp only at hj hq hd hn ⊢
    have hri := rnds_RI hp hq
    by_cases hlt : j < 6
    · have e6 : 6 - j = (6 - (j + 1)) + 1 := by omega
      rw [e6] at hd
      have hle : ∀ q', rnd q = some q' → q'.2.length ≤ 1000000 := fun q' h => by
        have h1 := rnds_RI hp (k := j + 1) (by rw [rnds_succ hq]; exact h)
        have := h1.le
        have := h1.fl
        omega
      repeat' (first | (apply JcE; exact rfl; exact rfl; exact rfl; infer_instance; (exact rnext_gives q hri); (intro v' H' hV; rcases hV with ⟨hf, rfl, rfl⟩ | ⟨q', v2, hq', rfl, rfl⟩)) | (apply JcE; exact rfl; exact rfl; exact rfl; infer_instance; (exact clone_gives q'.2 (by simp) (hle q' hq')); (intro v3 H' hV; subst hV)) | (apply Jq_fun1; exact rfl; exact rfl) | (apply JcE; exact rfl; exact rfl; exact rfl; infer_instance; (exact delf_gives (b := b1) q'.2 p (mS (mS (mS (mS m0)))) (hle q' hq')); (intro v4 H' hV; subst hV; have lk := flat_len (kp p q'.2); have hkl := Nat.le_trans (kp_len p q'.2) (hle q' hq'))) | (apply Jq_lenRs; exact rfl; exact rfl; exact rb; exact lk; decide) | (apply JcE; exact rfl; exact rfl; exact rfl; infer_instance; (exact minf_gives (kp p q'.2) m0 (by omega) hkl); (intro v5 H' hV; obtain ⟨rfl, m, hm, rfl⟩ := hV; have um := encG_len m)) | (apply Jq_move; exact rfl; exact rfl) | (apply Jq_assign; exact rfl; exact rfl) | (apply Jq_load; exact rfl; exact rfl; (exact mb); (exact rfl)) | (apply Jq_fieldAddr; exact rfl; exact rfl) | (apply Jq_cmp; exact rfl; exact rfl; exact rfl; exact rfl) | (apply Jq_add; exact rfl; exact rfl; exact rfl; omega) | (apply Jq_not; exact rfl; exact rfl) | (apply J_sW; exact rfl; exact rfl; infer_instance; (exact rfl); (first | exact rfl | omega); (first | exact ones_of rfl | exact gv_one _ _ _); infer_instance) | (apply Jq_nilCheck; exact rfl; exact rfl) | (apply Jz (cs := gv 0 Z8 Z8); exact rfl; exact rfl) | refine thenQ_normal ?_ | refine thenQ_ret ?_ | refine inBlockQ_normal ?_ | refine inBlockQ_ret ?_ | refine JC_seq ?_ | refine JC_region ?_ | refine J_nil ?_ | refine JC_block ?_ | refine JC_skip ?_ | refine JC_ret ?_ | (apply JC_if_true; exact rfl) | (apply JC_if_false; exact rfl) | (apply JC_dec_true; exact rfl; omega) | (refine JC_dec rfl (fun hpos => ?_) (fun hpos => ?_)))
      · have hR := hd.trans (smF_fail (by rw [rnds_succ hq]; exact hf))
        exact gCT (b := b2) rfl rfl rfl rfl m0 uz (by rw [hR]; rfl)
      · obtain ⟨k1, k2, k3⟩ := kp_hit (rnd_ext hq').1 hn hm
        have hR := hd.trans (smF_hit (by rw [rnds_succ hq]; exact hq') k1 k2 k3)
        exact gCT (b := b2) rfl rfl rfl rfl (mS (mS (mS (mS m0)))) um (by rw [hR]; rfl)
      · have k := kp_miss (rnd_ext hq').1 hn (by omega)
        have hR := hd.trans (smF_next (by rw [rnds_succ hq]; exact hq') k)
        refine ⟨(j + 1, v2, q'), ⟨by dsimp only; omega, by dsimp only; rw [rnds_succ hq]; exact hq', hR, k⟩, by dsimp only; omega, ?_⟩
        dsimp only
        (refine entP (ent ?_ (List.nil_sublist _)) ?_; (repeat refine fr_cons rfl ?_); exact fr_nil; (repeat (exact sp_end)))
    · obtain rfl : j = 6 := by omega
      repeat' (first | (apply Jq_assign; exact rfl; exact rfl) | (apply Jq_cmp; exact rfl; exact rfl; exact rfl; exact rfl) | (apply J_sW; exact rfl; exact rfl; infer_instance; (exact rfl); (exact rfl); (exact ones_of rfl); infer_instance) | (apply Jz (cs := gv 0 Z8 Z8); exact rfl; exact rfl) | refine thenQ_normal ?_ | refine thenQ_exit ?_ | refine inBlockQ_here ?_ | refine JC_seq ?_ | refine JC_region ?_ | refine J_nil ?_ | refine JC_ret ?_ | refine JC_exit ?_ | (apply JC_if_false; exact rfl))
      exact gCT (b := b2) rfl rfl rfl rfl (mS (mS (mS m0))) uz (by rw [hd]; rfl)
/-! The reference's. -/
namespace SL
instance (priority := low) MU_A {b : Nat} {H1 H2 : Hp} {cs cs' : List Value} {E : TypeId} : MU b (H1 ++ .blk b cs E :: H2) cs E cs' (H1 ++ .blk b cs' E :: H2) := ⟨H1, H2, rfl, rfl⟩
section
variable {P : Program} {B : Nat} {w0 : World} {n : Nat} {Q : Po} {F : Fr} {H : Hp} {ops : Array Oper} {l : List Oper} {ty : TypeId} {pos : String} {af : Array Edge} {d : Nat}
theorem Jq_ext30 {dr : Bool} {x : Operand} {a b c : Value} (hdn : Nat.blt d n = true) (hx : ev F x = some (.tuple #[a, b, c])) (kk : J dr P B w0 n ops Q l ((d, a) :: F) H) : J dr P B w0 n ops Q (⟨some d, .extract x 0, ty, pos, af, none⟩ :: l) F H := Jq_extract hdn hx rfl kk
theorem Jq_ext31 {dr : Bool} {x : Operand} {a b c : Value} (hdn : Nat.blt d n = true) (hx : ev F x = some (.tuple #[a, b, c])) (kk : J dr P B w0 n ops Q l ((d, b) :: F) H) : J dr P B w0 n ops Q (⟨some d, .extract x 1, ty, pos, af, none⟩ :: l) F H := Jq_extract hdn hx rfl kk
theorem Jq_ext32 {dr : Bool} {x : Operand} {a b c : Value} (hdn : Nat.blt d n = true) (hx : ev F x = some (.tuple #[a, b, c])) (kk : J dr P B w0 n ops Q l ((d, c) :: F) H) : J dr P B w0 n ops Q (⟨some d, .extract x 2, ty, pos, af, none⟩ :: l) F H := Jq_extract hdn hx rfl kk
end
end SL
theorem flat_0 {L : List GridB} {x : GridB} (h : L[0]? = some x) : (L.flatMap encG)[0]? = some (.int .i64 x.1.1) := by
  cases L with
  | nil => cases h
  | cons y t => cases h; rfl
theorem ascG_head {L : List GridB} {x : GridB} (ha : Asc rkG L) (h : L[0]? = some x) : ∀ y ∈ L, rkG x ≤ rkG y := by
  cases L with
  | nil => cases h
  | cons z t =>
    cases h
    intro y hy
    rcases List.mem_cons.1 hy with rfl | hy
    · exact Int.le_refl _
    · exact Int.le_of_lt ((List.pairwise_cons.1 ha).1 y hy)
set_option maxRecDepth 100000 in
theorem lsmall_gives {p : GridB} (hp : okB p) (w : World) : Gives Try.prog 58 #[.agg (encG p).toArray] (smVS (smF p 6 0)) w := by
  have up := encG_len p
  have h1 : ∀ x : GridB, ∀ u ∈ encG x, u.oneCell' = true := fun x => gv_one _ _ _
  have lZ : Z8.length = 8 := rfl
  have uz := gv_len (n := 0) lZ lZ
  have e1 : [p].flatMap encG = encG p := by simp
  have hs0 : (0 : Nat) < 17 := by decide
  have hs1 : (17 : Nat) ≤ 1000 := by decide
  refine gives_of (args := [.agg (encG p).toArray]) [(0, .agg (encG p).toArray)] [] Try.func58 rfl Try.ntmps58 rfl (argsF_cons rfl argsF_nil) (Holds.start w) ?_
  repeat' (first | (apply J_lit1s; exact rfl; exact rfl; exact up; exact hs0; exact hs1; (intro bl)) | (apply Jq_move; exact rfl; exact rfl) | (apply Jq_assign; exact rfl; exact rfl) | (apply Jq_loadW; exact rfl; exact rfl; (exact mb); (omega)) | (apply J_box; exact rfl; exact rfl; exact rfl; (intro _)) | (apply J_alloc (cs := gv 0 Z8 Z8); exact rfl; exact rfl; (intro _)) | refine thenQ_normal ?_ | refine JC_seq ?_ | refine JC_region ?_ | refine J_nil ?_ | refine JC_block ?_)
  rename_i b1 b2
  refine JC_loop (X := Nat × Value × List GridB × Value × RSt × Hp) (fun x => x.1 ≤ 6 ∧ rnds p x.1 = some x.2.2.2.2.1 ∧ smF p 6 0 = smF p (6 - x.1) x.1 ∧ (∀ y ∈ x.2.2.2.2.1.1, p.1.1 ≤ y.1.1) ∧ 0 < x.2.2.2.2.1.1.length ∧ Asc rkG x.2.2.1 ∧ (∀ y, y ∈ x.2.2.1 ↔ y ∈ x.2.2.2.2.1.1) ∧ x.2.2.1.length = x.2.2.2.2.1.1.length ∧ It.row x.2.1 27 17 (x.2.2.1.flatMap encG) ∈ x.2.2.2.2.2 ∧ It.row x.2.2.2.1 27 17 (x.2.2.2.2.1.2.flatMap encG) ∈ x.2.2.2.2.2 ∧ It.blk b1 (encG p) 27 ∈ x.2.2.2.2.2 ∧ It.blk b2 (gv 0 Z8 Z8) 27 ∈ x.2.2.2.2.2)
    (fun x => [(7, .int .i64 (x.1 : Int)), (5, x.2.1), (6, x.2.2.2.1), (2, .pointer (some ⟨b2, 0, none⟩)), (1, .pointer (some ⟨b1, 0, none⟩))]) (fun x => x.2.2.2.2.2) (fun x => 6 - x.1)
    (0, .slice (some ⟨bl, 0, none⟩) 1 1, [p], .slice (some ⟨bl, 0, none⟩) 1 1, ([p], [p]), [.row (.slice (some ⟨bl, 0, none⟩) 1 1) 27 17 (encG p), .blk b2 (gv 0 Z8 Z8) 27, .blk b1 (encG p) 27]) ⟨Nat.zero_le _, rfl, rfl, fun y hy => by obtain rfl := List.mem_singleton.1 hy; exact Int.le_refl _, Nat.one_pos, List.pairwise_singleton _ _, fun _ => Iff.rfl, rfl, by rw [e1]; exact m0, by dsimp only; rw [e1]; exact m0, mS (mS m0), mS m0⟩ ?_ ?_
  · dsimp only
    (refine entP (ent ?_ (List.nil_sublist _)) ?_; (repeat refine fr_cons rfl ?_); exact fr_nil; (repeat (exact sp_refl)))
  · rintro ⟨j, v, L, u, q, Hx⟩ ⟨hj, hq, hd, hn, hpos, ha, hm, hl, hv, hu, hb1, hb2⟩
    dsimp only at hj hq hd hn hpos ha hm hl hv hu hb1 hb2 ⊢
    have hri := rnds_RI hp hq
    have hle := hri.le
    have hfl := hri.fl
    have lq := flat_len q.2
    have iu : RB u Hx 27 17 (q.2.flatMap encG) := ⟨hu⟩
    by_cases hlt : j < 6
    · by_cases hf : 0 < q.2.length
      · have e6 : 6 - j = (6 - (j + 1)) + 1 := by omega
        rw [e6] at hd
        repeat' (first | (apply JcE; exact rfl; exact rfl; exact rfl; infer_instance; (exact round_gives q hri L ha hm hl hv hu); (intro v' H' hV; rcases hV with ⟨hf2, rfl, hs⟩ | ⟨q', v1, v2, L', Hy, hq', rfl, ha', hm', hl', rfl, hr1, hsub⟩; (obtain ⟨G1, G2, rfl⟩ := List.append_of_mem (hs _ hb2)); rotate_left; have h0 : 0 < L'.length := (by rw [hl', (rnd_ext hq').1, List.length_append]; omega); obtain ⟨x0, hx0⟩ : ∃ x, L'[0]? = some x := ⟨_, List.getElem?_eq_getElem h0⟩; have lL := flat_len L'; have ux := encG_len x0; have hz := flat_0 hx0; have f0 := flat_at0 (show 0 = 0 * 17 by omega) hx0; have hp1 := hsub _ hb1; (obtain ⟨G1, G2, rfl⟩ := List.append_of_mem (hsub _ hb2)); haveI iv1 : RB v1 _ 27 17 (L'.flatMap encG) := ⟨hr1⟩; haveI ib1 : MB b1 _ (encG p) 27 := ⟨hp1⟩)) | (apply Jq_ext30; exact rfl; exact rfl) | (apply Jq_ext31; exact rfl; exact rfl) | (apply Jq_ext32; exact rfl; exact rfl) | (apply Jq_indexRs (i := 0); exact rfl; exact rfl; exact rfl; exact rb; omega) | (apply Jq_loadR; exact rfl; exact rfl; exact rb; exact hz) | (apply Jq_loadRA; exact rfl; exact rfl; exact rb; exact f0; exact ux; decide) | (apply JC_draw mixed; kernel_rfl) | (apply Jq_move; exact rfl; exact rfl) | (apply Jq_assign; exact rfl; exact rfl) | (apply Jq_load; exact rfl; exact rfl; (exact mb); (exact rfl)) | (apply Jq_fieldAddr; exact rfl; exact rfl) | (apply Jq_cmp; exact rfl; exact rfl; exact rfl; exact rfl) | (apply Jq_add; exact rfl; exact rfl; exact rfl; omega) | (apply Jq_not; exact rfl; exact rfl) | (apply Jq_pick_true; exact rfl; exact rfl; exact rfl) | (apply J_on; exact rfl; exact rfl) | (apply J_sW; exact rfl; exact rfl; infer_instance; (exact rfl); (first | exact rfl | omega); (first | exact ones_of rfl | exact gv_one _ _ _); infer_instance) | (apply Jq_lenRs; exact rfl; exact rfl; (exact rb); exact lq; decide) | (apply Jz (cs := gv 0 Z8 Z8); exact rfl; exact rfl) | refine thenQ_normal ?_ | refine thenQ_ret ?_ | refine inBlockQ_normal ?_ | refine inBlockQ_ret ?_ | refine JC_seq ?_ | refine JC_region ?_ | refine J_nil ?_ | refine JC_block ?_ | refine JC_skip ?_ | refine JC_ret ?_ | (apply JC_if_true; exact rfl) | (apply JC_if_false; exact rfl) | (apply JC_dec_true; exact rfl; omega) | (apply J_gdT; exact rfl; exact rfl; omega) | (refine JC_dec rfl (fun hsz => ?_) (fun hsz => ?_)))
        · have k1 : x0 ∈ q'.1 := (hm' _).1 (List.mem_of_getElem? hx0)
          have k2 : ∀ y ∈ q'.1, rkG x0 ≤ rkG y := fun y hy => ascG_head ha' hx0 y ((hm' _).2 hy)
          have hR := hd.trans (smF_hit (by rw [rnds_succ hq]; exact hq') k1 k2 hsz)
          exact gCTT (b := b2) rfl rfl rfl rfl rfl mb ux (by rw [hR]; rfl)
        · have k : ∀ x ∈ q'.1, p.1.1 ≤ x.1.1 := fun x hx => by
            have := size_le (ascG_head ha' hx0 x ((hm' _).2 hx))
            omega
          have hR := hd.trans (smF_next (by rw [rnds_succ hq]; exact hq') k)
          have hb2' := hsub _ hb2
          refine ⟨(j + 1, v1, L', v2, q', .row v2 27 17 (q'.2.flatMap encG) :: (G1 ++ It.blk b2 (gv 0 Z8 Z8) 27 :: G2)), ⟨by dsimp only; omega, by dsimp only; rw [rnds_succ hq]; exact hq', hR, k, by dsimp only; omega, ha', hm', hl', mS hr1, m0, mS hp1, mS hb2'⟩, by dsimp only; omega, ?_⟩
          dsimp only
          (refine entP (ent ?_ (List.nil_sublist _)) ?_; (repeat refine fr_cons rfl ?_); exact fr_nil; (repeat (exact sp_refl)))
        · have hR := hd.trans (smF_fail (by rw [rnds_succ hq]; exact hf2))
          exact gCTT (b := b2) rfl rfl rfl rfl rfl mb uz (by rw [hR]; rfl)
      · have hq0 : q = (q.1, []) := Prod.ext rfl (List.eq_nil_of_length_eq_zero (by omega))
        have hR := hd.trans (smF_stop hn (by rw [← hq0]; exact hq))
        obtain ⟨G1, G2, rfl⟩ := List.append_of_mem hb2
        repeat' (first | (apply Jq_move; exact rfl; exact rfl) | (apply Jq_assign; exact rfl; exact rfl) | (apply Jq_cmp; exact rfl; exact rfl; exact rfl; exact rfl) | (apply Jq_pick_true; exact rfl; exact rfl; exact rfl) | (apply J_on; exact rfl; exact rfl) | (apply J_sW; exact rfl; exact rfl; infer_instance; (exact rfl); (exact rfl); (exact ones_of rfl); infer_instance) | (apply Jq_lenRs; exact rfl; exact rfl; (exact rb); exact lq; decide) | (apply Jz (cs := gv 0 Z8 Z8); exact rfl; exact rfl) | refine thenQ_normal ?_ | refine thenQ_exit ?_ | refine inBlockQ_here ?_ | refine JC_seq ?_ | refine JC_region ?_ | refine J_nil ?_ | refine JC_ret ?_ | refine JC_exit ?_ | (apply JC_dec_false; exact rfl; omega) | (apply J_gdT; exact rfl; exact rfl; omega))
        exact gCTT (b := b2) rfl rfl rfl rfl rfl mb uz (by rw [hR]; rfl)
    · obtain rfl : j = 6 := by omega
      obtain ⟨G1, G2, rfl⟩ := List.append_of_mem hb2
      repeat' (first | (apply Jq_move; exact rfl; exact rfl) | (apply Jq_assign; exact rfl; exact rfl) | (apply Jq_cmp; exact rfl; exact rfl; exact rfl; exact rfl) | (apply Jq_pick_false; exact rfl; exact rfl; exact rfl) | (apply J_skip; exact rfl; exact rfl; exact rfl; exact rfl) | (apply J_sW; exact rfl; exact rfl; infer_instance; (exact rfl); (exact rfl); (exact ones_of rfl); infer_instance) | (apply Jz (cs := gv 0 Z8 Z8); exact rfl; exact rfl) | refine thenQ_normal ?_ | refine thenQ_exit ?_ | refine inBlockQ_here ?_ | refine JC_seq ?_ | refine JC_region ?_ | refine J_nil ?_ | refine JC_ret ?_ | refine JC_exit ?_ | (apply JC_if_false; exact rfl))
      exact gCTT (b := b2) rfl rfl rfl rfl rfl mb uz (by rw [hd]; rfl)
/-! Grids made simple. -/
def siV : Option GridB → Value
  | none => .tuple #[.agg (gv 0 Z8 Z8).toArray, .int .i64 3]
  | some m => .tuple #[.agg (encG m).toArray, .int .i64 0]
def lsV : Option GridB → Value
  | none => .tuple #[.int .i64 0, .int .i64 3]
  | some m => .tuple #[.int .i64 m.1.1, .int .i64 0]
theorem okB_size {p : GridB} (h : okB p) : 2 ≤ p.1.1 ∧ p.1.1 ≤ 8 := h.1
set_option maxRecDepth 100000 in
theorem lsimple_gives {p : GridB} (hp : okB p) (w : World) : Gives Try.prog 39 #[.agg (encG p).toArray] (siV (simF 9 (canB p))) w := by
  have up := encG_len p
  have uc := encG_len (canB p)
  have hcan := canB_spec hp
  have h8 := okB_size hcan.1
  have h1 : ∀ x : GridB, ∀ u ∈ encG x, u.oneCell' = true := fun x => gv_one _ _ _
  have lZ : Z8.length = 8 := rfl
  have uz := gv_len (n := 0) lZ lZ
  refine gives_of (args := [.agg (encG p).toArray]) [(0, .agg (encG p).toArray)] [] Try.func39 rfl Try.ntmps39 rfl (argsF_cons rfl argsF_nil) (Holds.start w) ?_
  repeat' (first | (apply Jq_assign; exact rfl; exact rfl) | (apply Jc; exact rfl; exact rfl; exact rfl; infer_instance; ((intro w hw); exact hcan.2.2 w)) | (apply Jq_loadW; exact rfl; exact rfl; (exact mb); (omega)) | (apply J_sW; exact rfl; exact rfl; infer_instance; (exact rfl); (omega); (exact gv_one _ _ _); infer_instance) | (apply J_box; exact rfl; exact rfl; exact rfl; (intro _)) | (apply J_alloc (cs := gv 0 Z8 Z8); exact rfl; exact rfl; (intro _)) | refine thenQ_normal ?_ | refine JC_seq ?_ | refine JC_region ?_ | refine J_nil ?_ | refine JC_block ?_)
  rename_i b1 b2 b4
  refine JC_loop (X := GridB × Nat) (fun x => okB x.1 ∧ canB x.1 = x.1 ∧ simF 9 (canB p) = simF x.2 x.1 ∧ x.1.1.1 ≤ (x.2 : Int)) (fun x => [(4, .pointer (some ⟨b4, 0, none⟩)), (2, .pointer (some ⟨b2, 0, none⟩))]) (fun x => [.blk b4 (encG x.1) 27, .blk b2 (gv 0 Z8 Z8) 27]) (fun x => x.2) (canB p, 9) ⟨hcan.1, canB_idem hp, rfl, by dsimp only; omega⟩ ?_ ?_
  · dsimp only
    (refine entP (ent ?_ (List.nil_sublist _)) ?_; (repeat refine fr_cons rfl ?_); exact fr_nil; (repeat (first | exact sp_nil | (with_reducible apply sp0))))
  · rintro ⟨x, f⟩ ⟨hx, hc, hs, hf⟩
    dsimp only at hx hc hs hf ⊢
    have hx2 := okB_size hx
    have ux := encG_len x
    have hsm := fun w => lsmall_gives hx w
    obtain ⟨f, rfl⟩ : ∃ g, f = g + 1 := ⟨f - 1, by omega⟩
    cases hr : smF x 6 0 with
    | none =>
      rw [hr] at hsm
      unfold smVS at hsm
      dsimp only at hsm
      repeat' (first | (apply Jq_ext30; exact rfl; exact rfl) | (apply Jq_ext31; exact rfl; exact rfl) | (apply Jq_ext32; exact rfl; exact rfl) | (apply Jq_move; exact rfl; exact rfl) | (apply Jq_assign; exact rfl; exact rfl) | (apply Jq_cmp; exact rfl; exact rfl; exact rfl; exact rfl) | (apply Jc; exact rfl; exact rfl; exact rfl; infer_instance; ((intro w hw); exact hsm w)) | (apply Jq_loadW; exact rfl; exact rfl; (exact mb); (omega)) | (apply J_sW; exact rfl; exact rfl; infer_instance; (exact rfl); (exact rfl); (exact ones_of rfl); infer_instance) | (apply J_alloc (cs := gv 0 Z8 Z8); exact rfl; exact rfl; (intro _)) | (apply Jz (cs := gv 0 Z8 Z8); exact rfl; exact rfl) | refine thenQ_normal ?_ | refine thenQ_ret ?_ | refine inBlockQ_ret ?_ | refine JC_seq ?_ | refine JC_region ?_ | refine J_nil ?_ | refine JC_block ?_ | refine JC_ret ?_ | (apply JC_if_true; exact rfl))
      exact gCT (b := b2) rfl rfl rfl rfl mb uz (by rw [hs, simF_lim hr]; rfl)
    | some r =>
      cases r with
      | none =>
        rw [hr] at hsm
        unfold smVS at hsm
        dsimp only at hsm
        repeat' (first | (apply Jq_ext30; exact rfl; exact rfl) | (apply Jq_ext31; exact rfl; exact rfl) | (apply Jq_ext32; exact rfl; exact rfl) | (apply Jq_move; exact rfl; exact rfl) | (apply Jq_assign; exact rfl; exact rfl) | (apply Jq_cmp; exact rfl; exact rfl; exact rfl; exact rfl) | (apply Jq_not; exact rfl; exact rfl) | (apply Jc; exact rfl; exact rfl; exact rfl; infer_instance; ((intro w hw); exact hsm w)) | (apply Jq_loadW; exact rfl; exact rfl; (exact mb); (omega)) | (apply J_sW; exact rfl; exact rfl; infer_instance; (exact rfl); (first | exact rfl | omega); (first | exact ones_of rfl | exact gv_one _ _ _); infer_instance) | (apply J_alloc (cs := gv 0 Z8 Z8); exact rfl; exact rfl; (intro _)) | refine thenQ_normal ?_ | refine thenQ_ret ?_ | refine inBlockQ_ret ?_ | refine JC_seq ?_ | refine JC_region ?_ | refine J_nil ?_ | refine JC_block ?_ | refine JC_skip ?_ | refine JC_ret ?_ | (apply JC_if_true; exact rfl) | (apply JC_if_false; exact rfl))
        exact gCT (b := b2) rfl rfl rfl rfl mb ux (by rw [hs, simF_done hr]; rfl)
      | some m =>
        rw [hr] at hsm
        unfold smVS at hsm
        dsimp only at hsm
        have um := encG_len m
        have hk := smF_spec hx hc hr
        repeat' (first | (apply Jq_ext30; exact rfl; exact rfl) | (apply Jq_ext31; exact rfl; exact rfl) | (apply Jq_ext32; exact rfl; exact rfl) | (apply Jq_move; exact rfl; exact rfl) | (apply Jq_assign; exact rfl; exact rfl) | (apply Jq_cmp; exact rfl; exact rfl; exact rfl; exact rfl) | (apply Jq_not; exact rfl; exact rfl) | (apply Jc; exact rfl; exact rfl; exact rfl; infer_instance; ((intro w hw); exact hsm w)) | (apply Jq_loadW; exact rfl; exact rfl; (exact mb); (omega)) | (apply J_sW; exact rfl; exact rfl; infer_instance; (first | exact rfl | omega); (omega); (exact gv_one _ _ _); infer_instance) | (apply J_alloc (cs := gv 0 Z8 Z8); exact rfl; exact rfl; (intro _)) | refine thenQ_normal ?_ | refine inBlockQ_normal ?_ | refine JC_seq ?_ | refine JC_region ?_ | refine J_nil ?_ | refine JC_block ?_ | refine JC_skip ?_ | (apply JC_if_false; exact rfl))
        refine ⟨(m, f), ⟨hk.1, hk.2.1, hs.trans (simF_step hr), by dsimp only; omega⟩, by dsimp only; omega, ?_⟩
        dsimp only
        (refine entP (ent ?_ (List.nil_sublist _)) ?_; (repeat refine fr_cons rfl ?_); exact fr_nil; (repeat (exact sp_end)))
set_option maxRecDepth 100000 in
theorem iSG_good {p : GridB} (hp : okB p) (w : World) : Gives Try.prog 21 #[.agg (encG p).toArray] (siV (simF 9 (canB p))) w := by
  have up := encG_len p
  have uc := encG_len (canB p)
  have hcan := canB_spec hp
  have h8 := okB_size hcan.1
  have g : okG p.1.1 p.1.2.1 p.1.2.2 := hp
  have h1 : ∀ x : GridB, ∀ u ∈ encG x, u.oneCell' = true := fun x => gv_one _ _ _
  have lZ : Z8.length = 8 := rfl
  have uz := gv_len (n := 0) lZ lZ
  refine gives_of (args := [.agg (encG p).toArray]) [(0, .agg (encG p).toArray)] [] Try.func21 rfl Try.ntmps21 rfl (argsF_cons rfl argsF_nil) (Holds.start w) ?_
  repeat' (first | (apply JC_ndec_false; exact rfl; exact g) | (apply Jq_assign; exact rfl; exact rfl) | (apply Jq_not; exact rfl; exact rfl) | (apply Jc; exact rfl; exact rfl; exact rfl; infer_instance; ((intro w hw); first | exact IsGrid_gives p.1.1 p.1.2.1 p.1.2.2 p.2.1 p.2.2 w | exact hcan.2.1 w)) | (apply Jq_loadW; exact rfl; exact rfl; (exact mb); (omega)) | (apply J_sW; exact rfl; exact rfl; infer_instance; (exact rfl); (omega); (exact gv_one _ _ _); infer_instance) | (apply J_box; exact rfl; exact rfl; exact rfl; (intro _)) | (apply J_alloc (cs := gv 0 Z8 Z8); exact rfl; exact rfl; (intro _)) | refine thenQ_normal ?_ | refine JC_seq ?_ | refine JC_region ?_ | refine J_nil ?_ | refine JC_block ?_ | refine JC_skip ?_)
  rename_i b1 b2 b4
  refine JC_loop (X := GridB × Nat × Nat) (fun x => okB x.1 ∧ canB x.1 = x.1 ∧ simF 9 (canB p) = simF x.2.1 x.1 ∧ x.1.1.1 ≤ (x.2.1 : Int)) (fun x => [(4, .pointer (some ⟨x.2.2, 0, none⟩)), (2, .pointer (some ⟨b2, 0, none⟩))]) (fun x => [.blk x.2.2 (encG x.1) 27, .blk b2 (gv 0 Z8 Z8) 27]) (fun x => x.2.1) (canB p, 9, b4) ⟨hcan.1, canB_idem hp, rfl, by dsimp only; omega⟩ ?_ ?_
  · dsimp only
    (refine entP (ent ?_ (List.nil_sublist _)) ?_; (repeat refine fr_cons rfl ?_); exact fr_nil; (repeat (first | exact sp_nil | (with_reducible apply sp0))))
  · rintro ⟨x, f, b⟩ ⟨hx, hc, hs, hf⟩
    dsimp only at hx hc hs hf ⊢
    have hx2 := okB_size hx
    have ux := encG_len x
    have hsm := fun w => ismall_gives hx hc w
    obtain ⟨f, rfl⟩ : ∃ g, f = g + 1 := ⟨f - 1, by omega⟩
    cases hr : smF x 6 0 with
    | none =>
      rw [hr] at hsm
      unfold smVI at hsm
      dsimp only at hsm
      repeat' (first | (apply Jq_move; exact rfl; exact rfl) | (apply Jq_assign; exact rfl; exact rfl) | (apply Jq_cmp; exact rfl; exact rfl; exact rfl; exact rfl) | (apply Jc; exact rfl; exact rfl; exact rfl; infer_instance; ((intro w hw); exact hsm w)) | (apply Jq_loadW; exact rfl; exact rfl; (exact mb); (omega)) | (apply J_sW; exact rfl; exact rfl; infer_instance; (exact rfl); (exact rfl); (exact ones_of rfl); infer_instance) | (apply Jq_ext20; exact rfl; exact rfl) | (apply Jq_ext21; exact rfl; exact rfl) | (apply J_alloc (cs := gv 0 Z8 Z8); exact rfl; exact rfl; (intro _)) | (apply Jz (cs := gv 0 Z8 Z8); exact rfl; exact rfl) | refine thenQ_normal ?_ | refine thenQ_ret ?_ | refine inBlockQ_ret ?_ | refine JC_seq ?_ | refine JC_region ?_ | refine J_nil ?_ | refine JC_block ?_ | refine JC_ret ?_ | (apply JC_if_false; exact rfl))
      exact gCT (b := b2) rfl rfl rfl rfl mb uz (by rw [hs, simF_lim hr]; rfl)
    | some r =>
      cases r with
      | none =>
        rw [hr] at hsm
        unfold smVI at hsm
        dsimp only at hsm
        repeat' (first | (apply Jq_move; exact rfl; exact rfl) | (apply Jq_assign; exact rfl; exact rfl) | (apply Jq_cmp; exact rfl; exact rfl; exact rfl; exact rfl) | (apply Jc; exact rfl; exact rfl; exact rfl; infer_instance; ((intro w hw); exact hsm w)) | (apply Jq_loadW; exact rfl; exact rfl; (exact mb); (omega)) | (apply J_sW; exact rfl; exact rfl; infer_instance; (exact rfl); (first | exact rfl | omega); (first | exact ones_of rfl | exact gv_one _ _ _); infer_instance) | (apply Jq_ext20; exact rfl; exact rfl) | (apply Jq_ext21; exact rfl; exact rfl) | (apply J_alloc (cs := gv 0 Z8 Z8); exact rfl; exact rfl; (intro _)) | refine thenQ_normal ?_ | refine thenQ_ret ?_ | refine inBlockQ_ret ?_ | refine JC_seq ?_ | refine JC_region ?_ | refine J_nil ?_ | refine JC_block ?_ | refine JC_ret ?_ | (apply JC_if_true; exact rfl) | (apply JC_if_false; exact rfl))
        exact gCT (b := b2) rfl rfl rfl rfl mb ux (by rw [hs, simF_done hr]; rfl)
      | some m =>
        rw [hr] at hsm
        unfold smVI at hsm
        dsimp only at hsm
        have um := encG_len m
        have hk := smF_spec hx hc hr
        repeat' (first | (apply Jq_move; exact rfl; exact rfl) | (apply Jq_assign; exact rfl; exact rfl) | (apply Jq_cmp; exact rfl; exact rfl; exact rfl; exact rfl) | (apply Jc; exact rfl; exact rfl; exact rfl; infer_instance; ((intro w hw); exact hsm w)) | (apply Jq_loadW; exact rfl; exact rfl; (exact mb); (omega)) | (apply J_sW; exact rfl; exact rfl; infer_instance; (first | exact rfl | omega); (omega); (exact gv_one _ _ _); infer_instance) | (apply Jq_ext20; exact rfl; exact rfl) | (apply Jq_ext21; exact rfl; exact rfl) | (apply J_alloc (cs := gv 0 Z8 Z8); exact rfl; exact rfl; (intro _)) | refine thenQ_normal ?_ | refine inBlockQ_normal ?_ | refine JC_seq ?_ | refine JC_region ?_ | refine J_nil ?_ | refine JC_block ?_ | (apply JC_if_true; exact rfl))
        rename_i b5 b6
        refine ⟨(m, f, b6), ⟨hk.1, hk.2.1, hs.trans (simF_step hr), by dsimp only; omega⟩, by dsimp only; omega, ?_⟩
        dsimp only
        (refine entP (ent ?_ (List.nil_sublist _)) ?_; (repeat refine fr_cons rfl ?_); exact fr_nil; (repeat (first | exact sp_end | (with_reducible apply sp0))))
set_option maxRecDepth 100000 in
theorem SG_bad (n : Int) (X O : List Nat) (bX : isB X) (bO : isB O) (g : ¬ okG n X O) :
    (∀ w, Gives Try.prog 20 #[.agg (gv n X O).toArray] (.tuple #[.agg (gv 0 Z8 Z8).toArray, .int .i64 1]) w) ∧ (∀ w, Gives Try.prog 21 #[.agg (gv n X O).toArray] (.tuple #[.agg (gv 0 Z8 Z8).toArray, .int .i64 1]) w) := by
  have ug := gv_len (n := n) bX.1 bO.1
  have lZ : Z8.length = 8 := rfl
  have uz := gv_len (n := 0) lZ lZ
  refine ⟨fun w => ?_, fun w => ?_⟩
  · refine gives_of (args := [.agg (gv n X O).toArray]) [(0, .agg (gv n X O).toArray)] [] Try.func20 rfl Try.ntmps20 rfl (argsF_cons rfl argsF_nil) (Holds.start w) ?_
    repeat' (first | (apply Jq_assign; exact rfl; exact rfl) | (apply Jq_not; exact rfl; exact rfl) | (apply Jc; exact rfl; exact rfl; exact rfl; infer_instance; ((intro w hw); exact l01Is_gives n X O bX bO w)) | (apply Jq_loadW; exact rfl; exact rfl; (exact mb); (omega)) | (apply J_sW; exact rfl; exact rfl; infer_instance; (exact rfl); (exact rfl); (exact ones_of rfl); infer_instance) | (apply J_box; exact rfl; exact rfl; exact rfl; (intro _)) | (apply J_alloc (cs := gv 0 Z8 Z8); exact rfl; exact rfl; (intro _)) | (apply Jz (cs := gv 0 Z8 Z8); exact rfl; exact rfl) | refine thenQ_normal ?_ | refine thenQ_ret ?_ | refine JC_seq ?_ | refine JC_region ?_ | refine J_nil ?_ | refine JC_ret ?_ | (apply JC_ndec_true; exact rfl; omega))
    exact gCT rfl rfl rfl rfl (.head _) (by omega) rfl
  · refine gives_of (args := [.agg (gv n X O).toArray]) [(0, .agg (gv n X O).toArray)] [] Try.func21 rfl Try.ntmps21 rfl (argsF_cons rfl argsF_nil) (Holds.start w) ?_
    repeat' (first | (apply Jq_assign; exact rfl; exact rfl) | (apply Jq_not; exact rfl; exact rfl) | (apply Jc; exact rfl; exact rfl; exact rfl; infer_instance; ((intro w hw); exact IsGrid_gives n X O bX bO w)) | (apply Jq_loadW; exact rfl; exact rfl; (exact mb); (omega)) | (apply J_sW; exact rfl; exact rfl; infer_instance; (exact rfl); (exact rfl); (exact ones_of rfl); infer_instance) | (apply J_box; exact rfl; exact rfl; exact rfl; (intro _)) | (apply J_alloc (cs := gv 0 Z8 Z8); exact rfl; exact rfl; (intro _)) | (apply Jz (cs := gv 0 Z8 Z8); exact rfl; exact rfl) | refine thenQ_normal ?_ | refine thenQ_ret ?_ | refine JC_seq ?_ | refine JC_region ?_ | refine J_nil ?_ | refine JC_ret ?_ | (apply JC_ndec_true; exact rfl; omega))
    exact gCT rfl rfl rfl rfl (.head _) (by omega) rfl
set_option maxRecDepth 100000 in
theorem LS_bad (n : Int) (X O : List Nat) (bX : isB X) (bO : isB O) (g : ¬ okG n X O) :
    (∀ w, Gives Try.prog 18 #[.agg (gv n X O).toArray] (.tuple #[.int .i64 0, .int .i64 1]) w) ∧ (∀ w, Gives Try.prog 19 #[.agg (gv n X O).toArray] (.tuple #[.int .i64 0, .int .i64 1]) w) := by
  have ug := gv_len (n := n) bX.1 bO.1
  have lZ : Z8.length = 8 := rfl
  have uz := gv_len (n := 0) lZ lZ
  refine ⟨fun w => ?_, fun w => ?_⟩
  · refine gives_of (args := [.agg (gv n X O).toArray]) [(0, .agg (gv n X O).toArray)] [] Try.func18 rfl Try.ntmps18 rfl (argsF_cons rfl argsF_nil) (Holds.start w) ?_
    repeat' (first | (apply Jq_assign; exact rfl; exact rfl) | (apply Jq_not; exact rfl; exact rfl) | (apply Jc; exact rfl; exact rfl; exact rfl; infer_instance; ((intro w hw); exact l01Is_gives n X O bX bO w)) | (apply Jq_loadW; exact rfl; exact rfl; (exact mb); (omega)) | (apply J_box; exact rfl; exact rfl; exact rfl; (intro _)) | refine thenQ_normal ?_ | refine thenQ_ret ?_ | refine JC_seq ?_ | refine JC_region ?_ | refine J_nil ?_ | refine JC_ret ?_ | (apply JC_ndec_true; exact rfl; omega))
    exact g2 rfl rfl rfl rfl rfl
  · refine gives_of (args := [.agg (gv n X O).toArray]) [(0, .agg (gv n X O).toArray)] [] Try.func19 rfl Try.ntmps19 rfl (argsF_cons rfl argsF_nil) (Holds.start w) ?_
    repeat' (first | (apply Jq_move; exact rfl; exact rfl) | (apply Jq_assign; exact rfl; exact rfl) | (apply Jq_load; exact rfl; exact rfl; (exact mb); (exact rfl)) | (apply Jq_fieldAddr; exact rfl; exact rfl) | (apply Jc; exact rfl; exact rfl; exact rfl; infer_instance; ((intro w hw); exact (SG_bad n X O bX bO g).2 w)) | (apply Jq_loadW; exact rfl; exact rfl; (exact mb); (omega)) | (apply J_sW; exact rfl; exact rfl; infer_instance; (exact rfl); (exact rfl); (exact ones_of rfl); infer_instance) | (apply Jq_ext20; exact rfl; exact rfl) | (apply Jq_ext21; exact rfl; exact rfl) | (apply J_box; exact rfl; exact rfl; exact rfl; (intro _)) | (apply J_alloc (cs := gv 0 Z8 Z8); exact rfl; exact rfl; (intro _)) | refine thenQ_normal ?_ | refine JC_seq ?_ | refine JC_region ?_ | refine J_nil ?_ | refine JC_ret ?_)
    exact g2 rfl rfl rfl rfl rfl
set_option maxRecDepth 100000 in
theorem LS_good {p : GridB} (hp : okB p) :
    (∀ w, Gives Try.prog 18 #[.agg (encG p).toArray] (lsV (simF 9 (canB p))) w) ∧ (∀ w, Gives Try.prog 19 #[.agg (encG p).toArray] (lsV (simF 9 (canB p))) w) := by
  have up := encG_len p
  have g : okG p.1.1 p.1.2.1 p.1.2.2 := hp
  have h1 : ∀ x : GridB, ∀ u ∈ encG x, u.oneCell' = true := fun x => gv_one _ _ _
  have lZ : Z8.length = 8 := rfl
  have uz := gv_len (n := 0) lZ lZ
  have hs := fun w => lsimple_gives hp w
  have hi := fun w => iSG_good hp w
  generalize simF 9 (canB p) = r at hs hi ⊢
  cases r with
  | none =>
    unfold siV at hs hi
    unfold lsV
    dsimp only at hs hi ⊢
    refine ⟨fun w => ?_, fun w => ?_⟩
    · refine gives_of (args := [.agg (encG p).toArray]) [(0, .agg (encG p).toArray)] [] Try.func18 rfl Try.ntmps18 rfl (argsF_cons rfl argsF_nil) (Holds.start w) ?_
      repeat' (first | (apply JC_ndec_false; exact rfl; exact g) | (apply Jq_move; exact rfl; exact rfl) | (apply Jq_assign; exact rfl; exact rfl) | (apply Jq_load; exact rfl; exact rfl; (exact mb); (exact rfl)) | (apply Jq_fieldAddr; exact rfl; exact rfl) | (apply Jq_not; exact rfl; exact rfl) | (apply Jc; exact rfl; exact rfl; exact rfl; infer_instance; ((intro w hw); first | exact l01Is_gives p.1.1 p.1.2.1 p.1.2.2 p.2.1 p.2.2 w | exact hs w)) | (apply Jq_loadW; exact rfl; exact rfl; (exact mb); (omega)) | (apply J_sW; exact rfl; exact rfl; infer_instance; (exact rfl); (exact rfl); (exact ones_of rfl); infer_instance) | (apply Jq_ext20; exact rfl; exact rfl) | (apply Jq_ext21; exact rfl; exact rfl) | (apply J_box; exact rfl; exact rfl; exact rfl; (intro _)) | (apply J_alloc (cs := gv 0 Z8 Z8); exact rfl; exact rfl; (intro _)) | refine thenQ_normal ?_ | refine JC_seq ?_ | refine JC_region ?_ | refine J_nil ?_ | refine JC_skip ?_ | refine JC_ret ?_)
      exact g2 rfl rfl rfl rfl rfl
    · refine gives_of (args := [.agg (encG p).toArray]) [(0, .agg (encG p).toArray)] [] Try.func19 rfl Try.ntmps19 rfl (argsF_cons rfl argsF_nil) (Holds.start w) ?_
      repeat' (first | (apply Jq_move; exact rfl; exact rfl) | (apply Jq_assign; exact rfl; exact rfl) | (apply Jq_load; exact rfl; exact rfl; (exact mb); (exact rfl)) | (apply Jq_fieldAddr; exact rfl; exact rfl) | (apply Jc; exact rfl; exact rfl; exact rfl; infer_instance; ((intro w hw); exact hi w)) | (apply Jq_loadW; exact rfl; exact rfl; (exact mb); (omega)) | (apply J_sW; exact rfl; exact rfl; infer_instance; (exact rfl); (exact rfl); (exact ones_of rfl); infer_instance) | (apply Jq_ext20; exact rfl; exact rfl) | (apply Jq_ext21; exact rfl; exact rfl) | (apply J_box; exact rfl; exact rfl; exact rfl; (intro _)) | (apply J_alloc (cs := gv 0 Z8 Z8); exact rfl; exact rfl; (intro _)) | refine thenQ_normal ?_ | refine JC_seq ?_ | refine JC_region ?_ | refine J_nil ?_ | refine JC_ret ?_)
      exact g2 rfl rfl rfl rfl rfl
  | some m =>
    have um := encG_len m
    unfold siV at hs hi
    unfold lsV
    dsimp only at hs hi ⊢
    refine ⟨fun w => ?_, fun w => ?_⟩
    · refine gives_of (args := [.agg (encG p).toArray]) [(0, .agg (encG p).toArray)] [] Try.func18 rfl Try.ntmps18 rfl (argsF_cons rfl argsF_nil) (Holds.start w) ?_
      repeat' (first | (apply JC_ndec_false; exact rfl; exact g) | (apply Jq_move; exact rfl; exact rfl) | (apply Jq_assign; exact rfl; exact rfl) | (apply Jq_load; exact rfl; exact rfl; (exact mb); (exact rfl)) | (apply Jq_fieldAddr; exact rfl; exact rfl) | (apply Jq_not; exact rfl; exact rfl) | (apply Jc; exact rfl; exact rfl; exact rfl; infer_instance; ((intro w hw); first | exact l01Is_gives p.1.1 p.1.2.1 p.1.2.2 p.2.1 p.2.2 w | exact hs w)) | (apply Jq_loadW; exact rfl; exact rfl; (exact mb); (omega)) | (apply J_sW; exact rfl; exact rfl; infer_instance; (exact rfl); (omega); (exact gv_one _ _ _); infer_instance) | (apply Jq_ext20; exact rfl; exact rfl) | (apply Jq_ext21; exact rfl; exact rfl) | (apply J_box; exact rfl; exact rfl; exact rfl; (intro _)) | (apply J_alloc (cs := gv 0 Z8 Z8); exact rfl; exact rfl; (intro _)) | refine thenQ_normal ?_ | refine JC_seq ?_ | refine JC_region ?_ | refine J_nil ?_ | refine JC_skip ?_ | refine JC_ret ?_)
      exact g2 rfl rfl rfl rfl rfl
    · refine gives_of (args := [.agg (encG p).toArray]) [(0, .agg (encG p).toArray)] [] Try.func19 rfl Try.ntmps19 rfl (argsF_cons rfl argsF_nil) (Holds.start w) ?_
      repeat' (first | (apply Jq_move; exact rfl; exact rfl) | (apply Jq_assign; exact rfl; exact rfl) | (apply Jq_load; exact rfl; exact rfl; (exact mb); (exact rfl)) | (apply Jq_fieldAddr; exact rfl; exact rfl) | (apply Jc; exact rfl; exact rfl; exact rfl; infer_instance; ((intro w hw); exact hi w)) | (apply Jq_loadW; exact rfl; exact rfl; (exact mb); (omega)) | (apply J_sW; exact rfl; exact rfl; infer_instance; (exact rfl); (omega); (exact gv_one _ _ _); infer_instance) | (apply Jq_ext20; exact rfl; exact rfl) | (apply Jq_ext21; exact rfl; exact rfl) | (apply J_box; exact rfl; exact rfl; exact rfl; (intro _)) | (apply J_alloc (cs := gv 0 Z8 Z8); exact rfl; exact rfl; (intro _)) | refine thenQ_normal ?_ | refine JC_seq ?_ | refine JC_region ?_ | refine J_nil ?_ | refine JC_ret ?_)
      exact g2 rfl rfl rfl rfl rfl
set_option maxRecDepth 100000 in
theorem lawLeastSize_gives (n : Int) (X O : List Nat) (bX : isB X) (bO : isB O) (w : World) : Gives Try.prog 6 #[.agg (gv n X O).toArray] (.bool true) w := by
  have ug := gv_len (n := n) bX.1 bO.1
  refine gives_of (args := [.agg (gv n X O).toArray]) [(0, .agg (gv n X O).toArray)] [] Try.func6 rfl Try.ntmps6 rfl (argsF_cons rfl argsF_nil) (Holds.start w) ?_
  by_cases g : okG n X O
  · obtain ⟨hs, hi⟩ := LS_good (p := ⟨(n, X, O), bX, bO⟩) g
    generalize simF 9 _ = r at hs hi
    cases r with
    | none =>
      unfold lsV at hs hi
      dsimp only at hs hi
      repeat' (first | (apply Jq_move; exact rfl; exact rfl) | (apply Jq_assign; exact rfl; exact rfl) | (apply Jq_cmp; exact rfl; exact rfl; exact rfl; exact rfl) | (apply Jq_pick_false; exact rfl; exact rfl; exact rfl) | (apply J_on; exact rfl; exact rfl) | (apply Jc; exact rfl; exact rfl; exact rfl; infer_instance; ((intro w hw); first | exact toGrid_gives n X O bX.1 bO.1 w | exact hs w | exact hi w)) | (apply Jq_loadW; exact rfl; exact rfl; (exact mb); (omega)) | (apply Jq_ext20; exact rfl; exact rfl) | (apply Jq_ext21; exact rfl; exact rfl) | (apply J_box; exact rfl; exact rfl; exact rfl; (intro _)) | refine thenQ_normal ?_ | refine JC_seq ?_ | refine JC_region ?_ | refine J_nil ?_ | refine JC_skip ?_ | refine JC_ret ?_ | (apply JC_if_false; exact rfl))
      all_goals first | exact g1 rfl rfl rfl rfl | (rename_i hne; exact absurd rfl hne)
    | some m =>
      unfold lsV at hs hi
      dsimp only at hs hi
      repeat' (first | (apply Jq_move; exact rfl; exact rfl) | (apply Jq_assign; exact rfl; exact rfl) | (apply Jq_cmp; exact rfl; exact rfl; exact rfl; exact rfl) | (apply Jq_pick_false; exact rfl; exact rfl; exact rfl) | (apply J_on; exact rfl; exact rfl) | (apply Jc; exact rfl; exact rfl; exact rfl; infer_instance; ((intro w hw); first | exact toGrid_gives n X O bX.1 bO.1 w | exact hs w | exact hi w)) | (apply Jq_loadW; exact rfl; exact rfl; (exact mb); (omega)) | (apply Jq_ext20; exact rfl; exact rfl) | (apply Jq_ext21; exact rfl; exact rfl) | (apply J_box; exact rfl; exact rfl; exact rfl; (intro _)) | refine thenQ_normal ?_ | refine JC_seq ?_ | refine JC_region ?_ | refine J_nil ?_ | refine JC_skip ?_ | refine JC_ret ?_ | (apply JC_if_false; exact rfl) | (apply J_gnF; exact rfl; exact rfl; omega))
      all_goals exact g1 rfl rfl rfl rfl
  · obtain ⟨hs, hi⟩ := LS_bad n X O bX bO g
    repeat' (first | (apply Jq_move; exact rfl; exact rfl) | (apply Jq_assign; exact rfl; exact rfl) | (apply Jq_cmp; exact rfl; exact rfl; exact rfl; exact rfl) | (apply Jq_pick_false; exact rfl; exact rfl; exact rfl) | (apply J_on; exact rfl; exact rfl) | (apply Jc; exact rfl; exact rfl; exact rfl; infer_instance; ((intro w hw); first | exact toGrid_gives n X O bX.1 bO.1 w | exact hs w | exact hi w)) | (apply Jq_loadW; exact rfl; exact rfl; (exact mb); (omega)) | (apply Jq_ext20; exact rfl; exact rfl) | (apply Jq_ext21; exact rfl; exact rfl) | (apply J_box; exact rfl; exact rfl; exact rfl; (intro _)) | refine thenQ_normal ?_ | refine JC_seq ?_ | refine JC_region ?_ | refine J_nil ?_ | refine JC_skip ?_ | refine JC_ret ?_ | (apply JC_if_false; exact rfl))
    all_goals exact g1 rfl rfl rfl rfl
end Go.Proofs.Ytflleelfkknfaaa
