/- Walks: the rank of a grade in the reference and in the program; the law. -/
import Derived.Test.YtmbbcmebdefggaaDoorEF
import Derived.Test.YtmbbcmebdefggaaDoorEB
namespace Go.Proofs.YtmbbcmebdefggaaDoor
open Go Go.RowKit SL
theorem mem_imgsV {n : Nat} {X O : List Nat} {S : List StB} (h8 : n ≤ 8) (hS : ∀ x ∈ S, isPerm x.1 n) : ∀ g ∈ imgsV n X O S, Vec n g := fun g hg => by
  obtain ⟨x, hx, rfl⟩ := List.mem_map.1 hg
  exact img_vec h8 (hS x hx)
set_option maxRecDepth 100000 in
theorem srank_gives {B : Nat} {w0 : World} {H : Hp} {v : Value} (n : Nat) (X O : List Nat) (S : List StB) (bX : isB X) (bO : isB O) (h6 : n ≤ 6) (hv : It.row v 43 8 (S.flatMap encS) ∈ H) (hS : ∀ x ∈ S, isPerm x.1 n) (hl : S.length ≤ 46656) :
    GivesE Tryd.prog 34 #[.agg (gv (n : Int) X O).toArray, v] B w0 H (fun v' H' => v' = .int .i64 (rkN n X O S : Int) ∧ ∀ x ∈ H, x ∈ H') := by
  have ug := gv_len (n := (n : Int)) bX.1 bO.1
  have hvec := mem_imgsV (X := X) (O := O) (show n ≤ 8 by omega) hS
  refine givesE_of (args := [.agg (gv (n : Int) X O).toArray, v]) [(0, .agg (gv (n : Int) X O).toArray), (1, v)] Tryd.func34 rfl Tryd.ntmps34 rfl (argsF_cons rfl (argsF_cons rfl argsF_nil)) ?_
  repeat' (first | (apply JcE; exact rfl; exact rfl; exact rfl; infer_instance; (exact images_gives n X O S bX bO h6 (mS hv) hS hl); (intro v1 H1 hV; obtain ⟨Gs, hGs, hv1, hin, hsub⟩ := hV; have hGl : Gs.length = S.length := (by have h := congrArg List.length hGs; unfold vecs imgsV at h; rwa [List.length_map, List.length_map] at h))) | (apply JcE; exact rfl; exact rfl; exact rfl; infer_instance; (exact span_gives h6 Gs hv1 hin (by rw [hGs]; exact hvec) (by omega)); (intro v2 H2 hV; obtain ⟨Bs, hbas, hsp, hle, hv2, hinB, hsub2⟩ := hV; have iv2 : RB v2 H2 31 1 (Bs.map (·.1)) := ⟨hv2⟩; have l2 : (Bs.map (·.1)).length = Bs.length := List.length_map _)) | (apply Jq_move; exact rfl; exact rfl) | (apply Jq_assign; exact rfl; exact rfl) | (apply Jq_loadW; exact rfl; exact rfl; (exact mb); (omega)) | (apply Jq_lenR; exact rfl; exact rfl; (exact rb)) | (apply J_box; exact rfl; exact rfl; exact rfl; (intro _)) | refine thenQ_normal ?_ | refine JC_seq ?_ | refine JC_region ?_ | refine J_nil ?_ | refine JC_ret ?_)
  have hrk : rkN n X O S = Bs.length := (rkN_is (B := vecs Bs) hbas.ech fun u => (hsp u).trans (by rw [hGs]; exact Iff.rfl)).trans (List.length_map _)
  refine e1 (H' := H2) rfl rfl rfl ?_ ⟨by rw [hrk, l2], fun x hx => hsub2 _ (hsub _ (mS hx))⟩
  (refine ent ?_ ?_; (repeat refine fr_cons rfl ?_); exact fr_nil; (repeat (exact List.Sublist.refl _)))
/-- What both hand back. -/
def rkR (r c : Int) (H : Hp) : Value → Hp → Prop := fun v' H' => v' = .tuple #[.int .i64 r, .int .i64 c] ∧ ∀ x ∈ H, x ∈ H'
set_option maxRecDepth 100000 in
theorem sgrank_good {B : Nat} {w0 : World} {H : Hp} (n : Nat) (X O : List Nat) (a m : Int) (bX : isB X) (bO : isB O) (h6 : n ≤ 6) (hc : codeS n X O [] = 0) :
    GivesE Tryd.prog 12 #[.agg (gv (n : Int) X O).toArray, .int .i64 a, .int .i64 m] B w0 H (rkR (rkN n X O ((stB n).filter (selG n X O a m))) 0 H) := by
  have ug := gv_len (n := (n : Int)) bX.1 bO.1
  have hS := stB_len h6
  have l1 : ((stB n).filter (selG n X O a m)).length ≤ 46656 := Nat.le_trans (List.length_filter_le _ _) hS
  have p1 : ∀ x ∈ (stB n).filter (selG n X O a m), isPerm x.1 n := fun x hx => stB_perm (by omega) x (List.mem_filter.1 hx).1
  refine givesE_of (args := [.agg (gv (n : Int) X O).toArray, .int .i64 a, .int .i64 m]) [(0, .agg (gv (n : Int) X O).toArray), (1, .int .i64 a), (2, .int .i64 m)] Tryd.func12 rfl Tryd.ntmps12 rfl (argsF_cons rfl (argsF_cons rfl (argsF_cons rfl argsF_nil))) ?_
  refine JC_nilrow (e := 31) (sz := 1) ?_
  repeat' (first | (apply Jq_move; exact rfl; exact rfl) | (apply Jq_assign; exact rfl; exact rfl) | (apply Jq_cmp; exact rfl; exact rfl; exact rfl; exact rfl) | (apply Jq_loadW; exact rfl; exact rfl; (exact mb); (omega)) | (apply JqM; exact rfl; exact rfl; exact rfl; infer_instance; (exact lcode_is n X O bX bO [] (mS m0) (fun p hp => absurd hp List.not_mem_nil) (Nat.le_of_ble_eq_true rfl) hc)) | (apply J_box; exact rfl; exact rfl; exact rfl; (intro _)) | refine thenQ_normal ?_ | refine JC_seq ?_ | refine JC_region ?_ | refine J_nil ?_ | refine JC_skip ?_ | (apply JC_if_false; exact rfl))
  rename_i b3
  have c1 := fun (H : Hp) => sgrade_gives (B := B) (w0 := w0) (H := H) n X O a m bX bO h6
  generalize (stB n).filter (selG n X O a m) = S at *
  refine JC_any (m := 8) rfl [.blk b3 (gv (n : Int) X O) 29] mixed (by ((repeat (apply sub_cons; ((focus ((with_reducible (repeat (exact m0))); done))))); exact sub_nil)) ?_
  (apply JF_q 0; exact rfl; kernel_rfl; exact rfl; (intro E hE; (apply q_loadW; exact rfl; (refine hE _ ?_; exact mb); (omega))))
  (apply JF_q 1; exact rfl; kernel_rfl; exact rfl; (intro E hE; (apply q_loadW; exact rfl; (refine hE _ ?_; exact mb); (omega))))
  (apply JF_q 2; exact rfl; kernel_rfl; exact rfl; (intro E hE; (apply q_move; exact rfl)))
  (apply JF_q 3; exact rfl; kernel_rfl; exact rfl; (intro E hE; (apply q_move; exact rfl)))
  (apply JF_all [4]; kernel_rfl)
  (apply JFs_cons; exact rfl)
  · (apply JcE; exact rfl; exact rfl; exact rfl; infer_instance; (exact c1 _); (intro v1 H1 hV; subst hV))
    (apply J_nil; apply JF_end; ((repeat (apply sub_cons; ((focus ((with_reducible (repeat (first | exact m0 | refine mS ?_))); done))))); exact sub_nil))
    (apply JF_all [5]; kernel_rfl)
    (apply JFs_cons; exact rfl)
    · (apply JcE; exact rfl; exact rfl; exact rfl; infer_instance; (exact srank_gives n X O S bX bO h6 m0 p1 l1); (intro v2 H2 hV; obtain ⟨rfl, hs2⟩ := hV))
      (apply J_nil; apply JF_end; ((repeat (apply sub_cons; (refine hs2 _ ?_; exact mb))); exact sub_nil))
      (apply JF_q 6; exact rfl; kernel_rfl; exact rfl; (intro E hE; (apply q_assign; exact rfl)))
      (apply JF_q 7; exact rfl; kernel_rfl; exact rfl; (intro E hE; (apply q_assign; exact rfl)))
      (apply JF_done; kernel_rfl)
      ((repeat' (first | refine thenQ_normal ?_ | refine JC_ret ?_)); exact eT2 (H' := H2) rfl rfl rfl rfl (entS fun _ _ h => h) ⟨rfl, fun x hx => hs2 _ (mS (mS (mS hx)))⟩)
    exact JFs_nil
  exact JFs_nil
set_option maxRecDepth 100000 in
theorem sgrank_bad {B : Nat} {w0 : World} {H : Hp} (n : Int) (X O : List Nat) (a m : Int) (bX : isB X) (bO : isB O) {c : Int} (hc : codeS n X O [] = c) (h0 : c ≠ 0) :
    GivesE Tryd.prog 12 #[.agg (gv n X O).toArray, .int .i64 a, .int .i64 m] B w0 H (rkR 0 c H) := by
  have ug := gv_len (n := n) bX.1 bO.1
  refine givesE_of (args := [.agg (gv n X O).toArray, .int .i64 a, .int .i64 m]) [(0, .agg (gv n X O).toArray), (1, .int .i64 a), (2, .int .i64 m)] Tryd.func12 rfl Tryd.ntmps12 rfl (argsF_cons rfl (argsF_cons rfl (argsF_cons rfl argsF_nil))) ?_
  refine JC_nilrow (e := 31) (sz := 1) ?_
  repeat' (first | (apply Jq_move; exact rfl; exact rfl) | (apply Jq_assign; exact rfl; exact rfl) | (apply Jq_cmp; exact rfl; exact rfl; exact rfl; exact rfl) | (apply Jq_loadW; exact rfl; exact rfl; (exact mb); (omega)) | (apply JqM; exact rfl; exact rfl; exact rfl; infer_instance; (exact lcode_is n X O bX bO [] (mS m0) (fun p hp => absurd hp List.not_mem_nil) (Nat.le_of_ble_eq_true rfl) hc)) | (apply J_box; exact rfl; exact rfl; exact rfl; (intro _)) | refine thenQ_normal ?_ | refine thenQ_ret ?_ | refine JC_seq ?_ | refine JC_region ?_ | refine J_nil ?_ | refine JC_ret ?_ | (apply JC_ndec_true; exact rfl; omega))
  refine eT2 (H' := H) rfl rfl rfl rfl ?_ ⟨rfl, fun _ h => h⟩
  (refine ent ?_ ?_; (repeat refine fr_cons rfl ?_); exact fr_nil; (repeat (first | exact List.Sublist.refl _ | refine List.Sublist.cons _ ?_)))
set_option maxRecDepth 100000 in
theorem listedI_good {B : Nat} {w0 : World} {H : Hp} {fk : FuncId} {caps : Array Value} (hk : Runs Tryd.prog fk) (n : Int) (X O : List Nat) (bX : isB X) (bO : isB O) (g : okG n X O) (h6 : n ≤ 6) (R : Value → Hp → Prop) (hf : GivesE Tryd.prog fk (([.agg (gv n X O).toArray] : List Value) ++ caps.toList).toArray B w0 H R) :
    GivesE Tryd.prog 36 #[.agg (gv n X O).toArray, .func (.func fk) #[] caps] B w0 H (fun v' H' => ∃ u, v' = .tuple #[u, .int .i64 0] ∧ R u H') := by
  have ug := gv_len (n := n) bX.1 bO.1
  refine givesE_of (args := [.agg (gv n X O).toArray, .func (.func fk) #[] caps]) [(0, .agg (gv n X O).toArray), (1, .func (.func fk) #[] caps)] Tryd.func36 rfl Tryd.ntmps36 rfl (argsF_cons rfl (argsF_cons rfl argsF_nil)) ?_
  repeat' (first | (apply JcEcP (H1 := H); exact rfl; exact rfl; exact rfl; exact hk; (refine entP (ent ?_ (List.nil_sublist _)) ?_; (repeat refine fr_cons rfl ?_); exact fr_nil; (repeat (exact sp_end))); exact hf; (intro v' H' hV)) | (apply Jq_move; exact rfl; exact rfl) | (apply Jq_assign; exact rfl; exact rfl) | (apply Jq_load; exact rfl; exact rfl; (exact mb); (exact rfl)) | (apply Jq_fieldAddr; exact rfl; exact rfl) | (apply Jq_cmp; exact rfl; exact rfl; exact rfl; exact rfl) | (apply Jq_not; exact rfl; exact rfl) | (apply Jc; exact rfl; exact rfl; exact rfl; infer_instance; ((intro w hw); exact IsGrid_gives n X O bX bO w)) | (apply Jq_loadW; exact rfl; exact rfl; (exact mb); (omega)) | (apply J_box; exact rfl; exact rfl; exact rfl; (intro _)) | refine thenQ_normal ?_ | refine inBlockQ_normal ?_ | refine JC_seq ?_ | refine JC_region ?_ | refine J_nil ?_ | refine JC_block ?_ | refine JC_skip ?_ | refine JC_ret ?_ | (apply JC_dec_false; exact rfl; omega) | (apply JC_ndec_false; exact rfl; omega))
  exact eT2 (H' := H') rfl rfl rfl rfl (entS fun _ _ h => h) ⟨v', rfl, hV⟩
set_option maxRecDepth 100000 in
theorem listedI_bad {B : Nat} {w0 : World} {H : Hp} {f : Value} (n : Int) (X O : List Nat) (bX : isB X) (bO : isB O) {c : Int} (hc : (¬ okG n X O ∧ c = 1) ∨ (okG n X O ∧ 6 < n ∧ c = 2)) :
    GivesE Tryd.prog 36 #[.agg (gv n X O).toArray, f] B w0 H (rkR 0 c H) := by
  have ug := gv_len (n := n) bX.1 bO.1
  refine givesE_of (args := [.agg (gv n X O).toArray, f]) [(0, .agg (gv n X O).toArray), (1, f)] Tryd.func36 rfl Tryd.ntmps36 rfl (argsF_cons rfl (argsF_cons rfl argsF_nil)) ?_
  rcases hc with ⟨g, rfl⟩ | ⟨g, h6, rfl⟩
  · repeat' (first | (apply Jq_move; exact rfl; exact rfl) | (apply Jq_assign; exact rfl; exact rfl) | (apply Jq_not; exact rfl; exact rfl) | (apply Jc; exact rfl; exact rfl; exact rfl; infer_instance; ((intro w hw); exact IsGrid_gives n X O bX bO w)) | (apply Jq_loadW; exact rfl; exact rfl; (exact mb); (omega)) | (apply J_box; exact rfl; exact rfl; exact rfl; (intro _)) | refine thenQ_normal ?_ | refine thenQ_ret ?_ | refine inBlockQ_ret ?_ | refine JC_seq ?_ | refine JC_region ?_ | refine J_nil ?_ | refine JC_block ?_ | refine JC_ret ?_ | (apply JC_ndec_true; exact rfl; omega))
    refine eT2 (H' := H) rfl rfl rfl rfl ?_ ⟨rfl, fun _ h => h⟩
    (refine ent ?_ ?_; (repeat refine fr_cons rfl ?_); exact fr_nil; (repeat (first | exact List.Sublist.refl _ | refine List.Sublist.cons _ ?_)))
  · repeat' (first | (apply Jq_move; exact rfl; exact rfl) | (apply Jq_assign; exact rfl; exact rfl) | (apply Jq_load; exact rfl; exact rfl; (exact mb); (exact rfl)) | (apply Jq_fieldAddr; exact rfl; exact rfl) | (apply Jq_cmp; exact rfl; exact rfl; exact rfl; exact rfl) | (apply Jq_not; exact rfl; exact rfl) | (apply Jc; exact rfl; exact rfl; exact rfl; infer_instance; ((intro w hw); exact IsGrid_gives n X O bX bO w)) | (apply Jq_loadW; exact rfl; exact rfl; (exact mb); (omega)) | (apply J_box; exact rfl; exact rfl; exact rfl; (intro _)) | refine thenQ_normal ?_ | refine thenQ_ret ?_ | refine inBlockQ_ret ?_ | refine JC_seq ?_ | refine JC_region ?_ | refine J_nil ?_ | refine JC_block ?_ | refine JC_ret ?_ | (apply JC_dec_true; exact rfl; omega) | (apply JC_ndec_false; exact rfl; omega))
    refine eT2 (H' := H) rfl rfl rfl rfl ?_ ⟨rfl, fun _ h => h⟩
    (refine ent ?_ ?_; (repeat refine fr_cons rfl ?_); exact fr_nil; (repeat (first | exact List.Sublist.refl _ | refine List.Sublist.cons _ ?_)))
set_option maxRecDepth 100000 in
theorem igrank1_gives {B : Nat} {w0 : World} {H : Hp} (n : Nat) (X O : List Nat) (a m : Int) (b1 b2 : Nat) (T1 T2 : TypeId) (q1 : It.blk b1 [.int .i64 a] T1 ∈ H) (q2 : It.blk b2 [.int .i64 m] T2 ∈ H) (hT : tabI ∈ H) (bX : isB X) (bO : isB O) (h6 : n ≤ 6) (g : okG (n : Int) X O) :
    GivesE Tryd.prog 37 #[.agg (gv (n : Int) X O).toArray, .pointer (some ⟨b1, 0, none⟩), .pointer (some ⟨b2, 0, none⟩)] B w0 H (fun v' H' => v' = .int .i64 (rkN n X O ((stB n).filter (selG n X O a m)) : Int) ∧ H' = H) := by
  have ug := gv_len (n := (n : Int)) bX.1 bO.1
  have i1 : MB b1 H [.int .i64 a] T1 := ⟨q1⟩
  have i2 : MB b2 H [.int .i64 m] T2 := ⟨q2⟩
  have hbl : ∀ y z : Int, Tryd.prog.built 74 [(0, .int .i64 y), (1, .int .i64 z)] = some (encGr (y, z)).toArray := fun y z => by kernel_rfl
  refine givesE_of (args := [.agg (gv (n : Int) X O).toArray, .pointer (some ⟨b1, 0, none⟩), .pointer (some ⟨b2, 0, none⟩)]) [(0, .agg (gv (n : Int) X O).toArray), (1, .pointer (some ⟨b1, 0, none⟩)), (2, .pointer (some ⟨b2, 0, none⟩))] Tryd.func37 rfl Tryd.ntmps37 rfl (argsF_cons rfl (argsF_cons rfl (argsF_cons rfl argsF_nil))) ?_
  repeat' (first | (apply Jq_assign; exact rfl; exact rfl) | (apply J_box; exact rfl; exact rfl; exact rfl; (intro _)) | refine thenQ_normal ?_ | refine JC_seq ?_ | refine JC_region ?_ | refine J_nil ?_)
  rename_i b3
  refine JC_any (m := 8) rfl [.blk b3 (gv (n : Int) X O) 29, .blk b1 [.int .i64 a] T1, .blk b2 [.int .i64 m] T2] mixed (by ((repeat (apply sub_cons; ((focus ((with_reducible (repeat (first | exact m0 | assumption | refine mS ?_))); done))))); exact sub_nil)) ?_
  (apply JF_q 0; exact rfl; kernel_rfl; exact rfl; (intro E hE; (apply q_loadW; exact rfl; (refine hE _ ?_; exact mb); (omega))))
  (apply JF_q 1; exact rfl; kernel_rfl; exact rfl; (intro E hE; (apply q_loadW; exact rfl; (refine hE _ ?_; exact mb); (omega))))
  (apply JF_q 3; exact rfl; kernel_rfl; exact rfl; (intro E hE; (apply q_load; exact rfl; (refine hE _ ?_; exact mb); (exact rfl))))
  (apply JF_q 4; exact rfl; kernel_rfl; exact rfl; (intro E hE; (apply q_load; exact rfl; (refine hE _ ?_; exact mb); (exact rfl))))
  (apply JF_q 5; exact rfl; kernel_rfl; exact rfl; (intro E hE; (apply q_buildE; exact rfl; exact hbl _ _)))
  (apply JF_all [2]; kernel_rfl)
  (apply JFs_cons; exact rfl)
  · (apply JcE; exact rfl; exact rfl; exact rfl; infer_instance; (exact graded_gives n X O bX bO h6); (intro v1 H1 hV; obtain ⟨bm, M, TT, rfl, hM, hTT, rfl⟩ := hV))
    (apply J_nil; apply JF_end; ((repeat (apply sub_cons; (rw [hTT]; refine mS (List.mem_append.2 (.inr ?_)); exact mb))); exact sub_nil))
    (apply JF_all [6]; kernel_rfl)
    (apply JFs_cons; exact rfl)
    · ((apply JcE; exact rfl; exact rfl; exact rfl; infer_instance; (exact rank_gives n X O a m bX bO h6 g (by rw [hTT]; exact mS (List.mem_append.2 (.inr (mS hT)))) m0 hM (fun x hx => by rw [hTT]; exact mS (List.mem_append.2 (.inl hx)))); (intro v2 H2 hV; obtain ⟨rfl, rfl⟩ := hV)))
      (apply J_nil; apply JF_end; ((repeat (apply sub_cons; (rw [hTT]; refine mS (List.mem_append.2 (.inr ?_)); exact mb))); exact sub_nil))
      (apply JF_q 7; exact rfl; kernel_rfl; exact rfl; (intro E hE; (apply q_assign; exact rfl)))
      (apply JF_done; kernel_rfl)
      ((repeat' (first | refine thenQ_normal ?_ | refine JC_ret ?_)); refine e1 (H' := H) rfl rfl rfl ?_ ⟨rfl, rfl⟩; exact ent (fun _ _ h => by cases h) (.cons _ (by rw [hTT]; exact List.sublist_append_of_sublist_right (.cons _ (.refl _)))))
    exact JFs_nil
  exact JFs_nil
set_option maxRecDepth 100000 in
theorem igrank_good {B : Nat} {w0 : World} {H : Hp} (n : Nat) (X O : List Nat) (a m : Int) (hT : tabI ∈ H) (bX : isB X) (bO : isB O) (h6 : n ≤ 6) (g : okG (n : Int) X O) :
    GivesE Tryd.prog 13 #[.agg (gv (n : Int) X O).toArray, .int .i64 a, .int .i64 m] B w0 H (rkR (rkN n X O ((stB n).filter (selG n X O a m))) 0 H) := by
  have ug := gv_len (n := (n : Int)) bX.1 bO.1
  refine givesE_of (args := [.agg (gv (n : Int) X O).toArray, .int .i64 a, .int .i64 m]) [(0, .agg (gv (n : Int) X O).toArray), (1, .int .i64 a), (2, .int .i64 m)] Tryd.func13 rfl Tryd.ntmps13 rfl (argsF_cons rfl (argsF_cons rfl (argsF_cons rfl argsF_nil))) ?_
  repeat' (first | (apply Jq_func2; exact rfl; exact rfl; exact rfl) | (apply JcE; exact rfl; exact rfl; exact rfl; infer_instance; (exact listedI_good inferInstance n X O bX bO g (by omega) _ (igrank1_gives n X O a m _ _ _ _ (mS m0) m0 (mS (mS (mS hT))) bX bO h6 g)); (intro v' H' hV; obtain ⟨u, rfl, rfl, rfl⟩ := hV)) | (apply Jq_assign; exact rfl; exact rfl) | (apply Jq_loadW; exact rfl; exact rfl; (exact mb); (omega)) | (apply Jq_ext20; exact rfl; exact rfl) | (apply Jq_ext21; exact rfl; exact rfl) | (apply J_box; exact rfl; exact rfl; exact rfl; (intro _)) | refine thenQ_normal ?_ | refine JC_seq ?_ | refine JC_region ?_ | refine J_nil ?_ | refine JC_ret ?_)
  exact eT2 (H' := H) rfl rfl rfl rfl (ent (fun _ _ h => by cases h) (.cons _ (.cons _ (.cons _ (.refl _))))) ⟨rfl, fun _ h => h⟩
set_option maxRecDepth 100000 in
theorem igrank_bad {B : Nat} {w0 : World} {H : Hp} (n : Int) (X O : List Nat) (a m : Int) (bX : isB X) (bO : isB O) {c : Int} (hc : (¬ okG n X O ∧ c = 1) ∨ (okG n X O ∧ 6 < n ∧ c = 2)) :
    GivesE Tryd.prog 13 #[.agg (gv n X O).toArray, .int .i64 a, .int .i64 m] B w0 H (rkR 0 c H) := by
  have ug := gv_len (n := n) bX.1 bO.1
  refine givesE_of (args := [.agg (gv n X O).toArray, .int .i64 a, .int .i64 m]) [(0, .agg (gv n X O).toArray), (1, .int .i64 a), (2, .int .i64 m)] Tryd.func13 rfl Tryd.ntmps13 rfl (argsF_cons rfl (argsF_cons rfl (argsF_cons rfl argsF_nil))) ?_
  repeat' (first | (apply Jq_func2; exact rfl; exact rfl; exact rfl) | (apply JcE; exact rfl; exact rfl; exact rfl; infer_instance; (exact listedI_bad n X O bX bO hc); (intro v' H' hV; obtain ⟨rfl, hs⟩ := hV)) | (apply Jq_assign; exact rfl; exact rfl) | (apply Jq_loadW; exact rfl; exact rfl; (exact mb); (omega)) | (apply Jq_ext20; exact rfl; exact rfl) | (apply Jq_ext21; exact rfl; exact rfl) | (apply J_box; exact rfl; exact rfl; exact rfl; (intro _)) | refine thenQ_normal ?_ | refine JC_seq ?_ | refine JC_region ?_ | refine J_nil ?_ | refine JC_ret ?_)
  exact eT2 (H' := H') rfl rfl rfl rfl (entS fun _ _ h => h) ⟨rfl, fun _ h => hs _ (mS (mS (mS h)))⟩
theorem codeS_none {n : Int} {X O : List Nat} {c : Int} (hc : codeS n X O [] = c) : (c = 0 ∧ okG n X O ∧ n ≤ 6) ∨ ((¬ okG n X O ∧ c = 1) ∨ (okG n X O ∧ 6 < n ∧ c = 2)) := by
  rcases codeS_cases hc with ⟨h1, h2⟩ | ⟨⟨g, _⟩, ⟨h1, h2⟩ | ⟨h1, h2⟩⟩
  · exact .inr (.inl ⟨fun g => h2 ⟨g, fun l hl => absurd hl List.not_mem_nil⟩, h1⟩)
  · exact .inr (.inr ⟨g, h2, h1⟩)
  · exact .inl ⟨h1, g, h2⟩
theorem grank_res (n : Int) (X O : List Nat) (a m : Int) : ∃ r c : Int, ∀ (B : Nat) (w0 : World) (H : Hp), tabI ∈ H → isB X → isB O →
    GivesE Tryd.prog 12 #[.agg (gv n X O).toArray, .int .i64 a, .int .i64 m] B w0 H (rkR r c H) ∧
    GivesE Tryd.prog 13 #[.agg (gv n X O).toArray, .int .i64 a, .int .i64 m] B w0 H (rkR r c H) := by
  rcases codeS_none (n := n) (X := X) (O := O) rfl with ⟨h0, g, h6⟩ | h
  · obtain ⟨k, rfl⟩ := okG_nat g
    have h6' : k ≤ 6 := by omega
    exact ⟨_, _, fun B w0 H hT bX bO => ⟨sgrank_good k X O a m bX bO h6' h0, igrank_good k X O a m hT bX bO h6' g⟩⟩
  · have h0 : codeS n X O [] ≠ 0 := by
      rcases h with ⟨_, h⟩ | ⟨_, _, h⟩ <;> rw [h] <;> decide
    exact ⟨0, codeS n X O [], fun B w0 H _ bX bO => ⟨sgrank_bad n X O a m bX bO rfl h0, igrank_bad n X O a m bX bO h⟩⟩
set_option maxRecDepth 100000 in
theorem lawGradeRank_gives {B : Nat} {w0 : World} {H : Hp} (hT : tabI ∈ H) (n : Int) (X O : List Nat) (bX : isB X) (bO : isB O) (a m : Int) :
    GivesE Tryd.prog 4 #[.agg (gv n X O).toArray, .int .i64 a, .int .i64 m] B w0 H (fun v' H' => v' = .bool true) := by
  have ug := gv_len (n := n) bX.1 bO.1
  obtain ⟨r, c, hres⟩ := grank_res n X O a m
  refine givesE_of (args := [.agg (gv n X O).toArray, .int .i64 a, .int .i64 m]) [(0, .agg (gv n X O).toArray), (1, .int .i64 a), (2, .int .i64 m)] Tryd.func4 rfl Tryd.ntmps4 rfl (argsF_cons rfl (argsF_cons rfl (argsF_cons rfl argsF_nil))) ?_
  repeat' (first | (apply JcE; exact rfl; exact rfl; exact rfl; infer_instance; (exact (hres _ _ _ (mS hT) bX bO).1); (intro v' H1 hV; obtain ⟨rfl, hs1⟩ := hV; have i3 : MB _ H1 _ _ := ⟨hs1 _ m0⟩)) | (apply JcE; exact rfl; exact rfl; exact rfl; infer_instance; (exact (hres _ _ _ (hs1 _ (mS hT)) bX bO).2); (intro v' H2 hV; obtain ⟨rfl, hs2⟩ := hV)) | (apply Jq_move; exact rfl; exact rfl) | (apply Jq_assign; exact rfl; exact rfl) | (apply Jq_cmp; exact rfl; exact rfl; exact rfl; exact rfl) | (apply Jq_pick_false; exact rfl; exact rfl; exact rfl) | (apply J_on; exact rfl; exact rfl) | (apply Jc; exact rfl; exact rfl; exact rfl; infer_instance; ((intro w hw); exact toGrid_gives n X O bX.1 bO.1 w)) | (apply Jq_loadW; exact rfl; exact rfl; (exact mb); (omega)) | (apply Jq_ext20; exact rfl; exact rfl) | (apply Jq_ext21; exact rfl; exact rfl) | (apply J_box; exact rfl; exact rfl; exact rfl; (intro _)) | refine thenQ_normal ?_ | refine JC_seq ?_ | refine JC_region ?_ | refine J_nil ?_ | refine JC_skip ?_ | refine JC_ret ?_ | (apply JC_ndec_false; exact rfl; omega) | (apply J_gnF; exact rfl; exact rfl; omega))
  exact e1 (H' := H2) rfl rfl rfl (entS fun _ _ h => h) rfl
end Go.Proofs.YtmbbcmebdefggaaDoor
