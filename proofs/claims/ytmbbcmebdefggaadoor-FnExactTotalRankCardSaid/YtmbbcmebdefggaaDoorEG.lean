/- Walks: the rank of a grade in the reference and in the program; the law. -/
import Derived.Test.YtmbbcmebdefggaaDoorEF
import Derived.Test.YtmbbcmebdefggaaDoorEB
namespace Go.Proofs.YtmbbcmebdefggaaDoor
open Go Go.RowKit SL
set_option maxRecDepth 100000 in
theorem srank_gives {B : Nat} {w0 : World} {H : Hp} {v : Value} (n : Nat) (X O : List Nat) (S : List StB) (bX : isB X) (bO : isB O) (h6 : n ≤ 6) (hv : It.row v 43 8 (S.flatMap encS) ∈ H) (hS : ∀ x ∈ S, isPerm x.1 n) (hl : S.length ≤ 46656) :
    GivesE Tryd.prog 34 #[.agg (gv (n : Int) X O).toArray, v] B w0 H (fun v' H' => v' = .int .i64 (rkN n X O S : Int) ∧ ∀ x ∈ H, x ∈ H') := by
  have ug := gv_len (n := (n : Int)) bX.1 bO.1
  have hvec := mem_imgsV (X := X) (O := O) (show n ≤ 8 by omega) hS
  refine givesE_of (args := [.agg (gv (n : Int) X O).toArray, v]) [(0, .agg (gv (n : Int) X O).toArray), (1, v)] Tryd.func34 rfl Tryd.ntmps34 rfl (argsF_cons rfl (argsF_cons rfl argsF_nil)) ?_
  repeat' (first | (apply JcE; exact rfl; exact rfl; exact rfl; infer_instance; (exact images_gives n X O S bX bO h6 (mS hv) hS hl); (intro v1 H1 hV; obtain ⟨Gs, hGs, hv1, hin, hsub⟩ := hV; have hGl : Gs.length = S.length := (by have h := congrArg List.length hGs; unfold vecs imgsV at h; rwa [List.length_map, List.length_map] at h))) | (apply JcE; exact rfl; exact rfl; exact rfl; infer_instance; (exact span_gives h6 Gs hv1 hin (by rw [hGs]; exact hvec) (by omega)); (intro v2 H2 hV; obtain ⟨Bs, hbas, hsp, hle, hv2, hinB, hsub2⟩ := hV; have iv2 : RB v2 H2 31 1 (Bs.map (·.1)) := ⟨hv2⟩; have l2 : (Bs.map (·.1)).length = Bs.length := List.length_map _)) | (apply Jq_move; exact rfl; exact rfl) | (apply Jq_assign; exact rfl; exact rfl) | (apply Jq_loadW; exact rfl; exact rfl; (exact mb); (omega)) | (apply Jq_lenR; exact rfl; exact rfl; (exact rb)) | (apply J_box; exact rfl; exact rfl; exact rfl; (intro _)) | refine thenQ_normal ?_ | refine JC_seq ?_ | refine JC_region ?_ | refine J_nil ?_ | refine JC_ret ?_)
  have hrk : rkN n X O S = Bs.length := (rkN_is (B := vecs Bs) hbas.ech fun u => (hsp u).trans (by rw [hGs]; exact Iff.rfl)).trans (List.length_map _)
  refine e1 (H' := H2) rfl rfl rfl ?_ ⟨by rw [hrk, l2], fun x hx => hsub2 _ (hsub _ (mS hx))⟩
  (refine ent ?_ ?_; (repeat refine fr_cons rfl ?_); exact fr_nil; (repeat (exact List.Sublist.refl _)))
/-- What both hand back. -/
def rkR (r c : Int) (H : Hp) : Value → Hp → Prop := fun v' H' => v' = .tuple #[.int .i64 r, .int .i64 c] ∧ ∀ x ∈ H, x ∈ H'
set_option maxRecDepth 100000 in
theorem listedI_good {B : Nat} {w0 : World} {H : Hp} {fk : FuncId} {caps : Array Value} (hk : Runs Tryd.prog fk) (n : Int) (X O : List Nat) (bX : isB X) (bO : isB O) (g : okG n X O) (h6 : n ≤ 6) (R : Value → Hp → Prop) (hf : GivesE Tryd.prog fk (([.agg (gv n X O).toArray] : List Value) ++ caps.toList).toArray B w0 H R) :
    GivesE Tryd.prog 36 #[.agg (gv n X O).toArray, .func (.func fk) #[] caps] B w0 H (fun v' H' => ∃ u, v' = .tuple #[u, .int .i64 0] ∧ R u H') := by
  have ug := gv_len (n := n) bX.1 bO.1
  refine givesE_of (args := [.agg (gv n X O).toArray, .func (.func fk) #[] caps]) [(0, .agg (gv n X O).toArray), (1, .func (.func fk) #[] caps)] Tryd.func36 rfl Tryd.ntmps36 rfl (argsF_cons rfl (argsF_cons rfl argsF_nil)) ?_
  repeat' (first | (apply JcEcP (H1 := H); exact rfl; exact rfl; exact rfl; exact hk; (refine entP (ent ?_ (List.nil_sublist _)) ?_; (repeat refine fr_cons rfl ?_); exact fr_nil; (repeat (exact sp_end))); exact hf; (intro v' H' hV)) | (apply Jq_move; exact rfl; exact rfl) | (apply Jq_assign; exact rfl; exact rfl) | (apply Jq_load; exact rfl; exact rfl; (exact mb); (exact rfl)) | (apply Jq_fieldAddr; exact rfl; exact rfl) | (apply Jq_cmp; exact rfl; exact rfl; exact rfl; exact rfl) | (apply Jq_not; exact rfl; exact rfl) | (apply Jc; exact rfl; exact rfl; exact rfl; infer_instance; ((intro w hw); exact IsGrid_gives n X O bX bO w)) | (apply Jq_loadW; exact rfl; exact rfl; (exact mb); (omega)) | (apply J_box; exact rfl; exact rfl; exact rfl; (intro _)) | refine thenQ_normal ?_ | refine inBlockQ_normal ?_ | refine JC_seq ?_ | refine JC_region ?_ | refine J_nil ?_ | refine JC_block ?_ | refine JC_skip ?_ | refine JC_ret ?_ | (apply JC_dec_false; exact rfl; omega) | (apply JC_ndec_false; exact rfl; omega))
  exact eT2 (H' := H') rfl rfl rfl rfl (entS fun _ _ h => h) ⟨v', rfl, hV⟩
set_option maxRecDepth 100000 in
theorem listedI_bad {B : Nat} {w0 : World} {H : Hp} {f : Value} (n : Int) (X O : List Nat) (bX : isB X) (bO : isB O) {c : Int} (hc : (¬ okG n X O ∧ c = 1) ∨ (okG n X O ∧ 6 < n ∧ c = 2)) :
    GivesE Tryd.prog 36 #[.agg (gv n X O).toArray, f] B w0 H (rkR 0 c H) := by
  have ug := gv_len (n := n) bX.1 bO.1
  refine givesE_of (args := [.agg (gv n X O).toArray, f]) [(0, .agg (gv n X O).toArray), (1, f)] Tryd.func36 rfl Tryd.ntmps36 rfl (argsF_cons rfl (argsF_cons rfl argsF_nil)) ?_
  rcases hc with ⟨g, rfl⟩ | ⟨g, h6, rfl⟩
  · repeat' (first | (apply Jq_move; exact rfl; exact rfl) | (apply Jq_assign; exact rfl; exact rfl) | (apply Jq_not; exact rfl; exact rfl) | (apply Jc; exact rfl; exact rfl; exact rfl; infer_instance; ((intro w hw); exact IsGrid_gives n X O bX bO w)) | (apply Jq_loadW; exact rfl; exact rfl; (exact mb); (omega)) | (apply J_box; exact rfl; exact rfl; exact rfl; (intro _)) | refine thenQ_normal ?_ | refine thenQ_ret ?_ | refine inBlockQ_ret ?_ | refine JC_seq ?_ | refine JC_region ?_ | refine J_nil ?_ | refine JC_block ?_ | refine JC_ret ?_ | (apply JC_ndec_true; exact rfl; omega))
    refine eT2 (H' := H) rfl rfl rfl rfl ?_ ⟨rfl, fun _ h => h⟩
    (refine ent ?_ ?_; (repeat refine fr_cons rfl ?_); exact fr_nil; (repeat (first | exact List.Sublist.refl _ | refine List.Sublist.cons _ ?_)))
  · repeat' (first | (apply Jq_move; exact rfl; exact rfl) | (apply Jq_assign; exact rfl; exact rfl) | (apply Jq_load; exact rfl; exact rfl; (exact mb); (exact rfl)) | (apply Jq_fieldAddr; exact rfl; exact rfl) | (apply Jq_cmp; exact rfl; exact rfl; exact rfl; exact rfl) | (apply Jq_not; exact rfl; exact rfl) | (apply Jc; exact rfl; exact rfl; exact rfl; infer_instance; ((intro w hw); exact IsGrid_gives n X O bX bO w)) | (apply Jq_loadW; exact rfl; exact rfl; (exact mb); (omega)) | (apply J_box; exact rfl; exact rfl; exact rfl; (intro _)) | refine thenQ_normal ?_ | refine thenQ_ret ?_ | refine inBlockQ_ret ?_ | refine JC_seq ?_ | refine JC_region ?_ | refine J_nil ?_ | refine JC_block ?_ | refine JC_ret ?_ | (apply JC_dec_true; exact rfl; omega) | (apply JC_ndec_false; exact rfl; omega))
    refine eT2 (H' := H) rfl rfl rfl rfl ?_ ⟨rfl, fun _ h => h⟩
    (refine ent ?_ ?_; (repeat refine fr_cons rfl ?_); exact fr_nil; (repeat (first | exact List.Sublist.refl _ | refine List.Sublist.cons _ ?_)))
theorem codeS_none {n : Int} {X O : List Nat} {c : Int} (hc : codeS n X O [] = c) : (c = 0 ∧ okG n X O ∧ n ≤ 6) ∨ ((¬ okG n X O ∧ c = 1) ∨ (okG n X O ∧ 6 < n ∧ c = 2)) := by
  rcases codeS_cases hc with ⟨h1, h2⟩ | ⟨⟨g, _⟩, ⟨h1, h2⟩ | ⟨h1, h2⟩⟩
  · exact .inr (.inl ⟨fun g => h2 ⟨g, fun l hl => absurd hl List.not_mem_nil⟩, h1⟩)
  · exact .inr (.inr ⟨g, h2, h1⟩)
  · exact .inl ⟨h1, g, h2⟩
end Go.Proofs.YtmbbcmebdefggaaDoor
