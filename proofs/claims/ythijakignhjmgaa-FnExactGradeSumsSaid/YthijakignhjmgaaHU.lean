/- Walks: the program's matrix of a grade. Walks: the program's GradeMatrix. Walks: the law on GradeMatrix. -/
import Derived.Test.YthijakignhjmgaaHR
import Derived.Test.YthijakignhjmgaaHO
import Derived.Test.YthijakignhjmgaaHH
import Derived.Test.YthijakignhjmgaaTK
namespace Go.Proofs.Ythijakignhjmgaa
open Go Go.RowKit SL
end Go.Proofs.Ythijakignhjmgaa
namespace Go.Proofs.Ythijakignhjmgaa
open Go Go.RowKit SL
set_option maxRecDepth 100000 in
theorem listedM_good {B : Nat} {w0 : World} {H : Hp} {fk : FuncId} {caps : Array Value} (hk : Runs Try.prog fk) (n : Int) (X O : List Nat) (bX : isB X) (bO : isB O) (g : okG n X O) (h6 : n ≤ 6) (R : Value → Hp → Prop) (hf : GivesE Try.prog fk (([.agg (gv n X O).toArray] : List Value) ++ caps.toList).toArray B w0 H R) :
    GivesE Try.prog 102 #[.agg (gv n X O).toArray, .func (.func fk) #[] caps] B w0 H (fun v' H' => ∃ u, v' = .tuple #[u, .int .i64 0] ∧ R u H') := by
  have ug := gv_len (n := n) bX.1 bO.1
  refine givesE_of (args := [.agg (gv n X O).toArray, .func (.func fk) #[] caps]) [(0, .agg (gv n X O).toArray), (1, .func (.func fk) #[] caps)] Try.func102 rfl Try.ntmps102 rfl (argsF_cons rfl (argsF_cons rfl argsF_nil)) ?_
  repeat' (first | (apply JcEcP (H1 := H); exact rfl; exact rfl; exact rfl; exact hk; (refine entP (ent ?_ (List.nil_sublist _)) ?_; (repeat refine fr_cons rfl ?_); exact fr_nil; (repeat (first | exact sp_nil | exact sp_refl | exact sp_end | (with_reducible apply sp0) | (with_reducible apply sp1) | (with_reducible apply sp2) | (with_reducible apply sp3) | (with_reducible apply sp4) | (with_reducible apply sp5) | (with_reducible apply sp6) | (with_reducible apply sp7) | apply sp0 | apply sp1 | apply sp2 | apply sp3 | apply sp4 | apply sp5))); exact hf; (intro v' H' hV)) | (apply Jq_move; exact rfl; exact rfl) | (apply Jq_assign; exact rfl; exact rfl) | (apply Jq_load; exact rfl; exact rfl; (exact mb); (first | exact rfl)) | (apply Jq_fieldAddr; exact rfl; exact rfl) | (apply Jq_cmp; exact rfl; exact rfl; exact rfl; exact rfl) | (apply Jq_not; exact rfl; exact rfl) | (apply Jc; exact rfl; exact rfl; exact rfl; infer_instance; ((intro w hw); first | exact IsGrid_gives n X O bX bO w)) | (apply Jq_loadW; exact rfl; exact rfl; (exact mb); (first | exact rfl | omega)) | (apply Jq_loadA; exact rfl; exact rfl; (exact mb); (first | exact rfl); (first | exact rfl | omega)) | (apply Jq_loadR; exact rfl; exact rfl; (first | exact rb | assumption); (first | exact rfl)) | (apply J_box; exact rfl; exact rfl; exact rfl; (intro _)) | refine thenQ_normal ?_ | refine thenQ_exit ?_ | refine thenQ_ret ?_ | refine inBlockQ_normal ?_ | refine inBlockQ_ret ?_ | refine inBlockQ_here ?_ | (apply inBlockQ_on; exact rfl) | refine JC_seq ?_ | refine JC_region ?_ | refine J_nil ?_ | refine JC_block ?_ | refine JC_skip ?_ | refine JC_ret ?_ | refine JC_exit ?_ | (apply JC_if_true; exact rfl) | (apply JC_if_false; exact rfl) | (apply JC_dec_true; exact rfl; omega) | (apply JC_dec_false; exact rfl; omega) | (apply JC_ndec_true; exact rfl; omega) | (apply JC_ndec_false; exact rfl; omega) | refine JC_dec rfl (fun _ => ?_) (fun _ => ?_) | refine JC_ndec rfl (fun _ => ?_) (fun _ => ?_) | refine JC_if rfl (fun _ => ?_) (fun _ => ?_))
  exact eT2 (H' := H') rfl rfl rfl rfl (entS fun _ _ h => h) ⟨v', rfl, hV⟩
set_option maxRecDepth 100000 in
theorem listedM_bad {B : Nat} {w0 : World} {H : Hp} {f : Value} (n : Int) (X O : List Nat) (bX : isB X) (bO : isB O) {c : Int} (hc : (¬ okG n X O ∧ c = 1) ∨ (okG n X O ∧ 6 < n ∧ c = 2)) :
    GivesE Try.prog 102 #[.agg (gv n X O).toArray, f] B w0 H (ssR [] c H) := by
  have ug := gv_len (n := n) bX.1 bO.1
  refine givesE_of (args := [.agg (gv n X O).toArray, f]) [(0, .agg (gv n X O).toArray), (1, f)] Try.func102 rfl Try.ntmps102 rfl (argsF_cons rfl (argsF_cons rfl argsF_nil)) ?_
  rcases hc with ⟨g, rfl⟩ | ⟨g, h6, rfl⟩
  · repeat' (first | (apply Jq_move; exact rfl; exact rfl) | (apply Jq_assign; exact rfl; exact rfl) | (apply Jq_load; exact rfl; exact rfl; (exact mb); (first | exact rfl)) | (apply Jq_fieldAddr; exact rfl; exact rfl) | (apply Jq_cmp; exact rfl; exact rfl; exact rfl; exact rfl) | (apply Jq_not; exact rfl; exact rfl) | (apply Jc; exact rfl; exact rfl; exact rfl; infer_instance; ((intro w hw); first | exact IsGrid_gives n X O bX bO w)) | (apply Jq_loadW; exact rfl; exact rfl; (exact mb); (first | exact rfl | omega)) | (apply Jq_loadA; exact rfl; exact rfl; (exact mb); (first | exact rfl); (first | exact rfl | omega)) | (apply Jq_loadR; exact rfl; exact rfl; (first | exact rb | assumption); (first | exact rfl)) | (apply J_box; exact rfl; exact rfl; exact rfl; (intro _)) | refine thenQ_normal ?_ | refine thenQ_exit ?_ | refine thenQ_ret ?_ | refine inBlockQ_normal ?_ | refine inBlockQ_ret ?_ | refine inBlockQ_here ?_ | (apply inBlockQ_on; exact rfl) | refine JC_seq ?_ | refine JC_region ?_ | refine J_nil ?_ | refine JC_block ?_ | refine JC_skip ?_ | refine JC_ret ?_ | refine JC_exit ?_ | (apply JC_if_true; exact rfl) | (apply JC_if_false; exact rfl) | (apply JC_dec_true; exact rfl; omega) | (apply JC_dec_false; exact rfl; omega) | (apply JC_ndec_true; exact rfl; omega) | (apply JC_ndec_false; exact rfl; omega) | refine JC_dec rfl (fun _ => ?_) (fun _ => ?_) | refine JC_ndec rfl (fun _ => ?_) (fun _ => ?_) | refine JC_if rfl (fun _ => ?_) (fun _ => ?_))
    refine eT2nil (H' := H) rfl rfl rfl rfl ?_ ⟨_, [], rfl, rfl, rfl⟩
    (refine ent ?_ ?_; (repeat refine fr_cons rfl ?_); exact fr_nil; (repeat (first | exact List.nil_sublist _ | exact List.Sublist.refl _ | refine List.Sublist.cons_cons _ ?_ | refine List.Sublist.cons _ ?_)))
  · repeat' (first | (apply Jq_move; exact rfl; exact rfl) | (apply Jq_assign; exact rfl; exact rfl) | (apply Jq_load; exact rfl; exact rfl; (exact mb); (first | exact rfl)) | (apply Jq_fieldAddr; exact rfl; exact rfl) | (apply Jq_cmp; exact rfl; exact rfl; exact rfl; exact rfl) | (apply Jq_not; exact rfl; exact rfl) | (apply Jc; exact rfl; exact rfl; exact rfl; infer_instance; ((intro w hw); first | exact IsGrid_gives n X O bX bO w)) | (apply Jq_loadW; exact rfl; exact rfl; (exact mb); (first | exact rfl | omega)) | (apply Jq_loadA; exact rfl; exact rfl; (exact mb); (first | exact rfl); (first | exact rfl | omega)) | (apply Jq_loadR; exact rfl; exact rfl; (first | exact rb | assumption); (first | exact rfl)) | (apply J_box; exact rfl; exact rfl; exact rfl; (intro _)) | refine thenQ_normal ?_ | refine thenQ_exit ?_ | refine thenQ_ret ?_ | refine inBlockQ_normal ?_ | refine inBlockQ_ret ?_ | refine inBlockQ_here ?_ | (apply inBlockQ_on; exact rfl) | refine JC_seq ?_ | refine JC_region ?_ | refine J_nil ?_ | refine JC_block ?_ | refine JC_skip ?_ | refine JC_ret ?_ | refine JC_exit ?_ | (apply JC_if_true; exact rfl) | (apply JC_if_false; exact rfl) | (apply JC_dec_true; exact rfl; omega) | (apply JC_dec_false; exact rfl; omega) | (apply JC_ndec_true; exact rfl; omega) | (apply JC_ndec_false; exact rfl; omega) | refine JC_dec rfl (fun _ => ?_) (fun _ => ?_) | refine JC_ndec rfl (fun _ => ?_) (fun _ => ?_) | refine JC_if rfl (fun _ => ?_) (fun _ => ?_))
    refine eT2nil (H' := H) rfl rfl rfl rfl ?_ ⟨_, [], rfl, rfl, rfl⟩
    (refine ent ?_ ?_; (repeat refine fr_cons rfl ?_); exact fr_nil; (repeat (first | exact List.nil_sublist _ | exact List.Sublist.refl _ | refine List.Sublist.cons_cons _ ?_ | refine List.Sublist.cons _ ?_)))
theorem codeS_nil {n : Int} {X O : List Nat} {c : Int} (hc : codeS n X O [] = c) : (c = 0 ∧ okG n X O ∧ n ≤ 6) ∨ ((¬ okG n X O ∧ c = 1) ∨ (okG n X O ∧ 6 < n ∧ c = 2)) := by
  rcases codeS_cases hc with ⟨h1, h2⟩ | ⟨⟨g, _⟩, ⟨h1, h2⟩ | ⟨h1, h2⟩⟩
  · exact .inr (.inl ⟨fun g => h2 ⟨g, fun l hl => absurd hl List.not_mem_nil⟩, h1⟩)
  · exact .inr (.inr ⟨g, h2, h1⟩)
  · exact .inl ⟨h1, g, h2⟩
end Go.Proofs.Ythijakignhjmgaa
namespace Go.Proofs.Ythijakignhjmgaa
open Go Go.RowKit SL
theorem tot_bound {K : Nat} : ∀ {L : List (Value × List Value)}, (∀ p ∈ L, p.2.length ≤ K) → tot L ≤ L.length * K
  | [], _ => by simp [tot]
  | p :: L, h => by
    have h1 := h p List.mem_cons_self
    have h2 := tot_bound (L := L) fun q hq => h q (List.mem_cons_of_mem _ hq)
    rw [List.length_cons, Nat.add_one_mul]
    simp only [tot, List.map_cons, List.sum_cons] at h2 ⊢
    omega
theorem rows_fact {L : List (Value × List Value)} {M : List (List Value)} (h : L.map (·.2) = M) (hl : M.length ≤ 46656) (hM : ∀ r ∈ M, isNums r ∧ r.length ≤ 46656) : (∀ p ∈ L, isNums p.2 ∧ p.2.length < 1000000) ∧ L.length < 1000000 ∧ tot L ≤ 2176782336 := by
  subst h
  rw [List.length_map] at hl
  have hp : ∀ p ∈ L, isNums p.2 ∧ p.2.length ≤ 46656 := fun p hp => hM _ (List.mem_map.2 ⟨p, hp, rfl⟩)
  refine ⟨fun p h => ⟨(hp p h).1, by have := (hp p h).2; omega⟩, by omega, ?_⟩
  have h1 := tot_bound fun p h => (hp p h).2
  have h2 : L.length * 46656 ≤ 46656 * 46656 := Nat.mul_le_mul_right _ hl
  omega
theorem rows_lens {L : List (Value × List Value)} (h : ∀ p ∈ L, isNums p.2 ∧ p.2.length < 1000000) : ∀ p ∈ L, p.2.length < 1000000 := fun p hp => (h p hp).2
end Go.Proofs.Ythijakignhjmgaa
