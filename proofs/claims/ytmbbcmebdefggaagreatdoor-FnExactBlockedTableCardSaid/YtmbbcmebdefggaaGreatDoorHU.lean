/- Walks: the program's matrix of a grade. Walks: the program's GradeMatrix. Walks: the law on GradeMatrix. -/
import Derived.Test.YtmbbcmebdefggaaGreatDoorHO
import Derived.Test.YtmbbcmebdefggaaGreatDoorHH
import Derived.Test.YtmbbcmebdefggaaGreatDoorTK
namespace Go.Proofs.YtmbbcmebdefggaaGreatDoor
open Go Go.RowKit SL
end Go.Proofs.YtmbbcmebdefggaaGreatDoor
namespace Go.Proofs.YtmbbcmebdefggaaGreatDoor
open Go Go.RowKit SL
set_option maxRecDepth 100000 in
theorem listedM_good {B : Nat} {w0 : World} {H : Hp} {fk : FuncId} {caps : Array Value} (hk : Runs Tryz.prog fk) (n : Int) (X O : List Nat) (bX : isB X) (bO : isB O) (g : okG n X O) (h6 : n ≤ 6) (R : Value → Hp → Prop) (hf : GivesE Tryz.prog fk (([.agg (gv n X O).toArray] : List Value) ++ caps.toList).toArray B w0 H R) :
    GivesE Tryz.prog 51 #[.agg (gv n X O).toArray, .func (.func fk) #[] caps] B w0 H (fun v' H' => ∃ u, v' = .tuple #[u, .int .i64 0] ∧ R u H') := by
  have ug := gv_len (n := n) bX.1 bO.1
  refine givesE_of (args := [.agg (gv n X O).toArray, .func (.func fk) #[] caps]) [(0, .agg (gv n X O).toArray), (1, .func (.func fk) #[] caps)] Tryz.func51 rfl Tryz.ntmps51 rfl (argsF_cons rfl (argsF_cons rfl argsF_nil)) ?_
  repeat' (first | (apply JcEcP (H1 := H); exact rfl; exact rfl; exact rfl; exact hk; (refine entP (ent ?_ (List.nil_sublist _)) ?_; (repeat refine fr_cons rfl ?_); exact fr_nil; (repeat (exact sp_end))); exact hf; (intro v' H' hV)) | (apply Jq_move; exact rfl; exact rfl) | (apply Jq_assign; exact rfl; exact rfl) | (apply Jq_load; exact rfl; exact rfl; (exact mb); (exact rfl)) | (apply Jq_fieldAddr; exact rfl; exact rfl) | (apply Jq_cmp; exact rfl; exact rfl; exact rfl; exact rfl) | (apply Jq_not; exact rfl; exact rfl) | (apply Jc; exact rfl; exact rfl; exact rfl; infer_instance; ((intro w hw); exact IsGrid_gives n X O bX bO w)) | (apply Jq_loadW; exact rfl; exact rfl; (exact mb); (omega)) | (apply J_box; exact rfl; exact rfl; exact rfl; (intro _)) | refine thenQ_normal ?_ | refine inBlockQ_normal ?_ | refine JC_seq ?_ | refine JC_region ?_ | refine J_nil ?_ | refine JC_block ?_ | refine JC_skip ?_ | refine JC_ret ?_ | (apply JC_dec_false; exact rfl; omega) | (apply JC_ndec_false; exact rfl; omega))
  exact eT2 (H' := H') rfl rfl rfl rfl (entS fun _ _ h => h) ⟨v', rfl, hV⟩
set_option maxRecDepth 100000 in
theorem listedM_bad {B : Nat} {w0 : World} {H : Hp} {f : Value} (n : Int) (X O : List Nat) (bX : isB X) (bO : isB O) {c : Int} (hc : (¬ okG n X O ∧ c = 1) ∨ (okG n X O ∧ 6 < n ∧ c = 2)) :
    GivesE Tryz.prog 51 #[.agg (gv n X O).toArray, f] B w0 H (ssR [] c H) := by
  have ug := gv_len (n := n) bX.1 bO.1
  refine givesE_of (args := [.agg (gv n X O).toArray, f]) [(0, .agg (gv n X O).toArray), (1, f)] Tryz.func51 rfl Tryz.ntmps51 rfl (argsF_cons rfl (argsF_cons rfl argsF_nil)) ?_
  rcases hc with ⟨g, rfl⟩ | ⟨g, h6, rfl⟩
  · repeat' (first | (apply Jq_move; exact rfl; exact rfl) | (apply Jq_assign; exact rfl; exact rfl) | (apply Jq_not; exact rfl; exact rfl) | (apply Jc; exact rfl; exact rfl; exact rfl; infer_instance; ((intro w hw); exact IsGrid_gives n X O bX bO w)) | (apply Jq_loadW; exact rfl; exact rfl; (exact mb); (omega)) | (apply J_box; exact rfl; exact rfl; exact rfl; (intro _)) | refine thenQ_normal ?_ | refine thenQ_ret ?_ | refine inBlockQ_ret ?_ | refine JC_seq ?_ | refine JC_region ?_ | refine J_nil ?_ | refine JC_block ?_ | refine JC_ret ?_ | (apply JC_ndec_true; exact rfl; omega))
    refine eT2nil (H' := H) rfl rfl rfl rfl ?_ ⟨_, [], rfl, rfl, rfl⟩
    (refine ent ?_ ?_; (repeat refine fr_cons rfl ?_); exact fr_nil; (repeat (first | exact List.Sublist.refl _ | refine List.Sublist.cons _ ?_)))
  · repeat' (first | (apply Jq_move; exact rfl; exact rfl) | (apply Jq_assign; exact rfl; exact rfl) | (apply Jq_load; exact rfl; exact rfl; (exact mb); (exact rfl)) | (apply Jq_fieldAddr; exact rfl; exact rfl) | (apply Jq_cmp; exact rfl; exact rfl; exact rfl; exact rfl) | (apply Jq_not; exact rfl; exact rfl) | (apply Jc; exact rfl; exact rfl; exact rfl; infer_instance; ((intro w hw); exact IsGrid_gives n X O bX bO w)) | (apply Jq_loadW; exact rfl; exact rfl; (exact mb); (omega)) | (apply J_box; exact rfl; exact rfl; exact rfl; (intro _)) | refine thenQ_normal ?_ | refine thenQ_ret ?_ | refine inBlockQ_ret ?_ | refine JC_seq ?_ | refine JC_region ?_ | refine J_nil ?_ | refine JC_block ?_ | refine JC_ret ?_ | (apply JC_dec_true; exact rfl; omega) | (apply JC_ndec_false; exact rfl; omega))
    refine eT2nil (H' := H) rfl rfl rfl rfl ?_ ⟨_, [], rfl, rfl, rfl⟩
    (refine ent ?_ ?_; (repeat refine fr_cons rfl ?_); exact fr_nil; (repeat (first | exact List.Sublist.refl _ | refine List.Sublist.cons _ ?_)))
end Go.Proofs.YtmbbcmebdefggaaGreatDoor
namespace Go.Proofs.YtmbbcmebdefggaaGreatDoor
open Go Go.RowKit SL
theorem tot_bound {K : Nat} : ∀ {L : List (Value × List Value)}, (∀ p ∈ L, p.2.length ≤ K) → tot L ≤ L.length * K
  | [], _ => by simp [tot]
  | p :: L, h => by
    have h1 := h p List.mem_cons_self
    have h2 := tot_bound (L := L) fun q hq => h q (List.mem_cons_of_mem _ hq)
    rw [List.length_cons, Nat.add_one_mul]
    simp only [tot, List.map_cons, List.sum_cons] at h2 ⊢
    omega
theorem rows_fact {L : List (Value × List Value)} {M : List (List Value)} (h : L.map (·.2) = M) (hl : M.length ≤ 46656) (hM : ∀ r ∈ M, isNums r ∧ r.length ≤ 46656) : (∀ p ∈ L, isNums p.2 ∧ p.2.length < 1000000) ∧ L.length < 1000000 ∧ tot L ≤ 2176782336 := by
  subst h
  rw [List.length_map] at hl
  have hp : ∀ p ∈ L, isNums p.2 ∧ p.2.length ≤ 46656 := fun p hp => hM _ (List.mem_map.2 ⟨p, hp, rfl⟩)
  refine ⟨fun p h => ⟨(hp p h).1, by have := (hp p h).2; omega⟩, by omega, ?_⟩
  have h1 := tot_bound fun p h => (hp p h).2
  have h2 : L.length * 46656 ≤ 46656 * 46656 := Nat.mul_le_mul_right _ hl
  omega
theorem rows_lens {L : List (Value × List Value)} (h : ∀ p ∈ L, isNums p.2 ∧ p.2.length < 1000000) : ∀ p ∈ L, p.2.length < 1000000 := fun p hp => (h p hp).2
end Go.Proofs.YtmbbcmebdefggaaGreatDoor
