/- Walks: places of states in a list. -/
import Derived.Test.YtmbbcmebdefggaaDoorTH
import Derived.Test.YtmbbcmebdefggaaDoorUK
namespace Go.Proofs.YtmbbcmebdefggaaDoor
open Go Go.RowKit SL
/-- Each state with its place. -/
def numM (l : List StB) : List (StB × Nat) := l.zipIdx
theorem numM_keys (l : List StB) : (numM l).map (·.1) = l := by unfold numM; rw [← List.unzip_fst, List.unzip_zipIdx_eq_prod]
theorem numM_succ {l : List StB} (hn : l.Nodup) {k : Nat} {x : StB} (hx : l[k]? = some x) : putM (numM (l.take k)) x k = numM (l.take (k + 1)) := by
  have hk := (List.getElem?_eq_some_iff.1 hx).1
  have hno : x ∉ (numM (l.take k)).map (·.1) := by
    rw [numM_keys]
    intro hm
    obtain ⟨i, hi, e⟩ := List.getElem_of_mem hm
    rw [List.length_take] at hi
    have e2 : l[i]? = some x := by
      rw [← List.getElem?_take_of_lt (show i < k by omega), List.getElem?_eq_getElem (by rw [List.length_take]; exact hi), e]
    have := (List.getElem?_inj hk hn).1 (hx.trans e2.symm)
    omega
  unfold putM
  rw [if_neg hno]
  unfold numM
  rw [List.take_add_one, hx, Option.toList_some, List.zipIdx_append, List.length_take]
  simp
  omega
theorem numM_at {l : List StB} {i : Nat} {y : StB} (h : l[i]? = some y) : (numM l)[i]? = some (y, i) := by
  unfold numM
  rw [List.getElem?_zipIdx, h]
  simp
theorem numM_get {l : List StB} (hn : l.Nodup) {i : Nat} {y : StB} : lkM (numM l) y = some i ↔ l[i]? = some y := by
  have hnd : ((numM l).map (·.1)).Nodup := by rw [numM_keys]; exact hn
  have hget : ∀ j, l[j]? = some y → lkM (numM l) y = some j := fun j hj => lkM_get hnd (numM_at hj)
  constructor
  · intro h
    by_cases hy : y ∈ l
    · obtain ⟨j, hj⟩ := List.getElem?_of_mem hy
      rw [hget j hj] at h
      cases h
      exact hj
    · exfalso
      unfold lkM at h
      rw [List.find?_eq_none.2 fun p hp => by
        have : p.1 ∈ l := by rw [← numM_keys l]; exact List.mem_map.2 ⟨p, hp, rfl⟩
        simp only [decide_eq_true_eq]
        exact fun e => hy (e ▸ this)] at h
      cases h
  · exact hget i
set_option maxRecDepth 100000 in
theorem numbered_gives {B : Nat} {w0 : World} {H : Hp} {v : Value} (l : List StB) (hv : It.row v 43 8 (l.flatMap encS) ∈ H) (hn : l.Nodup) (hl : l.length < 100000000) :
    GivesE Tryd.prog 28 #[v] B w0 H (fun v' H' => ∃ b, v' = .map (some b) ∧ H' = .obj b (mapO (encM stK nV (numM l))) :: H) := by
  have iv : RB v H 43 8 (l.flatMap encS) := ⟨hv⟩
  have lf := fl_len encS_len l
  refine givesE_of (args := [v]) [(0, v)] Tryd.func28 rfl Tryd.ntmps28 rfl (argsF_cons rfl argsF_nil) ?_
  repeat' (first | (apply J_makeMap; exact rfl; (intro _)) | (apply Jq_move; exact rfl; exact rfl) | (apply Jq_assign; exact rfl; exact rfl) | (apply Jq_lenRs; exact rfl; exact rfl; (exact rb); exact lf; decide) | refine thenQ_normal ?_ | refine JC_seq ?_ | refine JC_region ?_ | refine J_nil ?_ | refine JC_block ?_)
  rename_i b3
  refine JC_loop (X := Nat) (fun k => k ≤ l.length) (fun k => [(3, .map (some b3)), (7, v), (8, .int .i64 (l.length : Int)), (9, .int .i64 (k : Int))]) (fun k => .obj b3 (mapO (encM stK nV (numM (l.take k)))) :: H) (fun k => l.length - k) 0 (Nat.zero_le _) ?_ ?_
  · (refine ent ?_ ?_; (repeat refine fr_cons rfl ?_); exact fr_nil; (repeat (exact List.Sublist.refl _)))
  · intro k hk
    by_cases hlt : k < l.length
    · obtain ⟨x, hx⟩ : ∃ x, l[k]? = some x := ⟨_, List.getElem?_eq_getElem hlt⟩
      have ux := encS_len x
      have hsu := numM_succ hn hx
      have hnd : ((numM (l.take k)).map (·.1)).Nodup := by rw [numM_keys]; exact hn.sublist (List.take_sublist _ _)
      repeat' (first | (apply J_updT (eV := nV) (E := kencS) (v := k); exact rfl; exact rfl; exact rfl; infer_instance; exact rfl; exact hnd; exact hsu) | (apply Jq_move; exact rfl; exact rfl) | (apply Jq_assign; exact rfl; exact rfl) | (apply Jq_cmp; exact rfl; exact rfl; exact rfl; exact rfl) | (apply Jq_add; exact rfl; exact rfl; exact rfl; omega) | (apply Jq_loadW; exact rfl; exact rfl; (exact mb); (omega)) | (apply J_sW; exact rfl; exact rfl; infer_instance; (exact rfl); (omega); (exact u8s_one _); infer_instance) | (apply Jq_indexRs; exact rfl; exact rfl; exact rfl; (exact rb); omega) | (apply Jq_loadRA; exact rfl; exact rfl; (exact rb); (exact fl_at encS_len hx); (omega); decide) | (apply J_alloc (cs := u8s Z8); exact rfl; exact rfl; (intro _)) | refine thenQ_normal ?_ | refine inBlockQ_normal ?_ | refine JC_seq ?_ | refine JC_region ?_ | refine J_nil ?_ | refine JC_block ?_ | refine JC_skip ?_ | (apply JC_dec_true; exact rfl; omega))
      refine ⟨k + 1, by omega, by omega, ?_⟩
      (refine ent ?_ ?_; (repeat refine fr_cons rfl ?_); exact fr_nil; (repeat (first | exact List.Sublist.refl _ | refine List.Sublist.cons _ ?_)))
    · obtain rfl : k = l.length := by omega
      rw [List.take_length]
      repeat' (first | (apply Jq_move; exact rfl; exact rfl) | (apply Jq_assign; exact rfl; exact rfl) | (apply Jq_cmp; exact rfl; exact rfl; exact rfl; exact rfl) | refine thenQ_normal ?_ | refine thenQ_exit ?_ | refine inBlockQ_here ?_ | refine JC_seq ?_ | refine JC_region ?_ | refine J_nil ?_ | refine JC_ret ?_ | refine JC_exit ?_ | (apply JC_dec_false; exact rfl; omega))
      refine SL.e1 (H' := .obj b3 (mapO (encM stK nV (numM l))) :: H) rfl rfl rfl ?_ ⟨b3, rfl, rfl⟩
      (refine ent ?_ ?_; (repeat refine fr_cons rfl ?_); exact fr_nil; (repeat (exact List.Sublist.refl _)))
end Go.Proofs.YtmbbcmebdefggaaDoor
