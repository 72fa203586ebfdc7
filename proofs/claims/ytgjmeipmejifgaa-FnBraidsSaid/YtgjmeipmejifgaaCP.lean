/- Walks: ComponentsOf; rows of rows. -/
import Derived.Test.YtgjmeipmejifgaaWU
namespace Go.Proofs.Ytgjmeipmejifgaa
open Go Go.RowKit SL
def rows (L : List (Value × List Nat)) : Hp := L.map fun p => It.row p.1 2 1 (i64s p.2)
namespace SL
section
variable {P : Program} {B : Nat} {w0 : World} {n : Nat} {Q : Po} {F : Fr} {H H' : Hp} {ops : Array Oper} {l : List Oper} {ty : TypeId} {pos : String} {af : Array Edge} {d : Nat}
theorem owned_app_nil (c : Nat) : owned (H ++ rows (List.replicate c (.slice none 0 0, []))) = owned H := by
  unfold owned rows
  rw [List.filterMap_append, List.map_replicate]
  have : List.filterMap It.own (List.replicate c (It.row (.slice none 0 0) 2 1 (i64s []))) = [] := by
    rw [List.filterMap_eq_nil_iff]
    intro a ha
    rw [List.eq_of_mem_replicate ha]
    rfl
  rw [this, List.append_nil]
theorem JC_nilrows {c : Code} (m : Nat) (k : JC P B w0 n c Q F (H ++ rows (List.replicate m (.slice none 0 0, [])))) : JC P B w0 n c Q F H := by
  unfold JC at *
  refine fun a w ha hw => k a w ha ⟨hw.below, hw.base, fun x hx => ?_, by rw [owned_app_nil]; exact hw.apart⟩
  rcases List.mem_append.1 hx with hx | hx
  · exact hw.ok x hx
  · unfold rows at hx
    rw [List.map_replicate] at hx
    rw [List.eq_of_mem_replicate hx]
    exact ⟨0, World.ownsRow_nil w B 2 1⟩
theorem J_row1 {v : Value} {e sz : Nat} {xs : List Value} (hm : It.row v e sz xs ∈ H) (k : v.oneCell' = true → J false P B w0 n ops Q l F H) : J false P B w0 n ops Q l F H := by
  unfold J at *
  intro a w ha hw
  obtain ⟨m, _, h2⟩ := hw.row_slice hm
  refine k ?_ a w ha hw
  rcases h2 with ⟨rfl, _⟩ | ⟨_, _, _, rfl, _⟩ <;> rfl
/-- An append to one of many rows. -/
theorem J_appL {T : TypeId} {x y : Operand} {by' : Nat} {z : Value} {u : Value} {k : Nat} {L1 L2 : List (Value × List Nat)} {p : Value × List Nat} {y0 y1 y2 y3 : It} [IS P T 2 1 by' z] (hd : Nat.blt d n = true) (hx : ev F x = some p.1) (hy : ev F y = some u)
    (hm : y0 = It.row u 2 1 [.int .i64 (k : Int)]) (hby : (p.2.length + 1) * by' ≤ 140737488355328) (hby0 : 0 < by')
    (K : ∀ v' : Value, v'.oneCell' = true → J false P B w0 n ops Q l ((d, v') :: F) (y0 :: y1 :: y2 :: y3 :: rows (L1 ++ (v', p.2 ++ [k]) :: L2))) :
    J false P B w0 n ops Q (⟨some d, .call { callee := .builtin .append, args := #[x, y], argTypes := #[T, T] }, ty, pos, af, none⟩ :: l) F (y0 :: y1 :: y2 :: y3 :: rows (L1 ++ p :: L2)) := by
  have e : ∀ q : Value × List Nat, (y0 :: y1 :: y2 :: y3 :: rows (L1 ++ q :: L2)) = (y0 :: y1 :: y2 :: y3 :: rows L1) ++ It.row q.1 2 1 (i64s q.2) :: rows L2 := fun q => by simp [rows]
  rw [e p]
  refine J_append (ys := [.int .i64 (k : Int)]) (zs := i64s (p.2 ++ [k])) Nat.one_pos hd hx hy ?_ (List.cons_ne_nil _ _) (ones_of rfl) (by rw [i64s_len]; exact hby) hby0 i64s_snoc fun v' => ?_
  · rw [← hm]; exact List.mem_append_left _ List.mem_cons_self
  · refine J_row1 (v := v') (e := 2) (sz := 1) (xs := i64s (p.2 ++ [k])) (List.mem_append_right _ List.mem_cons_self) fun h1 => ?_
    have := K v' h1
    rw [e (v', p.2 ++ [k])] at this
    exact this
end
end SL
/-- A row behind a slice, of so many cells. -/
def rowLen (e c : Nat) (v : Value) (its : Hp) : Prop := ∃ vals : List Value, vals.length = c ∧ its = [.row v e 1 vals]
theorem map_set {L1 L2 : List (Value × List Nat)} {p q : Value × List Nat} : ((L1 ++ p :: L2).map (·.1)).set (0 + L1.length * 1) q.1 = (L1 ++ q :: L2).map (·.1) := by
  rw [show 0 + L1.length * 1 = L1.length by omega]
  simp
set_option maxRecDepth 100000 in
theorem compsOf1_gives (n : Nat) (X O : List Nat) (bX : isB X) (bO : isB O) (g : okG (n : Int) X O) (w : World) :
    GivesN Try.prog 74 #[.agg (gv n X O).toArray] (rowLen 37 (comps n X O)) w := by
  have hn := g.1
  have ug := gv_len (n := n) bX.1 bO.1
  have lz : (i64s Z8).length = 8 := rfl
  have hcn : comps n X O ≤ n := by
    unfold comps nrep repsU
    exact Nat.le_trans (List.length_filter_le _ _) (by simp)
  have hcg := component_gives n X O bX bO g
  generalize comps n X O = c at *
  refine givesN_of (args := [.agg (gv n X O).toArray]) [(0, .agg (gv n X O).toArray)] [] Try.func74 rfl Try.ntmps74 rfl (argsF_cons rfl argsF_nil) (Holds.start w) ?_
  repeat' (first | (apply JcComp; exact rfl; exact rfl; exact rfl; infer_instance; ((intro w hw); exact hcg w); (intro L uL lL hL)) | (apply Jq_move; exact rfl; exact rfl) | (apply Jq_assign; exact rfl; exact rfl) | (apply Jq_load; exact rfl; exact rfl; (exact mb); (first | exact rfl)) | (apply Jq_indexN; exact rfl; exact rfl; exact rfl; omega) | (apply Jq_index; exact rfl; exact rfl; exact rfl; omega; omega) | (apply Jq_indexSN; exact rfl; exact rfl; exact rfl; omega) | (apply Jq_cmp; exact rfl; exact rfl; exact rfl; exact rfl) | (apply Jq_add; exact rfl; exact rfl; exact rfl; omega) | (apply Jc; exact rfl; exact rfl; exact rfl; infer_instance; ((intro w hw); first | exact n_gives n X O w)) | (apply Jq_loadW; exact rfl; exact rfl; (exact mb); (first | exact rfl | omega)) | (apply Jq_loadA; exact rfl; exact rfl; (exact mb); (first | exact rfl); (first | exact rfl | omega)) | (apply J_s1; exact rfl; exact rfl; exact rfl; infer_instance; (first | exact rfl | omega); (first | exact rfl); infer_instance) | (apply J_sW; exact rfl; exact rfl; infer_instance; (first | exact rfl | omega); (first | exact rfl | omega); (first | exact ones_of rfl | exact u8s_one _ | exact i64s_one _ | exact bls_one _ | exact gv_one _ _ _ | exact dv_one _ _ _ _ _ _); infer_instance) | (apply J_sR; exact rfl; exact rfl; exact rfl; infer_instance; (first | exact rfl | omega); (first | exact i64s_setR)) | (apply J_lit1; exact rfl; exact rfl; exact rfl; (intro _)) | (apply J_ap; exact Nat.one_pos; exact rfl; exact rfl; exact rfl; infer_instance; (first | exact rb | assumption); exact List.cons_ne_nil _ _; exact ones_of rfl; ((show (_ + 1) * _ ≤ _); omega); decide; (first | exact i64s_snoc | exact u8s_snoc | exact rfl); (intro _)) | (apply Jq_indexRN; exact rfl; exact rfl; exact rfl; (first | exact rb | assumption); omega) | (apply Jq_loadR; exact rfl; exact rfl; (first | exact rb | assumption); (first | exact rfl)) | (apply Jq_extract; exact rfl; exact rfl; exact rfl) | (apply J_box; exact rfl; exact rfl; exact rfl; (intro _)) | (apply J_make1; exact rfl; exact rfl; exact rfl; omega; ((show _ ≤ maxLen); (simp only [maxLen]); omega); exact rfl; (intro _)) | (apply J_alloc (cs := gv 0 Z8 Z8); exact rfl; exact rfl; (intro _)) | (apply J_alloc (cs := dv 0 Z8 Z8 0 Z8 Z8); exact rfl; exact rfl; (intro _)) | (apply J_alloc (cs := u8s Z8); exact rfl; exact rfl; (intro _)) | (apply J_alloc (cs := i64s Z8); exact rfl; exact rfl; (intro _)) | (apply J_alloc (cs := bls F8); exact rfl; exact rfl; (intro _)) | (apply J_alloc (cs := i64s Z8); exact rfl; exact rfl; (intro _)) | (apply J_alloc; exact rfl; exact rfl; (intro _)) | refine thenQ_normal ?_ | refine thenQ_exit ?_ | refine thenQ_ret ?_ | refine inBlockQ_normal ?_ | refine inBlockQ_ret ?_ | refine inBlockQ_here ?_ | (apply inBlockQ_on; exact rfl) | refine JC_seq ?_ | refine JC_region ?_ | (apply JC_draw mixed; kernel_rfl) | refine J_nil ?_ | refine JC_block ?_ | refine JC_skip ?_ | refine JC_ret ?_ | refine JC_exit ?_ | (apply JC_if_true; exact rfl) | (apply JC_if_false; exact rfl) | (apply JC_dec_true; exact rfl; omega) | (apply JC_dec_false; exact rfl; omega) | (apply JC_ndec_true; exact rfl; omega) | (apply JC_ndec_false; exact rfl; omega) | refine JC_dec rfl (fun _ => ?_) (fun _ => ?_) | refine JC_ndec rfl (fun _ => ?_) (fun _ => ?_) | refine JC_if rfl (fun _ => ?_) (fun _ => ?_))
  rename_i b1 b3 b5
  refine JC_nilrows c ?_
  refine JC_loop (X := Nat × List (Value × List Nat)) (fun p => p.1 ≤ n ∧ p.2.length = c ∧ ∀ q ∈ p.2, q.2.length ≤ p.1) (fun p => [(16, .int .i64 (p.1 : Int)), (15, .int .i64 (n : Int)), (5, .slice (some ⟨b5, 0, none⟩) c c), (3, .pointer (some ⟨b3, 0, none⟩))])
    (fun p => .row (.slice (some ⟨b5, 0, none⟩) c c) 37 1 (p.2.map (·.1)) :: .blk b3 (i64s L) 98 :: .blk b1 (gv n X O) 27 :: rows p.2) (fun p => n - p.1) (0, List.replicate c (.slice none 0 0, [])) ⟨Nat.zero_le _, List.length_replicate, fun q hq => by rw [List.eq_of_mem_replicate hq]; exact Nat.le_refl _⟩ ?_ ?_
  · dsimp only
    rw [List.map_replicate]
    exact ent (by (repeat refine fr_cons rfl ?_); exact fr_nil) (List.Sublist.refl _)
  · rintro ⟨k, M⟩ ⟨hk, hM, hq⟩
    dsimp only at hk hM hq ⊢
    by_cases hlt : k < n
    · have hj := hL k hlt
      generalize hjj : L.getD k 0 = j at *
      have hsplit : M = M.take j ++ M[j]'(by omega) :: M.drop (j + 1) := by
        rw [← List.drop_eq_getElem_cons]; exact (List.take_append_drop j M).symm
      have hpl := hq (M[j]'(by omega)) (List.getElem_mem _)
      have lt1 : (M.take j).length = j := by rw [List.length_take]; omega
      have lt2 : (M.drop (j + 1)).length + j + 1 = c := by rw [List.length_drop]; omega
      have hmem : ∀ q, q ∈ M.take j ∨ q ∈ M.drop (j + 1) → q.2.length ≤ k := fun q h => hq q (h.elim List.mem_of_mem_take List.mem_of_mem_drop)
      generalize M[j]'(by omega) = p at *
      generalize M.take j = M1 at *
      generalize M.drop (j + 1) = M2 at *
      subst hsplit
      have lv : ((M1 ++ p :: M2).map (·.1)).length = c := by rw [List.length_map]; exact hM
      have hget : ((M1 ++ p :: M2).map (·.1))[0 + j * 1]? = some p.1 := by rw [show 0 + j * 1 = M1.length by omega]; simp
      have hset : ∀ v', ((M1 ++ p :: M2).map (·.1)).set (0 + j * 1) v' = (M1 ++ (v', p.2 ++ [k]) :: M2).map (·.1) := fun v' => by rw [← lt1]; exact map_set (q := (v', p.2 ++ [k]))
      have hLk : (i64s L)[0 + k * 1]? = some (.int .i64 (j : Int)) := by rw [i64s_at (by omega), hjj]
      repeat' (first | (apply Jq_move; exact rfl; exact rfl) | (apply Jq_assign; exact rfl; exact rfl) | (apply Jq_load; exact rfl; exact rfl; (exact mb); (first | exact rfl)) | (apply Jq_indexN; exact rfl; exact rfl; exact rfl; omega) | (apply Jq_index; exact rfl; exact rfl; exact rfl; omega; omega) | (apply Jq_indexSN; exact rfl; exact rfl; exact rfl; omega) | (apply Jq_cmp; exact rfl; exact rfl; exact rfl; exact rfl) | (apply Jq_add; exact rfl; exact rfl; exact rfl; omega) | (apply Jq_loadW; exact rfl; exact rfl; (exact mb); (first | exact rfl | omega)) | (apply Jq_loadA; exact rfl; exact rfl; (exact mb); (first | exact rfl); (first | exact rfl | omega)) | (apply J_s1; exact rfl; exact rfl; exact rfl; infer_instance; (first | exact rfl | omega); (first | exact rfl); infer_instance) | (apply J_sW; exact rfl; exact rfl; infer_instance; (first | exact rfl | omega); (first | exact rfl | omega); (first | exact ones_of rfl | exact u8s_one _ | exact i64s_one _ | exact bls_one _ | exact gv_one _ _ _ | exact dv_one _ _ _ _ _ _); infer_instance) | (apply J_sR; exact rfl; exact rfl; exact rfl; infer_instance; (first | exact rfl | omega); (first | exact i64s_setR)) | (apply J_lit1; exact rfl; exact rfl; exact rfl; (intro _)) | (apply J_ap; exact Nat.one_pos; exact rfl; exact rfl; exact rfl; infer_instance; (first | exact rb | assumption); exact List.cons_ne_nil _ _; exact ones_of rfl; ((show (_ + 1) * _ ≤ _); omega); decide; (first | exact i64s_snoc | exact u8s_snoc | exact rfl); (intro _)) | (apply Jq_indexRN; exact rfl; exact rfl; exact rfl; (first | exact rb | assumption); omega) | (apply Jq_loadR; exact rfl; exact rfl; (first | exact rb | assumption); (first | exact rfl)) | (apply Jq_extract; exact rfl; exact rfl; exact rfl) | (apply J_box; exact rfl; exact rfl; exact rfl; (intro _)) | (apply J_make1; exact rfl; exact rfl; exact rfl; omega; ((show _ ≤ maxLen); (simp only [maxLen]); omega); exact rfl; (intro _)) | (apply J_alloc (cs := gv 0 Z8 Z8); exact rfl; exact rfl; (intro _)) | (apply J_alloc (cs := dv 0 Z8 Z8 0 Z8 Z8); exact rfl; exact rfl; (intro _)) | (apply J_alloc (cs := u8s Z8); exact rfl; exact rfl; (intro _)) | (apply J_alloc (cs := i64s Z8); exact rfl; exact rfl; (intro _)) | (apply J_alloc (cs := bls F8); exact rfl; exact rfl; (intro _)) | (apply J_alloc; exact rfl; exact rfl; (intro _)) | refine thenQ_normal ?_ | refine thenQ_exit ?_ | refine thenQ_ret ?_ | refine inBlockQ_normal ?_ | refine inBlockQ_ret ?_ | refine inBlockQ_here ?_ | (apply inBlockQ_on; exact rfl) | refine JC_seq ?_ | refine JC_region ?_ | refine J_nil ?_ | refine JC_block ?_ | refine JC_skip ?_ | refine JC_ret ?_ | refine JC_exit ?_ | (apply JC_if_true; exact rfl) | (apply JC_if_false; exact rfl) | (apply JC_dec_true; exact rfl; omega) | (apply JC_dec_false; exact rfl; omega) | (apply JC_ndec_true; exact rfl; omega) | (apply JC_ndec_false; exact rfl; omega) | refine JC_dec rfl (fun _ => ?_) (fun _ => ?_) | refine JC_ndec rfl (fun _ => ?_) (fun _ => ?_) | refine JC_if rfl (fun _ => ?_) (fun _ => ?_))
      refine JC_cutB (Y := Value) (fun _ => True) (fun _ => [(16, .int .i64 (k : Int)), (15, .int .i64 (n : Int)), (5, .slice (some ⟨b5, 0, none⟩) c c), (3, .pointer (some ⟨b3, 0, none⟩))])
        (fun v' => .row (.slice (some ⟨b5, 0, none⟩) c c) 37 1 ((M1 ++ (v', p.2 ++ [k]) :: M2).map (·.1)) :: .blk b3 (i64s L) 98 :: .blk b1 (gv n X O) 27 :: rows (M1 ++ (v', p.2 ++ [k]) :: M2)) ?_ ?_
      ·
        refine JC_any (m := 15) rfl [.blk b3 (i64s L) 98] mixed (by ((repeat (apply sub_cons; (focus ((with_reducible (repeat (first | exact m0 | assumption | refine mS ?_))); done)))); exact sub_nil)) ?_
        (apply JF_q 0; exact rfl; kernel_rfl; exact rfl; (intro E hE; (first | (apply q_move; exact rfl))))
        (apply JF_q 1; exact rfl; kernel_rfl; exact rfl; (intro E hE; (first | (apply q_move; exact rfl))))
        (apply JF_q 2; exact rfl; kernel_rfl; exact rfl; (intro E hE; (first | (apply q_indexN; exact rfl; exact rfl; omega) | (apply q_index; exact rfl; exact rfl; omega; omega) | (apply q_indexSN; exact rfl; exact rfl; omega) | (apply q_indexRN; exact rfl; exact rfl; (refine hE _ ?_; exact rb); omega))))
        (apply JF_q 3; exact rfl; kernel_rfl; exact rfl; (intro E hE; (first | (apply q_load; exact rfl; (refine hE _ ?_; exact mb); (first | exact rfl | exact hLk | exact hget)) | (apply q_loadW; exact rfl; (refine hE _ ?_; exact mb); (first | exact rfl | omega)) | (apply q_loadA; exact rfl; (refine hE _ ?_; exact mb); (first | exact hLk | exact hget | exact rfl); (first | exact rfl | omega)) | (apply q_loadR; exact rfl; (refine hE _ ?_; exact rb); (first | exact rfl | exact hLk | exact hget)))))
        (apply JF_q 4; exact rfl; kernel_rfl; exact rfl; (intro E hE; (first | (apply q_move; exact rfl))))
        (apply JF_q 5; exact rfl; kernel_rfl; exact rfl; (intro E hE; (first | (apply q_move; exact rfl))))
        (apply JF_q 6; exact rfl; kernel_rfl; exact rfl; (intro E hE; (first | (apply q_indexN; exact rfl; exact rfl; omega) | (apply q_index; exact rfl; exact rfl; omega; omega) | (apply q_indexSN; exact rfl; exact rfl; omega) | (apply q_indexRN; exact rfl; exact rfl; (refine hE _ ?_; exact rb); omega))))
        (apply JF_q 7; exact rfl; kernel_rfl; exact rfl; (intro E hE; (first | (apply q_load; exact rfl; (refine hE _ ?_; exact mb); (first | exact rfl | exact hLk | exact hget)) | (apply q_loadW; exact rfl; (refine hE _ ?_; exact mb); (first | exact rfl | omega)) | (apply q_loadA; exact rfl; (refine hE _ ?_; exact mb); (first | exact hLk | exact hget | exact rfl); (first | exact rfl | omega)) | (apply q_loadR; exact rfl; (refine hE _ ?_; exact rb); (first | exact rfl | exact hLk | exact hget)))))
        (apply JF_q 8; exact rfl; kernel_rfl; exact rfl; (intro E hE; (first | (apply q_indexN; exact rfl; exact rfl; omega) | (apply q_index; exact rfl; exact rfl; omega; omega) | (apply q_indexSN; exact rfl; exact rfl; omega) | (apply q_indexRN; exact rfl; exact rfl; (refine hE _ ?_; exact rb); omega))))
        (apply JF_q 10; exact rfl; kernel_rfl; exact rfl; (intro E hE; (first | (apply q_move; exact rfl))))
        (apply JF_all [9, 11]; kernel_rfl)
        (apply JFs_cons; exact rfl)
        · (first | (apply Jq_loadR (v := .slice (some ⟨b5, 0, none⟩) c c); exact rfl; exact rfl; (focus ((with_reducible (repeat (first | exact m0 | assumption | refine mS ?_))); done)); exact hget) | (apply J_appL; exact rfl; exact rfl; exact rfl; exact rfl; ((show (_ + 1) * _ ≤ _); omega); decide; (intro _ hv1)) | (apply J_storeR_1; exact rfl; exact rfl; exact hv1; omega; exact hset _) | (apply Jq_load; exact rfl; exact rfl; (exact mb); (first | exact rfl | exact hLk | exact hget)) | (apply Jq_loadW; exact rfl; exact rfl; (exact mb); (first | exact rfl | omega)) | (apply Jq_loadA; exact rfl; exact rfl; (exact mb); (first | exact hLk | exact hget | exact rfl); (first | exact rfl | omega)) | (apply Jq_loadR; exact rfl; exact rfl; (first | exact rb | assumption); (first | exact rfl | exact hLk | exact hget)))
          (apply J_nil; apply JF_end; ((repeat (apply sub_cons; (focus ((with_reducible (repeat (first | exact m0 | assumption | refine mS ?_))); done)))); exact sub_nil))
          (apply JF_all [11]; kernel_rfl)
          (apply JFs_cons; exact rfl)
          · (first | (apply Jq_loadR (v := .slice (some ⟨b5, 0, none⟩) c c); exact rfl; exact rfl; (focus ((with_reducible (repeat (first | exact m0 | assumption | refine mS ?_))); done)); exact hget) | (apply J_appL; exact rfl; exact rfl; exact rfl; exact rfl; ((show (_ + 1) * _ ≤ _); omega); decide; (intro _ hv1)) | (apply J_storeR_1; exact rfl; exact rfl; exact hv1; omega; exact hset _) | (apply J_lit1; exact rfl; exact rfl; exact rfl; (intro _)))
            (apply J_nil; apply JF_end; ((repeat (apply sub_cons; (focus ((with_reducible (repeat (first | exact m0 | assumption | refine mS ?_))); done)))); exact sub_nil))
            (apply JF_all [12]; kernel_rfl)
            (apply JFs_cons; exact rfl)
            · (first | (apply Jq_loadR (v := .slice (some ⟨b5, 0, none⟩) c c); exact rfl; exact rfl; (focus ((with_reducible (repeat (first | exact m0 | assumption | refine mS ?_))); done)); exact hget) | (apply J_appL; exact rfl; exact rfl; exact rfl; exact rfl; ((show (_ + 1) * _ ≤ _); omega); decide; (intro _ hv1)) | (apply J_storeR_1; exact rfl; exact rfl; exact hv1; omega; exact hset _) | (apply J_ap; exact Nat.one_pos; exact rfl; exact rfl; exact rfl; infer_instance; (first | exact rb | assumption); exact List.cons_ne_nil _ _; exact ones_of rfl; ((show (_ + 1) * _ ≤ _); omega); decide; (first | exact i64s_snoc | exact u8s_snoc | exact rfl); (intro _)))
              (apply J_nil; apply JF_end; ((repeat (apply sub_cons; (focus ((with_reducible (repeat (first | exact m0 | assumption | refine mS ?_))); done)))); exact sub_nil))
              (apply JF_q 13; exact rfl; kernel_rfl; exact rfl; (intro E hE; (first | (apply q_indexN; exact rfl; exact rfl; omega) | (apply q_index; exact rfl; exact rfl; omega; omega) | (apply q_indexSN; exact rfl; exact rfl; omega) | (apply q_indexRN; exact rfl; exact rfl; (refine hE _ ?_; exact rb); omega))))
              (apply JF_all [14]; kernel_rfl)
              (apply JFs_cons; exact rfl)
              · (first | (apply Jq_loadR (v := .slice (some ⟨b5, 0, none⟩) c c); exact rfl; exact rfl; (focus ((with_reducible (repeat (first | exact m0 | assumption | refine mS ?_))); done)); exact hget) | (apply J_appL; exact rfl; exact rfl; exact rfl; exact rfl; ((show (_ + 1) * _ ≤ _); omega); decide; (intro _ hv1)) | (apply J_storeR_1; exact rfl; exact rfl; exact hv1; omega; exact hset _) | (apply J_s1; exact rfl; exact rfl; exact rfl; infer_instance; (first | exact rfl | omega); (first | exact hset _ | exact rfl); infer_instance) | (apply J_sW; exact rfl; exact rfl; infer_instance; (first | exact rfl | omega); (first | exact rfl | omega); (first | exact ones_of rfl | exact u8s_one _ | exact i64s_one _ | exact bls_one _ | exact gv_one _ _ _ | exact dv_one _ _ _ _ _ _); infer_instance) | (apply J_sR; exact rfl; exact rfl; exact rfl; infer_instance; (first | exact rfl | omega); (first | exact hset _ | exact i64s_setR)))
                (apply J_nil; apply JF_end; ((repeat (apply sub_cons; (focus ((with_reducible (repeat (first | exact m0 | assumption | refine mS ?_))); done)))); exact sub_nil))
                (apply JF_done; kernel_rfl)
                (apply inBlockQ_normal; apply thenQ_normal; apply ex1; refine ⟨trivial, ?_⟩; (refine ent ?_ ?_; (repeat refine fr_cons rfl ?_); exact fr_nil; (repeat (first | exact List.nil_sublist _ | exact List.Sublist.refl _ | refine List.Sublist.cons_cons _ ?_ | refine List.Sublist.cons _ ?_))))
              exact JFs_nil
            exact JFs_nil
          exact JFs_nil
        (apply JFs_cons; exact rfl)
        · (first | (apply Jq_loadR (v := .slice (some ⟨b5, 0, none⟩) c c); exact rfl; exact rfl; (focus ((with_reducible (repeat (first | exact m0 | assumption | refine mS ?_))); done)); exact hget) | (apply J_appL; exact rfl; exact rfl; exact rfl; exact rfl; ((show (_ + 1) * _ ≤ _); omega); decide; (intro _ hv1)) | (apply J_storeR_1; exact rfl; exact rfl; exact hv1; omega; exact hset _) | (apply J_lit1; exact rfl; exact rfl; exact rfl; (intro _)))
          (apply J_nil; apply JF_end; ((repeat (apply sub_cons; (focus ((with_reducible (repeat (first | exact m0 | assumption | refine mS ?_))); done)))); exact sub_nil))
          (apply JF_all [9]; kernel_rfl)
          (apply JFs_cons; exact rfl)
          · (first | (apply Jq_loadR (v := .slice (some ⟨b5, 0, none⟩) c c); exact rfl; exact rfl; (focus ((with_reducible (repeat (first | exact m0 | assumption | refine mS ?_))); done)); exact hget) | (apply J_appL; exact rfl; exact rfl; exact rfl; exact rfl; ((show (_ + 1) * _ ≤ _); omega); decide; (intro _ hv1)) | (apply J_storeR_1; exact rfl; exact rfl; exact hv1; omega; exact hset _) | (apply Jq_load; exact rfl; exact rfl; (exact mb); (first | exact rfl | exact hLk | exact hget)) | (apply Jq_loadW; exact rfl; exact rfl; (exact mb); (first | exact rfl | omega)) | (apply Jq_loadA; exact rfl; exact rfl; (exact mb); (first | exact hLk | exact hget | exact rfl); (first | exact rfl | omega)) | (apply Jq_loadR; exact rfl; exact rfl; (first | exact rb | assumption); (first | exact rfl | exact hLk | exact hget)))
            (apply J_nil; apply JF_end; ((repeat (apply sub_cons; (focus ((with_reducible (repeat (first | exact m0 | assumption | refine mS ?_))); done)))); exact sub_nil))
            (apply JF_all [12]; kernel_rfl)
            (apply JFs_cons; exact rfl)
            · (first | (apply Jq_loadR (v := .slice (some ⟨b5, 0, none⟩) c c); exact rfl; exact rfl; (focus ((with_reducible (repeat (first | exact m0 | assumption | refine mS ?_))); done)); exact hget) | (apply J_appL; exact rfl; exact rfl; exact rfl; exact rfl; ((show (_ + 1) * _ ≤ _); omega); decide; (intro _ hv1)) | (apply J_storeR_1; exact rfl; exact rfl; exact hv1; omega; exact hset _) | (apply J_ap; exact Nat.one_pos; exact rfl; exact rfl; exact rfl; infer_instance; (first | exact rb | assumption); exact List.cons_ne_nil _ _; exact ones_of rfl; ((show (_ + 1) * _ ≤ _); omega); decide; (first | exact i64s_snoc | exact u8s_snoc | exact rfl); (intro _)))
              (apply J_nil; apply JF_end; ((repeat (apply sub_cons; (focus ((with_reducible (repeat (first | exact m0 | assumption | refine mS ?_))); done)))); exact sub_nil))
              (apply JF_q 13; exact rfl; kernel_rfl; exact rfl; (intro E hE; (first | (apply q_indexN; exact rfl; exact rfl; omega) | (apply q_index; exact rfl; exact rfl; omega; omega) | (apply q_indexSN; exact rfl; exact rfl; omega) | (apply q_indexRN; exact rfl; exact rfl; (refine hE _ ?_; exact rb); omega))))
              (apply JF_all [14]; kernel_rfl)
              (apply JFs_cons; exact rfl)
              · (first | (apply Jq_loadR (v := .slice (some ⟨b5, 0, none⟩) c c); exact rfl; exact rfl; (focus ((with_reducible (repeat (first | exact m0 | assumption | refine mS ?_))); done)); exact hget) | (apply J_appL; exact rfl; exact rfl; exact rfl; exact rfl; ((show (_ + 1) * _ ≤ _); omega); decide; (intro _ hv1)) | (apply J_storeR_1; exact rfl; exact rfl; exact hv1; omega; exact hset _) | (apply J_s1; exact rfl; exact rfl; exact rfl; infer_instance; (first | exact rfl | omega); (first | exact hset _ | exact rfl); infer_instance) | (apply J_sW; exact rfl; exact rfl; infer_instance; (first | exact rfl | omega); (first | exact rfl | omega); (first | exact ones_of rfl | exact u8s_one _ | exact i64s_one _ | exact bls_one _ | exact gv_one _ _ _ | exact dv_one _ _ _ _ _ _); infer_instance) | (apply J_sR; exact rfl; exact rfl; exact rfl; infer_instance; (first | exact rfl | omega); (first | exact hset _ | exact i64s_setR)))
                (apply J_nil; apply JF_end; ((repeat (apply sub_cons; (focus ((with_reducible (repeat (first | exact m0 | assumption | refine mS ?_))); done)))); exact sub_nil))
                (apply JF_done; kernel_rfl)
                (apply inBlockQ_normal; apply thenQ_normal; apply ex1; refine ⟨trivial, ?_⟩; (refine ent ?_ ?_; (repeat refine fr_cons rfl ?_); exact fr_nil; (repeat (first | exact List.nil_sublist _ | exact List.Sublist.refl _ | refine List.Sublist.cons_cons _ ?_ | refine List.Sublist.cons _ ?_))))
              exact JFs_nil
            exact JFs_nil
          exact JFs_nil
        exact JFs_nil
      · intro v' _
        repeat' (first | (apply Jq_move; exact rfl; exact rfl) | (apply Jq_assign; exact rfl; exact rfl) | (apply Jq_load; exact rfl; exact rfl; (exact mb); (first | exact rfl)) | (apply Jq_indexN; exact rfl; exact rfl; exact rfl; omega) | (apply Jq_index; exact rfl; exact rfl; exact rfl; omega; omega) | (apply Jq_indexSN; exact rfl; exact rfl; exact rfl; omega) | (apply Jq_cmp; exact rfl; exact rfl; exact rfl; exact rfl) | (apply Jq_add; exact rfl; exact rfl; exact rfl; omega) | (apply Jq_loadW; exact rfl; exact rfl; (exact mb); (first | exact rfl | omega)) | (apply Jq_loadA; exact rfl; exact rfl; (exact mb); (first | exact rfl); (first | exact rfl | omega)) | (apply J_s1; exact rfl; exact rfl; exact rfl; infer_instance; (first | exact rfl | omega); (first | exact rfl); infer_instance) | (apply J_sW; exact rfl; exact rfl; infer_instance; (first | exact rfl | omega); (first | exact rfl | omega); (first | exact ones_of rfl | exact u8s_one _ | exact i64s_one _ | exact bls_one _ | exact gv_one _ _ _ | exact dv_one _ _ _ _ _ _); infer_instance) | (apply J_sR; exact rfl; exact rfl; exact rfl; infer_instance; (first | exact rfl | omega); (first | exact i64s_setR)) | (apply J_lit1; exact rfl; exact rfl; exact rfl; (intro _)) | (apply J_ap; exact Nat.one_pos; exact rfl; exact rfl; exact rfl; infer_instance; (first | exact rb | assumption); exact List.cons_ne_nil _ _; exact ones_of rfl; ((show (_ + 1) * _ ≤ _); omega); decide; (first | exact i64s_snoc | exact u8s_snoc | exact rfl); (intro _)) | (apply Jq_indexRN; exact rfl; exact rfl; exact rfl; (first | exact rb | assumption); omega) | (apply Jq_loadR; exact rfl; exact rfl; (first | exact rb | assumption); (first | exact rfl)) | (apply Jq_extract; exact rfl; exact rfl; exact rfl) | (apply J_box; exact rfl; exact rfl; exact rfl; (intro _)) | (apply J_make1; exact rfl; exact rfl; exact rfl; omega; ((show _ ≤ maxLen); (simp only [maxLen]); omega); exact rfl; (intro _)) | (apply J_alloc (cs := gv 0 Z8 Z8); exact rfl; exact rfl; (intro _)) | (apply J_alloc (cs := dv 0 Z8 Z8 0 Z8 Z8); exact rfl; exact rfl; (intro _)) | (apply J_alloc (cs := u8s Z8); exact rfl; exact rfl; (intro _)) | (apply J_alloc (cs := i64s Z8); exact rfl; exact rfl; (intro _)) | (apply J_alloc (cs := bls F8); exact rfl; exact rfl; (intro _)) | (apply J_alloc; exact rfl; exact rfl; (intro _)) | refine thenQ_normal ?_ | refine thenQ_exit ?_ | refine thenQ_ret ?_ | refine inBlockQ_normal ?_ | refine inBlockQ_ret ?_ | refine inBlockQ_here ?_ | (apply inBlockQ_on; exact rfl) | refine JC_seq ?_ | refine JC_region ?_ | (apply JC_draw mixed; kernel_rfl) | refine J_nil ?_ | refine JC_block ?_ | refine JC_skip ?_ | refine JC_ret ?_ | refine JC_exit ?_ | (apply JC_if_true; exact rfl) | (apply JC_if_false; exact rfl) | (apply JC_dec_true; exact rfl; omega) | (apply JC_dec_false; exact rfl; omega) | (apply JC_ndec_true; exact rfl; omega) | (apply JC_ndec_false; exact rfl; omega) | refine JC_dec rfl (fun _ => ?_) (fun _ => ?_) | refine JC_ndec rfl (fun _ => ?_) (fun _ => ?_) | refine JC_if rfl (fun _ => ?_) (fun _ => ?_))
        refine ⟨(k + 1, M1 ++ (v', p.2 ++ [k]) :: M2), ⟨by dsimp only; omega, by simp at hM ⊢; omega, fun q hq' => ?_⟩, by dsimp only; omega, ?_⟩
        · rcases List.mem_append.1 hq' with h | h
          · have := hmem q (.inl h); omega
          · rcases List.mem_cons.1 h with rfl | h
            · simp; omega
            · have := hmem q (.inr h); omega
        · (refine ent ?_ ?_; (repeat refine fr_cons rfl ?_); exact fr_nil; (repeat (first | exact List.nil_sublist _ | exact List.Sublist.refl _ | refine List.Sublist.cons_cons _ ?_ | refine List.Sublist.cons _ ?_)))
    · obtain rfl : k = n := by omega
      repeat' (first | (apply Jq_move; exact rfl; exact rfl) | (apply Jq_assign; exact rfl; exact rfl) | (apply Jq_load; exact rfl; exact rfl; (exact mb); (first | exact rfl)) | (apply Jq_indexN; exact rfl; exact rfl; exact rfl; omega) | (apply Jq_index; exact rfl; exact rfl; exact rfl; omega; omega) | (apply Jq_indexSN; exact rfl; exact rfl; exact rfl; omega) | (apply Jq_cmp; exact rfl; exact rfl; exact rfl; exact rfl) | (apply Jq_add; exact rfl; exact rfl; exact rfl; omega) | (apply Jq_loadW; exact rfl; exact rfl; (exact mb); (first | exact rfl | omega)) | (apply Jq_loadA; exact rfl; exact rfl; (exact mb); (first | exact rfl); (first | exact rfl | omega)) | (apply J_s1; exact rfl; exact rfl; exact rfl; infer_instance; (first | exact rfl | omega); (first | exact rfl); infer_instance) | (apply J_sW; exact rfl; exact rfl; infer_instance; (first | exact rfl | omega); (first | exact rfl | omega); (first | exact ones_of rfl | exact u8s_one _ | exact i64s_one _ | exact bls_one _ | exact gv_one _ _ _ | exact dv_one _ _ _ _ _ _); infer_instance) | (apply J_sR; exact rfl; exact rfl; exact rfl; infer_instance; (first | exact rfl | omega); (first | exact i64s_setR)) | (apply J_lit1; exact rfl; exact rfl; exact rfl; (intro _)) | (apply J_ap; exact Nat.one_pos; exact rfl; exact rfl; exact rfl; infer_instance; (first | exact rb | assumption); exact List.cons_ne_nil _ _; exact ones_of rfl; ((show (_ + 1) * _ ≤ _); omega); decide; (first | exact i64s_snoc | exact u8s_snoc | exact rfl); (intro _)) | (apply Jq_indexRN; exact rfl; exact rfl; exact rfl; (first | exact rb | assumption); omega) | (apply Jq_loadR; exact rfl; exact rfl; (first | exact rb | assumption); (first | exact rfl)) | (apply Jq_extract; exact rfl; exact rfl; exact rfl) | (apply J_box; exact rfl; exact rfl; exact rfl; (intro _)) | (apply J_make1; exact rfl; exact rfl; exact rfl; omega; ((show _ ≤ maxLen); (simp only [maxLen]); omega); exact rfl; (intro _)) | (apply J_alloc (cs := gv 0 Z8 Z8); exact rfl; exact rfl; (intro _)) | (apply J_alloc (cs := dv 0 Z8 Z8 0 Z8 Z8); exact rfl; exact rfl; (intro _)) | (apply J_alloc (cs := u8s Z8); exact rfl; exact rfl; (intro _)) | (apply J_alloc (cs := i64s Z8); exact rfl; exact rfl; (intro _)) | (apply J_alloc (cs := bls F8); exact rfl; exact rfl; (intro _)) | (apply J_alloc; exact rfl; exact rfl; (intro _)) | refine thenQ_normal ?_ | refine thenQ_exit ?_ | refine thenQ_ret ?_ | refine inBlockQ_normal ?_ | refine inBlockQ_ret ?_ | refine inBlockQ_here ?_ | (apply inBlockQ_on; exact rfl) | refine JC_seq ?_ | refine JC_region ?_ | (apply JC_draw mixed; kernel_rfl) | refine J_nil ?_ | refine JC_block ?_ | refine JC_skip ?_ | refine JC_ret ?_ | refine JC_exit ?_ | (apply JC_if_true; exact rfl) | (apply JC_if_false; exact rfl) | (apply JC_dec_true; exact rfl; omega) | (apply JC_dec_false; exact rfl; omega) | (apply JC_ndec_true; exact rfl; omega) | (apply JC_ndec_false; exact rfl; omega) | refine JC_dec rfl (fun _ => ?_) (fun _ => ?_) | refine JC_ndec rfl (fun _ => ?_) (fun _ => ?_) | refine JC_if rfl (fun _ => ?_) (fun _ => ?_))
      refine n1 rfl rfl rfl ?_ ⟨M.map (·.1), by rw [List.length_map]; exact hM, rfl⟩
      exact ent fr_nil (List.Sublist.cons_cons _ (List.nil_sublist _))
def rowLenI (e c : Nat) (k : Int) (v : Value) (its : Hp) : Prop := ∃ (u : Value) (vals : List Value), v = .tuple #[u, .int .i64 k] ∧ vals.length = c ∧ its = [.row u e 1 vals]
namespace SL
section
variable {P : Program} {B : Nat} {w0 : World} {n : Nat} {Q : Po} {F : Fr} {H : Hp} {ops : Array Oper} {l : List Oper} {ty : TypeId} {pos : String} {af : Array Edge} {d : Nat}
theorem JcLen {f : Operand} {xs : List Operand} {Ts : Array TypeId} {k : FuncId} {args : List Value} {caps : Array Value} {e c : Nat} (hd : Nat.blt d n = true) (hf : ev F f = some (.func (.func k) #[] caps)) (hxs : evs F xs = some args) (hk : Runs P k)
    (h : ∀ w, Holds B w0 H w → GivesN P k (args ++ caps.toList).toArray (rowLen e c) w)
    (K : ∀ v vals, vals.length = c → J false P B w0 n ops Q l ((d, v) :: F) (.row v e 1 vals :: H)) :
    J false P B w0 n ops Q (⟨some d, .call { callee := .value f, args := xs.toArray, argTypes := Ts }, ty, pos, af, none⟩ :: l) F H :=
  JcN hd hf hxs hk h (fun v its hN => by
    obtain ⟨vals, _, rfl⟩ := hN
    intro x hx; simp at hx; subst hx; rfl) fun v its hN => by
    obtain ⟨vals, h1, rfl⟩ := hN
    exact K v vals h1
theorem JcLenI {f : Operand} {xs : List Operand} {Ts : Array TypeId} {k : FuncId} {args : List Value} {caps : Array Value} {e c : Nat} {z : Int} (hd : Nat.blt d n = true) (hf : ev F f = some (.func (.func k) #[] caps)) (hxs : evs F xs = some args) (hk : Runs P k)
    (h : ∀ w, Holds B w0 H w → GivesN P k (args ++ caps.toList).toArray (rowLenI e c z) w)
    (K : ∀ u vals, vals.length = c → J false P B w0 n ops Q l ((d, .tuple #[u, .int .i64 z]) :: F) (.row u e 1 vals :: H)) :
    J false P B w0 n ops Q (⟨some d, .call { callee := .value f, args := xs.toArray, argTypes := Ts }, ty, pos, af, none⟩ :: l) F H :=
  JcN hd hf hxs hk h (fun v its hN => by
    obtain ⟨u, vals, _, _, rfl⟩ := hN
    intro x hx; simp at hx; subst hx; rfl) fun v its hN => by
    obtain ⟨u, vals, rfl, h1, rfl⟩ := hN
    exact K u vals h1
end
end SL
set_option maxRecDepth 100000 in
theorem wholeLL_good (k : FuncId) (hk : Runs Try.prog k) (n : Int) (X O : List Nat) (bX : isB X) (bO : isB O) (g : okG n X O) (c : Nat) (h : ∀ w, GivesN Try.prog k #[.agg (gv n X O).toArray] (rowLen 37 c) w) (w : World) :
    GivesN Try.prog 73 #[.agg (gv n X O).toArray, .func (.func k) #[] #[]] (rowLenI 37 c 0) w := by
  have ug := gv_len (n := n) bX.1 bO.1
  refine givesN_of (args := [.agg (gv n X O).toArray, .func (.func k) #[] #[]]) [(0, .agg (gv n X O).toArray), (1, .func (.func k) #[] #[])] [] Try.func73 rfl Try.ntmps73 rfl (argsF_cons rfl (argsF_cons rfl argsF_nil)) (Holds.start w) ?_
  repeat' (first | (apply JC_ndec_false; exact rfl; exact g) | (apply JcLen; exact rfl; exact rfl; exact rfl; exact hk; ((intro w hw); exact h w); (intro _ vals hvals)) | (apply Jq_move; exact rfl; exact rfl) | (apply Jq_assign; exact rfl; exact rfl) | (apply Jq_load; exact rfl; exact rfl; (exact mb); (first | exact rfl)) | (apply Jq_not; exact rfl; exact rfl) | (apply Jc; exact rfl; exact rfl; exact rfl; infer_instance; ((intro w hw); first | exact IsGrid_gives n X O bX bO w)) | (apply Jq_loadW; exact rfl; exact rfl; (exact mb); (first | exact rfl | omega)) | (apply Jq_loadA; exact rfl; exact rfl; (exact mb); (first | exact rfl); (first | exact rfl | omega)) | (apply Jq_loadR; exact rfl; exact rfl; (first | exact rb | assumption); (first | exact rfl)) | (apply J_box; exact rfl; exact rfl; exact rfl; (intro _)) | refine thenQ_normal ?_ | refine thenQ_exit ?_ | refine thenQ_ret ?_ | refine inBlockQ_normal ?_ | refine inBlockQ_ret ?_ | refine inBlockQ_here ?_ | (apply inBlockQ_on; exact rfl) | refine JC_seq ?_ | refine JC_region ?_ | refine J_nil ?_ | refine JC_block ?_ | refine JC_skip ?_ | refine JC_ret ?_ | refine JC_exit ?_ | (apply JC_if_true; exact rfl) | (apply JC_if_false; exact rfl) | (apply JC_dec_true; exact rfl; omega) | (apply JC_dec_false; exact rfl; omega) | (apply JC_ndec_true; exact rfl; omega) | (apply JC_ndec_false; exact rfl; omega) | refine JC_dec rfl (fun _ => ?_) (fun _ => ?_) | refine JC_ndec rfl (fun _ => ?_) (fun _ => ?_) | refine JC_if rfl (fun _ => ?_) (fun _ => ?_))
  refine n2 rfl rfl rfl rfl ?_ ⟨_, vals, rfl, hvals, rfl⟩
  (refine ent ?_ ?_; (repeat refine fr_cons rfl ?_); exact fr_nil; (repeat (first | exact List.nil_sublist _ | exact List.Sublist.refl _ | refine List.Sublist.cons_cons _ ?_ | refine List.Sublist.cons _ ?_)))
set_option maxRecDepth 100000 in
theorem compsOf_good (n : Nat) (X O : List Nat) (bX : isB X) (bO : isB O) (g : okG (n : Int) X O) (w : World) :
    GivesN Try.prog 22 #[.agg (gv n X O).toArray] (rowLenI 37 (comps n X O) 0) w := by
  have ug := gv_len (n := n) bX.1 bO.1
  refine givesN_of (args := [.agg (gv n X O).toArray]) [(0, .agg (gv n X O).toArray)] [] Try.func22 rfl Try.ntmps22 rfl (argsF_cons rfl argsF_nil) (Holds.start w) ?_
  repeat' (first | (apply JcLenI; exact rfl; exact rfl; exact rfl; infer_instance; ((intro w hw); exact wholeLL_good 74 inferInstance n X O bX bO g _ (compsOf1_gives n X O bX bO g) w); (intro _ vals hvals)) | (apply Jq_assign; exact rfl; exact rfl) | (apply Jq_load; exact rfl; exact rfl; (exact mb); (first | exact rfl)) | (apply Jq_loadW; exact rfl; exact rfl; (exact mb); (first | exact rfl | omega)) | (apply Jq_loadA; exact rfl; exact rfl; (exact mb); (first | exact rfl); (first | exact rfl | omega)) | (apply Jq_loadR; exact rfl; exact rfl; (first | exact rb | assumption); (first | exact rfl)) | (apply Jq_extract; exact rfl; exact rfl; exact rfl) | (apply J_box; exact rfl; exact rfl; exact rfl; (intro _)) | refine thenQ_normal ?_ | refine thenQ_exit ?_ | refine thenQ_ret ?_ | refine inBlockQ_normal ?_ | refine inBlockQ_ret ?_ | refine inBlockQ_here ?_ | (apply inBlockQ_on; exact rfl) | refine JC_seq ?_ | refine JC_region ?_ | refine J_nil ?_ | refine JC_block ?_ | refine JC_skip ?_ | refine JC_ret ?_ | refine JC_exit ?_)
  refine n2 rfl rfl rfl rfl ?_ ⟨_, vals, rfl, hvals, rfl⟩
  (refine ent ?_ ?_; (repeat refine fr_cons rfl ?_); exact fr_nil; (repeat (first | exact List.nil_sublist _ | exact List.Sublist.refl _ | refine List.Sublist.cons_cons _ ?_ | refine List.Sublist.cons _ ?_)))
/-! What does not change. -/
end Go.Proofs.Ytgjmeipmejifgaa
