/- Walks: the order of grids of whatever sizes; one more grid into a list in order. -/
import Derived.Test.YtflleelfkknfaaaGB
import Derived.Test.YtflleelfkknfaaaAP
import Derived.Test.YtflleelfkknfaaaGE
namespace Go.Proofs.Ytflleelfkknfaaa
open Go Go.RowKit SL
namespace SL
section
variable {P : Program} {B : Nat} {w0 : World} {n : Nat} {Q : Po} {F : Fr} {H H1 H2 : Hp} {ops : Array Oper} {l : List Oper} {ty : TypeId} {pos : String} {af : Array Edge} {d : Nat} {dst : Option Tmp} {g : Option (Nat × Bool)}
theorem q_partL {T e s by' : Nat} {z : Value} [hS : IS P T e s by' z] {x y : Operand} {v : Value} {k : IntKind} {i m : Nat} {xs : List Value} (hx : ev F x = some v) (hy : ev F y = some (.int k (i : Int)))
    (hm : It.row v e s xs ∈ H) (hl : xs.length = m * s) (hs : 0 < s) (him : i ≤ m) : OpQ P B w0 n H F ⟨dst, .slice T x (some y) none none, ty, pos, af, g⟩ (partV s v i m) :=
  q_part hx (.inr ⟨y, k, rfl, hy⟩) (.inl ⟨rfl, rfl⟩) hm hl hs him (Nat.le_refl _)
/-- Halves of numbers of at least 0. -/
theorem q_half {T T' : TypeId} {x y : Operand} {a : Nat} (hx : ev F x = some (.int .i64 (a : Int))) (hy : ev F y = some (.int .i64 2)) (h : a ≤ 1000000000) :
    OpQ P B w0 n H F ⟨dst, .binOp .quo T x y T', ty, pos, af, g⟩ (.int .i64 ((a / 2 : Nat) : Int)) :=
  q_bin hx hy fun w => by
    rw [eqGuard_int]
    have e : (a : Int).tdiv 2 = ((a / 2 : Nat) : Int) := by
      rw [Int.tdiv_eq_ediv_of_nonneg (by omega)]; omega
    simp only [binOp_quo, Op.intDiv, Sem.run_bind, Sem.run_pure, Result.andThen_ok]
    rw [if_neg (by decide), e, wrap_in (by omega)]; rfl
theorem Jq_halfN {dr : Bool} {T T' : TypeId} {x y : Operand} {a : Int} {m : Nat} (hdn : Nat.blt d n = true) (hx : ev F x = some (.int .i64 a)) (hy : ev F y = some (.int .i64 2)) (ham : a = (m : Int)) (h : m ≤ 1000000000) (kk : J dr P B w0 n ops Q l ((d, .int .i64 ((m / 2 : Nat) : Int)) :: F) H) :
    J dr P B w0 n ops Q (⟨some d, .binOp .quo T x y T', ty, pos, af, none⟩ :: l) F H := J_q hdn (q_half (ham ▸ hx) hy h) kk
end
end SL
set_option maxRecDepth 100000 in
theorem lessN_gives (n m : Int) (X O Y U : List Nat) (lX : X.length = 8) (lO : O.length = 8) (lY : Y.length = 8) (lU : U.length = 8) (hne : n ≠ m) (w : World) :
    Gives Try.prog 44 #[.agg (gv n X O).toArray, .agg (gv m Y U).toArray] (.bool (decide (n < m))) w := by
  have g1' := gv_len (n := n) lX lO
  have g2' := gv_len (n := m) lY lU
  refine gives_of (args := [.agg (gv n X O).toArray, .agg (gv m Y U).toArray]) [(0, .agg (gv n X O).toArray), (1, .agg (gv m Y U).toArray)] [] Try.func44 rfl Try.ntmps44 rfl (argsF_cons rfl (argsF_cons rfl argsF_nil)) (Holds.start w) ?_
  repeat' (first | (apply Jq_assign; exact rfl; exact rfl) | (apply Jq_load; exact rfl; exact rfl; (exact mb); (exact rfl)) | (apply Jq_fieldAddr; exact rfl; exact rfl) | (apply Jq_cmp; exact rfl; exact rfl; exact rfl; exact rfl) | (apply J_box; exact rfl; exact rfl; exact rfl; (intro _)) | refine thenQ_normal ?_ | refine thenQ_ret ?_ | refine JC_seq ?_ | refine JC_region ?_ | refine J_nil ?_ | refine JC_ret ?_ | (apply JC_ndec_true; exact rfl; omega))
  exact g1 rfl rfl rfl rfl
theorem lessG_gives (p q : GridB) (w : World) : Gives Try.prog 44 #[.agg (encG p).toArray, .agg (encG q).toArray] (.bool (decide (rkG p < rkG q))) w := by
  have hk := rkG_lt p q
  by_cases hne : p.1.1 = q.1.1
  · have h := less_gives p.1.1 p.1.2.1 p.1.2.2 q.1.2.1 q.1.2.2 p.2.1 p.2.2 q.2.1 q.2.2 w
    have e : decide (rkG p < rkG q) = decide (keyG p.1.2.1 p.1.2.2 < keyG q.1.2.1 q.1.2.2) := decide_eq_decide.2 (by rw [hk]; omega)
    rw [e]
    have e2 : encG q = gv p.1.1 q.1.2.1 q.1.2.2 := by unfold encG; rw [hne]
    rw [e2]
    exact h
  · have h := lessN_gives p.1.1 q.1.1 p.1.2.1 p.1.2.2 q.1.2.1 q.1.2.2 p.2.1.1 p.2.2.1 q.2.1.1 q.2.2.1 hne w
    have e : decide (rkG p < rkG q) = decide (p.1.1 < q.1.1) := decide_eq_decide.2 (by rw [hk]; omega)
    rw [e]
    exact h
theorem eqG_run (p q : GridB) (w : World) : (Op.equalIn 10000 27 (.agg (encG p).toArray) (.agg (encG q).toArray)).run Try.prog w = .ok (@decide (p = q) (Classical.propDecidable _)) w := by
  refine (eq_grid p.1.1 q.1.1 p.1.2.1 p.1.2.2 q.1.2.1 q.1.2.2 p.2.1.1 p.2.2.1 q.2.1.1 q.2.2.1 w).trans (congrArg (fun b => Result.ok b w) (decide_eq_decide.2 ⟨fun h => ?_, fun h => by rw [h]; exact ⟨rfl, rfl, rfl⟩⟩))
  obtain ⟨⟨n, X, O⟩, hp⟩ := p
  obtain ⟨⟨m, Y, U⟩, hq⟩ := q
  obtain ⟨h1, h2, h3⟩ := h
  dsimp only at h1 h2 h3
  subst h1 h2 h3
  rfl
/-- What l10Insert leaves. -/
def insR (l : List GridB) (g : GridB) (v : Value) (H : Hp) : Value → Hp → Prop := fun v' H' =>
  (g ∈ l ∧ v' = .tuple #[v, .bool false] ∧ H' = H) ∨ (g ∉ l ∧ ∃ u l', v' = .tuple #[u, .bool true] ∧ Asc rkG l' ∧ (∀ x, x ∈ l' ↔ x = g ∨ x ∈ l) ∧ l'.length = l.length + 1 ∧ H' = .row u 27 17 (l'.flatMap encG) :: H)
set_option maxRecDepth 100000 in
theorem insert_gives {B : Nat} {w0 : World} {H : Hp} {v : Value} (l : List GridB) (g : GridB) (hv : It.row v 27 17 (l.flatMap encG) ∈ H) (hl : l.length ≤ 1000000) (ha : Asc rkG l) :
    GivesE Try.prog 25 #[v, .agg (encG g).toArray] B w0 H (insR l g v H) := by
  have ug := encG_len g
  have lf := flat_len l
  have iv : RB v H 27 17 (l.flatMap encG) := ⟨hv⟩
  refine givesE_of (args := [v, .agg (encG g).toArray]) [(0, v), (1, .agg (encG g).toArray)] Try.func25 rfl Try.ntmps25 rfl (argsF_cons rfl (argsF_cons rfl argsF_nil)) ?_
  repeat' (first | (apply Jq_move; exact rfl; exact rfl) | (apply Jq_assign; exact rfl; exact rfl) | (apply J_box; exact rfl; exact rfl; exact rfl; (intro _)) | (apply Jq_lenRs; exact rfl; exact rfl; (exact rb); exact lf; decide) | refine thenQ_normal ?_ | refine JC_seq ?_ | refine JC_region ?_ | refine J_nil ?_ | refine JC_block ?_)
  rename_i b3
  refine JC_cutB (Y := Nat) (fun i => i ≤ l.length ∧ (∀ j y, j < i → l[j]? = some y → rkG y < rkG g) ∧ ∀ y, l[i]? = some y → rkG g ≤ rkG y) (fun i => [(0, v), (3, .pointer (some ⟨b3, 0, none⟩)), (6, .int .i64 (i : Int))]) (fun i => .blk b3 (encG g) 27 :: H) ?_ ?_
  · refine JC_loop (X := Nat × Nat) (fun p => p.1 ≤ p.2 ∧ p.2 ≤ l.length ∧ (∀ j y, j < p.1 → l[j]? = some y → rkG y < rkG g) ∧ ∀ j y, p.2 ≤ j → l[j]? = some y → rkG g ≤ rkG y) (fun p => [(0, v), (3, .pointer (some ⟨b3, 0, none⟩)), (6, .int .i64 (p.1 : Int)), (7, .int .i64 (p.2 : Int))]) (fun _ => .blk b3 (encG g) 27 :: H) (fun p => p.2 - p.1) (0, l.length) ⟨Nat.zero_le _, Nat.le_refl _, fun j y h => absurd h (Nat.not_lt_zero _), fun j y h h2 => by dsimp only at h; rw [List.getElem?_eq_none h] at h2; cases h2⟩ ?_ ?_
    · (refine ent ?_ ?_; (repeat refine fr_cons rfl ?_); exact fr_nil; (repeat (exact List.Sublist.refl _)))
    · rintro ⟨lo, hi⟩ ⟨h1, h2, h3, h4⟩
      dsimp only at h1 h2 h3 h4 ⊢
      by_cases hlt : lo < hi
      · obtain ⟨x, hx⟩ : ∃ x, l[(lo + hi) / 2]? = some x := ⟨_, List.getElem?_eq_getElem (by omega)⟩
        have ux := encG_len x
        repeat' (first | (apply Jq_halfN; exact rfl; exact rfl; exact rfl; exact (Int.natCast_add lo hi).symm; omega) | (apply Jq_move; exact rfl; exact rfl) | (apply Jq_assign; exact rfl; exact rfl) | (apply Jq_cmp; exact rfl; exact rfl; exact rfl; exact rfl) | (apply Jq_add; exact rfl; exact rfl; exact rfl; omega) | (apply Jc; exact rfl; exact rfl; exact rfl; infer_instance; ((intro w hw); exact lessG_gives x g w)) | (apply Jq_loadW; exact rfl; exact rfl; (exact mb); (omega)) | (apply Jq_indexRs; exact rfl; exact rfl; exact rfl; (exact rb); omega) | (apply Jq_loadRA; exact rfl; exact rfl; (exact rb); (exact flat_at hx); (omega); decide) | refine thenQ_normal ?_ | refine inBlockQ_normal ?_ | refine JC_seq ?_ | refine JC_region ?_ | (apply JC_draw mixed; kernel_rfl) | refine J_nil ?_ | refine JC_block ?_ | refine JC_skip ?_ | (apply JC_dec_true; exact rfl; omega) | refine JC_dec rfl (fun _ => ?_) (fun _ => ?_))
        · rename_i hl'
          refine ⟨((lo + hi) / 2 + 1, hi), ⟨by dsimp only; omega, h2, fun j y hj hy => ?_, h4⟩, by dsimp only; omega, ?_⟩
          · dsimp only at hj
            rcases Nat.lt_or_eq_of_le (show j ≤ (lo + hi) / 2 by omega) with e | e
            · have := ha.get hy hx e; omega
            · subst e; rw [hx] at hy; cases hy; exact hl'
          · (refine ent ?_ ?_; (repeat refine fr_cons rfl ?_); exact fr_nil; (repeat (exact List.Sublist.refl _)))
        · rename_i hl'
          refine ⟨(lo, (lo + hi) / 2), ⟨by dsimp only; omega, by dsimp only; omega, h3, fun j y hj hy => ?_⟩, by dsimp only; omega, ?_⟩
          · dsimp only at hj
            rcases Nat.lt_or_eq_of_le hj with e | e
            · have := ha.get hx hy e; omega
            · subst e; rw [hx] at hy; cases hy; omega
          · (refine ent ?_ ?_; (repeat refine fr_cons rfl ?_); exact fr_nil; (repeat (exact List.Sublist.refl _)))
      · obtain rfl : lo = hi := by omega
        repeat' (first | (apply Jq_move; exact rfl; exact rfl) | (apply Jq_cmp; exact rfl; exact rfl; exact rfl; exact rfl) | refine thenQ_normal ?_ | refine thenQ_exit ?_ | refine inBlockQ_here ?_ | refine JC_seq ?_ | refine JC_region ?_ | refine J_nil ?_ | refine JC_exit ?_ | (apply JC_dec_false; exact rfl; omega))
        refine ⟨lo, ⟨h2, h3, fun y hy => h4 lo y (Nat.le_refl _) hy⟩, ?_⟩
        (refine ent ?_ ?_; (repeat refine fr_cons rfl ?_); exact fr_nil; (repeat (exact List.Sublist.refl _)))
  · rintro i ⟨hi, h3, h4⟩
    have hiq : rkG = rkG := rfl
    clear hiq
    by_cases hlt : i < l.length
    · obtain ⟨x, hx⟩ : ∃ x, l[i]? = some x := ⟨_, List.getElem?_eq_getElem hlt⟩
      have ux := encG_len x
      by_cases hxg : x = g
      · subst hxg
        repeat' (first | (apply Jq_eqA; exact rfl; exact rfl; exact rfl; kernel_rfl; (intro w; exact eqG_run _ _ w)) | (apply Jq_move; exact rfl; exact rfl) | (apply Jq_assign; exact rfl; exact rfl) | (apply Jq_cmp; exact rfl; exact rfl; exact rfl; exact rfl) | (apply Jq_pick_true; exact rfl; exact rfl; exact rfl) | (apply J_on; exact rfl; exact rfl) | (apply Jq_loadW; exact rfl; exact rfl; (exact mb); (omega)) | (apply Jq_lenRs; exact rfl; exact rfl; (exact rb); exact lf; decide) | (apply Jq_indexRs; exact rfl; exact rfl; exact rfl; (exact rb); omega) | (apply Jq_loadRA; exact rfl; exact rfl; (exact rb); (exact flat_at hx); (omega); decide) | refine thenQ_normal ?_ | refine thenQ_ret ?_ | refine JC_seq ?_ | refine JC_region ?_ | (apply JC_draw mixed; kernel_rfl) | refine J_nil ?_ | refine JC_skip ?_ | refine JC_ret ?_ | (apply J_gdT; exact rfl; exact rfl; omega) | refine JC_dec rfl (fun _ => ?_) (fun _ => ?_))
        · refine eT2 rfl rfl rfl rfl ?_ (.inl ⟨List.mem_of_getElem? hx, rfl, rfl⟩)
          (refine ent ?_ ?_; (repeat refine fr_cons rfl ?_); exact fr_nil; (repeat (first | exact List.Sublist.refl _ | refine List.Sublist.cons _ ?_)))
        · rename_i hh
          exact absurd rfl hh
      · have hgn : g ∉ l := ha.not_mem h3 h4 (fun e => hxg (by rw [hx] at e; cases e; rfl)) (fun y _ e => rkG_inj e)
        have h4' : ∀ y, l[i]? = some y → rkG g < rkG y := fun y hy => by
          have h5 := h4 y hy
          have h6 : rkG g ≠ rkG y := fun e => hxg (by rw [hx] at hy; cases hy; exact (rkG_inj e).symm)
          omega
        have hins := ha.insert_at h3 h4'
        repeat' (refine JC_seq ?_)
        apply JC_draw mixed
        · kernel_rfl
        repeat' (first | (apply Jq_eqA; exact rfl; exact rfl; exact rfl; kernel_rfl; (intro w; exact eqG_run _ _ w)) | (apply Jq_move; exact rfl; exact rfl) | (apply Jq_cmp; exact rfl; exact rfl; exact rfl; exact rfl) | (apply Jq_pick_true; exact rfl; exact rfl; exact rfl) | (apply J_on; exact rfl; exact rfl) | (apply Jq_loadW; exact rfl; exact rfl; (exact mb); (omega)) | (apply Jq_lenRs; exact rfl; exact rfl; (exact rb); exact lf; decide) | (apply Jq_indexRs; exact rfl; exact rfl; exact rfl; (exact rb); omega) | (apply Jq_loadRA; exact rfl; exact rfl; (exact rb); (exact flat_at hx); (omega); decide) | refine thenQ_normal ?_ | refine JC_seq ?_ | refine J_nil ?_ | refine JC_skip ?_ | (apply JC_dec_false; exact rfl; omega) | (apply J_gdT; exact rfl; exact rfl; omega))
        have hl2 := len_insert (l := l) (i := i) (x := g)
        have e1 : encG g ++ ((l.flatMap encG).drop (i * 17)).take ((l.length - i) * 17) = (g :: l.drop i).flatMap encG := by
          rw [flat_drop, List.take_of_length_le (by rw [flat_len, List.length_drop]; exact Nat.le_refl _), List.flatMap_cons]
        have e2 : [] ++ ((l.flatMap encG).drop (0 * 17)).take ((i - 0) * 17) = (l.take i).flatMap encG := by
          rw [Nat.zero_mul, List.drop_zero, Nat.sub_zero, flat_take, List.nil_append]
        have e3 : (l.take i).flatMap encG ++ (g :: l.drop i).flatMap encG = (l.take i ++ g :: l.drop i).flatMap encG := by rw [List.flatMap_append]
        have f1 := flat_len (g :: l.drop i)
        have f2 := flat_len (l.take i)
        have f3 := flat_one (g :: l.drop i)
        have f4 := flat_one l
        have k1 : (g :: l.drop i).length = l.length - i + 1 := by simp
        have k2 : (l.take i).length = i := by simp; omega
        refine JC_any (m := 7) rfl [.blk b3 (encG g) 27, .row v 27 17 (l.flatMap encG)] mixed (by ((repeat (apply sub_cons; (focus ((with_reducible (repeat (first | exact m0 | assumption | refine mS ?_))); done)))); exact sub_nil)) ?_
        (apply JF_q 0; exact rfl; kernel_rfl; exact rfl; (intro E hE; (apply q_loadW; exact rfl; (refine hE _ ?_; exact mb); (omega))))
        (apply JF_q 2; exact rfl; kernel_rfl; exact rfl; (intro E hE; (apply q_move; exact rfl)))
        (apply JF_q 3; exact rfl; kernel_rfl; exact rfl; (intro E hE; (apply q_move; exact rfl)))
        (apply JF_q 4; exact rfl; kernel_rfl; exact rfl; (intro E hE; (apply q_partL; exact rfl; exact rfl; (refine hE _ ?_; exact rb); exact lf; decide; omega)))
        (apply JF_all [1]; kernel_rfl)
        (apply JFs_cons; exact rfl)
        · (apply J_lit1s; exact rfl; exact rfl; (omega); decide; decide; (intro _))
          (apply J_nil; apply JF_end; ((repeat (apply sub_cons; (focus ((with_reducible (repeat (first | exact m0 | assumption | refine mS ?_))); done)))); exact sub_nil))
          (apply JF_all [5]; kernel_rfl)
          (apply JFs_cons; exact rfl)
          · ((apply J_apP; decide; exact rfl; exact rfl; exact rfl; infer_instance; exact rb; exact lf; omega; exact Nat.le_refl _; exact f4; ((show (_ + _) * _ ≤ _); omega); decide; exact e1; (intro _)))
            (apply J_nil; apply JF_end; ((repeat (apply sub_cons; (focus ((with_reducible (repeat (first | exact m0 | assumption | refine mS ?_))); done)))); exact sub_nil))
            (apply JF_q 6; exact rfl; kernel_rfl; exact rfl; (intro E hE; (apply q_assign; exact rfl)))
            (apply JF_done; kernel_rfl)
            ((repeat' (first | (apply Jq_partH; exact rfl; exact rfl; exact rfl; exact rb; exact lf; decide; omega) | (apply J_apP; decide; exact rfl; exact rfl; exact rfl; infer_instance; exact rb; exact lf; omega; omega; exact f4; ((show (_ + _) * _ ≤ _); (simp only [List.length_nil]); omega); decide; exact e2; (intro _)) | (apply J_apR; decide; exact rfl; exact rfl; exact rfl; infer_instance; exact rb; exact f3; ((show (_ + _) * _ ≤ _); omega); decide; exact e3; (intro _)) | (apply Jq_move; exact rfl; exact rfl) | (apply Jq_assign; exact rfl; exact rfl) | (apply J_lit0; exact rfl; (intro _)) | refine thenQ_normal ?_ | refine JC_seq ?_ | refine JC_region ?_ | refine J_nil ?_ | refine JC_ret ?_)); refine eT2 rfl rfl rfl rfl ?_ (.inr ⟨hgn, _, _, rfl, hins, fun _ => mem_insert, hl2, rfl⟩); (refine ent ?_ ?_; (repeat refine fr_cons rfl ?_); exact fr_nil; (repeat (first | exact List.Sublist.refl _ | refine List.Sublist.cons_cons _ ?_ | refine List.Sublist.cons _ ?_))))
          exact JFs_nil
        exact JFs_nil
    · have hgn : g ∉ l := ha.not_mem h3 h4 (fun e => by rw [List.getElem?_eq_none (by omega)] at e; cases e) (fun y _ e => rkG_inj e)
      have h4' : ∀ y, l[i]? = some y → rkG g < rkG y := fun y hy => by rw [List.getElem?_eq_none (by omega)] at hy; cases hy
      have hins := ha.insert_at h3 h4'
      repeat' (refine JC_seq ?_)
      apply JC_draw mixed
      · kernel_rfl
      repeat' (first | (apply Jq_move; exact rfl; exact rfl) | (apply Jq_cmp; exact rfl; exact rfl; exact rfl; exact rfl) | (apply Jq_pick_false; exact rfl; exact rfl; exact rfl) | (apply J_skip; exact rfl; exact rfl; exact rfl; exact rfl) | (apply Jq_lenRs; exact rfl; exact rfl; (exact rb); exact lf; decide) | refine thenQ_normal ?_ | refine JC_seq ?_ | refine J_nil ?_ | refine JC_skip ?_ | (apply JC_if_false; exact rfl) | (apply J_gdF; exact rfl; exact rfl; omega))
      have hl2 := len_insert (l := l) (i := i) (x := g)
      have e1 : encG g ++ ((l.flatMap encG).drop (i * 17)).take ((l.length - i) * 17) = (g :: l.drop i).flatMap encG := by
        rw [flat_drop, List.take_of_length_le (by rw [flat_len, List.length_drop]; exact Nat.le_refl _), List.flatMap_cons]
      have e2 : [] ++ ((l.flatMap encG).drop (0 * 17)).take ((i - 0) * 17) = (l.take i).flatMap encG := by
        rw [Nat.zero_mul, List.drop_zero, Nat.sub_zero, flat_take, List.nil_append]
      have e3 : (l.take i).flatMap encG ++ (g :: l.drop i).flatMap encG = (l.take i ++ g :: l.drop i).flatMap encG := by rw [List.flatMap_append]
      have f1 := flat_len (g :: l.drop i)
      have f2 := flat_len (l.take i)
      have f3 := flat_one (g :: l.drop i)
      have f4 := flat_one l
      have k1 : (g :: l.drop i).length = l.length - i + 1 := by simp
      have k2 : (l.take i).length = i := by simp; omega
      refine JC_any (m := 7) rfl [.blk b3 (encG g) 27, .row v 27 17 (l.flatMap encG)] mixed (by ((repeat (apply sub_cons; (focus ((with_reducible (repeat (first | exact m0 | assumption | refine mS ?_))); done)))); exact sub_nil)) ?_
      (apply JF_q 0; exact rfl; kernel_rfl; exact rfl; (intro E hE; (apply q_loadW; exact rfl; (refine hE _ ?_; exact mb); (omega))))
      (apply JF_q 2; exact rfl; kernel_rfl; exact rfl; (intro E hE; (apply q_move; exact rfl)))
      (apply JF_q 3; exact rfl; kernel_rfl; exact rfl; (intro E hE; (apply q_move; exact rfl)))
      (apply JF_q 4; exact rfl; kernel_rfl; exact rfl; (intro E hE; (apply q_partL; exact rfl; exact rfl; (refine hE _ ?_; exact rb); exact lf; decide; omega)))
      (apply JF_all [1]; kernel_rfl)
      (apply JFs_cons; exact rfl)
      · (apply J_lit1s; exact rfl; exact rfl; (omega); decide; decide; (intro _))
        (apply J_nil; apply JF_end; ((repeat (apply sub_cons; (focus ((with_reducible (repeat (first | exact m0 | assumption | refine mS ?_))); done)))); exact sub_nil))
        (apply JF_all [5]; kernel_rfl)
        (apply JFs_cons; exact rfl)
        · ((apply J_apP; decide; exact rfl; exact rfl; exact rfl; infer_instance; exact rb; exact lf; omega; exact Nat.le_refl _; exact f4; ((show (_ + _) * _ ≤ _); omega); decide; exact e1; (intro _)))
          (apply J_nil; apply JF_end; ((repeat (apply sub_cons; (focus ((with_reducible (repeat (first | exact m0 | assumption | refine mS ?_))); done)))); exact sub_nil))
          (apply JF_q 6; exact rfl; kernel_rfl; exact rfl; (intro E hE; (apply q_assign; exact rfl)))
          (apply JF_done; kernel_rfl)
          ((repeat' (first | (apply Jq_partH; exact rfl; exact rfl; exact rfl; exact rb; exact lf; decide; omega) | (apply J_apP; decide; exact rfl; exact rfl; exact rfl; infer_instance; exact rb; exact lf; omega; omega; exact f4; ((show (_ + _) * _ ≤ _); (simp only [List.length_nil]); omega); decide; exact e2; (intro _)) | (apply J_apR; decide; exact rfl; exact rfl; exact rfl; infer_instance; exact rb; exact f3; ((show (_ + _) * _ ≤ _); omega); decide; exact e3; (intro _)) | (apply Jq_move; exact rfl; exact rfl) | (apply Jq_assign; exact rfl; exact rfl) | (apply J_lit0; exact rfl; (intro _)) | refine thenQ_normal ?_ | refine JC_seq ?_ | refine JC_region ?_ | refine J_nil ?_ | refine JC_ret ?_)); refine eT2 rfl rfl rfl rfl ?_ (.inr ⟨hgn, _, _, rfl, hins, fun _ => mem_insert, hl2, rfl⟩); (refine ent ?_ ?_; (repeat refine fr_cons rfl ?_); exact fr_nil; (repeat (first | exact List.Sublist.refl _ | refine List.Sublist.cons_cons _ ?_ | refine List.Sublist.cons _ ?_))))
        exact JFs_nil
      exact JFs_nil
end Go.Proofs.Ytflleelfkknfaaa
