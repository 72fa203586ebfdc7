/- Walks: the reading of lists of grids: equal, marked, held. -/
import Derived.Test.YtflleelfkknfaaaSH
import Derived.Test.YtflleelfkknfaaaWJ
import Derived.Test.YtflleelfkknfaaaAP
namespace Go.Proofs.Ytflleelfkknfaaa
open Go Go.RowKit SL
set_option maxRecDepth 100000 in
theorem eqGridS_gives {B : Nat} {w0 : World} {H : Hp} {v u : Value} (l : List GridB) (hv : It.row v 27 17 (l.flatMap encG) ∈ H) (hu : It.row u 27 17 (l.flatMap encG) ∈ H) (hl : l.length < 1000000) :
    GivesM Try.prog 13 #[v, u] B w0 H (.bool true) H := by
  have lf := flat_len l
  refine givesM_of (args := [v, u]) [(0, v), (1, u)] Try.func13 rfl Try.ntmps13 rfl (argsF_cons rfl (argsF_cons rfl argsF_nil)) ?_
  repeat' (first | (apply Jq_move; exact rfl; exact rfl) | (apply Jq_assign; exact rfl; exact rfl) | (apply Jq_cmp; exact rfl; exact rfl; exact rfl; exact rfl) | (apply Jq_lenRs; exact rfl; exact rfl; (assumption); exact lf; decide) | refine thenQ_normal ?_ | refine JC_seq ?_ | refine JC_region ?_ | refine J_nil ?_ | refine JC_block ?_ | refine JC_skip ?_ | (apply JC_ndec_false; exact rfl; omega))
  refine JC_loop (X := Nat) (fun k => k ≤ l.length) (fun k => [(5, .int .i64 (k : Int)), (0, v), (1, u)]) (fun _ => H) (fun k => l.length - k) 0 (Nat.zero_le _) ?_ ?_
  · (refine ent ?_ ?_; (repeat refine fr_cons rfl ?_); exact fr_nil; (repeat (exact List.Sublist.refl _)))
  · intro k hk
    by_cases hlt : k < l.length
    · obtain ⟨x, hx⟩ : ∃ x, l[k]? = some x := ⟨_, List.getElem?_eq_getElem hlt⟩
      have ux := encG_len x
      repeat' (first | (apply Jq_move; exact rfl; exact rfl) | (apply Jq_assign; exact rfl; exact rfl) | (apply Jq_cmp; exact rfl; exact rfl; exact rfl; exact rfl) | (apply Jq_add; exact rfl; exact rfl; exact rfl; omega) | (apply Jq_not; exact rfl; exact rfl) | (apply Jc; exact rfl; exact rfl; exact rfl; infer_instance; ((intro w hw); exact eqGrid_same x.1.1 x.1.2.1 x.1.2.2 x.2.1.1 x.2.2.1 w)) | (apply Jq_lenRs; exact rfl; exact rfl; (assumption); exact lf; decide) | (apply Jq_indexRs; exact rfl; exact rfl; exact rfl; (assumption); omega) | (apply Jq_loadRA; exact rfl; exact rfl; (assumption); (exact flat_at hx); (omega); decide) | refine thenQ_normal ?_ | refine inBlockQ_normal ?_ | refine JC_seq ?_ | refine JC_region ?_ | (apply JC_draw mixed; kernel_rfl) | refine J_nil ?_ | refine JC_block ?_ | refine JC_skip ?_ | (apply JC_if_false; exact rfl) | (apply JC_dec_true; exact rfl; omega))
      refine ⟨k + 1, by omega, by omega, ?_⟩
      (refine ent ?_ ?_; (repeat refine fr_cons rfl ?_); exact fr_nil; (repeat (exact List.Sublist.refl _)))
    · repeat' (first | (apply Jq_move; exact rfl; exact rfl) | (apply Jq_assign; exact rfl; exact rfl) | (apply Jq_cmp; exact rfl; exact rfl; exact rfl; exact rfl) | (apply Jq_lenRs; exact rfl; exact rfl; (assumption); exact lf; decide) | refine thenQ_normal ?_ | refine thenQ_exit ?_ | refine inBlockQ_here ?_ | refine JC_seq ?_ | refine JC_region ?_ | refine J_nil ?_ | refine JC_ret ?_ | refine JC_exit ?_ | (apply JC_dec_false; exact rfl; omega))
      refine m1 rfl rfl rfl rfl ?_
      (refine ent ?_ ?_; (repeat refine fr_cons rfl ?_); exact fr_nil; (repeat (exact List.Sublist.refl _)))
/-- What is laid into the cells of a list of grids. -/
def mkG (k t : Nat) : Value := if t % 17 = 0 then .int .i64 ((k + t : Nat) : Int) else .int .u8 (((k + t) % 256 : Nat) : Int)
theorem mkG0 {k i t : Nat} (h : t = i * 17) : mkG k t = .int .i64 ((k + t : Nat) : Int) := by
  unfold mkG; rw [if_pos (by omega)]
theorem mkG1 {k i j t : Nat} (h : t = i * 17 + j) (h1 : 1 ≤ j) (h2 : j ≤ 16) : mkG k t = .int .u8 (((k + t) % 256 : Nat) : Int) := by
  unfold mkG; rw [if_neg (by omega)]
set_option maxRecDepth 100000 in
theorem markGridS_gives {B : Nat} {w0 : World} {H2 : Hp} {v : Value} {xs : List Value} (k m : Nat) (hk : k < 1000000) (hl : xs.length = m * 17) (hm : m < 1000000) :
    GivesM Try.prog 14 #[v, .int .i64 (k : Int)] B w0 (.row v 27 17 xs :: H2) (.int .i64 ((k + m * 17 : Nat) : Int)) (.row v 27 17 (mkL (mkG k) (m * 17)) :: H2) := by
  refine givesM_of (args := [v, .int .i64 (k : Int)]) [(0, v), (1, .int .i64 (k : Int))] Try.func14 rfl Try.ntmps14 rfl (argsF_cons rfl (argsF_cons rfl argsF_nil)) ?_
  repeat' (first | (apply Jq_assign; exact rfl; exact rfl) | refine thenQ_normal ?_ | refine JC_seq ?_ | refine JC_region ?_ | refine J_nil ?_ | refine JC_block ?_)
  refine JC_loop (X := Nat) (fun i => i ≤ m) (fun i => [(0, v), (5, .int .i64 (i : Int)), (1, .int .i64 ((k + i * 17 : Nat) : Int))]) (fun i => .row v 27 17 (mkL (mkG k) (i * 17) ++ xs.drop (i * 17)) :: H2) (fun i => m - i) 0 (Nat.zero_le _) ?_ ?_
  · (refine ent ?_ ?_; (repeat refine fr_cons rfl ?_); exact fr_nil; (repeat (exact List.Sublist.refl _)))
  · intro i hi
    have lx : (mkL (mkG k) (i * 17) ++ xs.drop (i * 17)).length = m * 17 := (mkL_rest (by omega)).trans hl
    by_cases hlt : i < m
    · have lx1 : (mkL (mkG k) (i * 17 + 1) ++ xs.drop (i * 17 + 1)).length = m * 17 := (mkL_rest (by omega)).trans hl
      repeat' (first | (apply Jq_move; exact rfl; exact rfl) | (apply Jq_assign; exact rfl; exact rfl) | (apply Jq_fieldAddr; exact rfl; exact rfl) | (apply Jq_cmp; exact rfl; exact rfl; exact rfl; exact rfl) | (apply Jq_add; exact rfl; exact rfl; exact rfl; omega) | (apply J_sR; exact rfl; exact rfl; exact rfl; infer_instance; (omega); (exact mkL_set (t := i * 17) rfl (mkG0 rfl) (by omega))) | (apply Jq_lenRs; exact rfl; exact rfl; (exact rb); exact lx; decide) | (apply Jq_indexRs; exact rfl; exact rfl; exact rfl; (exact rb); omega) | refine thenQ_normal ?_ | refine JC_seq ?_ | refine JC_region ?_ | refine J_nil ?_ | refine JC_block ?_ | refine JC_skip ?_ | (apply JC_dec_true; exact rfl; omega))
      refine JC_cutB (Y := Unit) (fun _ => True) (fun _ => [(0, v), (5, .int .i64 (i : Int)), (1, .int .i64 ((k + (i * 17 + 9) : Nat) : Int))]) (fun _ => .row v 27 17 (mkL (mkG k) (i * 17 + 9) ++ xs.drop (i * 17 + 9)) :: H2) ?_ ?_
      · refine JC_loop (X := Nat) (fun j => j ≤ 8) (fun j => [(0, v), (5, .int .i64 (i : Int)), (6, .int .i64 (j : Int)), (1, .int .i64 ((k + (i * 17 + 1 + j) : Nat) : Int))]) (fun j => .row v 27 17 (mkL (mkG k) (i * 17 + 1 + j) ++ xs.drop (i * 17 + 1 + j)) :: H2) (fun j => 8 - j) 0 (Nat.zero_le _) ?_ ?_
        · (refine ent ?_ ?_; (repeat refine fr_cons rfl ?_); exact fr_nil; (repeat (exact List.Sublist.refl _)))
        · intro j hj
          have lx2 : (mkL (mkG k) (i * 17 + 1 + j) ++ xs.drop (i * 17 + 1 + j)).length = m * 17 := (mkL_rest (by omega)).trans hl
          by_cases hlj : j < 8
          · repeat' (first | (apply Jq_conv; exact rfl; exact rfl; exact wrap8m _) | (apply Jq_move; exact rfl; exact rfl) | (apply Jq_assign; exact rfl; exact rfl) | (apply Jq_fieldAddr; exact rfl; exact rfl) | (apply Jq_indexN; exact rfl; exact rfl; exact rfl; omega) | (apply Jq_cmp; exact rfl; exact rfl; exact rfl; exact rfl) | (apply Jq_add; exact rfl; exact rfl; exact rfl; omega) | (apply J_sR; exact rfl; exact rfl; exact rfl; infer_instance; (omega); (exact mkL_set (t := i * 17 + 1 + j) (by omega) (mkG1 (i := i) (j := 1 + j) (by omega) (by omega) (by omega)) (by omega))) | (apply Jq_indexRs; exact rfl; exact rfl; exact rfl; (exact rb); omega) | refine thenQ_normal ?_ | refine inBlockQ_normal ?_ | refine JC_seq ?_ | refine JC_region ?_ | refine J_nil ?_ | refine JC_block ?_ | refine JC_skip ?_ | (apply JC_dec_true; exact rfl; omega))
            refine ⟨j + 1, by omega, by omega, ?_⟩
            (refine ent ?_ ?_; (repeat refine fr_cons rfl ?_); exact fr_nil; (repeat (exact List.Sublist.refl _)))
          · obtain rfl : j = 8 := by omega
            repeat' (first | (apply Jq_move; exact rfl; exact rfl) | (apply Jq_cmp; exact rfl; exact rfl; exact rfl; exact rfl) | refine thenQ_normal ?_ | refine thenQ_exit ?_ | refine inBlockQ_here ?_ | refine JC_seq ?_ | refine JC_region ?_ | refine J_nil ?_ | refine JC_exit ?_ | (apply JC_if_false; exact rfl))
            refine ⟨(), trivial, ?_⟩
            (refine ent ?_ ?_; (repeat refine fr_cons rfl ?_); exact fr_nil; (repeat (exact List.Sublist.refl _)))
      · intro _ _
        repeat' (first | (apply Jq_assign; exact rfl; exact rfl) | refine thenQ_normal ?_ | refine JC_seq ?_ | refine JC_region ?_ | refine J_nil ?_ | refine JC_block ?_)
        refine JC_loop (X := Nat) (fun j => j ≤ 8) (fun j => [(0, v), (5, .int .i64 (i : Int)), (7, .int .i64 (j : Int)), (1, .int .i64 ((k + (i * 17 + 9 + j) : Nat) : Int))]) (fun j => .row v 27 17 (mkL (mkG k) (i * 17 + 9 + j) ++ xs.drop (i * 17 + 9 + j)) :: H2) (fun j => 8 - j) 0 (Nat.zero_le _) ?_ ?_
        · (refine ent ?_ ?_; (repeat refine fr_cons rfl ?_); exact fr_nil; (repeat (exact List.Sublist.refl _)))
        · intro j hj
          have lx2 : (mkL (mkG k) (i * 17 + 9 + j) ++ xs.drop (i * 17 + 9 + j)).length = m * 17 := (mkL_rest (by omega)).trans hl
          by_cases hlj : j < 8
          · repeat' (first | (apply Jq_conv; exact rfl; exact rfl; exact wrap8m _) | (apply Jq_move; exact rfl; exact rfl) | (apply Jq_assign; exact rfl; exact rfl) | (apply Jq_fieldAddr; exact rfl; exact rfl) | (apply Jq_indexN; exact rfl; exact rfl; exact rfl; omega) | (apply Jq_cmp; exact rfl; exact rfl; exact rfl; exact rfl) | (apply Jq_add; exact rfl; exact rfl; exact rfl; omega) | (apply J_sR; exact rfl; exact rfl; exact rfl; infer_instance; (omega); (exact mkL_set (t := i * 17 + 9 + j) (by omega) (mkG1 (i := i) (j := 9 + j) (by omega) (by omega) (by omega)) (by omega))) | (apply Jq_indexRs; exact rfl; exact rfl; exact rfl; (exact rb); omega) | refine thenQ_normal ?_ | refine inBlockQ_normal ?_ | refine JC_seq ?_ | refine JC_region ?_ | refine J_nil ?_ | refine JC_block ?_ | refine JC_skip ?_ | (apply JC_dec_true; exact rfl; omega))
            refine ⟨j + 1, by omega, by omega, ?_⟩
            (refine ent ?_ ?_; (repeat refine fr_cons rfl ?_); exact fr_nil; (repeat (exact List.Sublist.refl _)))
          · obtain rfl : j = 8 := by omega
            have es : (i + 1) * 17 = i * 17 + 9 + 8 := by omega
            repeat' (first | (apply Jq_move; exact rfl; exact rfl) | (apply Jq_assign; exact rfl; exact rfl) | (apply Jq_cmp; exact rfl; exact rfl; exact rfl; exact rfl) | (apply Jq_add; exact rfl; exact rfl; exact rfl; omega) | refine thenQ_normal ?_ | refine thenQ_exit ?_ | refine inBlockQ_normal ?_ | refine inBlockQ_here ?_ | refine JC_seq ?_ | refine JC_region ?_ | refine J_nil ?_ | refine JC_exit ?_ | (apply JC_if_false; exact rfl))
            refine ⟨i + 1, by omega, by omega, ?_⟩
            rw [es]
            (refine ent ?_ ?_; (repeat refine fr_cons rfl ?_); exact fr_nil; (repeat (exact List.Sublist.refl _)))
    · obtain rfl : i = m := by omega
      repeat' (first | (apply Jq_move; exact rfl; exact rfl) | (apply Jq_assign; exact rfl; exact rfl) | (apply Jq_cmp; exact rfl; exact rfl; exact rfl; exact rfl) | (apply Jq_lenRs; exact rfl; exact rfl; (exact rb); exact lx; decide) | refine thenQ_normal ?_ | refine thenQ_exit ?_ | refine inBlockQ_here ?_ | refine JC_seq ?_ | refine JC_region ?_ | refine J_nil ?_ | refine JC_ret ?_ | refine JC_exit ?_ | (apply JC_dec_false; exact rfl; omega))
      rw [mkL_all hl.symm]
      refine m1 rfl rfl rfl rfl ?_
      (refine ent ?_ ?_; (repeat refine fr_cons rfl ?_); exact fr_nil; (repeat (exact List.Sublist.refl _)))
set_option maxRecDepth 100000 in
theorem heldGridS_gives {B : Nat} {w0 : World} {H : Hp} {v : Value} (k m : Nat) (hv : It.row v 27 17 (mkL (mkG k) (m * 17)) ∈ H) (hk : k < 1000000) (hm : m < 1000000) :
    GivesM Try.prog 15 #[v, .int .i64 (k : Int)] B w0 H (.int .i64 ((k + m * 17 : Nat) : Int)) H := by
  have lx := mkL_len (mkG k) (m * 17)
  refine givesM_of (args := [v, .int .i64 (k : Int)]) [(0, v), (1, .int .i64 (k : Int))] Try.func15 rfl Try.ntmps15 rfl (argsF_cons rfl (argsF_cons rfl argsF_nil)) ?_
  repeat' (first | (apply Jq_assign; exact rfl; exact rfl) | refine thenQ_normal ?_ | refine JC_seq ?_ | refine JC_region ?_ | refine J_nil ?_ | refine JC_block ?_)
  refine JC_loop (X := Nat) (fun i => i ≤ m) (fun i => [(0, v), (5, .int .i64 (i : Int)), (1, .int .i64 ((k + i * 17 : Nat) : Int))]) (fun _ => H) (fun i => m - i) 0 (Nat.zero_le _) ?_ ?_
  · (refine ent ?_ ?_; (repeat refine fr_cons rfl ?_); exact fr_nil; (repeat (exact List.Sublist.refl _)))
  · intro i hi
    by_cases hlt : i < m
    · have g0 : (mkL (mkG k) (m * 17))[i * 17 + 0]? = some (.int .i64 ((k + i * 17 : Nat) : Int)) := mkL_get (by omega) (mkG0 rfl)
      repeat' (first | (apply Jq_move; exact rfl; exact rfl) | (apply Jq_assign; exact rfl; exact rfl) | (apply Jq_fieldAddr; exact rfl; exact rfl) | (apply Jq_cmp; exact rfl; exact rfl; exact rfl; exact rfl) | (apply Jq_add; exact rfl; exact rfl; exact rfl; omega) | (apply Jq_loadR; exact rfl; exact rfl; (assumption); (exact g0)) | (apply Jq_lenRs; exact rfl; exact rfl; (assumption); exact lx; decide) | (apply Jq_indexRs; exact rfl; exact rfl; exact rfl; (assumption); omega) | refine thenQ_normal ?_ | refine JC_seq ?_ | refine JC_region ?_ | refine J_nil ?_ | refine JC_block ?_ | refine JC_skip ?_ | (apply JC_dec_true; exact rfl; omega) | (apply JC_ndec_false; exact rfl; omega))
      refine JC_cutB (Y := Unit) (fun _ => True) (fun _ => [(0, v), (5, .int .i64 (i : Int)), (1, .int .i64 ((k + (i * 17 + 9) : Nat) : Int))]) (fun _ => H) ?_ ?_
      · refine JC_loop (X := Nat) (fun j => j ≤ 8) (fun j => [(0, v), (5, .int .i64 (i : Int)), (6, .int .i64 (j : Int)), (1, .int .i64 ((k + (i * 17 + 1 + j) : Nat) : Int))]) (fun _ => H) (fun j => 8 - j) 0 (Nat.zero_le _) ?_ ?_
        · (refine ent ?_ ?_; (repeat refine fr_cons rfl ?_); exact fr_nil; (repeat (exact List.Sublist.refl _)))
        · intro j hj
          by_cases hlj : j < 8
          · have g1' : (mkL (mkG k) (m * 17))[i * 17 + 1 + j * 1]? = some (.int .u8 (((k + (i * 17 + 1 + j)) % 256 : Nat) : Int)) := by
              rw [show i * 17 + 1 + j * 1 = i * 17 + 1 + j by omega]
              exact mkL_get (by omega) (mkG1 (i := i) (j := 1 + j) (by omega) (by omega) (by omega))
            repeat' (first | (apply Jq_conv; exact rfl; exact rfl; exact wrap8m _) | (apply Jq_move; exact rfl; exact rfl) | (apply Jq_assign; exact rfl; exact rfl) | (apply Jq_fieldAddr; exact rfl; exact rfl) | (apply Jq_indexN; exact rfl; exact rfl; exact rfl; omega) | (apply Jq_cmp; exact rfl; exact rfl; exact rfl; exact rfl) | (apply Jq_add; exact rfl; exact rfl; exact rfl; omega) | (apply Jq_loadR; exact rfl; exact rfl; (assumption); (exact g1')) | (apply Jq_indexRs; exact rfl; exact rfl; exact rfl; (assumption); omega) | refine thenQ_normal ?_ | refine inBlockQ_normal ?_ | refine JC_seq ?_ | refine JC_region ?_ | refine J_nil ?_ | refine JC_block ?_ | refine JC_skip ?_ | (apply JC_dec_true; exact rfl; omega) | (apply JC_ndec_false; exact rfl; omega))
            refine ⟨j + 1, by omega, by omega, ?_⟩
            (refine ent ?_ ?_; (repeat refine fr_cons rfl ?_); exact fr_nil; (repeat (exact List.Sublist.refl _)))
          · obtain rfl : j = 8 := by omega
            repeat' (first | (apply Jq_move; exact rfl; exact rfl) | (apply Jq_cmp; exact rfl; exact rfl; exact rfl; exact rfl) | refine thenQ_normal ?_ | refine thenQ_exit ?_ | refine inBlockQ_here ?_ | refine JC_seq ?_ | refine JC_region ?_ | refine J_nil ?_ | refine JC_exit ?_ | (apply JC_if_false; exact rfl))
            refine ⟨(), trivial, ?_⟩
            (refine ent ?_ ?_; (repeat refine fr_cons rfl ?_); exact fr_nil; (repeat (exact List.Sublist.refl _)))
      · intro _ _
        repeat' (first | (apply Jq_assign; exact rfl; exact rfl) | refine thenQ_normal ?_ | refine JC_seq ?_ | refine JC_region ?_ | refine J_nil ?_ | refine JC_block ?_)
        refine JC_loop (X := Nat) (fun j => j ≤ 8) (fun j => [(0, v), (5, .int .i64 (i : Int)), (7, .int .i64 (j : Int)), (1, .int .i64 ((k + (i * 17 + 9 + j) : Nat) : Int))]) (fun _ => H) (fun j => 8 - j) 0 (Nat.zero_le _) ?_ ?_
        · (refine ent ?_ ?_; (repeat refine fr_cons rfl ?_); exact fr_nil; (repeat (exact List.Sublist.refl _)))
        · intro j hj
          by_cases hlj : j < 8
          · have g1' : (mkL (mkG k) (m * 17))[i * 17 + 9 + j * 1]? = some (.int .u8 (((k + (i * 17 + 9 + j)) % 256 : Nat) : Int)) := by
              rw [show i * 17 + 9 + j * 1 = i * 17 + 9 + j by omega]
              exact mkL_get (by omega) (mkG1 (i := i) (j := 9 + j) (by omega) (by omega) (by omega))
            repeat' (first | (apply Jq_conv; exact rfl; exact rfl; exact wrap8m _) | (apply Jq_move; exact rfl; exact rfl) | (apply Jq_assign; exact rfl; exact rfl) | (apply Jq_fieldAddr; exact rfl; exact rfl) | (apply Jq_indexN; exact rfl; exact rfl; exact rfl; omega) | (apply Jq_cmp; exact rfl; exact rfl; exact rfl; exact rfl) | (apply Jq_add; exact rfl; exact rfl; exact rfl; omega) | (apply Jq_loadR; exact rfl; exact rfl; (assumption); (exact g1')) | (apply Jq_indexRs; exact rfl; exact rfl; exact rfl; (assumption); omega) | refine thenQ_normal ?_ | refine inBlockQ_normal ?_ | refine JC_seq ?_ | refine JC_region ?_ | refine J_nil ?_ | refine JC_block ?_ | refine JC_skip ?_ | (apply JC_dec_true; exact rfl; omega) | (apply JC_ndec_false; exact rfl; omega))
            refine ⟨j + 1, by omega, by omega, ?_⟩
            (refine ent ?_ ?_; (repeat refine fr_cons rfl ?_); exact fr_nil; (repeat (exact List.Sublist.refl _)))
          · obtain rfl : j = 8 := by omega
            have es : (i + 1) * 17 = i * 17 + 9 + 8 := by omega
            repeat' (first | (apply Jq_move; exact rfl; exact rfl) | (apply Jq_assign; exact rfl; exact rfl) | (apply Jq_cmp; exact rfl; exact rfl; exact rfl; exact rfl) | (apply Jq_add; exact rfl; exact rfl; exact rfl; omega) | refine thenQ_normal ?_ | refine thenQ_exit ?_ | refine inBlockQ_normal ?_ | refine inBlockQ_here ?_ | refine JC_seq ?_ | refine JC_region ?_ | refine J_nil ?_ | refine JC_exit ?_ | (apply JC_if_false; exact rfl))
            refine ⟨i + 1, by omega, by omega, ?_⟩
            rw [es]
            (refine ent ?_ ?_; (repeat refine fr_cons rfl ?_); exact fr_nil; (repeat (exact List.Sublist.refl _)))
    · obtain rfl : i = m := by omega
      repeat' (first | (apply Jq_move; exact rfl; exact rfl) | (apply Jq_assign; exact rfl; exact rfl) | (apply Jq_cmp; exact rfl; exact rfl; exact rfl; exact rfl) | (apply Jq_lenRs; exact rfl; exact rfl; (assumption); exact lx; decide) | refine thenQ_normal ?_ | refine thenQ_exit ?_ | refine inBlockQ_here ?_ | refine JC_seq ?_ | refine JC_region ?_ | refine J_nil ?_ | refine JC_ret ?_ | refine JC_exit ?_ | (apply JC_dec_false; exact rfl; omega))
      refine m1 rfl rfl rfl rfl ?_
      (refine ent ?_ ?_; (repeat refine fr_cons rfl ?_); exact fr_nil; (repeat (exact List.Sublist.refl _)))
end Go.Proofs.Ytflleelfkknfaaa
