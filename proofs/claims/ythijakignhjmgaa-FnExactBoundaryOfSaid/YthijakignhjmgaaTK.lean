/- Walks: FnExactAddSums. -/
import Derived.Test.YthijakignhjmgaaTJ
namespace Go.Proofs.Ythijakignhjmgaa
open Go Go.RowKit SL
theorem isOdd_sd {a b out : List StB} (ha : Asc rkT a) (hb : Asc rkT b) (h : isOdd (a ++ b) out) : out = sd rkT a b := by
  refine Asc.ext h.1 (sd_asc a b ha hb) fun x => ?_
  rw [h.2.1, sd_mem rkT_inj a b ha hb, List.count_append]
  have c1 : ∀ l : List StB, Asc rkT l → l.count x = if x ∈ l then 1 else 0 := fun l hl => hl.nodup.count
  rw [c1 a ha, c1 b hb]
  by_cases h1 : x ∈ a <;> by_cases h2 : x ∈ b <;> simp [h1, h2]
set_option maxRecDepth 100000 in
theorem iadd1_gives {B : Nat} {w0 : World} {H : Hp} {va vb : Value} (n : Int) (X O : List Nat) (lX : X.length = 8) (lO : O.length = 8) (a b : List StB) (b4 b5 : Nat) (T4 T5 : TypeId) (h4 : It.blk b4 [va] T4 ∈ H) (h5 : It.blk b5 [vb] T5 ∈ H) (hva : It.row va 115 8 (a.flatMap encS) ∈ H) (hvb : It.row vb 115 8 (b.flatMap encS) ∈ H) (la : a.length < 10000000) (lb : b.length < 10000000) :
    GivesE Try.prog 96 #[.agg (gv n X O).toArray, .pointer (some ⟨b4, 0, none⟩), .pointer (some ⟨b5, 0, none⟩)] B w0 H (fun v' H' => ∃ out, isOdd (a ++ b) out ∧ H' = .row v' 115 8 (out.flatMap encS) :: H) := by
  have ug := gv_len (n := n) lX lO
  have i4 : MB b4 H [va] T4 := ⟨h4⟩
  have i5 : MB b5 H [vb] T5 := ⟨h5⟩
  refine givesE_of (args := [.agg (gv n X O).toArray, .pointer (some ⟨b4, 0, none⟩), .pointer (some ⟨b5, 0, none⟩)]) [(0, .agg (gv n X O).toArray), (1, .pointer (some ⟨b4, 0, none⟩)), (2, .pointer (some ⟨b5, 0, none⟩))] Try.func96 rfl Try.ntmps96 rfl (argsF_cons rfl (argsF_cons rfl (argsF_cons rfl argsF_nil))) ?_
  refine JC_row1' hva fun oa ca => JC_row1' hvb fun ob cb => ?_
  have hl2 : ([(va, a), (vb, b)].flatMap (·.2)).length < 100000000 := by simp; omega
  have hab : [(va, a), (vb, b)].flatMap (·.2) = a ++ b := by simp
  repeat' (first | (apply J_lit2; exact rfl; exact rfl; exact rfl; exact ca; exact cb; (intro _)) | (apply JcE; exact rfl; exact rfl; exact rfl; infer_instance; (exact concatS_gives [(va, a), (vb, b)] m0 (sums2 (mS (mS hva)) (mS (mS hvb)) (by omega) (by omega)) (Nat.le_of_ble_eq_true rfl) hl2); (intro v' H' hV; subst hV)) | (apply JcE; exact rfl; exact rfl; exact rfl; infer_instance; (exact odd_gives _ m0 hl2); (intro v2 H2 hV; obtain ⟨out, ho, rfl⟩ := hV)) | (apply Jq_assign; exact rfl; exact rfl) | (apply Jq_load; exact rfl; exact rfl; (exact mb); (first | exact rfl)) | (apply Jq_loadW; exact rfl; exact rfl; (exact mb); (first | exact rfl | omega)) | (apply Jq_loadA; exact rfl; exact rfl; (exact mb); (first | exact rfl); (first | exact rfl | omega)) | (apply Jq_loadR; exact rfl; exact rfl; (first | exact rb | assumption); (first | exact rfl)) | (apply J_box; exact rfl; exact rfl; exact rfl; (intro _)) | refine thenQ_normal ?_ | refine thenQ_exit ?_ | refine thenQ_ret ?_ | refine inBlockQ_normal ?_ | refine inBlockQ_ret ?_ | refine inBlockQ_here ?_ | (apply inBlockQ_on; exact rfl) | refine JC_seq ?_ | refine JC_region ?_ | refine J_nil ?_ | refine JC_block ?_ | refine JC_skip ?_ | refine JC_ret ?_ | refine JC_exit ?_)
  rw [hab] at ho
  rename_i v2
  refine e1 (H' := .row v2 115 8 (out.flatMap encS) :: H) rfl rfl rfl ?_ ⟨out, ho, rfl⟩
  (refine ent ?_ ?_; (repeat refine fr_cons rfl ?_); exact fr_nil; (repeat (first | exact List.nil_sublist _ | exact List.Sublist.refl _ | refine List.Sublist.cons_cons _ ?_ | refine List.Sublist.cons _ ?_)))
set_option maxRecDepth 100000 in
theorem iAddSums_good {B : Nat} {w0 : World} {H : Hp} {va vb : Value} (n : Int) (X O : List Nat) (bX : isB X) (bO : isB O) (a b : List StB) (hva : It.row va 115 8 (a.flatMap encS) ∈ H) (hvb : It.row vb 115 8 (b.flatMap encS) ∈ H) (la : a.length < 10000000) (lb : b.length < 10000000) (hc : codeS n X O [a, b] = 0) :
    GivesE Try.prog 41 #[.agg (gv n X O).toArray, va, vb] B w0 H (fun v' H' => ∃ u, v' = .tuple #[u, .int .i64 0] ∧ H' = .row u 115 8 ((sd rkT a b).flatMap encS) :: H) := by
  have ug := gv_len (n := n) bX.1 bO.1
  have hall : ∀ l ∈ [a, b], sumOK n X O l := by
    rcases codeS_cases hc with ⟨h, _⟩ | ⟨⟨_, h⟩, _⟩
    · omega
    · exact h
  have ha := (hall a (by simp)).2.2
  have hb := (hall b (by simp)).2.2
  refine givesE_of (args := [.agg (gv n X O).toArray, va, vb]) [(0, .agg (gv n X O).toArray), (1, va), (2, vb)] Try.func41 rfl Try.ntmps41 rfl (argsF_cons rfl (argsF_cons rfl (argsF_cons rfl argsF_nil))) ?_
  refine JC_row1' hva fun oa ca => JC_row1' hvb fun ob cb => ?_
  repeat' (first | (apply J_box (cs := [va]); exact rfl; exact rfl; exact ca; (intro b4)) | (apply J_box (cs := [vb]); exact rfl; exact rfl; exact cb; (intro b5)) | (apply Jq_func2; exact rfl; exact rfl; exact rfl) | (apply J_lit2; exact rfl; exact rfl; exact rfl; exact ca; exact cb; (intro _)) | (apply JcE; exact rfl; exact rfl; exact rfl; infer_instance; (exact summedS_good inferInstance n X O bX bO [(va, a), (vb, b)] m0 (sums2 (mS (mS (mS (mS hva)))) (mS (mS (mS (mS hvb)))) (by omega) (by omega)) (Nat.le_of_ble_eq_true rfl) hc _ (iadd1_gives n X O bX.1 bO.1 a b _ _ _ _ mb mb (mS (mS (mS (mS hva)))) (mS (mS (mS (mS hvb)))) la lb)); (intro v' H' hV; obtain ⟨u, rfl, out, ho, rfl⟩ := hV)) | (apply Jq_assign; exact rfl; exact rfl) | (apply Jq_load; exact rfl; exact rfl; (exact mb); (first | exact rfl)) | (apply Jq_loadW; exact rfl; exact rfl; (exact mb); (first | exact rfl | omega)) | (apply Jq_loadA; exact rfl; exact rfl; (exact mb); (first | exact rfl); (first | exact rfl | omega)) | (apply Jq_loadR; exact rfl; exact rfl; (first | exact rb | assumption); (first | exact rfl)) | (apply Jq_ext20; exact rfl; exact rfl) | (apply Jq_ext21; exact rfl; exact rfl) | (apply Jq_extract; exact rfl; exact rfl; exact rfl) | (apply J_box; exact rfl; exact rfl; exact rfl; (intro _)) | refine thenQ_normal ?_ | refine thenQ_exit ?_ | refine thenQ_ret ?_ | refine inBlockQ_normal ?_ | refine inBlockQ_ret ?_ | refine inBlockQ_here ?_ | (apply inBlockQ_on; exact rfl) | refine JC_seq ?_ | refine JC_region ?_ | refine J_nil ?_ | refine JC_block ?_ | refine JC_skip ?_ | refine JC_ret ?_ | refine JC_exit ?_)
  have e := isOdd_sd ha hb ho
  subst e
  refine eT2 (H' := .row u 115 8 ((sd rkT a b).flatMap encS) :: H) rfl rfl rfl rfl ?_ ⟨u, rfl, rfl⟩
  (refine ent ?_ ?_; (repeat refine fr_cons rfl ?_); exact fr_nil; (repeat (first | exact List.nil_sublist _ | exact List.Sublist.refl _ | refine List.Sublist.cons_cons _ ?_ | refine List.Sublist.cons _ ?_)))
set_option maxRecDepth 100000 in
theorem iAddSums_bad {B : Nat} {w0 : World} {H : Hp} {va vb : Value} (n : Int) (X O : List Nat) (bX : isB X) (bO : isB O) (a b : List StB) (hva : It.row va 115 8 (a.flatMap encS) ∈ H) (hvb : It.row vb 115 8 (b.flatMap encS) ∈ H) (la : a.length < 10000000) (lb : b.length < 10000000) {c : Int} (hc : codeS n X O [a, b] = c) (h0 : c ≠ 0) :
    GivesE Try.prog 41 #[.agg (gv n X O).toArray, va, vb] B w0 H (fun v' H' => ∃ u, v' = .tuple #[u, .int .i64 c] ∧ H' = .row u 115 8 (([] : List StB).flatMap encS) :: H) := by
  have ug := gv_len (n := n) bX.1 bO.1
  refine givesE_of (args := [.agg (gv n X O).toArray, va, vb]) [(0, .agg (gv n X O).toArray), (1, va), (2, vb)] Try.func41 rfl Try.ntmps41 rfl (argsF_cons rfl (argsF_cons rfl (argsF_cons rfl argsF_nil))) ?_
  refine JC_row1' hva fun oa ca => JC_row1' hvb fun ob cb => ?_
  repeat' (first | (apply J_box (cs := [va]); exact rfl; exact rfl; exact ca; (intro b4)) | (apply J_box (cs := [vb]); exact rfl; exact rfl; exact cb; (intro b5)) | (apply Jq_func2; exact rfl; exact rfl; exact rfl) | (apply J_lit2; exact rfl; exact rfl; exact rfl; exact ca; exact cb; (intro _)) | (apply JcE; exact rfl; exact rfl; exact rfl; infer_instance; (exact summedS_bad n X O bX bO [(va, a), (vb, b)] m0 (sums2 (mS (mS (mS (mS hva)))) (mS (mS (mS (mS hvb)))) (by omega) (by omega)) (Nat.le_of_ble_eq_true rfl) hc h0); (intro v' H' hV; obtain ⟨u, rfl, rfl⟩ := hV)) | (apply Jq_assign; exact rfl; exact rfl) | (apply Jq_load; exact rfl; exact rfl; (exact mb); (first | exact rfl)) | (apply Jq_loadW; exact rfl; exact rfl; (exact mb); (first | exact rfl | omega)) | (apply Jq_loadA; exact rfl; exact rfl; (exact mb); (first | exact rfl); (first | exact rfl | omega)) | (apply Jq_loadR; exact rfl; exact rfl; (first | exact rb | assumption); (first | exact rfl)) | (apply Jq_ext20; exact rfl; exact rfl) | (apply Jq_ext21; exact rfl; exact rfl) | (apply Jq_extract; exact rfl; exact rfl; exact rfl) | (apply J_box; exact rfl; exact rfl; exact rfl; (intro _)) | refine thenQ_normal ?_ | refine thenQ_exit ?_ | refine thenQ_ret ?_ | refine inBlockQ_normal ?_ | refine inBlockQ_ret ?_ | refine inBlockQ_here ?_ | (apply inBlockQ_on; exact rfl) | refine JC_seq ?_ | refine JC_region ?_ | refine J_nil ?_ | refine JC_block ?_ | refine JC_skip ?_ | refine JC_ret ?_ | refine JC_exit ?_)
  refine eT2 (H' := .row u 115 8 (([] : List StB).flatMap encS) :: H) rfl rfl rfl rfl ?_ ⟨u, rfl, rfl⟩
  (refine ent ?_ ?_; (repeat refine fr_cons rfl ?_); exact fr_nil; (repeat (first | exact List.nil_sublist _ | exact List.Sublist.refl _ | refine List.Sublist.cons_cons _ ?_ | refine List.Sublist.cons _ ?_)))
/-- What both hand back: the row, the code. -/
theorem addS_res (n : Int) (X O : List Nat) (a b : List StB) : ∃ (out : List StB) (c : Int), out.length ≤ a.length + b.length ∧ ∀ (B : Nat) (w0 : World) (H : Hp) (va vb : Value) (bX : isB X) (bO : isB O), It.row va 115 8 (a.flatMap encS) ∈ H → It.row vb 115 8 (b.flatMap encS) ∈ H → a.length < 10000000 → b.length < 10000000 →
    GivesE Try.prog 38 #[.agg (gv n X O).toArray, va, vb] B w0 H (fun v' H' => ∃ u, v' = .tuple #[u, .int .i64 c] ∧ H' = .row u 115 8 (out.flatMap encS) :: H) ∧
    GivesE Try.prog 41 #[.agg (gv n X O).toArray, va, vb] B w0 H (fun v' H' => ∃ u, v' = .tuple #[u, .int .i64 c] ∧ H' = .row u 115 8 (out.flatMap encS) :: H) := by
  by_cases h0 : codeS n X O [a, b] = 0
  · exact ⟨sd rkT a b, 0, sd_len a b, fun B w0 H va vb bX bO ha hb la lb => ⟨sAddSums_good n X O bX bO a b ha hb (by omega) (by omega) h0, iAddSums_good n X O bX bO a b ha hb la lb h0⟩⟩
  · exact ⟨[], codeS n X O [a, b], Nat.zero_le _, fun B w0 H va vb bX bO ha hb la lb => ⟨sAddSums_bad n X O bX bO a b ha hb (by omega) (by omega) rfl h0, iAddSums_bad n X O bX bO a b ha hb la lb rfl h0⟩⟩
set_option maxRecDepth 100000 in
theorem szS_ok (a : Option Addr) (m cap : Nat) (l : Nat) (hl : l ≤ 2000000) (hm : m ≤ l) (w : World) : Gives Try.prog 37 #[.slice a m cap, .int .i64 (l : Int)] (.int .i64 ((l - m : Nat) : Int)) w := by
  have e : (l : Int) - (m : Int) = ((l - m : Nat) : Int) := by omega
  refine gives_of (args := [.slice a m cap, .int .i64 (l : Int)]) [(0, .slice a m cap), (1, .int .i64 (l : Int))] [] Try.func37 rfl Try.ntmps37 rfl (argsF_cons rfl (argsF_cons rfl argsF_nil)) (Holds.start w) ?_
  repeat' (first | (apply Jq_subR; exact rfl; exact rfl; exact rfl; omega; exact e) | (apply Jq_move; exact rfl; exact rfl) | (apply Jq_assign; exact rfl; exact rfl) | (apply Jq_cmp; exact rfl; exact rfl; exact rfl; exact rfl) | (apply Jq_sub; exact rfl; exact rfl; exact rfl; omega) | (apply Jq_lenR; exact rfl; exact rfl; (first | exact rb | assumption)) | (apply Jq_len; exact rfl; exact rfl) | refine thenQ_normal ?_ | refine thenQ_exit ?_ | refine thenQ_ret ?_ | refine inBlockQ_normal ?_ | refine inBlockQ_ret ?_ | refine inBlockQ_here ?_ | (apply inBlockQ_on; exact rfl) | refine JC_seq ?_ | refine JC_region ?_ | refine J_nil ?_ | refine JC_block ?_ | refine JC_skip ?_ | refine JC_ret ?_ | refine JC_exit ?_ | (apply JC_if_true; exact rfl) | (apply JC_if_false; exact rfl) | (apply JC_dec_true; exact rfl; omega) | (apply JC_dec_false; exact rfl; omega) | (apply JC_ndec_true; exact rfl; omega) | (apply JC_ndec_false; exact rfl; omega) | refine JC_dec rfl (fun _ => ?_) (fun _ => ?_) | refine JC_ndec rfl (fun _ => ?_) (fun _ => ?_) | refine JC_if rfl (fun _ => ?_) (fun _ => ?_))
  exact g1 rfl rfl rfl rfl
set_option maxRecDepth 100000 in
theorem szS_over (a : Option Addr) (m cap : Nat) (l : Nat) (hl : l ≤ 2000000) (hm : l < m) (hm2 : m ≤ 9223372036854775807) (w : World) : Gives Try.prog 37 #[.slice a m cap, .int .i64 (l : Int)] (.int .i64 (-1)) w := by
  refine gives_of (args := [.slice a m cap, .int .i64 (l : Int)]) [(0, .slice a m cap), (1, .int .i64 (l : Int))] [] Try.func37 rfl Try.ntmps37 rfl (argsF_cons rfl (argsF_cons rfl argsF_nil)) (Holds.start w) ?_
  repeat' (first | (apply Jq_move; exact rfl; exact rfl) | (apply Jq_assign; exact rfl; exact rfl) | (apply Jq_cmp; exact rfl; exact rfl; exact rfl; exact rfl) | (apply Jq_sub; exact rfl; exact rfl; exact rfl; omega) | (apply Jq_lenR; exact rfl; exact rfl; (first | exact rb | assumption)) | (apply Jq_len; exact rfl; exact rfl) | refine thenQ_normal ?_ | refine thenQ_exit ?_ | refine thenQ_ret ?_ | refine inBlockQ_normal ?_ | refine inBlockQ_ret ?_ | refine inBlockQ_here ?_ | (apply inBlockQ_on; exact rfl) | refine JC_seq ?_ | refine JC_region ?_ | refine J_nil ?_ | refine JC_block ?_ | refine JC_skip ?_ | refine JC_ret ?_ | refine JC_exit ?_ | (apply JC_if_true; exact rfl) | (apply JC_if_false; exact rfl) | (apply JC_dec_true; exact rfl; omega) | (apply JC_dec_false; exact rfl; omega) | (apply JC_ndec_true; exact rfl; omega) | (apply JC_ndec_false; exact rfl; omega) | refine JC_dec rfl (fun _ => ?_) (fun _ => ?_) | refine JC_ndec rfl (fun _ => ?_) (fun _ => ?_) | refine JC_if rfl (fun _ => ?_) (fun _ => ?_))
  exact g1 rfl rfl rfl rfl
end Go.Proofs.Ythijakignhjmgaa
