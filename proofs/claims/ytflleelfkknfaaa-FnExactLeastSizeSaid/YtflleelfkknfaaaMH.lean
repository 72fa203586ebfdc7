/- Walks: which moves fit, and what they make of a grid: the program's. -/
import Derived.Test.YtflleelfkknfaaaMG
namespace Go.Proofs.Ytflleelfkknfaaa
open Go Go.RowKit SL
/-- The grid can be destabilized at i and r. -/
def dst (X O : List Nat) (i r : Nat) : Prop := ∃ m d u, m ≤ 1 ∧ d ≤ 1 ∧ u ≤ 1 ∧ stbM X O i r m d u
def fit0 (n : Nat) (X O : List Nat) (c : Nat) : Prop := c + 1 < n ∧ aprt (X.getD c 0) (O.getD c 0) (X.getD (c + 1) 0) (O.getD (c + 1) 0)
def fit1 (n : Nat) (X O : List Nat) (r : Nat) : Prop := r + 1 < n ∧ aprR n X O r
def fit3 (n : Nat) (X O : List Nat) (i r : Nat) : Prop := i + 1 < n ∧ r + 1 < n ∧ dst X O i r
theorem built_move0 (c : Nat) : Try.prog.built 73 [(1, .int .i64 (c : Int))] = some (encMo 0 c 0 0 0 0).toArray := by kernel_rfl
theorem built_move0' (c : Nat) : Try.prog.built 73 [(0, .int .i64 0), (1, .int .i64 (c : Int))] = some (encMo 0 c 0 0 0 0).toArray := by kernel_rfl
theorem built_move1 (r : Nat) : Try.prog.built 73 [(0, .int .i64 1), (2, .int .i64 (r : Int))] = some (encMo 1 0 r 0 0 0).toArray := by kernel_rfl
theorem built_move3 (c r : Nat) : Try.prog.built 73 [(0, .int .i64 3), (1, .int .i64 (c : Int)), (2, .int .i64 (r : Int))] = some (encMo 3 c r 0 0 0).toArray := by kernel_rfl
theorem eq_moveS (k c r m d u : Nat) (w : World) :
    (Op.equalIn 10000 73 (.agg (encMo k c r m d u).toArray) (.agg (encMo k c r m d u).toArray)).run Try.prog w = .ok true w := by
  have hf : (Try.prog.fieldsOf 73).toList.map shF = [(true, 0, 2), (true, 1, 2), (true, 2, 2), (true, 3, 2), (true, 4, 2), (true, 5, 2)] := by kernel_rfl
  obtain ⟨f0, fs, e0, n0, o0, t0, hf⟩ := fs_cons hf
  obtain ⟨f1, fs, rfl, n1, o1, t1, hf⟩ := fs_cons hf
  obtain ⟨f2, fs, rfl, n2, o2, t2, hf⟩ := fs_cons hf
  obtain ⟨f3, fs, rfl, n3, o3, t3, hf⟩ := fs_cons hf
  obtain ⟨f4, fs, rfl, n4, o4, t4, hf⟩ := fs_cons hf
  obtain ⟨f5, fs, rfl, n5, o5, t5, hf⟩ := fs_cons hf
  obtain rfl := fs_nil hf
  rw [run_equalIn_struct (P := Try.prog) w 9999 _ _ _ (by kernel_rfl) (by kernel_rfl), e0]
  have r6 := eqFields_nil (P := Try.prog) w 9999 (xs := (encMo k c r m d u).toArray) (ys := (encMo k c r m d u).toArray)
  have r5 := eqFields_int (P := Try.prog) w 9998 (f := f5) (k := .i64) (xs := encMo k c r m d u) (ys := encMo k c r m d u) (a := u) (b := u) n5 (by rw [t5]; kernel_rfl) (by rw [o5]; rfl) (by rw [o5]; rfl) r6
  have r4 := eqFields_int (P := Try.prog) w 9998 (f := f4) (k := .i64) (xs := encMo k c r m d u) (ys := encMo k c r m d u) (a := d) (b := d) n4 (by rw [t4]; kernel_rfl) (by rw [o4]; rfl) (by rw [o4]; rfl) r5
  have r3 := eqFields_int (P := Try.prog) w 9998 (f := f3) (k := .i64) (xs := encMo k c r m d u) (ys := encMo k c r m d u) (a := m) (b := m) n3 (by rw [t3]; kernel_rfl) (by rw [o3]; rfl) (by rw [o3]; rfl) r4
  have r2 := eqFields_int (P := Try.prog) w 9998 (f := f2) (k := .i64) (xs := encMo k c r m d u) (ys := encMo k c r m d u) (a := r) (b := r) n2 (by rw [t2]; kernel_rfl) (by rw [o2]; rfl) (by rw [o2]; rfl) r3
  have r1 := eqFields_int (P := Try.prog) w 9998 (f := f1) (k := .i64) (xs := encMo k c r m d u) (ys := encMo k c r m d u) (a := c) (b := c) n1 (by rw [t1]; kernel_rfl) (by rw [o1]; rfl) (by rw [o1]; rfl) r2
  have r0 := eqFields_int (P := Try.prog) w 9998 (f := f0) (k := .i64) (xs := encMo k c r m d u) (ys := encMo k c r m d u) (a := k) (b := k) n0 (by rw [t0]; kernel_rfl) (by rw [o0]; rfl) (by rw [o0]; rfl) r1
  exact r0.trans (congrArg (fun b => Result.ok b w) (by simp))
set_option maxRecDepth 100000 in
theorem fits0_gives (n : Nat) (X O : List Nat) (c : Nat) (bX : isB X) (bO : isB O) (h2 : 2 ≤ n) (h8 : n ≤ 8) (w : World) :
    Gives Try.prog 73 #[.agg (gv n X O).toArray, .agg (encMo 0 c 0 0 0 0).toArray] (.bool (@decide (fit0 n X O c) (Classical.propDecidable _))) w := by
  have ug := gv_len (n := (n : Int)) bX.1 bO.1
  have um : (encMo 0 c 0 0 0 0).length = 6 := rfl
  by_cases hc : c < 100
  · refine gives_of (args := [.agg (gv n X O).toArray, .agg (encMo 0 c 0 0 0 0).toArray]) [(0, .agg (gv n X O).toArray), (1, .agg (encMo 0 c 0 0 0 0).toArray)] [] Try.func73 rfl Try.ntmps73 rfl (argsF_cons rfl (argsF_cons rfl argsF_nil)) (Holds.start w) ?_
    repeat' (first | (apply Jq_eqA (r := true); exact rfl; exact rfl; exact rfl; kernel_rfl; (intro w; exact eq_moveS _ _ _ _ _ _ w)) | (apply Jq_move; exact rfl; exact rfl) | (apply Jq_assign; exact rfl; exact rfl) | (apply Jq_load; exact rfl; exact rfl; (exact mb); (exact rfl)) | (apply Jq_fieldAddr; exact rfl; exact rfl) | (apply Jq_cmp; exact rfl; exact rfl; exact rfl; exact rfl) | (apply Jq_sub; exact rfl; exact rfl; exact rfl; omega) | (apply Jq_pick_true; exact rfl; exact rfl; exact rfl) | (apply Jq_pick_false; exact rfl; exact rfl; exact rfl) | (apply J_on; exact rfl; exact rfl) | (apply J_skip; exact rfl; exact rfl; exact rfl; exact rfl) | (apply Jc; exact rfl; exact rfl; exact rfl; infer_instance; ((intro w hw); first | exact within_gives _ _ _ w | exact canC_gives n X O c bX bO (by omega) w)) | (apply Jq_loadW; exact rfl; exact rfl; (exact mb); (first | exact rfl | omega)) | (apply J_box; exact rfl; exact rfl; exact rfl; (intro _)) | (apply Jq_buildE; exact rfl; exact rfl; exact built_move0 c) | refine thenQ_normal ?_ | refine thenQ_ret ?_ | refine inBlockQ_ret ?_ | refine JC_seq ?_ | refine JC_region ?_ | refine J_nil ?_ | refine JC_block ?_ | refine JC_ret ?_ | (apply JC_if_true; exact rfl) | refine J_gd rfl rfl (fun _ => ?_) (fun _ => ?_))
    · exact g1 rfl rfl rfl (boolE ⟨fun h => ⟨by omega, h⟩, fun h => h.2⟩)
    · exact g1 rfl rfl rfl (boolF fun h => by have := h.1; omega)
  · refine gives_of (args := [.agg (gv n X O).toArray, .agg (encMo 0 c 0 0 0 0).toArray]) [(0, .agg (gv n X O).toArray), (1, .agg (encMo 0 c 0 0 0 0).toArray)] [] Try.func73 rfl Try.ntmps73 rfl (argsF_cons rfl (argsF_cons rfl argsF_nil)) (Holds.start w) ?_
    repeat' (first | (apply Jq_eqA (r := true); exact rfl; exact rfl; exact rfl; kernel_rfl; (intro w; exact eq_moveS _ _ _ _ _ _ w)) | (apply Jq_move; exact rfl; exact rfl) | (apply Jq_assign; exact rfl; exact rfl) | (apply Jq_load; exact rfl; exact rfl; (exact mb); (exact rfl)) | (apply Jq_fieldAddr; exact rfl; exact rfl) | (apply Jq_cmp; exact rfl; exact rfl; exact rfl; exact rfl) | (apply Jq_sub; exact rfl; exact rfl; exact rfl; omega) | (apply Jq_pick_true; exact rfl; exact rfl; exact rfl) | (apply Jq_pick_false; exact rfl; exact rfl; exact rfl) | (apply J_on; exact rfl; exact rfl) | (apply J_skip; exact rfl; exact rfl; exact rfl; exact rfl) | (apply Jc; exact rfl; exact rfl; exact rfl; infer_instance; ((intro w hw); exact within_gives _ _ _ w)) | (apply Jq_loadW; exact rfl; exact rfl; (exact mb); (exact rfl)) | (apply J_box; exact rfl; exact rfl; exact rfl; (intro _)) | (apply Jq_buildE; exact rfl; exact rfl; exact built_move0 c) | refine thenQ_normal ?_ | refine thenQ_ret ?_ | refine inBlockQ_ret ?_ | refine JC_seq ?_ | refine JC_region ?_ | refine J_nil ?_ | refine JC_block ?_ | refine JC_ret ?_ | (apply JC_if_true; exact rfl) | (apply J_gdF; exact rfl; exact rfl; omega))
    exact g1 rfl rfl rfl (boolF fun h => by have := h.1; omega)
set_option maxRecDepth 100000 in
theorem fits1_gives (n : Nat) (X O : List Nat) (r : Nat) (bX : isB X) (bO : isB O) (g : okG (n : Int) X O) (w : World) :
    Gives Try.prog 73 #[.agg (gv n X O).toArray, .agg (encMo 1 0 r 0 0 0).toArray] (.bool (@decide (fit1 n X O r) (Classical.propDecidable _))) w := by
  have ug := gv_len (n := (n : Int)) bX.1 bO.1
  have um : (encMo 1 0 r 0 0 0).length = 6 := rfl
  have hg := g.1
  refine gives_of (args := [.agg (gv n X O).toArray, .agg (encMo 1 0 r 0 0 0).toArray]) [(0, .agg (gv n X O).toArray), (1, .agg (encMo 1 0 r 0 0 0).toArray)] [] Try.func73 rfl Try.ntmps73 rfl (argsF_cons rfl (argsF_cons rfl argsF_nil)) (Holds.start w) ?_
  repeat' (first | (apply Jq_eqA (r := true); exact rfl; exact rfl; exact rfl; kernel_rfl; (intro w; exact eq_moveS _ _ _ _ _ _ w)) | (apply Jq_move; exact rfl; exact rfl) | (apply Jq_assign; exact rfl; exact rfl) | (apply Jq_load; exact rfl; exact rfl; (exact mb); (exact rfl)) | (apply Jq_fieldAddr; exact rfl; exact rfl) | (apply Jq_cmp; exact rfl; exact rfl; exact rfl; exact rfl) | (apply Jq_sub; exact rfl; exact rfl; exact rfl; omega) | (apply Jq_pick_true; exact rfl; exact rfl; exact rfl) | (apply Jq_pick_false; exact rfl; exact rfl; exact rfl) | (apply J_on; exact rfl; exact rfl) | (apply J_skip; exact rfl; exact rfl; exact rfl; exact rfl) | (apply Jc; exact rfl; exact rfl; exact rfl; infer_instance; ((intro w hw); first | exact within_gives _ _ _ w | exact canR_gives n X O r bX bO g (by omega) w)) | (apply Jq_loadW; exact rfl; exact rfl; (exact mb); (first | exact rfl | omega)) | (apply J_box; exact rfl; exact rfl; exact rfl; (intro _)) | (apply Jq_buildE; exact rfl; exact rfl; exact built_move1 r) | refine thenQ_normal ?_ | refine thenQ_ret ?_ | refine inBlockQ_ret ?_ | refine JC_seq ?_ | refine JC_region ?_ | refine J_nil ?_ | refine JC_block ?_ | refine JC_ret ?_ | (apply JC_if_true; exact rfl) | (apply JC_if_false; exact rfl) | refine J_gd rfl rfl (fun _ => ?_) (fun _ => ?_))
  · exact g1 rfl rfl rfl (boolE ⟨fun h => ⟨by omega, h⟩, fun h => h.2⟩)
  · exact g1 rfl rfl rfl (boolF fun h => by have := h.1; omega)
set_option maxRecDepth 100000 in
theorem pair_gives {B : Nat} {w0 : World} {H : Hp} {v : Value} (n : Nat) (X O : List Nat) (i r : Nat) (bX : isB X) (bO : isB O) (g : okG (n : Int) X O) (hv : It.row v 2 1 [.int .i64 (i : Int), .int .i64 (r : Int)] ∈ H) :
    GivesM Try.prog 110 #[.agg (gv n X O).toArray, v] B w0 H (.int .i64 (if i + 1 < n ∧ r + 1 < n then 0 else 2)) H := by
  have ug := gv_len (n := (n : Int)) bX.1 bO.1
  have hg := g.1
  refine givesM_of (args := [.agg (gv n X O).toArray, v]) [(0, .agg (gv n X O).toArray), (1, v)] Try.func110 rfl Try.ntmps110 rfl (argsF_cons rfl (argsF_cons rfl argsF_nil)) ?_
  repeat' (first | (apply JC_ndec_false; exact rfl; exact g) | (apply Jq_lenR; exact rfl; exact rfl; exact mS hv) | (apply Jq_move; exact rfl; exact rfl) | (apply Jq_assign; exact rfl; exact rfl) | (apply Jq_not; exact rfl; exact rfl) | (apply Jc; exact rfl; exact rfl; exact rfl; infer_instance; ((intro w hw); exact IsGrid_gives n X O bX bO w)) | (apply Jq_loadW; exact rfl; exact rfl; (exact mb); (omega)) | (apply J_box; exact rfl; exact rfl; exact rfl; (intro _)) | refine thenQ_normal ?_ | refine JC_seq ?_ | refine JC_region ?_ | refine J_nil ?_ | refine JC_block ?_ | refine JC_skip ?_)
  rename_i b2
  refine JC_loop (X := Nat) (fun k => k ≤ 2 ∧ (0 < k → i + 1 < n) ∧ (1 < k → r + 1 < n)) (fun k => [(12, .int .i64 (k : Int)), (11, .int .i64 2), (10, v), (2, .pointer (some ⟨b2, 0, none⟩))]) (fun _ => .blk b2 (gv n X O) 27 :: H) (fun k => 2 - k) 0 ⟨by omega, by omega, by omega⟩ ?_ ?_
  · (refine ent ?_ ?_; (repeat refine fr_cons rfl ?_); exact fr_nil; (repeat (exact List.Sublist.refl _)))
  · rintro k ⟨hk, h1, h2⟩
    have hm : It.row v 2 1 [.int .i64 (i : Int), .int .i64 (r : Int)] ∈ It.blk b2 (gv n X O) 27 :: H := mS hv
    rcases (show k = 0 ∨ k = 1 ∨ k = 2 by omega) with e | e | e
    · subst e
      repeat' (first | (apply Jq_indexRN (i := 0); exact rfl; exact rfl; exact rfl; exact hm; (exact (show 0 < 2 by decide))) | (apply Jq_loadR (u := .int .i64 (i : Int)); exact rfl; exact rfl; exact hm; exact rfl) | (apply Jq_move; exact rfl; exact rfl) | (apply Jq_assign; exact rfl; exact rfl) | (apply Jq_load; exact rfl; exact rfl; (exact mb); (exact rfl)) | (apply Jq_fieldAddr; exact rfl; exact rfl) | (apply Jq_cmp; exact rfl; exact rfl; exact rfl; exact rfl) | (apply Jq_add; exact rfl; exact rfl; exact rfl; omega) | (apply Jq_sub; exact rfl; exact rfl; exact rfl; omega) | (apply Jq_not; exact rfl; exact rfl) | (apply Jc; exact rfl; exact rfl; exact rfl; infer_instance; ((intro w hw); exact within_gives _ _ _ w)) | refine thenQ_normal ?_ | refine thenQ_ret ?_ | refine inBlockQ_normal ?_ | refine inBlockQ_ret ?_ | refine JC_seq ?_ | refine JC_region ?_ | refine J_nil ?_ | refine JC_block ?_ | refine JC_skip ?_ | refine JC_ret ?_ | (apply JC_if_true; exact rfl) | refine JC_ndec rfl (fun _ => ?_) (fun _ => ?_))
      · refine m1 rfl rfl rfl (by rw [if_neg (by omega)]) ?_
        (refine ent ?_ ?_; (repeat refine fr_cons rfl ?_); exact fr_nil; (repeat (first | exact List.Sublist.refl _ | refine List.Sublist.cons _ ?_)))
      · refine ⟨1, ⟨by omega, by omega, by omega⟩, by omega, ?_⟩
        (refine ent ?_ ?_; (repeat refine fr_cons rfl ?_); exact fr_nil; (repeat (exact List.Sublist.refl _)))
    · subst e
      repeat' (first | (apply Jq_indexRN (i := 1); exact rfl; exact rfl; exact rfl; exact hm; (exact (show 1 < 2 by decide))) | (apply Jq_loadR (u := .int .i64 (r : Int)); exact rfl; exact rfl; exact hm; exact rfl) | (apply Jq_move; exact rfl; exact rfl) | (apply Jq_assign; exact rfl; exact rfl) | (apply Jq_load; exact rfl; exact rfl; (exact mb); (exact rfl)) | (apply Jq_fieldAddr; exact rfl; exact rfl) | (apply Jq_cmp; exact rfl; exact rfl; exact rfl; exact rfl) | (apply Jq_add; exact rfl; exact rfl; exact rfl; omega) | (apply Jq_sub; exact rfl; exact rfl; exact rfl; omega) | (apply Jq_not; exact rfl; exact rfl) | (apply Jc; exact rfl; exact rfl; exact rfl; infer_instance; ((intro w hw); exact within_gives _ _ _ w)) | refine thenQ_normal ?_ | refine thenQ_ret ?_ | refine inBlockQ_normal ?_ | refine inBlockQ_ret ?_ | refine JC_seq ?_ | refine JC_region ?_ | refine J_nil ?_ | refine JC_block ?_ | refine JC_skip ?_ | refine JC_ret ?_ | (apply JC_if_true; exact rfl) | refine JC_ndec rfl (fun _ => ?_) (fun _ => ?_))
      · refine m1 rfl rfl rfl (by rw [if_neg (by omega)]) ?_
        (refine ent ?_ ?_; (repeat refine fr_cons rfl ?_); exact fr_nil; (repeat (first | exact List.Sublist.refl _ | refine List.Sublist.cons _ ?_)))
      · refine ⟨2, ⟨by omega, by omega, by omega⟩, by omega, ?_⟩
        (refine ent ?_ ?_; (repeat refine fr_cons rfl ?_); exact fr_nil; (repeat (exact List.Sublist.refl _)))
    · subst e
      repeat' (first | (apply Jq_assign; exact rfl; exact rfl) | (apply Jq_cmp; exact rfl; exact rfl; exact rfl; exact rfl) | refine thenQ_normal ?_ | refine thenQ_exit ?_ | refine inBlockQ_here ?_ | refine JC_seq ?_ | refine JC_region ?_ | refine J_nil ?_ | refine JC_ret ?_ | refine JC_exit ?_ | (apply JC_if_false; exact rfl))
      refine m1 rfl rfl rfl (by rw [if_pos ⟨h1 (by decide), h2 (by decide)⟩]) ?_
      (refine ent ?_ ?_; (repeat refine fr_cons rfl ?_); exact fr_nil; (repeat (first | exact List.Sublist.refl _ | refine List.Sublist.cons _ ?_)))
set_option maxRecDepth 100000 in
theorem canD_gives (n : Nat) (X O : List Nat) (i r : Nat) (bX : isB X) (bO : isB O) (g : okG (n : Int) X O) (w : World) :
    Gives Try.prog 98 #[.agg (gv n X O).toArray, .int .i64 (i : Int), .int .i64 (r : Int)] (.tuple #[.bool (@decide (fit3 n X O i r) (Classical.propDecidable _)), .int .i64 (if i + 1 < n ∧ r + 1 < n then 0 else 2)]) w := by
  have ug := gv_len (n := (n : Int)) bX.1 bO.1
  have lZ : Z8.length = 8 := rfl
  have uz := gv_len (n := 0) lZ lZ
  have uw : ∀ a b c d, (encW a b c d).length = 4 := fun _ _ _ _ => rfl
  have uw0 := uw 0 0 0 0
  by_cases hin : i + 1 < n ∧ r + 1 < n
  · have hp := fun (B : Nat) (w0 : World) (H : Hp) (v : Value) hv => pair_gives (B := B) (w0 := w0) (H := H) (v := v) n X O i r bX bO g hv
    rw [if_pos hin] at hp
    rw [if_pos hin]
    by_cases hd : dst X O i r
    · obtain ⟨m, d, u, hm, hd1, hu, hs⟩ := id hd
      have hsh := shrunk_yes n X O i r m d u bX bO g hin.1 hin.2 hm hd1 hu hs
      have uE := gv_len (n := ((n - 1 : Nat) : Int)) (rmv_len (n := n) (i := i) (r := r) (d := d) (A := X)) (rmv_len (n := n) (i := i) (r := r) (d := d) (A := O))
      have uw1 := uw i m d u
      refine gives_of (args := [.agg (gv n X O).toArray, .int .i64 (i : Int), .int .i64 (r : Int)]) [(0, .agg (gv n X O).toArray), (1, .int .i64 (i : Int)), (2, .int .i64 (r : Int))] [] Try.func98 rfl Try.ntmps98 rfl (argsF_cons rfl (argsF_cons rfl (argsF_cons rfl argsF_nil))) (Holds.start w) ?_
      repeat' (first | (apply J_lit2; exact rfl; exact rfl; exact rfl; exact rfl; exact rfl; (intro _)) | (apply Jq_move; exact rfl; exact rfl) | (apply Jq_assign; exact rfl; exact rfl) | (apply Jq_cmp; exact rfl; exact rfl; exact rfl; exact rfl) | (apply Jc; exact rfl; exact rfl; exact rfl; infer_instance; ((intro w hw); exact hsh w)) | (apply Jq_loadW; exact rfl; exact rfl; (exact mb); (omega)) | (apply J_sW; exact rfl; exact rfl; infer_instance; (exact rfl); (exact rfl); (exact ones_of rfl); infer_instance) | (apply JqM; exact rfl; exact rfl; exact rfl; infer_instance; (apply hp; exact rb)) | (apply Jq_extract; exact rfl; exact rfl; exact rfl) | (apply J_box; exact rfl; exact rfl; exact rfl; (intro _)) | (apply J_alloc (cs := gv 0 Z8 Z8); exact rfl; exact rfl; (intro _)) | (apply J_alloc (cs := encW 0 0 0 0); exact rfl; exact rfl; (intro _)) | refine thenQ_normal ?_ | refine JC_seq ?_ | refine JC_region ?_ | refine J_nil ?_ | refine JC_skip ?_ | refine JC_ret ?_ | (apply JC_if_false; exact rfl))
      exact g2 rfl rfl rfl rfl (by rw [@decide_eq_true _ (Classical.propDecidable _) (show fit3 n X O i r from ⟨hin.1, hin.2, hd⟩)]; rfl)
    · have hsh := shrunk_no n X O i r bX bO g hin.1 hin.2 fun m d u hm hd1 hu hs => hd ⟨m, d, u, hm, hd1, hu, hs⟩
      refine gives_of (args := [.agg (gv n X O).toArray, .int .i64 (i : Int), .int .i64 (r : Int)]) [(0, .agg (gv n X O).toArray), (1, .int .i64 (i : Int)), (2, .int .i64 (r : Int))] [] Try.func98 rfl Try.ntmps98 rfl (argsF_cons rfl (argsF_cons rfl (argsF_cons rfl argsF_nil))) (Holds.start w) ?_
      repeat' (first | (apply J_lit2; exact rfl; exact rfl; exact rfl; exact rfl; exact rfl; (intro _)) | (apply Jq_move; exact rfl; exact rfl) | (apply Jq_assign; exact rfl; exact rfl) | (apply Jq_cmp; exact rfl; exact rfl; exact rfl; exact rfl) | (apply Jc; exact rfl; exact rfl; exact rfl; infer_instance; ((intro w hw); exact hsh w)) | (apply Jq_loadW; exact rfl; exact rfl; (exact mb); (omega)) | (apply J_sW; exact rfl; exact rfl; infer_instance; (exact rfl); (exact rfl); (exact ones_of rfl); infer_instance) | (apply JqM; exact rfl; exact rfl; exact rfl; infer_instance; (apply hp; exact rb)) | (apply Jq_extract; exact rfl; exact rfl; exact rfl) | (apply J_box; exact rfl; exact rfl; exact rfl; (intro _)) | (apply J_alloc (cs := gv 0 Z8 Z8); exact rfl; exact rfl; (intro _)) | (apply J_alloc (cs := encW 0 0 0 0); exact rfl; exact rfl; (intro _)) | refine thenQ_normal ?_ | refine JC_seq ?_ | refine JC_region ?_ | refine J_nil ?_ | refine JC_skip ?_ | refine JC_ret ?_ | (apply JC_if_false; exact rfl))
      exact g2 rfl rfl rfl rfl (by rw [@decide_eq_false _ (Classical.propDecidable _) (fun h : fit3 n X O i r => hd h.2.2)]; rfl)
  · have hp := fun (B : Nat) (w0 : World) (H : Hp) (v : Value) hv => pair_gives (B := B) (w0 := w0) (H := H) (v := v) n X O i r bX bO g hv
    rw [if_neg hin] at hp
    rw [if_neg hin]
    refine gives_of (args := [.agg (gv n X O).toArray, .int .i64 (i : Int), .int .i64 (r : Int)]) [(0, .agg (gv n X O).toArray), (1, .int .i64 (i : Int)), (2, .int .i64 (r : Int))] [] Try.func98 rfl Try.ntmps98 rfl (argsF_cons rfl (argsF_cons rfl (argsF_cons rfl argsF_nil))) (Holds.start w) ?_
    repeat' (first | (apply J_lit2; exact rfl; exact rfl; exact rfl; exact rfl; exact rfl; (intro _)) | (apply Jq_move; exact rfl; exact rfl) | (apply Jq_assign; exact rfl; exact rfl) | (apply Jq_cmp; exact rfl; exact rfl; exact rfl; exact rfl) | (apply Jq_loadW; exact rfl; exact rfl; (exact mb); (omega)) | (apply JqM; exact rfl; exact rfl; exact rfl; infer_instance; (apply hp; exact rb)) | (apply J_box; exact rfl; exact rfl; exact rfl; (intro _)) | refine thenQ_normal ?_ | refine thenQ_ret ?_ | refine JC_seq ?_ | refine JC_region ?_ | refine J_nil ?_ | refine JC_ret ?_ | (apply JC_if_true; exact rfl))
    exact g2 rfl rfl rfl rfl (by rw [@decide_eq_false _ (Classical.propDecidable _) (fun h : fit3 n X O i r => hin ⟨h.1, h.2.1⟩)])
set_option maxRecDepth 100000 in
theorem fits3_gives (n : Nat) (X O : List Nat) (i r : Nat) (bX : isB X) (bO : isB O) (g : okG (n : Int) X O) (w : World) :
    Gives Try.prog 73 #[.agg (gv n X O).toArray, .agg (encMo 3 i r 0 0 0).toArray] (.bool (@decide (fit3 n X O i r) (Classical.propDecidable _))) w := by
  have ug := gv_len (n := (n : Int)) bX.1 bO.1
  have um : (encMo 3 i r 0 0 0).length = 6 := rfl
  refine gives_of (args := [.agg (gv n X O).toArray, .agg (encMo 3 i r 0 0 0).toArray]) [(0, .agg (gv n X O).toArray), (1, .agg (encMo 3 i r 0 0 0).toArray)] [] Try.func73 rfl Try.ntmps73 rfl (argsF_cons rfl (argsF_cons rfl argsF_nil)) (Holds.start w) ?_
  repeat' (first | (apply Jq_neA (r := true); exact rfl; exact rfl; exact rfl; kernel_rfl; (intro w; exact eq_moveS _ _ _ _ _ _ w)) | (apply Jq_move; exact rfl; exact rfl) | (apply Jq_assign; exact rfl; exact rfl) | (apply Jq_load; exact rfl; exact rfl; (exact mb); (exact rfl)) | (apply Jq_fieldAddr; exact rfl; exact rfl) | (apply Jq_cmp; exact rfl; exact rfl; exact rfl; exact rfl) | (apply Jc; exact rfl; exact rfl; exact rfl; infer_instance; ((intro w hw); exact canD_gives n X O i r bX bO g w)) | (apply Jq_loadW; exact rfl; exact rfl; (exact mb); (first | exact rfl | omega)) | (apply Jq_ext20; exact rfl; exact rfl) | (apply Jq_ext21; exact rfl; exact rfl) | (apply J_box; exact rfl; exact rfl; exact rfl; (intro _)) | (apply Jq_buildE; exact rfl; exact rfl; exact built_move3 i r) | refine thenQ_normal ?_ | refine thenQ_ret ?_ | refine inBlockQ_ret ?_ | refine JC_seq ?_ | refine JC_region ?_ | refine J_nil ?_ | refine JC_block ?_ | refine JC_skip ?_ | refine JC_ret ?_ | (apply JC_if_true; exact rfl) | (apply JC_if_false; exact rfl))
  exact g1 rfl rfl rfl rfl
/-! What a move makes of a grid. -/
set_option maxRecDepth 100000 in
theorem moved0_gives (n : Nat) (X O : List Nat) (c : Nat) (bX : isB X) (bO : isB O) (h8 : n ≤ 8) (h : fit0 n X O c) (w : World) :
    Gives Try.prog 51 #[.agg (gv n X O).toArray, .agg (encMo 0 c 0 0 0 0).toArray] (.agg (gv n (swC X c) (swC O c)).toArray) w := by
  have ug := gv_len (n := (n : Int)) bX.1 bO.1
  have um : (encMo 0 c 0 0 0 0).length = 6 := rfl
  have hc := h.1
  have uE := gv_len (n := (n : Int)) (swC_len (X := X) (i := c) |>.trans bX.1) (swC_len (X := O) (i := c) |>.trans bO.1)
  refine gives_of (args := [.agg (gv n X O).toArray, .agg (encMo 0 c 0 0 0 0).toArray]) [(0, .agg (gv n X O).toArray), (1, .agg (encMo 0 c 0 0 0 0).toArray)] [] Try.func51 rfl Try.ntmps51 rfl (argsF_cons rfl (argsF_cons rfl argsF_nil)) (Holds.start w) ?_
  repeat' (first | (apply Jq_assign; exact rfl; exact rfl) | (apply Jq_load; exact rfl; exact rfl; (exact mb); (exact rfl)) | (apply Jq_fieldAddr; exact rfl; exact rfl) | (apply Jq_cmp; exact rfl; exact rfl; exact rfl; exact rfl) | (apply Jc; exact rfl; exact rfl; exact rfl; infer_instance; ((intro w hw); exact swCI_gives n X O c bX bO (by omega) w)) | (apply Jq_loadW; exact rfl; exact rfl; (exact mb); (omega)) | (apply J_sW; exact rfl; exact rfl; infer_instance; (exact rfl); (omega); (exact gv_one _ _ _); infer_instance) | (apply J_box; exact rfl; exact rfl; exact rfl; (intro _)) | (apply J_alloc (cs := gv 0 Z8 Z8); exact rfl; exact rfl; (intro _)) | refine thenQ_normal ?_ | refine thenQ_ret ?_ | refine inBlockQ_ret ?_ | refine JC_seq ?_ | refine JC_region ?_ | refine J_nil ?_ | refine JC_block ?_ | refine JC_ret ?_ | (apply JC_if_true; exact rfl))
  exact gC rfl rfl rfl mb uE rfl
set_option maxRecDepth 100000 in
theorem moved1_gives (n : Nat) (X O : List Nat) (r : Nat) (bX : isB X) (bO : isB O) (g : okG (n : Int) X O) (h : fit1 n X O r) (w : World) :
    Gives Try.prog 51 #[.agg (gv n X O).toArray, .agg (encMo 1 0 r 0 0 0).toArray] (.agg (gv n (swR n r X) (swR n r O)).toArray) w := by
  have ug := gv_len (n := (n : Int)) bX.1 bO.1
  have um : (encMo 1 0 r 0 0 0).length = 6 := rfl
  have uE := gv_len (n := (n : Int)) (swR_len (n := n) (r := r) (X := X)) (swR_len (n := n) (r := r) (X := O))
  refine gives_of (args := [.agg (gv n X O).toArray, .agg (encMo 1 0 r 0 0 0).toArray]) [(0, .agg (gv n X O).toArray), (1, .agg (encMo 1 0 r 0 0 0).toArray)] [] Try.func51 rfl Try.ntmps51 rfl (argsF_cons rfl (argsF_cons rfl argsF_nil)) (Holds.start w) ?_
  repeat' (first | (apply Jq_assign; exact rfl; exact rfl) | (apply Jq_load; exact rfl; exact rfl; (exact mb); (exact rfl)) | (apply Jq_fieldAddr; exact rfl; exact rfl) | (apply Jq_cmp; exact rfl; exact rfl; exact rfl; exact rfl) | (apply Jc; exact rfl; exact rfl; exact rfl; infer_instance; ((intro w hw); exact swRI_gives n r X O bX bO g h.1 w)) | (apply Jq_loadW; exact rfl; exact rfl; (exact mb); (omega)) | (apply J_sW; exact rfl; exact rfl; infer_instance; (exact rfl); (exact rfl); (exact ones_of rfl); infer_instance) | (apply J_box; exact rfl; exact rfl; exact rfl; (intro _)) | (apply J_alloc (cs := gv 0 Z8 Z8); exact rfl; exact rfl; (intro _)) | refine thenQ_normal ?_ | refine thenQ_ret ?_ | refine inBlockQ_ret ?_ | refine JC_seq ?_ | refine JC_region ?_ | refine J_nil ?_ | refine JC_block ?_ | refine JC_ret ?_ | (apply JC_if_true; exact rfl) | (apply JC_if_false; exact rfl))
  exact gC rfl rfl rfl mb uE rfl
set_option maxRecDepth 100000 in
theorem moved3_gives (n : Nat) (X O : List Nat) (i r m d u : Nat) (bX : isB X) (bO : isB O) (g : okG (n : Int) X O) (hi : i + 1 < n) (hr : r + 1 < n) (hm : m ≤ 1) (hd : d ≤ 1) (hu : u ≤ 1) (s : stbM X O i r m d u) (w : World) :
    Gives Try.prog 51 #[.agg (gv n X O).toArray, .agg (encMo 3 i r 0 0 0).toArray] (.agg (gv ((n - 1 : Nat) : Int) (rmv n i r d X) (rmv n i r d O)).toArray) w := by
  have ug := gv_len (n := (n : Int)) bX.1 bO.1
  have um : (encMo 3 i r 0 0 0).length = 6 := rfl
  have uw : (encW i m d u).length = 4 := rfl
  have uw0 : (encW 0 0 0 0).length = 4 := rfl
  have hsh := shrunk_yes n X O i r m d u bX bO g hi hr hm hd hu s
  have uE := gv_len (n := ((n - 1 : Nat) : Int)) (rmv_len (n := n) (i := i) (r := r) (d := d) (A := X)) (rmv_len (n := n) (i := i) (r := r) (d := d) (A := O))
  refine gives_of (args := [.agg (gv n X O).toArray, .agg (encMo 3 i r 0 0 0).toArray]) [(0, .agg (gv n X O).toArray), (1, .agg (encMo 3 i r 0 0 0).toArray)] [] Try.func51 rfl Try.ntmps51 rfl (argsF_cons rfl (argsF_cons rfl argsF_nil)) (Holds.start w) ?_
  repeat' (first | (apply Jq_move; exact rfl; exact rfl) | (apply Jq_assign; exact rfl; exact rfl) | (apply Jq_load; exact rfl; exact rfl; (exact mb); (exact rfl)) | (apply Jq_fieldAddr; exact rfl; exact rfl) | (apply Jq_cmp; exact rfl; exact rfl; exact rfl; exact rfl) | (apply Jc; exact rfl; exact rfl; exact rfl; infer_instance; ((intro w hw); exact hsh w)) | (apply Jq_loadW; exact rfl; exact rfl; (exact mb); (first | exact rfl | omega)) | (apply J_sW; exact rfl; exact rfl; infer_instance; (exact rfl); (exact rfl); (exact ones_of rfl); infer_instance) | (apply Jq_extract; exact rfl; exact rfl; exact rfl) | (apply J_box; exact rfl; exact rfl; exact rfl; (intro _)) | (apply J_alloc (cs := gv 0 Z8 Z8); exact rfl; exact rfl; (intro _)) | (apply J_alloc (cs := encW 0 0 0 0); exact rfl; exact rfl; (intro _)) | refine thenQ_normal ?_ | refine inBlockQ_normal ?_ | refine JC_seq ?_ | refine JC_region ?_ | refine J_nil ?_ | refine JC_block ?_ | refine JC_skip ?_ | refine JC_ret ?_ | (apply JC_if_false; exact rfl))
  exact gC rfl rfl rfl mb uE rfl
end Go.Proofs.Ytflleelfkknfaaa
