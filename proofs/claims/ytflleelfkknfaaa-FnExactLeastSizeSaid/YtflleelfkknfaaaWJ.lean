/- Walks: grids told to be equal; shifts. Walks: the order of grids. -/
import Derived.Test.YtflleelfkknfaaaDr
import Derived.Test.YtflleelfkknfaaaWB
import Derived.Test.YtflleelfkknfaaaPC
namespace Go.Proofs.Ytflleelfkknfaaa
open Go Go.RowKit SL
end Go.Proofs.Ytflleelfkknfaaa
namespace Go.Proofs.Ytflleelfkknfaaa
open Go Go.RowKit SL
theorem key_cmp {l m : List Nat} {i : Nat} (hlen : l.length = m.length) (hl : ∀ x ∈ l, x < 256) (hm : ∀ x ∈ m, x < 256) (hi : i < l.length) (hpre : ∀ j, j < i → l.getD j 0 = m.getD j 0) (hne : l.getD i 0 ≠ m.getD i 0) : l.getD i 0 < m.getD i 0 ↔ key l < key m := by
  refine ⟨key_first hlen hl hm hi hpre, fun hk => ?_⟩
  refine Classical.byContradiction fun h => ?_
  have := key_first (i := i) hlen.symm hm hl (by omega) (fun j hj => (hpre j hj).symm) (by omega)
  omega
theorem isB.mem {X : List Nat} (h : isB X) : ∀ x ∈ X, x < 256 := fun x hx => by
  obtain ⟨i, hi, rfl⟩ := List.getElem_of_mem hx
  have := h.2 i
  simpa [List.getD_eq_getElem?_getD, hi] using this
theorem app_mem {X O : List Nat} (hX : isB X) (hO : isB O) : ∀ x ∈ X ++ O, x < 256 := fun x hx => by
  rcases List.mem_append.1 hx with h | h
  · exact hX.mem x h
  · exact hO.mem x h
theorem app_getX {X O : List Nat} (hX : X.length = 8) {i : Nat} (hi : i < 8) : (X ++ O).getD i 0 = X.getD i 0 := by
  simp [List.getD_eq_getElem?_getD, List.getElem?_append_left (show i < X.length by omega)]
theorem app_getO {X O : List Nat} (hX : X.length = 8) {i : Nat} : (X ++ O).getD (8 + i) 0 = O.getD i 0 := by
  simp [List.getD_eq_getElem?_getD, List.getElem?_append_right (show X.length ≤ 8 + i by omega), hX]
def keyG (X O : List Nat) : Nat := key (X ++ O)
theorem keyG_X {X O Y U : List Nat} (bX : isB X) (bO : isB O) (bY : isB Y) (bU : isB U) {k : Nat} (hk : k < 8) (hpre : ∀ j, j < k → X.getD j 0 = Y.getD j 0) (hne : X.getD k 0 ≠ Y.getD k 0) : X.getD k 0 < Y.getD k 0 ↔ keyG X O < keyG Y U := by
  have := key_cmp (l := X ++ O) (m := Y ++ U) (i := k) (by simp [bX.1, bO.1, bY.1, bU.1]) (app_mem bX bO) (app_mem bY bU) (by simp [bX.1]; omega)
    (fun j hj => by rw [app_getX bX.1 (by omega), app_getX bY.1 (by omega)]; exact hpre j hj) (by rw [app_getX bX.1 hk, app_getX bY.1 hk]; exact hne)
  rwa [app_getX bX.1 hk, app_getX bY.1 hk] at this
theorem keyG_O {X O Y U : List Nat} (bX : isB X) (bO : isB O) (bY : isB Y) (bU : isB U) {k : Nat} (hk : k < 8) (hX : ∀ j, j < 8 → X.getD j 0 = Y.getD j 0) (hpre : ∀ j, j < k → O.getD j 0 = U.getD j 0) (hne : O.getD k 0 ≠ U.getD k 0) : O.getD k 0 < U.getD k 0 ↔ keyG X O < keyG Y U := by
  have := key_cmp (l := X ++ O) (m := Y ++ U) (i := 8 + k) (by simp [bX.1, bO.1, bY.1, bU.1]) (app_mem bX bO) (app_mem bY bU) (by simp [bX.1, bO.1]; omega)
    (fun j hj => by
      by_cases h : j < 8
      · rw [app_getX bX.1 h, app_getX bY.1 h]; exact hX j h
      · obtain ⟨t, rfl⟩ : ∃ t, j = 8 + t := ⟨j - 8, by omega⟩
        rw [app_getO bX.1, app_getO bY.1]; exact hpre t (by omega)) (by rw [app_getO bX.1, app_getO bY.1]; exact hne)
  rwa [app_getO bX.1, app_getO bY.1] at this
set_option maxRecDepth 100000 in
theorem less_gives (n : Int) (X O Y U : List Nat) (bX : isB X) (bO : isB O) (bY : isB Y) (bU : isB U) (w : World) :
    Gives Try.prog 44 #[.agg (gv n X O).toArray, .agg (gv n Y U).toArray] (.bool (decide (keyG X O < keyG Y U))) w := by
  have g1' := gv_len (n := n) bX.1 bO.1
  have g2' := gv_len (n := n) bY.1 bU.1
  have lX := bX.1
  have lO := bO.1
  have lY := bY.1
  have lU := bU.1
  refine gives_of (args := [.agg (gv n X O).toArray, .agg (gv n Y U).toArray]) [(0, .agg (gv n X O).toArray), (1, .agg (gv n Y U).toArray)] [] Try.func44 rfl Try.ntmps44 rfl (argsF_cons rfl (argsF_cons rfl argsF_nil)) (Holds.start w) ?_
  repeat' (first | (apply Jq_assign; exact rfl; exact rfl) | (apply Jq_load; exact rfl; exact rfl; (exact mb); (exact rfl)) | (apply Jq_fieldAddr; exact rfl; exact rfl) | (apply Jq_cmp; exact rfl; exact rfl; exact rfl; exact rfl) | (apply J_box; exact rfl; exact rfl; exact rfl; (intro _)) | refine thenQ_normal ?_ | refine JC_seq ?_ | refine JC_region ?_ | refine J_nil ?_ | refine JC_block ?_ | refine JC_skip ?_ | (apply JC_ndec_false; exact rfl; omega))
  rename_i b2 b3
  refine JC_loop (X := Nat) (fun k => k ≤ 8 ∧ ∀ j, j < k → X.getD j 0 = Y.getD j 0) (fun k => [(5, .int .i64 (k : Int)), (2, .pointer (some ⟨b2, 0, none⟩)), (3, .pointer (some ⟨b3, 0, none⟩))])
    (fun _ => [.blk b3 (gv n Y U) 27, .blk b2 (gv n X O) 27]) (fun k => 8 - k) 0 ⟨Nat.zero_le _, by omega⟩ ?_ ?_
  · (refine ent ?_ ?_; (repeat refine fr_cons rfl ?_); exact fr_nil; (repeat (exact List.Sublist.refl _)))
  · rintro k ⟨hk, hpre⟩
    by_cases hlt : k < 8
    · by_cases hne : X.getD k 0 = Y.getD k 0
      · repeat' (first | (apply Jq_move; exact rfl; exact rfl) | (apply Jq_assign; exact rfl; exact rfl) | (apply Jq_load; exact rfl; exact rfl; (exact mb); (first | (refine gv_X lX ?_; omega) | (refine gv_X lY ?_; omega))) | (apply Jq_fieldAddr; exact rfl; exact rfl) | (apply Jq_indexN; exact rfl; exact rfl; exact rfl; omega) | (apply Jq_cmp; exact rfl; exact rfl; exact rfl; exact rfl) | (apply Jq_add; exact rfl; exact rfl; exact rfl; omega) | refine thenQ_normal ?_ | refine inBlockQ_normal ?_ | refine JC_seq ?_ | refine JC_region ?_ | (apply JC_draw mixed; kernel_rfl) | refine J_nil ?_ | refine JC_block ?_ | refine JC_skip ?_ | (apply JC_dec_true; exact rfl; omega) | (apply JC_ndec_false; exact rfl; omega))
        refine ⟨k + 1, ⟨by omega, fun j hj => ?_⟩, by omega, ?_⟩
        · by_cases e : j = k
          · subst e; exact hne
          · exact hpre j (by omega)
        · (refine ent ?_ ?_; (repeat refine fr_cons rfl ?_); exact fr_nil; (repeat (exact List.Sublist.refl _)))
      · have hc := keyG_X (O := O) (U := U) bX bO bY bU hlt hpre hne
        repeat' (first | (apply Jq_move; exact rfl; exact rfl) | (apply Jq_assign; exact rfl; exact rfl) | (apply Jq_load; exact rfl; exact rfl; (exact mb); (first | (refine gv_X lX ?_; omega) | (refine gv_X lY ?_; omega))) | (apply Jq_fieldAddr; exact rfl; exact rfl) | (apply Jq_indexN; exact rfl; exact rfl; exact rfl; omega) | (apply Jq_cmp; exact rfl; exact rfl; exact rfl; exact rfl) | refine thenQ_normal ?_ | refine thenQ_ret ?_ | refine inBlockQ_ret ?_ | refine JC_seq ?_ | refine JC_region ?_ | (apply JC_draw mixed; kernel_rfl) | refine J_nil ?_ | refine JC_block ?_ | refine JC_skip ?_ | refine JC_ret ?_ | (apply JC_dec_true; exact rfl; omega) | (apply JC_ndec_true; exact rfl; omega))
        exact g1 rfl rfl rfl (boolE (by rw [← hc]; omega))
    · have hX : ∀ j, j < 8 → X.getD j 0 = Y.getD j 0 := fun j hj => hpre j (by omega)
      repeat' (first | (apply Jq_move; exact rfl; exact rfl) | (apply Jq_assign; exact rfl; exact rfl) | (apply Jq_cmp; exact rfl; exact rfl; exact rfl; exact rfl) | refine thenQ_normal ?_ | refine thenQ_exit ?_ | refine inBlockQ_here ?_ | refine JC_seq ?_ | refine JC_region ?_ | refine J_nil ?_ | refine JC_block ?_ | refine JC_exit ?_ | (apply JC_dec_false; exact rfl; omega))
      refine JC_loop (X := Nat) (fun k => k ≤ 8 ∧ ∀ j, j < k → O.getD j 0 = U.getD j 0) (fun k => [(6, .int .i64 (k : Int)), (2, .pointer (some ⟨b2, 0, none⟩)), (3, .pointer (some ⟨b3, 0, none⟩))])
        (fun _ => [.blk b3 (gv n Y U) 27, .blk b2 (gv n X O) 27]) (fun k => 8 - k) 0 ⟨Nat.zero_le _, by omega⟩ ?_ ?_
      · (refine ent ?_ ?_; (repeat refine fr_cons rfl ?_); exact fr_nil; (repeat (exact List.Sublist.refl _)))
      · rintro k ⟨hk, hpre⟩
        by_cases hlt : k < 8
        · by_cases hne : O.getD k 0 = U.getD k 0
          · repeat' (first | (apply Jq_move; exact rfl; exact rfl) | (apply Jq_assign; exact rfl; exact rfl) | (apply Jq_load; exact rfl; exact rfl; (exact mb); (first | (refine gv_O lX lO ?_; omega) | (refine gv_O lY lU ?_; omega))) | (apply Jq_fieldAddr; exact rfl; exact rfl) | (apply Jq_indexN; exact rfl; exact rfl; exact rfl; omega) | (apply Jq_cmp; exact rfl; exact rfl; exact rfl; exact rfl) | (apply Jq_add; exact rfl; exact rfl; exact rfl; omega) | refine thenQ_normal ?_ | refine inBlockQ_normal ?_ | refine JC_seq ?_ | refine JC_region ?_ | (apply JC_draw mixed; kernel_rfl) | refine J_nil ?_ | refine JC_block ?_ | refine JC_skip ?_ | (apply JC_dec_true; exact rfl; omega) | (apply JC_ndec_false; exact rfl; omega))
            refine ⟨k + 1, ⟨by omega, fun j hj => ?_⟩, by omega, ?_⟩
            · by_cases e : j = k
              · subst e; exact hne
              · exact hpre j (by omega)
            · (refine ent ?_ ?_; (repeat refine fr_cons rfl ?_); exact fr_nil; (repeat (exact List.Sublist.refl _)))
          · have hc := keyG_O bX bO bY bU hlt hX hpre hne
            repeat' (first | (apply Jq_move; exact rfl; exact rfl) | (apply Jq_assign; exact rfl; exact rfl) | (apply Jq_load; exact rfl; exact rfl; (exact mb); (first | (refine gv_O lX lO ?_; omega) | (refine gv_O lY lU ?_; omega))) | (apply Jq_fieldAddr; exact rfl; exact rfl) | (apply Jq_indexN; exact rfl; exact rfl; exact rfl; omega) | (apply Jq_cmp; exact rfl; exact rfl; exact rfl; exact rfl) | refine thenQ_normal ?_ | refine thenQ_ret ?_ | refine inBlockQ_ret ?_ | refine JC_seq ?_ | refine JC_region ?_ | (apply JC_draw mixed; kernel_rfl) | refine J_nil ?_ | refine JC_block ?_ | refine JC_skip ?_ | refine JC_ret ?_ | (apply JC_dec_true; exact rfl; omega) | (apply JC_ndec_true; exact rfl; omega))
            exact g1 rfl rfl rfl (boolE (by rw [← hc]; omega))
        · repeat' (first | (apply Jq_move; exact rfl; exact rfl) | (apply Jq_assign; exact rfl; exact rfl) | (apply Jq_cmp; exact rfl; exact rfl; exact rfl; exact rfl) | refine thenQ_normal ?_ | refine thenQ_exit ?_ | refine inBlockQ_here ?_ | refine JC_seq ?_ | refine JC_region ?_ | refine J_nil ?_ | refine JC_ret ?_ | refine JC_exit ?_ | (apply JC_dec_false; exact rfl; omega))
          refine g1 rfl rfl rfl (boolF fun h => ?_)
          have e1 := list8_ext lY lX hX
          have e2 := list8_ext lU lO (fun j hj => hpre j (by omega))
          rw [e1, e2] at h
          exact Nat.lt_irrefl _ h
/-! Three-way comparisons. -/
def cmp3 (a b : Int) : Int := if a < b then -1 else if b < a then 1 else 0
set_option maxRecDepth 100000 in
theorem nan64_gives (a : Int) (w : World) : Gives Try.prog 89 #[.int .i64 a] (.bool (!decide (a = a))) w := by
  refine gives_of (args := [.int .i64 a]) [(0, .int .i64 a)] [] Try.func89 rfl Try.ntmps89 rfl (argsF_cons rfl argsF_nil) (Holds.start w) ?_
  repeat' (first | (apply Jq_move; exact rfl; exact rfl) | (apply Jq_assign; exact rfl; exact rfl) | (apply Jq_cmp; exact rfl; exact rfl; exact rfl; exact rfl) | refine thenQ_normal ?_ | refine JC_seq ?_ | refine JC_region ?_ | refine J_nil ?_ | refine JC_ret ?_)
  exact g1 rfl rfl rfl rfl
set_option maxRecDepth 100000 in
theorem nan8_gives (a : Int) (w : World) : Gives Try.prog 106 #[.int .u8 a] (.bool (!decide (a = a))) w := by
  refine gives_of (args := [.int .u8 a]) [(0, .int .u8 a)] [] Try.func106 rfl Try.ntmps106 rfl (argsF_cons rfl argsF_nil) (Holds.start w) ?_
  repeat' (first | (apply Jq_move; exact rfl; exact rfl) | (apply Jq_assign; exact rfl; exact rfl) | (apply Jq_cmp; exact rfl; exact rfl; exact rfl; exact rfl) | refine thenQ_normal ?_ | refine JC_seq ?_ | refine JC_region ?_ | refine J_nil ?_ | refine JC_ret ?_)
  exact g1 rfl rfl rfl rfl
set_option maxRecDepth 100000 in
theorem cmp64_gives (a b : Int) (w : World) : Gives Try.prog 56 #[.int .i64 a, .int .i64 b] (.int .i64 (cmp3 a b)) w := by
  refine gives_of (args := [.int .i64 a, .int .i64 b]) [(0, .int .i64 a), (1, .int .i64 b)] [] Try.func56 rfl Try.ntmps56 rfl (argsF_cons rfl (argsF_cons rfl argsF_nil)) (Holds.start w) ?_
  repeat' (first | (apply Jq_move; exact rfl; exact rfl) | (apply Jq_assign; exact rfl; exact rfl) | (apply Jq_cmp; exact rfl; exact rfl; exact rfl; exact rfl) | (apply Jc; exact rfl; exact rfl; exact rfl; infer_instance; ((intro w hw); first | exact nan64_gives a w | exact nan64_gives b w)) | refine thenQ_normal ?_ | refine thenQ_ret ?_ | refine JC_seq ?_ | refine JC_region ?_ | refine J_nil ?_ | refine JC_skip ?_ | refine JC_ret ?_ | (apply JC_ndec_false; exact rfl; omega) | refine JC_dec rfl (fun _ => ?_) (fun _ => ?_))
  · exact g1 rfl rfl rfl (by rw [cmp3, if_pos (by omega)])
  · exact g1 rfl rfl rfl (by rw [cmp3, if_neg (by omega), if_pos (by omega)])
  · exact g1 rfl rfl rfl (by rw [cmp3, if_neg (by omega), if_neg (by omega)])
set_option maxRecDepth 100000 in
theorem cmp8_gives (a b : Int) (w : World) : Gives Try.prog 90 #[.int .u8 a, .int .u8 b] (.int .i64 (cmp3 a b)) w := by
  refine gives_of (args := [.int .u8 a, .int .u8 b]) [(0, .int .u8 a), (1, .int .u8 b)] [] Try.func90 rfl Try.ntmps90 rfl (argsF_cons rfl (argsF_cons rfl argsF_nil)) (Holds.start w) ?_
  repeat' (first | (apply Jq_move; exact rfl; exact rfl) | (apply Jq_assign; exact rfl; exact rfl) | (apply Jq_cmp; exact rfl; exact rfl; exact rfl; exact rfl) | (apply Jc; exact rfl; exact rfl; exact rfl; infer_instance; ((intro w hw); first | exact nan8_gives a w | exact nan8_gives b w)) | refine thenQ_normal ?_ | refine thenQ_ret ?_ | refine JC_seq ?_ | refine JC_region ?_ | refine J_nil ?_ | refine JC_skip ?_ | refine JC_ret ?_ | (apply JC_ndec_false; exact rfl; omega) | refine JC_dec rfl (fun _ => ?_) (fun _ => ?_))
  · exact g1 rfl rfl rfl (by rw [cmp3, if_pos (by omega)])
  · exact g1 rfl rfl rfl (by rw [cmp3, if_neg (by omega), if_pos (by omega)])
  · exact g1 rfl rfl rfl (by rw [cmp3, if_neg (by omega), if_neg (by omega)])
def cmpL (X Y : List Nat) : Int := cmp3 (key X : Int) (key Y : Int)
theorem cmp3_self (a : Int) : cmp3 a a = 0 := by unfold cmp3; rw [if_neg (by omega), if_neg (by omega)]
theorem cmp3_ne {a b : Int} (h : a ≠ b) : cmp3 a b ≠ 0 := by
  unfold cmp3
  by_cases h1 : a < b
  · rw [if_pos h1]; omega
  · rw [if_neg h1, if_pos (by omega)]; omega
theorem cmp3_iff {a b c d : Int} (h : a < b ↔ c < d) (h' : b < a ↔ d < c) : cmp3 a b = cmp3 c d := by
  unfold cmp3
  by_cases h1 : a < b
  · rw [if_pos h1, if_pos (h.1 h1)]
  · rw [if_neg h1, if_neg (fun k => h1 (h.2 k))]
    by_cases h2 : b < a
    · rw [if_pos h2, if_pos (h'.1 h2)]
    · rw [if_neg h2, if_neg (fun k => h2 (h'.2 k))]
theorem cmpL_first {X Y : List Nat} (bX : isB X) (bY : isB Y) {k : Nat} (hk : k < 8) (hpre : ∀ j, j < k → X.getD j 0 = Y.getD j 0) (hne : X.getD k 0 ≠ Y.getD k 0) : cmp3 (X.getD k 0 : Nat) (Y.getD k 0 : Nat) = cmpL X Y := by
  have h1 := key_cmp (by rw [bX.1, bY.1]) bX.mem bY.mem (by rw [bX.1]; exact hk) hpre hne
  have h2 := key_cmp (l := Y) (m := X) (by rw [bX.1, bY.1]) bY.mem bX.mem (by rw [bY.1]; exact hk) (fun j hj => (hpre j hj).symm) (fun e => hne e.symm)
  exact cmp3_iff (by omega) (by omega)
set_option maxRecDepth 100000 in
theorem sliceCmp_gives (X Y : List Nat) (b off c off' : Nat) (bX : isB X) (bY : isB Y) (w : World) (hb : b < w.heap.size) (hc : ∀ i v, (u8s X)[i]? = some v → w.cell? ⟨b, off + i, none⟩ = some v)
    (hb' : c < w.heap.size) (hc' : ∀ i v, (u8s Y)[i]? = some v → w.cell? ⟨c, off' + i, none⟩ = some v) :
    Gives Try.prog 57 #[.slice (some ⟨b, off, none⟩) 8 8, .slice (some ⟨c, off', none⟩) 8 8] (.int .i64 (cmpL X Y)) w := by
  have lX := bX.1
  have lY := bY.1
  refine gives_of (args := [.slice (some ⟨b, off, none⟩) 8 8, .slice (some ⟨c, off', none⟩) 8 8]) [(0, .slice (some ⟨b, off, none⟩) 8 8), (1, .slice (some ⟨c, off', none⟩) 8 8)] [.rd b off (u8s X), .rd c off' (u8s Y)] Try.func57 rfl Try.ntmps57 rfl (argsF_cons rfl (argsF_cons rfl argsF_nil)) (Holds.start_rd2 hb hc hb' hc') ?_
  repeat' (first | (apply Jq_move; exact rfl; exact rfl) | (apply Jq_assign; exact rfl; exact rfl) | (apply Jq_len; exact rfl; exact rfl) | refine thenQ_normal ?_ | refine JC_seq ?_ | refine JC_region ?_ | refine J_nil ?_ | refine JC_block ?_)
  refine JC_loop (X := Nat) (fun k => k ≤ 8 ∧ ∀ j, j < k → X.getD j 0 = Y.getD j 0) (fun k => [(11, .int .i64 (k : Int)), (10, .int .i64 8), (9, .slice (some ⟨b, off, none⟩) 8 8), (0, .slice (some ⟨b, off, none⟩) 8 8), (1, .slice (some ⟨c, off', none⟩) 8 8)])
    (fun _ => [.rd b off (u8s X), .rd c off' (u8s Y)]) (fun k => 8 - k) 0 ⟨Nat.zero_le _, by omega⟩ ?_ ?_
  · (refine ent ?_ ?_; (repeat refine fr_cons rfl ?_); exact fr_nil; (repeat (exact List.Sublist.refl _)))
  · rintro k ⟨hk, hpre⟩
    by_cases hlt : k < 8
    · have hcmp := cmp8_gives (X.getD k 0 : Nat) (Y.getD k 0 : Nat)
      by_cases hne : X.getD k 0 = Y.getD k 0
      · have e0 : cmp3 (X.getD k 0 : Nat) (Y.getD k 0 : Nat) = 0 := by rw [hne, cmp3_self]
        rw [e0] at hcmp
        repeat' (first | (apply Jq_move; exact rfl; exact rfl) | (apply Jq_assign; exact rfl; exact rfl) | (apply Jq_indexSN; exact rfl; exact rfl; exact rfl; omega) | (apply Jq_cmp; exact rfl; exact rfl; exact rfl; exact rfl) | (apply Jq_add; exact rfl; exact rfl; exact rfl; omega) | (apply Jc; exact rfl; exact rfl; exact rfl; infer_instance; ((intro w hw); exact hcmp w)) | (apply Jq_len; exact rfl; exact rfl) | refine thenQ_normal ?_ | refine inBlockQ_normal ?_ | refine JC_seq ?_ | refine JC_region ?_ | refine J_nil ?_ | refine JC_block ?_ | refine JC_skip ?_ | (apply JC_if_false; exact rfl) | (apply JC_dec_true; exact rfl; omega) | (apply JC_dec_false; exact rfl; omega) | (apply Jq_loadD (j := k); exact rfl; exact rfl; exact m0; omega; (refine u8s_get ?_; omega)) | (apply Jq_loadD (j := k); exact rfl; exact rfl; exact mS m0; omega; (refine u8s_get ?_; omega)))
        refine ⟨k + 1, ⟨by omega, fun j hj => ?_⟩, by omega, ?_⟩
        · by_cases e : j = k
          · subst e; exact hne
          · exact hpre j (by omega)
        · (refine ent ?_ ?_; (repeat refine fr_cons rfl ?_); exact fr_nil; (repeat (exact List.Sublist.refl _)))
      · rw [cmpL_first bX bY hlt hpre hne] at hcmp
        have h0 : cmpL X Y ≠ 0 := by
          rw [← cmpL_first bX bY hlt hpre hne]
          exact cmp3_ne (by omega)
        repeat' (first | (apply Jq_move; exact rfl; exact rfl) | (apply Jq_assign; exact rfl; exact rfl) | (apply Jq_indexSN; exact rfl; exact rfl; exact rfl; omega) | (apply Jq_cmp; exact rfl; exact rfl; exact rfl; exact rfl) | (apply Jc; exact rfl; exact rfl; exact rfl; infer_instance; ((intro w hw); exact hcmp w)) | (apply Jq_len; exact rfl; exact rfl) | refine thenQ_normal ?_ | refine thenQ_ret ?_ | refine inBlockQ_ret ?_ | refine JC_seq ?_ | refine JC_region ?_ | refine J_nil ?_ | refine JC_block ?_ | refine JC_skip ?_ | refine JC_ret ?_ | (apply JC_dec_true; exact rfl; omega) | (apply JC_dec_false; exact rfl; omega) | (apply JC_ndec_true; exact rfl; omega) | (apply Jq_loadD (j := k); exact rfl; exact rfl; exact m0; omega; (refine u8s_get ?_; omega)) | (apply Jq_loadD (j := k); exact rfl; exact rfl; exact mS m0; omega; (refine u8s_get ?_; omega)))
        exact g1 rfl rfl rfl rfl
    · have e := list8_ext lY lX (fun j hj => hpre j (by omega))
      repeat' (first | (apply Jq_move; exact rfl; exact rfl) | (apply Jq_assign; exact rfl; exact rfl) | (apply Jq_cmp; exact rfl; exact rfl; exact rfl; exact rfl) | (apply Jq_len; exact rfl; exact rfl) | refine thenQ_normal ?_ | refine thenQ_exit ?_ | refine inBlockQ_here ?_ | refine JC_seq ?_ | refine JC_region ?_ | refine J_nil ?_ | refine JC_skip ?_ | refine JC_ret ?_ | refine JC_exit ?_ | (apply JC_if_false; exact rfl) | (apply JC_dec_false; exact rfl; omega))
      exact g1 rfl rfl rfl (by rw [← e, cmpL, cmp3_self])
def orL (L : List Int) : Int := (L.find? fun z => decide (z ≠ 0)).getD 0
theorem orL_hit : ∀ {L : List Int} {k : Nat}, k < L.length → (∀ j, j < k → L.getD j 0 = 0) → L.getD k 0 ≠ 0 → orL L = L.getD k 0
  | [], _, h, _, _ => by simp at h
  | z :: L, 0, _, _, hne => by
    have : z ≠ 0 := by simpa using hne
    simp [orL, this]
  | z :: L, k + 1, h, hpre, hne => by
    have hz : z = 0 := by simpa using hpre 0 (by omega)
    have := orL_hit (L := L) (k := k) (by simpa using h) (fun j hj => by simpa using hpre (j + 1) (by omega)) (by simpa using hne)
    subst hz
    simpa [orL] using this
theorem orL_none : ∀ {L : List Int}, (∀ j, j < L.length → L.getD j 0 = 0) → orL L = 0
  | [], _ => rfl
  | z :: L, h => by
    have hz : z = 0 := by simpa using h 0 (by simp)
    have := orL_none (L := L) (fun j hj => by simpa using h (j + 1) (by simpa using hj))
    subst hz
    simpa [orL] using this
def i64y (L : List Int) : List Value := L.map (.int .i64)
theorem i64y_len (L : List Int) : (i64y L).length = L.length := by simp [i64y]
theorem i64y_get {L : List Int} {k : Nat} (h : k < L.length) : (i64y L)[k]? = some (.int .i64 (L.getD k 0)) := by
  simp [i64y, List.getD_eq_getElem?_getD, h]
set_option maxRecDepth 100000 in
theorem or_gives {B : Nat} {w0 : World} {H : Hp} {v : Value} (L : List Int) (hv : It.row v 3 1 (i64y L) ∈ H) (hl : L.length < 1000) :
    GivesM Try.prog 55 #[v] B w0 H (.int .i64 (orL L)) H := by
  have lL := i64y_len L
  refine givesM_of (args := [v]) [(0, v)] Try.func55 rfl Try.ntmps55 rfl (argsF_cons rfl argsF_nil) ?_
  repeat' (first | (apply Jq_move; exact rfl; exact rfl) | (apply Jq_assign; exact rfl; exact rfl) | (apply Jq_lenR; exact rfl; exact rfl; (assumption)) | refine thenQ_normal ?_ | refine JC_seq ?_ | refine JC_region ?_ | refine J_nil ?_ | refine JC_block ?_)
  refine JC_loop (X := Nat) (fun k => k ≤ L.length ∧ ∀ j, j < k → L.getD j 0 = 0) (fun k => [(8, .int .i64 (k : Int)), (7, .int .i64 ((i64y L).length : Nat)), (6, v), (3, .int .i64 0)]) (fun _ => H) (fun k => L.length - k) 0 ⟨Nat.zero_le _, by omega⟩ ?_ ?_
  · (refine ent ?_ ?_; (repeat refine fr_cons rfl ?_); exact fr_nil; (repeat (exact List.Sublist.refl _)))
  · rintro k ⟨hk, hpre⟩
    by_cases hlt : k < L.length
    · have hz := i64y_get hlt
      by_cases h0 : L.getD k 0 = 0
      · repeat' (first | (apply Jq_move; exact rfl; exact rfl) | (apply Jq_assign; exact rfl; exact rfl) | (apply Jq_cmp; exact rfl; exact rfl; exact rfl; exact rfl) | (apply Jq_add; exact rfl; exact rfl; exact rfl; omega) | (apply Jq_indexRN; exact rfl; exact rfl; exact rfl; (assumption); omega) | (apply Jq_loadR; exact rfl; exact rfl; (assumption); (exact hz)) | refine thenQ_normal ?_ | refine inBlockQ_normal ?_ | refine JC_seq ?_ | refine JC_region ?_ | refine J_nil ?_ | refine JC_block ?_ | refine JC_skip ?_ | (apply JC_dec_true; exact rfl; omega) | (apply JC_ndec_false; exact rfl; omega))
        refine ⟨k + 1, ⟨by omega, fun j hj => ?_⟩, by omega, ?_⟩
        · by_cases e : j = k
          · subst e; exact h0
          · exact hpre j (by omega)
        · (refine ent ?_ ?_; (repeat refine fr_cons rfl ?_); exact fr_nil; (repeat (exact List.Sublist.refl _)))
      · repeat' (first | (apply Jq_move; exact rfl; exact rfl) | (apply Jq_assign; exact rfl; exact rfl) | (apply Jq_cmp; exact rfl; exact rfl; exact rfl; exact rfl) | (apply Jq_indexRN; exact rfl; exact rfl; exact rfl; (assumption); omega) | (apply Jq_loadR; exact rfl; exact rfl; (assumption); (exact hz)) | refine thenQ_normal ?_ | refine thenQ_ret ?_ | refine inBlockQ_ret ?_ | refine JC_seq ?_ | refine JC_region ?_ | refine J_nil ?_ | refine JC_block ?_ | refine JC_skip ?_ | refine JC_ret ?_ | (apply JC_dec_true; exact rfl; omega) | (apply JC_ndec_true; exact rfl; omega))
        refine m1 rfl rfl rfl ?_ ?_
        · rw [orL_hit hlt hpre h0]
        · (refine ent ?_ ?_; (repeat refine fr_cons rfl ?_); exact fr_nil; (repeat (exact List.Sublist.refl _)))
    · repeat' (first | (apply Jq_move; exact rfl; exact rfl) | (apply Jq_assign; exact rfl; exact rfl) | (apply Jq_cmp; exact rfl; exact rfl; exact rfl; exact rfl) | refine thenQ_normal ?_ | refine thenQ_exit ?_ | refine inBlockQ_here ?_ | refine JC_seq ?_ | refine JC_region ?_ | refine J_nil ?_ | refine JC_ret ?_ | refine JC_exit ?_ | (apply JC_dec_false; exact rfl; omega))
      refine m1 rfl rfl rfl ?_ ?_
      · rw [orL_none fun j hj => hpre j (by omega)]
      · (refine ent ?_ ?_; (repeat refine fr_cons rfl ?_); exact fr_nil; (repeat (exact List.Sublist.refl _)))
def cmpG (n m : Int) (X O Y U : List Nat) : Int := orL [cmp3 n m, cmpL X Y, cmpL O U]
set_option maxRecDepth 100000 in
theorem compare_gives (n m : Int) (X O Y U : List Nat) (bX : isB X) (bO : isB O) (bY : isB Y) (bU : isB U) (w : World) :
    Gives Try.prog 38 #[.agg (gv n X O).toArray, .agg (gv m Y U).toArray] (.int .i64 (cmpG n m X O Y U)) w := by
  have g1' := gv_len (n := n) bX.1 bO.1
  have g2' := gv_len (n := m) bY.1 bU.1
  have lX := bX.1
  have lO := bO.1
  have lY := bY.1
  have lU := bU.1
  refine gives_of (args := [.agg (gv n X O).toArray, .agg (gv m Y U).toArray]) [(0, .agg (gv n X O).toArray), (1, .agg (gv m Y U).toArray)] [] Try.func38 rfl Try.ntmps38 rfl (argsF_cons rfl (argsF_cons rfl argsF_nil)) (Holds.start w) ?_
  repeat' (first | (apply Jq_assign; exact rfl; exact rfl) | (apply J_box; exact rfl; exact rfl; exact rfl; (intro _)) | refine thenQ_normal ?_ | refine JC_seq ?_ | refine JC_region ?_ | refine J_nil ?_)
  rename_i b2 b3
  refine JC_cutT (Y := Unit) (fun _ => True) (fun _ => [(4, .int .i64 (cmpG n m X O Y U))]) (fun _ => []) ?_ ?_
  ·
    refine JC_any (m := 18) rfl _ mixed (fun _ h => h) ?_
    (apply JF_q 0; exact rfl; kernel_rfl; exact rfl; (intro E hE; (apply q_fieldAddr; exact rfl)))
    (apply JF_q 1; exact rfl; kernel_rfl; exact rfl; (intro E hE; (apply q_load; exact rfl; (refine hE _ ?_; exact mb); (exact rfl))))
    (apply JF_q 2; exact rfl; kernel_rfl; exact rfl; (intro E hE; (apply q_fieldAddr; exact rfl)))
    (apply JF_q 3; exact rfl; kernel_rfl; exact rfl; (intro E hE; (apply q_load; exact rfl; (refine hE _ ?_; exact mb); (exact rfl))))
    (apply JF_q 4; exact rfl; kernel_rfl; exact rfl; (intro E hE; (apply q_callE; exact rfl; exact rfl; infer_instance; ((intro w hw); exact cmp64_gives n m w))))
    (apply JF_q 5; exact rfl; kernel_rfl; exact rfl; (intro E hE; (apply q_fieldAddr; exact rfl)))
    (apply JF_q 6; exact rfl; kernel_rfl; exact rfl; (intro E hE; (apply q_sliceA; exact rfl)))
    (apply JF_q 7; exact rfl; kernel_rfl; exact rfl; (intro E hE; (apply q_fieldAddr; exact rfl)))
    (apply JF_q 8; exact rfl; kernel_rfl; exact rfl; (intro E hE; (apply q_sliceA; exact rfl)))
    (apply JF_q 9; exact rfl; kernel_rfl; exact rfl; (intro E hE; ((apply q_callE; exact rfl; exact rfl; infer_instance; ((intro w hw); exact sliceCmp_gives X Y _ _ _ _ bX bY w (hw.blk_lt (hE _ (mS m0))) (hw.blk_cells (hE _ (mS m0)) (gv_partX lX)) (hw.blk_lt (hE _ m0)) (hw.blk_cells (hE _ m0) (gv_partX lY)))))))
    (apply JF_q 10; exact rfl; kernel_rfl; exact rfl; (intro E hE; (apply q_fieldAddr; exact rfl)))
    (apply JF_q 11; exact rfl; kernel_rfl; exact rfl; (intro E hE; (apply q_sliceA; exact rfl)))
    (apply JF_q 12; exact rfl; kernel_rfl; exact rfl; (intro E hE; (apply q_fieldAddr; exact rfl)))
    (apply JF_q 13; exact rfl; kernel_rfl; exact rfl; (intro E hE; (apply q_sliceA; exact rfl)))
    (apply JF_q 14; exact rfl; kernel_rfl; exact rfl; (intro E hE; ((apply q_callE; exact rfl; exact rfl; infer_instance; ((intro w hw); exact sliceCmp_gives O U _ _ _ _ bO bU w (hw.blk_lt (hE _ (mS m0))) (hw.blk_cells (hE _ (mS m0)) (gv_partO lX lO)) (hw.blk_lt (hE _ m0)) (hw.blk_cells (hE _ m0) (gv_partO lY lU)))))))
    (apply JF_all [15]; kernel_rfl)
    (apply JFs_cons; exact rfl)
    · (apply J_lit3; exact rfl; exact rfl; exact rfl; exact rfl; exact rfl; exact rfl; exact rfl; (intro _))
      (apply J_nil; apply JF_end; ((repeat (apply sub_cons; (focus ((with_reducible (repeat (first | exact m0 | refine mS ?_))); done)))); exact sub_nil))
      (apply JF_all [16]; kernel_rfl)
      (apply JFs_cons; exact rfl)
      · (apply JqM; exact rfl; exact rfl; exact rfl; infer_instance; (exact or_gives [cmp3 n m, cmpL X Y, cmpL O U] m0 (by simp)))
        (apply J_nil; apply JF_end; ((repeat (apply sub_cons; (focus ((with_reducible (repeat (first | exact m0 | refine mS ?_))); done)))); exact sub_nil))
        (apply JF_q 17; exact rfl; kernel_rfl; exact rfl; (intro E hE; (apply q_assign; exact rfl)))
        (apply JF_done; kernel_rfl)
        (apply thenQ_normal; refine ⟨(), trivial, ?_⟩; (refine entP (ent ?_ (List.nil_sublist _)) ?_; (repeat refine fr_cons rfl ?_); exact fr_nil; (repeat (exact sp_nil))))
      exact JFs_nil
    exact JFs_nil
  · intro _ _
    repeat' (refine JC_ret ?_)
    exact g1 rfl rfl rfl rfl
end Go.Proofs.Ytflleelfkknfaaa
