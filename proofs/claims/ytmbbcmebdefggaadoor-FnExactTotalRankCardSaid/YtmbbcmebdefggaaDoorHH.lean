/- Walks: rectangles, followers and boundaries, in the program. -/
import Derived.Test.YtmbbcmebdefggaaDoorHB
import Derived.Test.YtmbbcmebdefggaaDoorWC
namespace Go.Proofs.YtmbbcmebdefggaaDoor
open Go Go.RowKit SL
set_option maxRecDepth 100000 in
theorem up_gives {B : Nat} {w0 : World} {H : Hp} (n : Nat) (Y : List Nat) (l b k b2 b3 b4 : Nat) (T2 T3 T4 : TypeId) (m2 : It.blk b2 [.int .i64 (l : Int)] T2 ∈ H) (m3 : It.blk b3 [.int .i64 (n : Int)] T3 ∈ H) (m4 : It.blk b4 [.int .i64 (b : Int)] T4 ∈ H) (h8 : n ≤ 8) (lY : Y.length = 8) (hl : l < n) (hb : b ≤ n) (hk : k ≤ n) (hY : ∀ i, Y.getD i 0 < 256) :
    GivesE Tryd.prog 81 #[.agg (u8s Y).toArray, .int .i64 (k : Int), .pointer (some ⟨b2, 0, none⟩), .pointer (some ⟨b3, 0, none⟩), .pointer (some ⟨b4, 0, none⟩)] B w0 H (fun v' H' => v' = .int .i64 ((upR n Y l b k : Nat) : Int) ∧ H' = H) := by
  have uY := u8s_len Y
  have i2 : MB b2 H [.int .i64 (l : Int)] T2 := ⟨m2⟩
  have i3 : MB b3 H [.int .i64 (n : Int)] T3 := ⟨m3⟩
  have i4 : MB b4 H [.int .i64 (b : Int)] T4 := ⟨m4⟩
  have hr : (l + k) % n < n := Nat.mod_lt _ (by omega)
  have hYk := hY ((l + k) % n)
  have e1 : (l : Int) + (k : Int) = ((l + k : Nat) : Int) := rfl
  have e2 : ((l + k : Nat) : Int) % (n : Int) = (((l + k) % n : Nat) : Int) := rfl
  have e3 : ((Y.getD ((l + k) % n) 0 : Nat) : Int) - (b : Int) + (n : Int) = ((Y.getD ((l + k) % n) 0 + n - b : Nat) : Int) := by omega
  have e4 : ((Y.getD ((l + k) % n) 0 + n - b : Nat) : Int) % (n : Int) = ((upR n Y l b k : Nat) : Int) := rfl
  refine givesE_of (args := [.agg (u8s Y).toArray, .int .i64 (k : Int), .pointer (some ⟨b2, 0, none⟩), .pointer (some ⟨b3, 0, none⟩), .pointer (some ⟨b4, 0, none⟩)]) [(0, .agg (u8s Y).toArray), (1, .int .i64 (k : Int)), (2, .pointer (some ⟨b2, 0, none⟩)), (3, .pointer (some ⟨b3, 0, none⟩)), (4, .pointer (some ⟨b4, 0, none⟩))] Tryd.func81 rfl Tryd.ntmps81 rfl (argsF_cons rfl (argsF_cons rfl (argsF_cons rfl (argsF_cons rfl (argsF_cons rfl argsF_nil))))) ?_
  repeat' (first | (apply Jq_addR; exact rfl; exact rfl; exact rfl; omega; (first | exact e1 | exact e3)) | (apply Jq_remR; exact rfl; exact rfl; exact rfl; omega; omega; (first | exact e2 | exact e4)) | (apply Jq_conv; exact rfl; exact rfl; exact wrap_in (by omega)) | (apply Jq_move; exact rfl; exact rfl) | (apply Jq_assign; exact rfl; exact rfl) | (apply Jq_load; exact rfl; exact rfl; (exact mb); (first | exact rfl | (refine u8s_at ?_; omega))) | (apply Jq_indexN; exact rfl; exact rfl; exact rfl; omega) | (apply Jq_sub; exact rfl; exact rfl; exact rfl; omega) | (apply J_box; exact rfl; exact rfl; exact rfl; (intro _)) | refine thenQ_normal ?_ | refine JC_seq ?_ | refine JC_region ?_ | (apply JC_draw mixed; kernel_rfl) | refine J_nil ?_ | refine JC_ret ?_)
  refine SL.e1 (H' := H) rfl rfl rfl ?_ ⟨rfl, rfl⟩
  (refine ent ?_ ?_; (repeat refine fr_cons rfl ?_); exact fr_nil; (repeat (first | exact List.Sublist.refl _ | refine List.Sublist.cons _ ?_)))
theorem one_set (u v : Value) : [u].set 0 v = [v] := rfl
theorem encR_getX (l b w h a o : Nat) : (encR ⟨l, b, w, h, a, o⟩)[0 + 4]? = some (.int .i64 (a : Int)) := rfl
theorem encR_getO (l b w h a o : Nat) : (encR ⟨l, b, w, h, a, o⟩)[0 + 5]? = some (.int .i64 (o : Int)) := rfl
theorem encR_setX (l b w h a o : Nat) : (encR ⟨l, b, w, h, a, o⟩).set (0 + 4) (.int .i64 ((a : Int) + 1)) = encR ⟨l, b, w, h, a + 1, o⟩ := rfl
theorem encR_setO (l b w h a o : Nat) : (encR ⟨l, b, w, h, a, o⟩).set (0 + 5) (.int .i64 ((o : Int) + 1)) = encR ⟨l, b, w, h, a, o + 1⟩ := rfl
theorem built_rec0 (l b w h : Nat) : Tryd.prog.built 91 [(0, .int .i64 (l : Int)), (1, .int .i64 (b : Int)), (2, .int .i64 (w : Int)), (3, .int .i64 (h : Int)), (4, .int .i64 0), (5, .int .i64 0)] = some (encR ⟨l, b, w, h, 0, 0⟩).toArray := by kernel_rfl
set_option maxRecDepth 100000 in
theorem irect_gives (n : Nat) (X O : List Nat) (x : StB) (l wd : Nat) (bX : isB X) (bO : isB O) (h8 : n ≤ 8) (hl : l < n) (hw : wd < n) (px : isPerm x.1 n) (w : World) :
    Gives Tryd.prog 71 #[.agg (gv (n : Int) X O).toArray, .agg (encS x).toArray, .int .i64 (l : Int), .int .i64 (wd : Int)] (.tuple #[.agg (encR (recT n X O x.1 l wd)).toArray, .bool (isEmp n x.1 (recT n X O x.1 l wd))]) w := by
  have ug := gv_len (n := (n : Int)) bX.1 bO.1
  have ux := encS_len x
  have lx := x.2.1
  have uX : (u8s X).length = 8 := (u8s_len X).trans bX.1
  have uO : (u8s O).length = 8 := (u8s_len O).trans bO.1
  have hbo := px.1 l hl
  have hxl := x.2.2 l
  have hh := up_lt (show 0 < n by omega) x.1 l (x.1.getD l 0) wd
  refine gives_of (args := [.agg (gv (n : Int) X O).toArray, .agg (encS x).toArray, .int .i64 (l : Int), .int .i64 (wd : Int)]) [(0, .agg (gv (n : Int) X O).toArray), (1, .agg (encS x).toArray), (2, .int .i64 (l : Int)), (3, .int .i64 (wd : Int))] [] Tryd.func71 rfl Tryd.ntmps71 rfl (argsF_cons rfl (argsF_cons rfl (argsF_cons rfl (argsF_cons rfl argsF_nil)))) (Holds.start w) ?_
  repeat' (first | (apply Jq_func3; exact rfl; exact rfl; exact rfl; exact rfl) | (apply Jq_conv; exact rfl; exact rfl; exact wrap_in (by omega)) | (apply JcEc; exact rfl; exact rfl; exact rfl; infer_instance; (exact up_gives n x.1 l (x.1.getD l 0) wd _ _ _ _ _ _ mb mb mb h8 lx hl (by omega) (by omega) x.2.2); (intro v' H' hV; obtain ⟨rfl, rfl⟩ := hV)) | (apply Jq_move; exact rfl; exact rfl) | (apply Jq_assign; exact rfl; exact rfl) | (apply Jq_load; exact rfl; exact rfl; (exact mb); (first | exact rfl | (refine u8s_at ?_; omega))) | (apply Jq_indexN; exact rfl; exact rfl; exact rfl; omega) | (apply Jc; exact rfl; exact rfl; exact rfl; infer_instance; ((intro w hw); exact n_gives n X O w)) | (apply Jq_loadW; exact rfl; exact rfl; (exact mb); (omega)) | (apply J_s1; exact rfl; exact rfl; exact rfl; infer_instance; (exact Nat.le_of_ble_eq_true rfl); (exact one_set _ _); infer_instance) | (apply J_sW; exact rfl; exact rfl; infer_instance; (exact rfl); (exact rfl); (exact ones_of rfl); infer_instance) | (apply J_box; exact rfl; exact rfl; exact rfl; (intro _)) | (apply Jq_buildE; exact rfl; exact rfl; exact built_rec0 _ _ _ _) | (apply J_alloc (cs := encR ⟨0, 0, 0, 0, 0, 0⟩); exact rfl; exact rfl; (intro _)) | (apply J_alloc; exact rfl; exact rfl; (intro _)) | refine thenQ_normal ?_ | refine JC_seq ?_ | refine JC_region ?_ | refine J_nil ?_ | refine JC_block ?_)
  rename_i b4 b5 b6 b8 b10 b11 b14
  refine JC_loop (X := Nat) (fun k => k ≤ wd) (fun k => [(34, .int .i64 (k : Int)), (33, .int .i64 (wd : Int)), (15, .bool (emp n x.1 l (x.1.getD l 0) (upR n x.1 l (x.1.getD l 0) wd) k)), (14, .pointer (some ⟨b14, 0, none⟩)), (13, .int .i64 ((upR n x.1 l (x.1.getD l 0) wd : Nat) : Int)), (12, .func (.func 81) #[] #[.pointer (some ⟨b6, 0, none⟩), .pointer (some ⟨b10, 0, none⟩), .pointer (some ⟨b11, 0, none⟩)]), (8, .pointer (some ⟨b8, 0, none⟩)), (5, .pointer (some ⟨b5, 0, none⟩)), (4, .pointer (some ⟨b4, 0, none⟩))])
    (fun k => [.blk b14 (encR ⟨l, x.1.getD l 0, wd, upR n x.1 l (x.1.getD l 0) wd, mks n X l (x.1.getD l 0) (upR n x.1 l (x.1.getD l 0) wd) k, mks n O l (x.1.getD l 0) (upR n x.1 l (x.1.getD l 0) wd) k⟩) 91, .blk b11 [.int .i64 ((x.1.getD l 0 : Nat) : Int)] 3, .blk b10 [.int .i64 (n : Int)] 3, .blk b8 (encR ⟨0, 0, 0, 0, 0, 0⟩) 91, .blk b6 [.int .i64 (l : Int)] 3, .blk b5 (encS x) 43, .blk b4 (gv (n : Int) X O) 29]) (fun k => wd - k) 0 (Nat.zero_le _) ?_ ?_
  · (refine ent ?_ ?_; (repeat refine fr_cons rfl ?_); exact fr_nil; (repeat (exact List.Sublist.refl _)))
  · intro k hk
    have a1 := mks_le n X l (x.1.getD l 0) (upR n x.1 l (x.1.getD l 0) wd) k
    have a2 := mks_le n O l (x.1.getD l 0) (upR n x.1 l (x.1.getD l 0) wd) k
    by_cases hlt : k < wd
    · have hX1 : upR n X l (x.1.getD l 0) k < upR n x.1 l (x.1.getD l 0) wd → mks n X l (x.1.getD l 0) (upR n x.1 l (x.1.getD l 0) wd) (k + 1) = mks n X l (x.1.getD l 0) (upR n x.1 l (x.1.getD l 0) wd) k + 1 := fun h => by rw [mks, if_pos h]
      have hX0 : ¬ upR n X l (x.1.getD l 0) k < upR n x.1 l (x.1.getD l 0) wd → mks n X l (x.1.getD l 0) (upR n x.1 l (x.1.getD l 0) wd) (k + 1) = mks n X l (x.1.getD l 0) (upR n x.1 l (x.1.getD l 0) wd) k := fun h => by rw [mks, if_neg h]; rfl
      have hO1 : upR n O l (x.1.getD l 0) k < upR n x.1 l (x.1.getD l 0) wd → mks n O l (x.1.getD l 0) (upR n x.1 l (x.1.getD l 0) wd) (k + 1) = mks n O l (x.1.getD l 0) (upR n x.1 l (x.1.getD l 0) wd) k + 1 := fun h => by rw [mks, if_pos h]
      have hO0 : ¬ upR n O l (x.1.getD l 0) k < upR n x.1 l (x.1.getD l 0) wd → mks n O l (x.1.getD l 0) (upR n x.1 l (x.1.getD l 0) wd) (k + 1) = mks n O l (x.1.getD l 0) (upR n x.1 l (x.1.getD l 0) wd) k := fun h => by rw [mks, if_neg h]; rfl
      have hE0 : 0 < k ∧ upR n x.1 l (x.1.getD l 0) k < upR n x.1 l (x.1.getD l 0) wd → emp n x.1 l (x.1.getD l 0) (upR n x.1 l (x.1.getD l 0) wd) (k + 1) = false := fun h => by rw [emp, if_pos h]
      have hE1 : ¬ (0 < k ∧ upR n x.1 l (x.1.getD l 0) k < upR n x.1 l (x.1.getD l 0) wd) → emp n x.1 l (x.1.getD l 0) (upR n x.1 l (x.1.getD l 0) wd) (k + 1) = emp n x.1 l (x.1.getD l 0) (upR n x.1 l (x.1.getD l 0) wd) k := fun h => by rw [emp, if_neg h]
      repeat' (first | (apply Jq_load; exact rfl; exact rfl; exact mb; (first | exact encR_getX _ _ _ _ _ _ | exact encR_getO _ _ _ _ _ _)) | (apply JcEc; exact rfl; exact rfl; exact rfl; infer_instance; (first | exact up_gives n x.1 l (x.1.getD l 0) k _ _ _ _ _ _ mb mb mb h8 lx hl (by omega) (by omega) x.2.2 | exact up_gives n X l (x.1.getD l 0) k _ _ _ _ _ _ mb mb mb h8 bX.1 hl (by omega) (by omega) bX.2 | exact up_gives n O l (x.1.getD l 0) k _ _ _ _ _ _ mb mb mb h8 bO.1 hl (by omega) (by omega) bO.2); (intro v' H' hV; obtain ⟨rfl, rfl⟩ := hV)) | (apply Jq_move; exact rfl; exact rfl) | (apply Jq_assign; exact rfl; exact rfl) | (apply Jq_fieldAddr; exact rfl; exact rfl) | (apply Jq_cmp; exact rfl; exact rfl; exact rfl; exact rfl) | (apply Jq_add; exact rfl; exact rfl; exact rfl; omega) | (apply Jq_pick_true; exact rfl; exact rfl; exact rfl) | (apply Jq_pick_false; exact rfl; exact rfl; exact rfl) | (apply J_on; exact rfl; exact rfl) | (apply J_skip; exact rfl; exact rfl; exact rfl; exact rfl) | (apply Jq_loadW; exact rfl; exact rfl; (exact mb); (omega)) | (apply Jq_loadA; exact rfl; exact rfl; (exact mb); (first | exact gv_arrX bX.1 | exact gv_arrO bX.1 bO.1); (omega)) | (apply J_s1; exact rfl; exact rfl; exact rfl; infer_instance; (exact Nat.le_of_ble_eq_true rfl); (first | exact encR_setX _ _ _ _ _ _ | exact encR_setO _ _ _ _ _ _); infer_instance) | refine thenQ_normal ?_ | refine inBlockQ_normal ?_ | refine JC_seq ?_ | refine JC_region ?_ | refine J_nil ?_ | refine JC_block ?_ | refine JC_skip ?_ | (apply JC_if_false; exact rfl) | (apply JC_dec_true; exact rfl; omega) | refine JC_dec rfl (fun _ => ?_) (fun _ => ?_) | refine J_gd rfl rfl (fun _ => ?_) (fun _ => ?_))
      all_goals
        refine ⟨k + 1, by omega, by omega, ?_⟩
        first | rw [hX1 (by omega)] | rw [hX0 (by omega)]
        first | rw [hO1 (by omega)] | rw [hO0 (by omega)]
        first | rw [hE0 (by omega)] | rw [hE1 (by omega)]
        (refine ent ?_ ?_; (repeat refine fr_cons rfl ?_); exact fr_nil; (repeat (exact List.Sublist.refl _)))
    · obtain rfl : k = wd := by omega
      repeat' (first | (apply Jq_move; exact rfl; exact rfl) | (apply Jq_assign; exact rfl; exact rfl) | (apply Jq_cmp; exact rfl; exact rfl; exact rfl; exact rfl) | (apply Jq_loadW; exact rfl; exact rfl; (exact mb); (exact rfl)) | (apply J_sW; exact rfl; exact rfl; infer_instance; (exact rfl); (exact rfl); (exact ones_of rfl); infer_instance) | refine thenQ_normal ?_ | refine thenQ_exit ?_ | refine inBlockQ_here ?_ | refine JC_seq ?_ | refine JC_region ?_ | refine J_nil ?_ | refine JC_ret ?_ | refine JC_exit ?_ | (apply JC_dec_false; exact rfl; omega))
      exact gCT rfl rfl rfl rfl (.tail _ (.tail _ (.tail _ (.head _)))) rfl rfl
set_option maxRecDepth 100000 in
theorem iled_gives (n : Nat) (x : StB) (r : Rec) (h8 : n ≤ 8) (hl : r.le < n) (hw : r.wi < n) (w : World) :
    Gives Tryd.prog 54 #[.agg (encR r).toArray, .agg (encS x).toArray, .int .i64 (n : Int)] (.agg (encS (led n x r)).toArray) w := by
  have ux := encS_len x
  have ul := encS_len (led n x r)
  have lx := x.2.1
  have ur := encR_len r
  have hr : (r.le + r.wi) % n < n := Nat.mod_lt _ (by omega)
  have u1 : (u8s (x.1.set r.le (x.1.getD ((r.le + r.wi) % n) 0))).length = 8 := by rw [u8s_len, List.length_set]; exact lx
  have u2 : (u8s ((x.1.set r.le (x.1.getD ((r.le + r.wi) % n) 0)).set ((r.le + r.wi) % n) (x.1.getD r.le 0))).length = 8 := by rw [u8s_len, List.length_set, List.length_set]; exact lx
  have e1 : (r.le : Int) + (r.wi : Int) = ((r.le + r.wi : Nat) : Int) := rfl
  have e2 : ((r.le + r.wi : Nat) : Int) % (n : Int) = (((r.le + r.wi) % n : Nat) : Int) := rfl
  refine gives_of (args := [.agg (encR r).toArray, .agg (encS x).toArray, .int .i64 (n : Int)]) [(0, .agg (encR r).toArray), (1, .agg (encS x).toArray), (2, .int .i64 (n : Int))] [] Tryd.func54 rfl Tryd.ntmps54 rfl (argsF_cons rfl (argsF_cons rfl (argsF_cons rfl argsF_nil))) (Holds.start w) ?_
  repeat' (first | (apply J_box; exact rfl; exact rfl; exact rfl; (intro _)) | (apply J_alloc (cs := u8s Z8); exact rfl; exact rfl; (intro _)) | refine thenQ_normal ?_ | refine JC_seq ?_ | refine JC_region ?_ | refine J_nil ?_)
  apply JC_draw mixed
  · kernel_rfl
  repeat' (first | (apply Jq_addR; exact rfl; exact rfl; exact rfl; omega; (exact e1)) | (apply Jq_remR; exact rfl; exact rfl; exact rfl; omega; omega; (exact e2)) | (apply Jq_move; exact rfl; exact rfl) | (apply Jq_assign; exact rfl; exact rfl) | (apply Jq_load; exact rfl; exact rfl; (exact mb); (exact rfl)) | (apply Jq_fieldAddr; exact rfl; exact rfl) | refine thenQ_normal ?_ | refine JC_seq ?_ | refine J_nil ?_)
  rename_i b3 b4 b6
  refine JC_any (m := 12) rfl [] mixed (by exact sub_nil) ?_
  (apply JF_q 0; exact rfl; kernel_rfl; exact rfl; (intro E hE; (apply q_move; exact rfl)))
  (apply JF_q 1; exact rfl; kernel_rfl; exact rfl; (intro E hE; (apply q_move; exact rfl)))
  (apply JF_q 2; exact rfl; kernel_rfl; exact rfl; (intro E hE; (apply q_move; exact rfl)))
  (apply JF_q 3; exact rfl; kernel_rfl; exact rfl; (intro E hE; (apply q_indexN; exact rfl; exact rfl; omega)))
  (apply JF_q 5; exact rfl; kernel_rfl; exact rfl; (intro E hE; (apply q_move; exact rfl)))
  (apply JF_q 6; exact rfl; kernel_rfl; exact rfl; (intro E hE; (apply q_indexN; exact rfl; exact rfl; omega)))
  (apply JF_all [4, 7]; kernel_rfl)
  (apply JFs_cons; exact rfl)
  · (apply Jq_load; exact rfl; exact rfl; (exact mb); (refine u8s_at ?_; omega))
    (apply J_nil; apply JF_end; exact sub_nil)
    (apply JF_all [7]; kernel_rfl)
    (apply JFs_cons; exact rfl)
    · (apply Jq_load; exact rfl; exact rfl; (exact mb); (refine u8s_at ?_; omega))
      (apply J_nil; apply JF_end; exact sub_nil)
      (apply JF_q 8; exact rfl; kernel_rfl; exact rfl; (intro E hE; (apply q_indexN; exact rfl; exact rfl; omega)))
      (apply JF_all [9]; kernel_rfl)
      (apply JFs_cons; exact rfl)
      · (apply J_s1; exact rfl; exact rfl; exact rfl; infer_instance; (omega); (exact u8s_set); infer_instance)
        (apply J_nil; apply JF_end; exact sub_nil)
        (apply JF_q 10; exact rfl; kernel_rfl; exact rfl; (intro E hE; (apply q_indexN; exact rfl; exact rfl; omega)))
        (apply JF_all [11]; kernel_rfl)
        (apply JFs_cons; exact rfl)
        · (apply J_s1; exact rfl; exact rfl; exact rfl; infer_instance; (omega); (exact u8s_set); infer_instance)
          (apply J_nil; apply JF_end; exact sub_nil)
          (apply JF_done; kernel_rfl)
          ((repeat' (first | (apply Jq_loadW; exact rfl; exact rfl; (exact mb); (omega)) | (apply J_sW; exact rfl; exact rfl; infer_instance; (exact rfl); (omega); (exact u8s_one _); infer_instance) | refine thenQ_normal ?_ | refine JC_seq ?_ | refine JC_region ?_ | refine J_nil ?_ | refine JC_ret ?_)); exact gC rfl rfl rfl m0 u2 rfl)
        exact JFs_nil
      exact JFs_nil
    exact JFs_nil
  (apply JFs_cons; exact rfl)
  · (apply Jq_load; exact rfl; exact rfl; (exact mb); (refine u8s_at ?_; omega))
    (apply J_nil; apply JF_end; exact sub_nil)
    (apply JF_all [4]; kernel_rfl)
    (apply JFs_cons; exact rfl)
    · (apply Jq_load; exact rfl; exact rfl; (exact mb); (refine u8s_at ?_; omega))
      (apply J_nil; apply JF_end; exact sub_nil)
      (apply JF_q 8; exact rfl; kernel_rfl; exact rfl; (intro E hE; (apply q_indexN; exact rfl; exact rfl; omega)))
      (apply JF_all [9]; kernel_rfl)
      (apply JFs_cons; exact rfl)
      · (apply J_s1; exact rfl; exact rfl; exact rfl; infer_instance; (omega); (exact u8s_set); infer_instance)
        (apply J_nil; apply JF_end; exact sub_nil)
        (apply JF_q 10; exact rfl; kernel_rfl; exact rfl; (intro E hE; (apply q_indexN; exact rfl; exact rfl; omega)))
        (apply JF_all [11]; kernel_rfl)
        (apply JFs_cons; exact rfl)
        · (apply J_s1; exact rfl; exact rfl; exact rfl; infer_instance; (omega); (exact u8s_set); infer_instance)
          (apply J_nil; apply JF_end; exact sub_nil)
          (apply JF_done; kernel_rfl)
          ((repeat' (first | (apply Jq_loadW; exact rfl; exact rfl; (exact mb); (omega)) | (apply J_sW; exact rfl; exact rfl; infer_instance; (exact rfl); (omega); (exact u8s_one _); infer_instance) | refine thenQ_normal ?_ | refine JC_seq ?_ | refine JC_region ?_ | refine J_nil ?_ | refine JC_ret ?_)); exact gC rfl rfl rfl m0 u2 rfl)
        exact JFs_nil
      exact JFs_nil
    exact JFs_nil
  exact JFs_nil
set_option maxRecDepth 100000 in
theorem iempty_gives {B : Nat} {w0 : World} {H : Hp} (n : Nat) (X O : List Nat) (x : StB) (bX : isB X) (bO : isB O) (h8 : n ≤ 8) (px : isPerm x.1 n) :
    GivesE Tryd.prog 53 #[.agg (gv (n : Int) X O).toArray, .agg (encS x).toArray, .bool true] B w0 H (fun v' H' => H' = .row v' 91 6 ((eout n X O x.1 n).flatMap encR) :: H) := by
  have ug := gv_len (n := (n : Int)) bX.1 bO.1
  have ux := encS_len x
  refine givesE_of (args := [.agg (gv (n : Int) X O).toArray, .agg (encS x).toArray, .bool true]) [(0, .agg (gv (n : Int) X O).toArray), (1, .agg (encS x).toArray), (2, .bool true)] Tryd.func53 rfl Tryd.ntmps53 rfl (argsF_cons rfl (argsF_cons rfl (argsF_cons rfl argsF_nil))) ?_
  repeat' (first | (apply Jq_move; exact rfl; exact rfl) | (apply Jq_assign; exact rfl; exact rfl) | (apply Jc; exact rfl; exact rfl; exact rfl; infer_instance; ((intro w hw); exact n_gives n X O w)) | (apply Jq_loadW; exact rfl; exact rfl; (exact mb); (omega)) | (apply J_box; exact rfl; exact rfl; exact rfl; (intro _)) | (apply J_lit0; exact rfl; (intro _)) | refine thenQ_normal ?_ | refine JC_seq ?_ | refine JC_region ?_ | refine J_nil ?_ | refine JC_block ?_)
  rename_i b3 b4 b12
  refine JC_loop (X := Nat × Value) (fun p => p.1 ≤ n) (fun p => [(2, .bool true), (14, .int .i64 (n : Int)), (15, .int .i64 (p.1 : Int)), (7, p.2), (3, .pointer (some ⟨b3, 0, none⟩)), (4, .pointer (some ⟨b4, 0, none⟩))])
    (fun p => .row p.2 91 6 ((eout n X O x.1 p.1).flatMap encR) :: .blk b4 (encS x) 43 :: .blk b3 (gv (n : Int) X O) 29 :: H) (fun p => n - p.1) (0, .slice (some ⟨b12, 0, none⟩) 0 0) (Nat.zero_le _) ?_ ?_
  · (refine ent ?_ ?_; (repeat refine fr_cons rfl ?_); exact fr_nil; (repeat (exact List.Sublist.refl _)))
  · rintro ⟨k, v⟩ hk
    dsimp only at hk ⊢
    by_cases hlt : k < n
    · have hkn := px.1 k hlt
      repeat' (first | (apply Jq_move; exact rfl; exact rfl) | (apply Jq_assign; exact rfl; exact rfl) | (apply Jq_cmp; exact rfl; exact rfl; exact rfl; exact rfl) | refine thenQ_normal ?_ | refine JC_seq ?_ | refine JC_region ?_ | refine J_nil ?_ | refine JC_block ?_ | refine JC_skip ?_ | (apply JC_dec_true; exact rfl; omega))
      refine JC_loop (X := Nat × Value) (fun p => p.1 ≤ n - 1) (fun p => [(2, .bool true), (14, .int .i64 (n : Int)), (15, .int .i64 (k : Int)), (8, .int .i64 (k : Int)), (9, .int .i64 ((p.1 + 1 : Nat) : Int)), (7, p.2), (3, .pointer (some ⟨b3, 0, none⟩)), (4, .pointer (some ⟨b4, 0, none⟩))])
        (fun p => .row p.2 91 6 ((eout n X O x.1 k ++ einn n X O x.1 k p.1).flatMap encR) :: .blk b4 (encS x) 43 :: .blk b3 (gv (n : Int) X O) 29 :: H) (fun p => n - p.1) (0, v) (Nat.zero_le _) ?_ ?_
      · rw [einn, List.append_nil]
        (refine ent ?_ ?_; (repeat refine fr_cons rfl ?_); exact fr_nil; (repeat (exact List.Sublist.refl _)))
      · rintro ⟨m, v⟩ hm
        dsimp only at hm ⊢
        have lr := fl_len encR_len (eout n X O x.1 k ++ einn n X O x.1 k m)
        have l1 := eout_len n X O x.1 k
        have l2 := einn_len n X O x.1 k m
        have hp := part_le h8 hlt hm
        have ll : (eout n X O x.1 k ++ einn n X O x.1 k m).length ≤ 64 := by rw [List.length_append]; omega
        by_cases hlm : m + 1 < n
        · have er1 : isEmp n x.1 (recT n X O x.1 k (m + 1)) = true → eout n X O x.1 k ++ einn n X O x.1 k (m + 1) = (eout n X O x.1 k ++ einn n X O x.1 k m) ++ [recT n X O x.1 k (m + 1)] := fun h => by rw [einn, if_pos h, List.append_assoc]
          have er0 : isEmp n x.1 (recT n X O x.1 k (m + 1)) = false → eout n X O x.1 k ++ einn n X O x.1 k (m + 1) = eout n X O x.1 k ++ einn n X O x.1 k m := fun h => by rw [einn, h]; rfl
          have ur := encR_len (recT n X O x.1 k (m + 1))
          repeat' (first | (apply J_lit1s; exact rfl; exact rfl; exact ur; decide; decide; (intro _)) | (apply J_ap; decide; exact rfl; exact rfl; exact rfl; infer_instance; exact m0; exact encR_ne _; exact encR_one _; ((show (_ + _) * _ ≤ _); (simp only [encR_len]); omega); decide; exact fl_snoc; (intro v')) | (apply Jq_move; exact rfl; exact rfl) | (apply Jq_assign; exact rfl; exact rfl) | (apply Jq_cmp; exact rfl; exact rfl; exact rfl; exact rfl) | (apply Jq_add; exact rfl; exact rfl; exact rfl; omega) | (apply Jq_not; exact rfl; exact rfl) | (apply Jq_pick_true; exact rfl; exact rfl; exact rfl) | (apply Jq_pick_false; exact rfl; exact rfl; exact rfl) | (apply J_on; exact rfl; exact rfl) | (apply J_skip; exact rfl; exact rfl; exact rfl; exact rfl) | (apply Jc; exact rfl; exact rfl; exact rfl; infer_instance; ((intro w hw); first | exact n_gives n X O w | exact irect_gives n X O x k (m + 1) bX bO h8 hlt hlm px w)) | (apply Jq_loadW; exact rfl; exact rfl; (exact mb); (first | exact rfl | omega)) | (apply J_sW; exact rfl; exact rfl; infer_instance; (exact rfl); (exact rfl); (exact ones_of rfl); infer_instance) | (apply Jq_ext20; exact rfl; exact rfl) | (apply Jq_ext21; exact rfl; exact rfl) | (apply J_alloc (cs := encR ⟨0, 0, 0, 0, 0, 0⟩); exact rfl; exact rfl; (intro _)) | refine thenQ_normal ?_ | refine inBlockQ_normal ?_ | refine JC_seq ?_ | refine JC_region ?_ | refine J_nil ?_ | refine JC_block ?_ | refine JC_skip ?_ | (apply JC_if_true; exact rfl) | (apply JC_if_false; exact rfl) | (apply JC_dec_true; exact rfl; omega) | refine J_gb rfl rfl (fun _ => ?_) (fun _ => ?_))
          · rename_i _ hc _
            have e := er1 hc
            refine ⟨(m + 1, v'), by dsimp only; omega, by dsimp only; omega, ?_⟩
            dsimp only
            rw [e]
            (refine entP (ent ?_ (List.nil_sublist _)) ?_; (repeat refine fr_cons rfl ?_); exact fr_nil; (repeat (exact sp_end)))
          · rename_i _ hc
            have e := er0 hc
            refine ⟨(m + 1, v), by dsimp only; omega, by dsimp only; omega, ?_⟩
            dsimp only
            rw [e]
            (refine entP (ent ?_ (List.nil_sublist _)) ?_; (repeat refine fr_cons rfl ?_); exact fr_nil; (repeat (exact sp_end)))
        · obtain rfl : m = n - 1 := by omega
          repeat' (first | (apply Jq_move; exact rfl; exact rfl) | (apply Jq_cmp; exact rfl; exact rfl; exact rfl; exact rfl) | (apply Jq_add; exact rfl; exact rfl; exact rfl; omega) | (apply Jc; exact rfl; exact rfl; exact rfl; infer_instance; ((intro w hw); exact n_gives n X O w)) | (apply Jq_loadW; exact rfl; exact rfl; (exact mb); (omega)) | refine thenQ_normal ?_ | refine thenQ_exit ?_ | refine inBlockQ_normal ?_ | refine inBlockQ_here ?_ | refine JC_seq ?_ | refine JC_region ?_ | refine J_nil ?_ | refine JC_exit ?_ | (apply JC_dec_false; exact rfl; omega))
          refine ⟨(k + 1, v), by dsimp only; omega, by dsimp only; omega, ?_⟩
          rw [eout]
          (refine ent ?_ ?_; (repeat refine fr_cons rfl ?_); exact fr_nil; (repeat (exact List.Sublist.refl _)))
    · obtain rfl : k = n := by omega
      repeat' (first | (apply Jq_move; exact rfl; exact rfl) | (apply Jq_assign; exact rfl; exact rfl) | (apply Jq_cmp; exact rfl; exact rfl; exact rfl; exact rfl) | refine thenQ_normal ?_ | refine thenQ_exit ?_ | refine inBlockQ_here ?_ | refine JC_seq ?_ | refine JC_region ?_ | refine J_nil ?_ | refine JC_ret ?_ | refine JC_exit ?_ | (apply JC_dec_false; exact rfl; omega))
      refine SL.e1 (H' := .row v 91 6 ((eout k X O x.1 k).flatMap encR) :: H) rfl rfl rfl ?_ rfl
      (refine ent ?_ ?_; (repeat refine fr_cons rfl ?_); exact fr_nil; (repeat (first | exact List.Sublist.refl _ | refine List.Sublist.cons_cons _ ?_ | refine List.Sublist.cons _ ?_)))
set_option maxRecDepth 100000 in
theorem ifol_gives {B : Nat} {w0 : World} {H : Hp} (n : Nat) (X O : List Nat) (x : StB) (bX : isB X) (bO : isB O) (h8 : n ≤ 8) (px : isPerm x.1 n) :
    GivesE Tryd.prog 31 #[.agg (gv (n : Int) X O).toArray, .agg (encS x).toArray] B w0 H (fun v' H' => H' = .row v' 43 8 ((tfold (fol n X O x)).flatMap encS) :: H) := by
  have ug := gv_len (n := (n : Int)) bX.1 bO.1
  have ux := encS_len x
  have hL := eout_len64 h8 X O x.1
  have hmem := fun r (hr : r ∈ eout n X O x.1 n) => eout_facts h8 px hr
  have hf : fol n X O x = folK n x (eout n X O x.1 n) := rfl
  rw [hf]
  refine givesE_of (args := [.agg (gv (n : Int) X O).toArray, .agg (encS x).toArray]) [(0, .agg (gv (n : Int) X O).toArray), (1, .agg (encS x).toArray)] Tryd.func31 rfl Tryd.ntmps31 rfl (argsF_cons rfl (argsF_cons rfl argsF_nil)) ?_
  repeat' (first | (apply Jq_assign; exact rfl; exact rfl) | (apply Jq_loadW; exact rfl; exact rfl; (exact mb); (omega)) | (apply J_box; exact rfl; exact rfl; exact rfl; (intro _)) | (apply J_lit0; exact rfl; (intro _)) | refine thenQ_normal ?_ | refine JC_seq ?_ | refine JC_region ?_ | refine J_nil ?_)
  rename_i b2 b3 b8
  generalize hv8 : Value.slice (some ⟨b8, 0, none⟩) 0 0 = v8
  have lf := fl_len encR_len (eout n X O x.1 n)
  repeat' (first | (apply JcE; exact rfl; exact rfl; exact rfl; infer_instance; (exact iempty_gives n X O x bX bO h8 px); (intro v1 H' hV; subst hV)) | (apply Jq_move; exact rfl; exact rfl) | (apply Jq_lenRs; exact rfl; exact rfl; (exact rb); exact lf; decide) | refine thenQ_normal ?_ | refine J_nil ?_ | refine JC_block ?_)
  generalize eout n X O x.1 n = L at *
  refine JC_loop (X := Nat × Value) (fun p => p.1 ≤ L.length) (fun p => [(11, v1), (12, .int .i64 (L.length : Int)), (13, .int .i64 (p.1 : Int)), (5, p.2), (2, .pointer (some ⟨b2, 0, none⟩)), (3, .pointer (some ⟨b3, 0, none⟩))])
    (fun p => .row p.2 43 8 ((folK n x (L.take p.1)).flatMap encS) :: .row v1 91 6 (L.flatMap encR) :: .blk b3 (encS x) 43 :: .blk b2 (gv (n : Int) X O) 29 :: H) (fun p => L.length - p.1) (0, v8) (Nat.zero_le _) ?_ ?_
  · (refine entP (ent ?_ (List.nil_sublist _)) ?_; (repeat refine fr_cons rfl ?_); exact fr_nil; (repeat (first | exact sp_refl | apply sp1)))
  · rintro ⟨k, v⟩ hk
    dsimp only at hk ⊢
    by_cases hlt : k < L.length
    · obtain ⟨r, hr⟩ : ∃ r, L[k]? = some r := ⟨_, List.getElem?_eq_getElem hlt⟩
      obtain ⟨hle, hwi, _, _, _⟩ := hmem r (List.mem_of_getElem? hr)
      have ur := encR_len r
      have hg := fl_at encR_len hr
      have h2 := folK_len (n := n) (x := x) (L := L) (k := k)
      have lk := fl_len encS_len (folK n x (L.take k))
      have ul := encS_len (led n x r)
      have hne : encS (led n x r) ≠ [] := fun e => by rw [e] at ul; cases ul
      repeat' (first | (apply J_lit1s; exact rfl; exact rfl; exact ul; decide; decide; (intro _)) | (apply J_ap; decide; exact rfl; exact rfl; exact rfl; infer_instance; exact m0; exact hne; exact encS_one _; ((show (_ + _) * _ ≤ _); omega); decide; exact fl_snoc; (intro v')) | (apply Jq_move; exact rfl; exact rfl) | (apply Jq_assign; exact rfl; exact rfl) | (apply Jq_load; exact rfl; exact rfl; (exact mb); (exact rfl)) | (apply Jq_fieldAddr; exact rfl; exact rfl) | (apply Jq_cmp; exact rfl; exact rfl; exact rfl; exact rfl) | (apply Jq_add; exact rfl; exact rfl; exact rfl; omega) | (apply Jq_pick_true; exact rfl; exact rfl; exact rfl) | (apply Jq_pick_false; exact rfl; exact rfl; exact rfl) | (apply J_on; exact rfl; exact rfl) | (apply J_skip; exact rfl; exact rfl; exact rfl; exact rfl) | (apply Jc; exact rfl; exact rfl; exact rfl; infer_instance; ((intro w hw); exact iled_gives n x r h8 hle hwi w)) | (apply Jq_loadW; exact rfl; exact rfl; (exact mb); (first | exact rfl | omega)) | (apply J_sW; exact rfl; exact rfl; infer_instance; (exact rfl); (exact rfl); (exact ones_of rfl); infer_instance) | (apply Jq_indexRs; exact rfl; exact rfl; exact rfl; (exact rb); omega) | (apply Jq_loadRA; exact rfl; exact rfl; (exact rb); (exact hg); (exact rfl); decide) | (apply J_alloc (cs := encR ⟨0, 0, 0, 0, 0, 0⟩); exact rfl; exact rfl; (intro _)) | refine thenQ_normal ?_ | refine inBlockQ_normal ?_ | refine JC_seq ?_ | refine JC_region ?_ | refine J_nil ?_ | refine JC_block ?_ | refine JC_skip ?_ | (apply JC_if_false; exact rfl) | (apply JC_dec_true; exact rfl; omega) | refine JC_dec rfl (fun _ => ?_) (fun _ => ?_) | refine J_gd rfl rfl (fun _ => ?_) (fun _ => ?_))
      · rename_i _ hc1 hc2 _
        have e := (folK_yes (n := n) (x := x) hr (freeR_yes hc1 hc2))
        refine ⟨(k + 1, v'), by dsimp only; omega, by dsimp only; omega, ?_⟩
        dsimp only
        rw [e]
        (refine entP (ent ?_ (List.nil_sublist _)) ?_; (repeat refine fr_cons rfl ?_); exact fr_nil; (repeat (exact sp_end)))
      · rename_i hc1 hc2
        have e := (folK_no (n := n) (x := x) hr (freeR_no2 hc2))
        refine ⟨(k + 1, v), by dsimp only; omega, by dsimp only; omega, ?_⟩
        dsimp only
        rw [e]
        (refine entP (ent ?_ (List.nil_sublist _)) ?_; (repeat refine fr_cons rfl ?_); exact fr_nil; (repeat (exact sp_end)))
      · rename_i hc1
        have e := (folK_no (n := n) (x := x) hr (freeR_no1 hc1))
        refine ⟨(k + 1, v), by dsimp only; omega, by dsimp only; omega, ?_⟩
        dsimp only
        rw [e]
        (refine entP (ent ?_ (List.nil_sublist _)) ?_; (repeat refine fr_cons rfl ?_); exact fr_nil; (repeat (exact sp_end)))
    · obtain rfl : k = L.length := by omega
      have h2 := folK_len (n := n) (x := x) (L := L) (k := L.length)
      rw [List.take_length] at h2 ⊢
      repeat' (first | (apply JcE; exact rfl; exact rfl; exact rfl; infer_instance; (exact odd_gives _ m0 (by omega)); (intro v2 H2 hV; obtain ⟨out, ho, rfl⟩ := hV)) | (apply Jq_move; exact rfl; exact rfl) | (apply Jq_assign; exact rfl; exact rfl) | (apply Jq_cmp; exact rfl; exact rfl; exact rfl; exact rfl) | refine thenQ_normal ?_ | refine thenQ_exit ?_ | refine inBlockQ_here ?_ | refine JC_seq ?_ | refine JC_region ?_ | refine J_nil ?_ | refine JC_ret ?_ | refine JC_exit ?_ | (apply JC_dec_false; exact rfl; omega))
      have e := ho.unique (tfold_odd _)
      subst e
      refine SL.e1 (H' := .row v2 43 8 ((tfold (folK n x L)).flatMap encS) :: H) rfl rfl rfl ?_ rfl
      (refine ent ?_ ?_; (repeat refine fr_cons rfl ?_); exact fr_nil; (repeat (first | exact List.Sublist.refl _ | refine List.Sublist.cons_cons _ ?_ | refine List.Sublist.cons _ ?_)))
end Go.Proofs.YtmbbcmebdefggaaDoor
