/- Walks: the reference's rectangles, followers and boundary. Walks: rectangles, followers and boundaries, in the program. -/
import Derived.Test.YtmbbcmebdefggaaGreatDoorHA
import Derived.Test.YtmbbcmebdefggaaGreatDoorTG
import Derived.Test.YtmbbcmebdefggaaGreatDoorPG
import Derived.Test.YtmbbcmebdefggaaGreatDoorAP
import Derived.Test.YtmbbcmebdefggaaGreatDoorGE
import Derived.Test.YtmbbcmebdefggaaGreatDoorSH
import Derived.Test.YtmbbcmebdefggaaGreatDoorTK
import Derived.Test.YtmbbcmebdefggaaGreatDoorWC
namespace Go.Proofs.YtmbbcmebdefggaaGreatDoor
open Go Go.RowKit SL
theorem up_lt {n : Nat} (hn : 0 < n) (Y : List Nat) (l b k : Nat) : upR n Y l b k < n := Nat.mod_lt _ hn
set_option maxRecDepth 100000 in
theorem marks_gives (n : Nat) (Y : List Nat) (l b wd h : Nat) (h8 : n ≤ 8) (lY : Y.length = 8) (hl : l < n) (hb : b ≤ n) (hw : wd ≤ n) (hh : h ≤ n) (hY : ∀ i, Y.getD i 0 < 256) (w : World) :
    Gives Tryz.prog 207 #[.int .i64 (n : Int), .agg (u8s Y).toArray, .int .i64 (l : Int), .int .i64 (b : Int), .int .i64 (wd : Int), .int .i64 (h : Int)] (.int .i64 ((mks n Y l b h wd : Nat) : Int)) w := by
  have uY := u8s_len Y
  refine gives_of (args := [.int .i64 (n : Int), .agg (u8s Y).toArray, .int .i64 (l : Int), .int .i64 (b : Int), .int .i64 (wd : Int), .int .i64 (h : Int)]) [(0, .int .i64 (n : Int)), (1, .agg (u8s Y).toArray), (2, .int .i64 (l : Int)), (3, .int .i64 (b : Int)), (4, .int .i64 (wd : Int)), (5, .int .i64 (h : Int))] [] Tryz.func207 rfl Tryz.ntmps207 rfl (argsF_cons rfl (argsF_cons rfl (argsF_cons rfl (argsF_cons rfl (argsF_cons rfl (argsF_cons rfl argsF_nil)))))) (Holds.start w) ?_
  repeat' (first | (apply Jq_assign; exact rfl; exact rfl) | (apply J_box; exact rfl; exact rfl; exact rfl; (intro _)) | refine thenQ_normal ?_ | refine JC_seq ?_ | refine JC_region ?_ | refine J_nil ?_ | refine JC_block ?_)
  rename_i b7
  refine JC_loop (X := Nat) (fun k => k ≤ wd) (fun k => [(0, .int .i64 (n : Int)), (2, .int .i64 (l : Int)), (3, .int .i64 (b : Int)), (4, .int .i64 (wd : Int)), (5, .int .i64 (h : Int)), (7, .pointer (some ⟨b7, 0, none⟩)), (14, .int .i64 (k : Int)), (13, .int .i64 ((mks n Y l b h k : Nat) : Int))])
    (fun _ => [.blk b7 (u8s Y) 22]) (fun k => wd - k) 0 (Nat.zero_le _) ?_ ?_
  · (refine ent ?_ ?_; (repeat refine fr_cons rfl ?_); exact fr_nil; (repeat (exact List.Sublist.refl _)))
  · intro k hk
    have hm := mks_le n Y l b h k
    have hr : (l + k) % n < n := Nat.mod_lt _ (by omega)
    have hYk := hY ((l + k) % n)
    have hu := up_lt (show 0 < n by omega) Y l b k
    have e1 : (l : Int) + (k : Int) = ((l + k : Nat) : Int) := rfl
    have e2 : ((l + k : Nat) : Int) % (n : Int) = (((l + k) % n : Nat) : Int) := rfl
    have e3 : ((Y.getD ((l + k) % n) 0 : Nat) : Int) - (b : Int) + (n : Int) = ((Y.getD ((l + k) % n) 0 + n - b : Nat) : Int) := by omega
    have e4 : ((Y.getD ((l + k) % n) 0 + n - b : Nat) : Int) % (n : Int) = ((upR n Y l b k : Nat) : Int) := rfl
    have hx : mks n Y l b h (k + 1) = mks n Y l b h k + if upR n Y l b k < h then 1 else 0 := rfl
    by_cases hlt : k < wd
    · repeat' (first | (apply Jq_addR; exact rfl; exact rfl; exact rfl; omega; (first | exact e1 | exact e3)) | (apply Jq_remR; exact rfl; exact rfl; exact rfl; omega; omega; (first | exact e2 | exact e4)) | (apply Jq_conv; exact rfl; exact rfl; exact wrap_in (by omega)) | (apply Jq_move; exact rfl; exact rfl) | (apply Jq_assign; exact rfl; exact rfl) | (apply Jq_load; exact rfl; exact rfl; (exact mb); (refine u8s_at ?_; omega)) | (apply Jq_indexN; exact rfl; exact rfl; exact rfl; omega) | (apply Jq_cmp; exact rfl; exact rfl; exact rfl; exact rfl) | (apply Jq_add; exact rfl; exact rfl; exact rfl; omega) | (apply Jq_sub; exact rfl; exact rfl; exact rfl; omega) | refine thenQ_normal ?_ | refine inBlockQ_normal ?_ | refine JC_seq ?_ | refine JC_region ?_ | refine J_nil ?_ | refine JC_block ?_ | refine JC_skip ?_ | (apply JC_dec_true; exact rfl; omega) | refine JC_dec rfl (fun _ => ?_) (fun _ => ?_))
      · rename_i hc
        rw [if_pos (by omega)] at hx
        refine ⟨k + 1, by omega, by omega, ?_⟩
        rw [hx]
        (refine ent ?_ ?_; (repeat refine fr_cons rfl ?_); exact fr_nil; (repeat (exact List.Sublist.refl _)))
      · rename_i hc
        rw [if_neg (by omega)] at hx
        refine ⟨k + 1, by omega, by omega, ?_⟩
        rw [hx]
        (refine ent ?_ ?_; (repeat refine fr_cons rfl ?_); exact fr_nil; (repeat (exact List.Sublist.refl _)))
    · obtain rfl : k = wd := by omega
      repeat' (first | (apply Jq_move; exact rfl; exact rfl) | (apply Jq_assign; exact rfl; exact rfl) | (apply Jq_cmp; exact rfl; exact rfl; exact rfl; exact rfl) | refine thenQ_normal ?_ | refine thenQ_exit ?_ | refine inBlockQ_here ?_ | refine JC_seq ?_ | refine JC_region ?_ | refine J_nil ?_ | refine JC_ret ?_ | refine JC_exit ?_ | (apply JC_dec_false; exact rfl; omega))
      exact g1 rfl rfl rfl rfl
theorem built_rec (r : Rec) : Tryz.prog.built 151 [(0, .int .i64 (r.le : Int)), (1, .int .i64 (r.bo : Int)), (2, .int .i64 (r.wi : Int)), (3, .int .i64 (r.he : Int)), (4, .int .i64 (r.xs : Int)), (5, .int .i64 (r.os : Int))] = some (encR r).toArray := by kernel_rfl
theorem encR_ne (r : Rec) : encR r ≠ [] := List.cons_ne_nil _ _
theorem part_le {n k m : Nat} (h8 : n ≤ 8) (hk : k < n) (hm : m ≤ n - 1) : k * (n - 1) + m ≤ 64 := by
  have h1 : (k + 1) * (n - 1) ≤ 8 * 8 := Nat.mul_le_mul (by omega) (by omega)
  rw [Nat.succ_mul] at h1
  omega
set_option maxRecDepth 100000 in
theorem rects_gives {B : Nat} {w0 : World} {H : Hp} (n : Nat) (X O : List Nat) (x : StB) (bX : isB X) (bO : isB O) (h8 : n ≤ 8) (px : isPerm x.1 n) :
    GivesE Tryz.prog 179 #[.agg (gv (n : Int) X O).toArray, .agg (encS x).toArray] B w0 H (fun v' H' => H' = .row v' 151 6 ((rout n X O x.1 n).flatMap encR) :: H) := by
  have ug := gv_len (n := (n : Int)) bX.1 bO.1
  have ux := encS_len x
  have lx := x.2.1
  have uX : (u8s X).length = 8 := (u8s_len X).trans bX.1
  have uO : (u8s O).length = 8 := (u8s_len O).trans bO.1
  refine givesE_of (args := [.agg (gv (n : Int) X O).toArray, .agg (encS x).toArray]) [(0, .agg (gv (n : Int) X O).toArray), (1, .agg (encS x).toArray)] Tryz.func179 rfl Tryz.ntmps179 rfl (argsF_cons rfl (argsF_cons rfl argsF_nil)) ?_
  repeat' (first | (apply Jq_assign; exact rfl; exact rfl) | (apply Jq_load; exact rfl; exact rfl; (exact mb); (exact rfl)) | (apply Jq_fieldAddr; exact rfl; exact rfl) | (apply J_box; exact rfl; exact rfl; exact rfl; (intro _)) | (apply J_lit0; exact rfl; (intro _)) | refine thenQ_normal ?_ | refine JC_seq ?_ | refine JC_region ?_ | refine J_nil ?_ | refine JC_block ?_)
  rename_i b2 b3 b13
  refine JC_loop (X := Nat × Value) (fun p => p.1 ≤ n) (fun p => [(5, .int .i64 (n : Int)), (6, p.2), (7, .int .i64 (p.1 : Int)), (2, .pointer (some ⟨b2, 0, none⟩)), (3, .pointer (some ⟨b3, 0, none⟩))])
    (fun p => .row p.2 151 6 ((rout n X O x.1 p.1).flatMap encR) :: .blk b3 (encS x) 72 :: .blk b2 (gv (n : Int) X O) 28 :: H) (fun p => n - p.1) (0, .slice (some ⟨b13, 0, none⟩) 0 0) (Nat.zero_le _) ?_ ?_
  · (refine ent ?_ ?_; (repeat refine fr_cons rfl ?_); exact fr_nil; (repeat (exact List.Sublist.refl _)))
  · rintro ⟨k, v⟩ hk
    dsimp only at hk ⊢
    by_cases hlt : k < n
    · have hkn := px.1 k hlt
      repeat' (first | (apply Jq_move; exact rfl; exact rfl) | (apply Jq_assign; exact rfl; exact rfl) | (apply Jq_cmp; exact rfl; exact rfl; exact rfl; exact rfl) | refine thenQ_normal ?_ | refine JC_seq ?_ | refine JC_region ?_ | refine J_nil ?_ | refine JC_block ?_ | refine JC_skip ?_ | (apply JC_dec_true; exact rfl; omega))
      refine JC_loop (X := Nat × Value) (fun p => p.1 ≤ n - 1) (fun p => [(5, .int .i64 (n : Int)), (6, p.2), (7, .int .i64 (k : Int)), (8, .int .i64 ((p.1 + 1 : Nat) : Int)), (2, .pointer (some ⟨b2, 0, none⟩)), (3, .pointer (some ⟨b3, 0, none⟩))])
        (fun p => .row p.2 151 6 ((rout n X O x.1 k ++ rin n X O x.1 k p.1).flatMap encR) :: .blk b3 (encS x) 72 :: .blk b2 (gv (n : Int) X O) 28 :: H) (fun p => n - p.1) (0, v) (Nat.zero_le _) ?_ ?_
      · rw [rin, List.append_nil]
        (refine ent ?_ ?_; (repeat refine fr_cons rfl ?_); exact fr_nil; (repeat (exact List.Sublist.refl _)))
      · rintro ⟨m, v⟩ hm
        dsimp only at hm ⊢
        by_cases hlm : m + 1 < n
        · have hr : (k + (m + 1)) % n < n := Nat.mod_lt _ (by omega)
          have hYk := x.2.2 ((k + (m + 1)) % n)
          have hu := up_lt (show 0 < n by omega) x.1 k (x.1.getD k 0) (m + 1)
          have e1 : (k : Int) + ((m + 1 : Nat) : Int) = ((k + (m + 1) : Nat) : Int) := rfl
          have e2 : ((k + (m + 1) : Nat) : Int) % (n : Int) = (((k + (m + 1)) % n : Nat) : Int) := rfl
          have e3 : ((x.1.getD ((k + (m + 1)) % n) 0 : Nat) : Int) - (x.1.getD k 0 : Int) + (n : Int) = ((x.1.getD ((k + (m + 1)) % n) 0 + n - x.1.getD k 0 : Nat) : Int) := by omega
          have e4 : ((x.1.getD ((k + (m + 1)) % n) 0 + n - x.1.getD k 0 : Nat) : Int) % (n : Int) = ((upR n x.1 k (x.1.getD k 0) (m + 1) : Nat) : Int) := rfl
          have lr := fl_len encR_len (rout n X O x.1 k ++ rin n X O x.1 k m)
          have ll : (rout n X O x.1 k ++ rin n X O x.1 k m).length = k * (n - 1) + m := by rw [List.length_append, rout_len, rin_len]
          have hp := part_le h8 hlt hm
          have er : rout n X O x.1 k ++ rin n X O x.1 k (m + 1) = (rout n X O x.1 k ++ rin n X O x.1 k m) ++ [recT n X O x.1 k (m + 1)] := by rw [rin, List.append_assoc]
          have hbr := built_rec (recT n X O x.1 k (m + 1))
          repeat' (first | (apply Jq_addR; exact rfl; exact rfl; exact rfl; omega; (first | exact e1 | exact e3)) | (apply Jq_remR; exact rfl; exact rfl; exact rfl; omega; omega; (first | exact e2 | exact e4)) | (apply Jq_conv; exact rfl; exact rfl; exact wrap_in (by omega)) | (apply Jq_move; exact rfl; exact rfl) | (apply Jq_assign; exact rfl; exact rfl) | (apply Jq_load; exact rfl; exact rfl; (exact mb); (refine u8s_at ?_; omega)) | (apply Jq_indexN; exact rfl; exact rfl; exact rfl; omega) | (apply Jq_cmp; exact rfl; exact rfl; exact rfl; exact rfl) | (apply Jq_sub; exact rfl; exact rfl; exact rfl; omega) | refine thenQ_normal ?_ | refine JC_seq ?_ | refine JC_region ?_ | refine J_nil ?_ | refine JC_block ?_ | refine JC_skip ?_ | (apply JC_dec_true; exact rfl; omega))
          refine JC_any (m := 25) rfl [.blk b2 (gv (n : Int) X O) 28] mixed (by ((repeat (apply sub_cons; (focus ((with_reducible (repeat (first | exact m0 | refine mS ?_))); done)))); exact sub_nil)) ?_
          (apply JF_q 0; exact rfl; kernel_rfl; exact rfl; (intro E hE; (apply q_move; exact rfl)))
          (apply JF_q 1; exact rfl; kernel_rfl; exact rfl; (intro E hE; (apply q_move; exact rfl)))
          (apply JF_q 2; exact rfl; kernel_rfl; exact rfl; (intro E hE; (apply q_move; exact rfl)))
          (apply JF_q 3; exact rfl; kernel_rfl; exact rfl; (intro E hE; (apply q_move; exact rfl)))
          (apply JF_q 4; exact rfl; kernel_rfl; exact rfl; (intro E hE; (apply q_move; exact rfl)))
          (apply JF_q 5; exact rfl; kernel_rfl; exact rfl; (intro E hE; (apply q_move; exact rfl)))
          (apply JF_q 6; exact rfl; kernel_rfl; exact rfl; (intro E hE; (apply q_fieldAddr; exact rfl)))
          (apply JF_q 7; exact rfl; kernel_rfl; exact rfl; (intro E hE; (apply q_loadA; exact rfl; (refine hE _ ?_; exact mb); (exact gv_arrX bX.1); (omega))))
          (apply JF_q 8; exact rfl; kernel_rfl; exact rfl; (intro E hE; (apply q_move; exact rfl)))
          (apply JF_q 9; exact rfl; kernel_rfl; exact rfl; (intro E hE; (apply q_move; exact rfl)))
          (apply JF_q 10; exact rfl; kernel_rfl; exact rfl; (intro E hE; (apply q_move; exact rfl)))
          (apply JF_q 11; exact rfl; kernel_rfl; exact rfl; (intro E hE; (apply q_move; exact rfl)))
          (apply JF_q 12; exact rfl; kernel_rfl; exact rfl; (intro E hE; ((apply q_callE; exact rfl; exact rfl; infer_instance; ((intro w hw); exact marks_gives n X k (x.1.getD k 0) (m + 1) (upR n x.1 k (x.1.getD k 0) (m + 1)) h8 bX.1 hlt (by omega) (by omega) (by omega) bX.2 w)))))
          (apply JF_q 13; exact rfl; kernel_rfl; exact rfl; (intro E hE; (apply q_move; exact rfl)))
          (apply JF_q 14; exact rfl; kernel_rfl; exact rfl; (intro E hE; (apply q_fieldAddr; exact rfl)))
          (apply JF_q 15; exact rfl; kernel_rfl; exact rfl; (intro E hE; (apply q_loadA; exact rfl; (refine hE _ ?_; exact mb); (exact gv_arrO bX.1 bO.1); (omega))))
          (apply JF_q 16; exact rfl; kernel_rfl; exact rfl; (intro E hE; (apply q_move; exact rfl)))
          (apply JF_q 17; exact rfl; kernel_rfl; exact rfl; (intro E hE; (apply q_move; exact rfl)))
          (apply JF_q 18; exact rfl; kernel_rfl; exact rfl; (intro E hE; (apply q_move; exact rfl)))
          (apply JF_q 19; exact rfl; kernel_rfl; exact rfl; (intro E hE; (apply q_move; exact rfl)))
          (apply JF_q 20; exact rfl; kernel_rfl; exact rfl; (intro E hE; ((apply q_callE; exact rfl; exact rfl; infer_instance; ((intro w hw); exact marks_gives n O k (x.1.getD k 0) (m + 1) (upR n x.1 k (x.1.getD k 0) (m + 1)) h8 bO.1 hlt (by omega) (by omega) (by omega) bO.2 w)))))
          (apply JF_q 21; exact rfl; kernel_rfl; exact rfl; (intro E hE; (apply q_buildE; exact rfl; exact hbr)))
          (apply JF_all [22]; kernel_rfl)
          (apply JFs_cons; exact rfl)
          · (apply J_lit1s; exact rfl; exact rfl; exact rfl; decide; decide; (intro _))
            (apply J_nil; apply JF_end; ((repeat (apply sub_cons; (focus ((with_reducible (repeat (first | exact m0 | refine mS ?_))); done)))); exact sub_nil))
            (apply JF_all [23]; kernel_rfl)
            (apply JFs_cons; exact rfl)
            · ((apply J_ap; decide; exact rfl; exact rfl; exact rfl; infer_instance; exact m0; exact encR_ne _; exact encR_one _; ((show (_ + _) * _ ≤ _); (simp only [encR_len]); omega); decide; exact fl_snoc; (intro v')))
              (apply J_nil; apply JF_end; ((repeat (apply sub_cons; (focus ((with_reducible (repeat (first | exact m0 | refine mS ?_))); done)))); exact sub_nil))
              (apply JF_q 24; exact rfl; kernel_rfl; exact rfl; (intro E hE; (apply q_assign; exact rfl)))
              (apply JF_done; kernel_rfl)
              ((repeat' (first | (apply Jq_move; exact rfl; exact rfl) | (apply Jq_assign; exact rfl; exact rfl) | (apply Jq_add; exact rfl; exact rfl; exact rfl; omega) | refine thenQ_normal ?_ | refine inBlockQ_normal ?_ | refine JC_region ?_ | refine J_nil ?_)); refine ⟨(m + 1, v'), by (dsimp only; omega), by (dsimp only; omega), ?_⟩; dsimp only; rw [er]; (refine entP (ent ?_ (List.nil_sublist _)) ?_; (repeat refine fr_cons rfl ?_); exact fr_nil; (repeat (exact sp_end))))
            exact JFs_nil
          exact JFs_nil
        · obtain rfl : m = n - 1 := by omega
          repeat' (first | (apply Jq_move; exact rfl; exact rfl) | (apply Jq_assign; exact rfl; exact rfl) | (apply Jq_cmp; exact rfl; exact rfl; exact rfl; exact rfl) | (apply Jq_add; exact rfl; exact rfl; exact rfl; omega) | refine thenQ_normal ?_ | refine thenQ_exit ?_ | refine inBlockQ_normal ?_ | refine inBlockQ_here ?_ | refine JC_seq ?_ | refine JC_region ?_ | refine J_nil ?_ | refine JC_exit ?_ | (apply JC_dec_false; exact rfl; omega))
          refine ⟨(k + 1, v), by dsimp only; omega, by dsimp only; omega, ?_⟩
          rw [rout]
          (refine ent ?_ ?_; (repeat refine fr_cons rfl ?_); exact fr_nil; (repeat (exact List.Sublist.refl _)))
    · obtain rfl : k = n := by omega
      repeat' (first | (apply Jq_move; exact rfl; exact rfl) | (apply Jq_assign; exact rfl; exact rfl) | (apply Jq_cmp; exact rfl; exact rfl; exact rfl; exact rfl) | refine thenQ_normal ?_ | refine thenQ_exit ?_ | refine inBlockQ_here ?_ | refine JC_seq ?_ | refine JC_region ?_ | refine J_nil ?_ | refine JC_ret ?_ | refine JC_exit ?_ | (apply JC_dec_false; exact rfl; omega))
      refine e1 (H' := .row v 151 6 ((rout k X O x.1 k).flatMap encR) :: H) rfl rfl rfl ?_ rfl
      (refine ent ?_ ?_; (repeat refine fr_cons rfl ?_); exact fr_nil; (repeat (first | exact List.Sublist.refl _ | refine List.Sublist.cons_cons _ ?_ | refine List.Sublist.cons _ ?_)))
set_option maxRecDepth 100000 in
theorem inside_gives (n : Nat) (x : StB) (r : Rec) (h8 : n ≤ 8) (hl : r.le < n) (hb : r.bo < n) (hw1 : 1 ≤ r.wi) (hw : r.wi < n) (hh : r.he < n) (w : World) :
    Gives Tryz.prog 180 #[.int .i64 (n : Int), .agg (encS x).toArray, .agg (encR r).toArray] (.int .i64 ((ins n x.1 r.le r.bo r.he (r.wi - 1) : Nat) : Int)) w := by
  have ux := encS_len x
  have lx := x.2.1
  have ur := encR_len r
  refine gives_of (args := [.int .i64 (n : Int), .agg (encS x).toArray, .agg (encR r).toArray]) [(0, .int .i64 (n : Int)), (1, .agg (encS x).toArray), (2, .agg (encR r).toArray)] [] Tryz.func180 rfl Tryz.ntmps180 rfl (argsF_cons rfl (argsF_cons rfl (argsF_cons rfl argsF_nil))) (Holds.start w) ?_
  repeat' (first | (apply Jq_assign; exact rfl; exact rfl) | (apply J_box; exact rfl; exact rfl; exact rfl; (intro _)) | refine thenQ_normal ?_ | refine JC_seq ?_ | refine JC_region ?_ | refine J_nil ?_ | refine JC_block ?_)
  rename_i b4 b5
  refine JC_loop (X := Nat) (fun m => m ≤ r.wi - 1) (fun m => [(0, .int .i64 (n : Int)), (4, .pointer (some ⟨b4, 0, none⟩)), (5, .pointer (some ⟨b5, 0, none⟩)), (8, .int .i64 ((m + 1 : Nat) : Int)), (7, .int .i64 ((ins n x.1 r.le r.bo r.he m : Nat) : Int))])
    (fun _ => [.blk b5 (encR r) 151, .blk b4 (encS x) 72]) (fun m => r.wi - m) 0 (Nat.zero_le _) ?_ ?_
  · (refine ent ?_ ?_; (repeat refine fr_cons rfl ?_); exact fr_nil; (repeat (exact List.Sublist.refl _)))
  · intro m hm
    have hi := ins_le n x.1 r.le r.bo r.he m
    have hr : (r.le + (m + 1)) % n < n := Nat.mod_lt _ (by omega)
    have hYk := x.2.2 ((r.le + (m + 1)) % n)
    have hu := up_lt (show 0 < n by omega) x.1 r.le r.bo (m + 1)
    have e1 : (r.le : Int) + ((m + 1 : Nat) : Int) = ((r.le + (m + 1) : Nat) : Int) := rfl
    have e2 : ((r.le + (m + 1) : Nat) : Int) % (n : Int) = (((r.le + (m + 1)) % n : Nat) : Int) := rfl
    have e3 : ((x.1.getD ((r.le + (m + 1)) % n) 0 : Nat) : Int) - (r.bo : Int) + (n : Int) = ((x.1.getD ((r.le + (m + 1)) % n) 0 + n - r.bo : Nat) : Int) := by omega
    have e4 : ((x.1.getD ((r.le + (m + 1)) % n) 0 + n - r.bo : Nat) : Int) % (n : Int) = ((upR n x.1 r.le r.bo (m + 1) : Nat) : Int) := rfl
    have hx : ins n x.1 r.le r.bo r.he (m + 1) = ins n x.1 r.le r.bo r.he m + if 1 ≤ upR n x.1 r.le r.bo (m + 1) ∧ upR n x.1 r.le r.bo (m + 1) < r.he then 1 else 0 := rfl
    by_cases hlt : m + 1 < r.wi
    · repeat' (first | (apply Jq_addR; exact rfl; exact rfl; exact rfl; omega; (first | exact e1 | exact e3)) | (apply Jq_remR; exact rfl; exact rfl; exact rfl; omega; omega; (first | exact e2 | exact e4)) | (apply Jq_conv; exact rfl; exact rfl; exact wrap_in (by omega)) | (apply Jq_move; exact rfl; exact rfl) | (apply Jq_assign; exact rfl; exact rfl) | (apply Jq_load; exact rfl; exact rfl; (exact mb); (first | exact rfl | (refine u8s_at ?_; omega))) | (apply Jq_fieldAddr; exact rfl; exact rfl) | (apply Jq_indexN; exact rfl; exact rfl; exact rfl; omega) | (apply Jq_cmp; exact rfl; exact rfl; exact rfl; exact rfl) | (apply Jq_add; exact rfl; exact rfl; exact rfl; omega) | (apply Jq_sub; exact rfl; exact rfl; exact rfl; omega) | (apply Jc; exact rfl; exact rfl; exact rfl; infer_instance; ((intro w hw); exact l01In_gives _ _ _ w)) | refine thenQ_normal ?_ | refine inBlockQ_normal ?_ | refine JC_seq ?_ | refine JC_region ?_ | (apply JC_draw mixed; kernel_rfl) | refine J_nil ?_ | refine JC_block ?_ | refine JC_skip ?_ | (apply JC_dec_true; exact rfl; omega) | refine JC_dec rfl (fun _ => ?_) (fun _ => ?_))
      · rename_i hc
        rw [if_pos (by omega)] at hx
        refine ⟨m + 1, by omega, by omega, ?_⟩
        rw [hx]
        (refine ent ?_ ?_; (repeat refine fr_cons rfl ?_); exact fr_nil; (repeat (exact List.Sublist.refl _)))
      · rename_i hc
        rw [if_neg (by omega)] at hx
        refine ⟨m + 1, by omega, by omega, ?_⟩
        rw [hx]
        (refine ent ?_ ?_; (repeat refine fr_cons rfl ?_); exact fr_nil; (repeat (exact List.Sublist.refl _)))
    · obtain rfl : m = r.wi - 1 := by omega
      repeat' (first | (apply Jq_move; exact rfl; exact rfl) | (apply Jq_assign; exact rfl; exact rfl) | (apply Jq_load; exact rfl; exact rfl; (exact mb); (exact rfl)) | (apply Jq_fieldAddr; exact rfl; exact rfl) | (apply Jq_cmp; exact rfl; exact rfl; exact rfl; exact rfl) | refine thenQ_normal ?_ | refine thenQ_exit ?_ | refine inBlockQ_here ?_ | refine JC_seq ?_ | refine JC_region ?_ | refine J_nil ?_ | refine JC_ret ?_ | refine JC_exit ?_ | (apply JC_dec_false; exact rfl; omega))
      exact g1 rfl rfl rfl rfl
set_option maxRecDepth 100000 in
theorem sled_gives (n : Nat) (x : StB) (r : Rec) (h8 : n ≤ 8) (hl : r.le < n) (hw : r.wi < n) (w : World) :
    Gives Tryz.prog 154 #[.int .i64 (n : Int), .agg (encS x).toArray, .agg (encR r).toArray] (.agg (encS (led n x r)).toArray) w := by
  have ux := encS_len x
  have ul := encS_len (led n x r)
  have lx := x.2.1
  have ur := encR_len r
  have hr : (r.le + r.wi) % n < n := Nat.mod_lt _ (by omega)
  have u1 : (u8s (x.1.set r.le (x.1.getD ((r.le + r.wi) % n) 0))).length = 8 := by rw [u8s_len, List.length_set]; exact lx
  have u2 : (u8s ((x.1.set r.le (x.1.getD ((r.le + r.wi) % n) 0)).set ((r.le + r.wi) % n) (x.1.getD r.le 0))).length = 8 := by rw [u8s_len, List.length_set, List.length_set]; exact lx
  have e1 : (r.le : Int) + (r.wi : Int) = ((r.le + r.wi : Nat) : Int) := rfl
  have e2 : ((r.le + r.wi : Nat) : Int) % (n : Int) = (((r.le + r.wi) % n : Nat) : Int) := rfl
  refine gives_of (args := [.int .i64 (n : Int), .agg (encS x).toArray, .agg (encR r).toArray]) [(0, .int .i64 (n : Int)), (1, .agg (encS x).toArray), (2, .agg (encR r).toArray)] [] Tryz.func154 rfl Tryz.ntmps154 rfl (argsF_cons rfl (argsF_cons rfl (argsF_cons rfl argsF_nil))) (Holds.start w) ?_
  repeat' (first | (apply Jq_addR; exact rfl; exact rfl; exact rfl; omega; (exact e1)) | (apply Jq_remR; exact rfl; exact rfl; exact rfl; omega; omega; (exact e2)) | (apply Jq_move; exact rfl; exact rfl) | (apply Jq_assign; exact rfl; exact rfl) | (apply Jq_load; exact rfl; exact rfl; (exact mb); (first | exact rfl | (refine u8s_at ?_; omega))) | (apply Jq_fieldAddr; exact rfl; exact rfl) | (apply Jq_indexN; exact rfl; exact rfl; exact rfl; omega) | (apply J_box; exact rfl; exact rfl; exact rfl; (intro _)) | (apply J_alloc (cs := u8s Z8); exact rfl; exact rfl; (intro _)) | refine thenQ_normal ?_ | refine JC_seq ?_ | refine JC_region ?_ | refine J_nil ?_)
  rename_i b4 b5 b6
  refine JC_any (m := 7) rfl [.blk b5 (encR r) 151] mixed (by ((repeat (apply sub_cons; (focus ((with_reducible (repeat (first | exact m0 | refine mS ?_))); done)))); exact sub_nil)) ?_
  (apply JF_q 0; exact rfl; kernel_rfl; exact rfl; (intro E hE; (apply q_fieldAddr; exact rfl)))
  (apply JF_q 1; exact rfl; kernel_rfl; exact rfl; (intro E hE; (apply q_load; exact rfl; (refine hE _ ?_; exact mb); (exact rfl))))
  (apply JF_q 2; exact rfl; kernel_rfl; exact rfl; (intro E hE; (apply q_move; exact rfl)))
  (apply JF_q 3; exact rfl; kernel_rfl; exact rfl; (intro E hE; (apply q_indexN; exact rfl; exact rfl; omega)))
  (apply JF_all [4]; kernel_rfl)
  (apply JFs_cons; exact rfl)
  · (apply Jq_load; exact rfl; exact rfl; (exact mb); (refine u8s_at ?_; omega))
    (apply J_nil; apply JF_end; ((repeat (apply sub_cons; (focus ((with_reducible (repeat (first | exact m0 | refine mS ?_))); done)))); exact sub_nil))
    (apply JF_q 5; exact rfl; kernel_rfl; exact rfl; (intro E hE; (apply q_indexN; exact rfl; exact rfl; omega)))
    (apply JF_all [6]; kernel_rfl)
    (apply JFs_cons; exact rfl)
    · (apply J_s1; exact rfl; exact rfl; exact rfl; infer_instance; (omega); (exact u8s_set); infer_instance)
      (apply J_nil; apply JF_end; ((repeat (apply sub_cons; (focus ((with_reducible (repeat (first | exact m0 | refine mS ?_))); done)))); exact sub_nil))
      (apply JF_done; kernel_rfl)
      ((repeat' (first | (apply Jq_move; exact rfl; exact rfl) | (apply Jq_indexN; exact rfl; exact rfl; exact rfl; omega) | (apply Jq_loadW; exact rfl; exact rfl; (exact mb); (omega)) | (apply J_s1; exact rfl; exact rfl; exact rfl; infer_instance; (omega); (exact u8s_set); infer_instance) | (apply J_sW; exact rfl; exact rfl; infer_instance; (exact rfl); (omega); (exact u8s_one _); infer_instance) | refine thenQ_normal ?_ | refine JC_seq ?_ | refine JC_region ?_ | refine J_nil ?_ | refine JC_ret ?_)); exact gC rfl rfl rfl m0 u2 rfl)
    exact JFs_nil
  exact JFs_nil
def pE (n : Nat) (x : StB) (r : Rec) : Bool := decide (ins n x.1 r.le r.bo r.he (r.wi - 1) = 0)
theorem filt_yes {α : Type} {p : α → Bool} {L : List α} {k : Nat} {r : α} (h : L[k]? = some r) (hp : p r = true) : (L.take (k + 1)).filter p = (L.take k).filter p ++ [r] := by
  rw [List.take_add_one, h, Option.toList_some, List.filter_append]
  simp [List.filter_cons, hp]
theorem filt_no {α : Type} {p : α → Bool} {L : List α} {k : Nat} {r : α} (h : L[k]? = some r) (hp : p r = false) : (L.take (k + 1)).filter p = (L.take k).filter p := by
  rw [List.take_add_one, h, Option.toList_some, List.filter_append]
  simp [List.filter_cons, hp]
theorem filt_len {α : Type} {p : α → Bool} {L : List α} {k : Nat} : ((L.take k).filter p).length ≤ L.length := Nat.le_trans (List.length_filter_le _ _) (by rw [List.length_take]; omega)
theorem rout_len64 {n : Nat} (h8 : n ≤ 8) (X O x : List Nat) : (rout n X O x n).length ≤ 64 := by
  rw [rout_len]
  exact Nat.mul_le_mul h8 (show n - 1 ≤ 8 by omega)
set_option maxRecDepth 100000 in
theorem sempty_gives {B : Nat} {w0 : World} {H : Hp} (n : Nat) (X O : List Nat) (x : StB) (bX : isB X) (bO : isB O) (h8 : n ≤ 8) (px : isPerm x.1 n) :
    GivesE Tryz.prog 152 #[.agg (gv (n : Int) X O).toArray, .agg (encS x).toArray] B w0 H (fun v' H' => H' = .row v' 151 6 ((eout n X O x.1 n).flatMap encR) :: H) := by
  have ug := gv_len (n := (n : Int)) bX.1 bO.1
  have ux := encS_len x
  have hfe : eout n X O x.1 n = (rout n X O x.1 n).filter (pE n x) := by
    rw [eout_filter]
    exact List.filter_congr fun r hr => isEmp_ins px hr
  rw [hfe]
  have hmem := fun r (hr : r ∈ rout n X O x.1 n) => mem_rout hr
  have hL := rout_len64 h8 X O x.1
  refine givesE_of (args := [.agg (gv (n : Int) X O).toArray, .agg (encS x).toArray]) [(0, .agg (gv (n : Int) X O).toArray), (1, .agg (encS x).toArray)] Tryz.func152 rfl Tryz.ntmps152 rfl (argsF_cons rfl (argsF_cons rfl argsF_nil)) ?_
  repeat' (first | (apply JcE; exact rfl; exact rfl; exact rfl; infer_instance; (exact rects_gives n X O x bX bO h8 px); (intro v1 H' hV; subst hV)) | (apply Jq_assign; exact rfl; exact rfl) | (apply Jq_loadW; exact rfl; exact rfl; (exact mb); (omega)) | (apply J_box; exact rfl; exact rfl; exact rfl; (intro _)) | (apply J_lit0; exact rfl; (intro _)) | refine thenQ_normal ?_ | refine JC_seq ?_ | refine JC_region ?_ | refine J_nil ?_ | refine JC_block ?_)
  rename_i b2 b3 b11
  generalize rout n X O x.1 n = L at *
  have lf := fl_len encR_len L
  refine JC_loop (X := Nat × Value) (fun p => p.1 ≤ L.length) (fun p => [(5, v1), (6, p.2), (7, .int .i64 (p.1 : Int)), (2, .pointer (some ⟨b2, 0, none⟩)), (3, .pointer (some ⟨b3, 0, none⟩))])
    (fun p => .row p.2 151 6 (((L.take p.1).filter (pE n x)).flatMap encR) :: .row v1 151 6 (L.flatMap encR) :: .blk b3 (encS x) 72 :: .blk b2 (gv (n : Int) X O) 28 :: H) (fun p => L.length - p.1) (0, .slice (some ⟨b11, 0, none⟩) 0 0) (Nat.zero_le _) ?_ ?_
  · (refine entP (ent ?_ (List.nil_sublist _)) ?_; (repeat refine fr_cons rfl ?_); exact fr_nil; (repeat (exact sp_refl)))
  · rintro ⟨k, v⟩ hk
    dsimp only at hk ⊢
    by_cases hlt : k < L.length
    · obtain ⟨r, hr⟩ : ∃ r, L[k]? = some r := ⟨_, List.getElem?_eq_getElem hlt⟩
      obtain ⟨l, w, hl, hw1, hw, hre⟩ := hmem r (List.mem_of_getElem? hr)
      have hle : r.le = l := by rw [hre]; rfl
      have hbo : r.bo < n := by rw [hre]; exact px.1 l hl
      have hwi : r.wi = w := by rw [hre]; rfl
      have hhe : r.he < n := by rw [hre]; exact up_lt (by omega) _ _ _ _
      have ur := encR_len r
      have hg := fl_at encR_len hr
      have lq := fl_len encR_len ((L.take k).filter (pE n x))
      have lk := filt_len (p := pE n x) (L := L) (k := k)
      have hin := ins_le n x.1 r.le r.bo r.he (r.wi - 1)
      repeat' (first | (apply J_ap; decide; exact rfl; exact rfl; exact rfl; infer_instance; exact m0; exact encR_ne _; exact encR_one _; ((show (_ + _) * _ ≤ _); (simp only [encR_len]); omega); decide; exact fl_snoc; (intro v')) | (apply Jq_move; exact rfl; exact rfl) | (apply Jq_assign; exact rfl; exact rfl) | (apply Jq_load; exact rfl; exact rfl; (exact mb); (exact rfl)) | (apply Jq_fieldAddr; exact rfl; exact rfl) | (apply Jq_cmp; exact rfl; exact rfl; exact rfl; exact rfl) | (apply Jq_add; exact rfl; exact rfl; exact rfl; omega) | (apply Jc; exact rfl; exact rfl; exact rfl; infer_instance; ((intro w hw); exact inside_gives n x r h8 (by omega) hbo (by omega) (by omega) hhe w)) | (apply Jq_loadW; exact rfl; exact rfl; (exact mb); (omega)) | (apply Jq_lenRs; exact rfl; exact rfl; (exact rb); exact lf; decide) | (apply Jq_indexRs; exact rfl; exact rfl; exact rfl; (exact rb); omega) | (apply Jq_loadRA; exact rfl; exact rfl; (exact rb); (exact hg); (exact rfl); decide) | (apply J_lit1s; exact rfl; exact rfl; (exact rfl); decide; decide; (intro _)) | refine thenQ_normal ?_ | refine inBlockQ_normal ?_ | refine JC_seq ?_ | refine JC_region ?_ | (apply JC_draw mixed; kernel_rfl) | refine J_nil ?_ | refine JC_block ?_ | refine JC_skip ?_ | (apply JC_dec_true; exact rfl; omega) | refine JC_dec rfl (fun _ => ?_) (fun _ => ?_))
      · rename_i hc b
        have e := filt_yes (p := pE n x) hr (decide_eq_true (by omega))
        refine ⟨(k + 1, v'), by dsimp only; omega, by dsimp only; omega, ?_⟩
        dsimp only
        rw [e]
        (refine entP (ent ?_ (List.nil_sublist _)) ?_; (repeat refine fr_cons rfl ?_); exact fr_nil; (repeat (exact sp_end)))
      · rename_i hc
        have e := filt_no (p := pE n x) hr (decide_eq_false (by omega))
        refine ⟨(k + 1, v), by dsimp only; omega, by dsimp only; omega, ?_⟩
        dsimp only
        rw [e]
        (refine entP (ent ?_ (List.nil_sublist _)) ?_; (repeat refine fr_cons rfl ?_); exact fr_nil; (repeat (exact sp_refl)))
    · obtain rfl : k = L.length := by omega
      rw [List.take_length]
      repeat' (first | (apply Jq_move; exact rfl; exact rfl) | (apply Jq_assign; exact rfl; exact rfl) | (apply Jq_cmp; exact rfl; exact rfl; exact rfl; exact rfl) | (apply Jq_lenRs; exact rfl; exact rfl; (exact rb); exact lf; decide) | refine thenQ_normal ?_ | refine thenQ_exit ?_ | refine inBlockQ_here ?_ | refine JC_seq ?_ | refine JC_region ?_ | refine J_nil ?_ | refine JC_ret ?_ | refine JC_exit ?_ | (apply JC_dec_false; exact rfl; omega))
      refine e1 (H' := .row v 151 6 ((L.filter (pE n x)).flatMap encR) :: H) rfl rfl rfl ?_ rfl
      (refine ent ?_ ?_; (repeat refine fr_cons rfl ?_); exact fr_nil; (repeat (first | exact List.Sublist.refl _ | refine List.Sublist.cons_cons _ ?_ | refine List.Sublist.cons _ ?_)))
theorem eqS_run (x y : StB) (w : World) : (Op.equalIn 10000 72 (.agg (encS x).toArray) (.agg (encS y).toArray)).run Tryz.prog w = .ok (@decide (x = y) (Classical.propDecidable _)) w := by
  refine (eqIn_u8 (P := Tryz.prog) (e := 5) w 9998 (by kernel_rfl) (by kernel_rfl) (by kernel_rfl) x.1 y.1 x.2.1 y.2.1).trans (congrArg (fun b => Result.ok b w) (decide_eq_decide.2 ⟨fun h => Subtype.ext h, fun h => by rw [h]⟩))
set_option maxRecDepth 100000 in
theorem turn_gives {B : Nat} {w0 : World} {H : Hp} {v : Value} (l : List StB) (y : StB) (hv : It.row v 72 8 (l.flatMap encS) ∈ H) (hl : l.length ≤ 1000000) (ha : Asc rkT l) :
    GivesE Tryz.prog 153 #[v, .agg (encS y).toArray] B w0 H (fun v' H' => H' = .row v' 72 8 ((sd rkT l [y]).flatMap encS) :: H) := by
  have uy := encS_len y
  have hne : encS y ≠ [] := fun e => by rw [e] at uy; cases uy
  have lf := fl_len encS_len l
  have f4 := fl_one encS_one l
  have iv : RB v H 72 8 (l.flatMap encS) := ⟨hv⟩
  refine givesE_of (args := [v, .agg (encS y).toArray]) [(0, v), (1, .agg (encS y).toArray)] Tryz.func153 rfl Tryz.ntmps153 rfl (argsF_cons rfl (argsF_cons rfl argsF_nil)) ?_
  repeat' (first | (apply Jq_assign; exact rfl; exact rfl) | (apply J_box; exact rfl; exact rfl; exact rfl; (intro _)) | refine thenQ_normal ?_ | refine JC_seq ?_ | refine JC_region ?_ | refine J_nil ?_ | refine JC_block ?_)
  rename_i b3
  refine JC_cutB (Y := Nat) (fun i => i ≤ l.length ∧ (∀ j z, j < i → l[j]? = some z → rkT z < rkT y) ∧ ∀ z, l[i]? = some z → rkT y ≤ rkT z) (fun i => [(0, v), (3, .pointer (some ⟨b3, 0, none⟩)), (5, .int .i64 (i : Int))]) (fun i => .blk b3 (encS y) 72 :: H) ?_ ?_
  · refine JC_loop (X := Nat) (fun i => i ≤ l.length ∧ (∀ j z, j < i → l[j]? = some z → rkT z < rkT y)) (fun i => [(0, v), (3, .pointer (some ⟨b3, 0, none⟩)), (5, .int .i64 (i : Int))]) (fun _ => .blk b3 (encS y) 72 :: H) (fun i => l.length - i) 0 ⟨Nat.zero_le _, fun j z h => absurd h (Nat.not_lt_zero _)⟩ ?_ ?_
    · (refine ent ?_ ?_; (repeat refine fr_cons rfl ?_); exact fr_nil; (repeat (exact List.Sublist.refl _)))
    · rintro i ⟨hi, h3⟩
      by_cases hlt : i < l.length
      · obtain ⟨x, hx⟩ : ∃ x, l[i]? = some x := ⟨_, List.getElem?_eq_getElem hlt⟩
        have ux := encS_len x
        have hg := fl_at encS_len hx
        repeat' (first | (apply Jq_move; exact rfl; exact rfl) | (apply Jq_assign; exact rfl; exact rfl) | (apply Jq_cmp; exact rfl; exact rfl; exact rfl; exact rfl) | (apply Jq_add; exact rfl; exact rfl; exact rfl; omega) | (apply Jq_pick_true; exact rfl; exact rfl; exact rfl) | (apply J_on; exact rfl; exact rfl) | (apply Jc; exact rfl; exact rfl; exact rfl; infer_instance; ((intro w hw); exact before_gives x y w)) | (apply Jq_loadW; exact rfl; exact rfl; (exact mb); (omega)) | (apply Jq_lenRs; exact rfl; exact rfl; (exact rb); exact lf; decide) | (apply Jq_indexRs; exact rfl; exact rfl; exact rfl; (exact rb); omega) | (apply Jq_loadRA; exact rfl; exact rfl; (exact rb); (exact hg); (omega); decide) | refine thenQ_normal ?_ | refine thenQ_exit ?_ | refine inBlockQ_normal ?_ | refine inBlockQ_here ?_ | refine JC_seq ?_ | refine JC_region ?_ | (apply JC_draw mixed; kernel_rfl) | refine J_nil ?_ | refine JC_block ?_ | refine JC_skip ?_ | refine JC_exit ?_ | (apply J_gdT; exact rfl; exact rfl; omega) | refine JC_dec rfl (fun _ => ?_) (fun _ => ?_))
        · rename_i hc
          refine ⟨i + 1, ⟨by omega, fun j z hj hz => ?_⟩, by omega, ?_⟩
          · rcases Nat.lt_or_eq_of_le (show j ≤ i by omega) with e | e
            · exact h3 j z e hz
            · subst e; rw [hx] at hz; cases hz; exact hc
          · (refine ent ?_ ?_; (repeat refine fr_cons rfl ?_); exact fr_nil; (repeat (exact List.Sublist.refl _)))
        · rename_i hc
          refine ⟨i, ⟨hi, h3, fun z hz => ?_⟩, ?_⟩
          · rw [hx] at hz; cases hz; omega
          · (refine ent ?_ ?_; (repeat refine fr_cons rfl ?_); exact fr_nil; (repeat (exact List.Sublist.refl _)))
      · obtain rfl : i = l.length := by omega
        repeat' (first | (apply Jq_move; exact rfl; exact rfl) | (apply Jq_cmp; exact rfl; exact rfl; exact rfl; exact rfl) | (apply Jq_pick_false; exact rfl; exact rfl; exact rfl) | (apply J_skip; exact rfl; exact rfl; exact rfl; exact rfl) | (apply Jq_lenRs; exact rfl; exact rfl; (exact rb); exact lf; decide) | refine thenQ_normal ?_ | refine thenQ_exit ?_ | refine inBlockQ_here ?_ | refine JC_seq ?_ | (apply JC_draw mixed; kernel_rfl) | refine J_nil ?_ | refine JC_exit ?_ | (apply JC_if_false; exact rfl) | (apply J_gdF; exact rfl; exact rfl; omega))
        refine ⟨l.length, ⟨Nat.le_refl _, h3, fun z hz => ?_⟩, ?_⟩
        · rw [List.getElem?_eq_none (Nat.le_refl _)] at hz; cases hz
        · (refine ent ?_ ?_; (repeat refine fr_cons rfl ?_); exact fr_nil; (repeat (exact List.Sublist.refl _)))
  · rintro i ⟨hi, h3, h4⟩
    have e2 : [] ++ ((l.flatMap encS).drop (0 * 8)).take ((i - 0) * 8) = (l.take i).flatMap encS := by
      rw [Nat.zero_mul, List.drop_zero, Nat.sub_zero, fl_take encS_len, List.nil_append]
    have f2 := fl_len encS_len (l.take i)
    have k2 : (l.take i).length = i := by simp; omega
    repeat' (first | (apply Jq_partH; exact rfl; exact rfl; exact rfl; exact rb; exact lf; decide; omega) | (apply J_apP; decide; exact rfl; exact rfl; exact rfl; infer_instance; exact rb; exact lf; omega; omega; exact f4; ((show (_ + _) * _ ≤ _); (simp only [List.length_nil]); omega); decide; exact e2; (intro v6)) | (apply Jq_move; exact rfl; exact rfl) | (apply Jq_assign; exact rfl; exact rfl) | (apply J_lit0; exact rfl; (intro _)) | refine thenQ_normal ?_ | refine JC_seq ?_ | refine JC_region ?_ | refine J_nil ?_)
    have e1 : encS y ++ ((l.flatMap encS).drop (i * 8)).take ((l.length - i) * 8) = (y :: l.drop i).flatMap encS := by
      rw [fl_drop encS_len, List.take_of_length_le (by rw [fl_len encS_len, List.length_drop]; exact Nat.le_refl _), List.flatMap_cons]
    have e3 : ((l.take i).flatMap encS ++ encS y) ++ ((l.flatMap encS).drop (i * 8)).take ((l.length - i) * 8) = (l.take i ++ y :: l.drop i).flatMap encS := by rw [List.append_assoc, e1, List.flatMap_append]
    have lo : ((l.take i).flatMap encS ++ encS y).length = (i + 1) * 8 := by rw [List.length_append, f2, k2, uy]; omega
    by_cases hlt : i < l.length
    · obtain ⟨x, hx⟩ : ∃ x, l[i]? = some x := ⟨_, List.getElem?_eq_getElem hlt⟩
      have ux := encS_len x
      have hg := fl_at encS_len hx
      have h5 := h4 x hx
      by_cases hxy : x = y
      · subst hxy
        have e4 : (l.take i).flatMap encS ++ ((l.flatMap encS).drop ((i + 1) * 8)).take ((l.length - (i + 1)) * 8) = (sd rkT l [x]).flatMap encS := by
          have e5 : ((l.drop (i + 1)).flatMap encS).take ((l.length - (i + 1)) * 8) = (l.drop (i + 1)).flatMap encS := List.take_of_length_le (by rw [fl_len encS_len, List.length_drop]; exact Nat.le_refl _)
          rw [turn_same h3 hx, fl_drop encS_len, e5, List.flatMap_append]
        repeat' (first | (apply Jq_eqA; exact rfl; exact rfl; exact rfl; kernel_rfl; (intro w; exact eqS_run _ _ w)) | (apply Jq_partL (i := i + 1); exact rfl; exact rfl; exact rfl; exact rb; exact lf; decide; omega) | (apply J_apP; decide; exact rfl; exact rfl; exact rfl; infer_instance; exact rb; exact lf; omega; exact Nat.le_refl _; exact f4; ((show (_ + _) * _ ≤ _); omega); decide; exact e4; (intro v7)) | (apply Jq_move; exact rfl; exact rfl) | (apply Jq_assign; exact rfl; exact rfl) | (apply Jq_cmp; exact rfl; exact rfl; exact rfl; exact rfl) | (apply Jq_add; exact rfl; exact rfl; exact rfl; omega) | (apply Jq_pick_true; exact rfl; exact rfl; exact rfl) | (apply J_on; exact rfl; exact rfl) | (apply Jq_loadW; exact rfl; exact rfl; (exact mb); (omega)) | (apply Jq_lenRs; exact rfl; exact rfl; (exact rb); exact lf; decide) | (apply Jq_indexRs; exact rfl; exact rfl; exact rfl; (exact rb); omega) | (apply Jq_loadRA; exact rfl; exact rfl; (exact rb); (exact hg); (omega); decide) | refine thenQ_normal ?_ | refine thenQ_ret ?_ | refine JC_seq ?_ | refine JC_region ?_ | (apply JC_draw mixed; kernel_rfl) | refine J_nil ?_ | refine JC_skip ?_ | refine JC_ret ?_ | (apply J_gdT; exact rfl; exact rfl; omega) | refine JC_dec rfl (fun _ => ?_) (fun _ => ?_))
        · refine SL.e1 (H' := .row v7 72 8 ((sd rkT l [x]).flatMap encS) :: H) rfl rfl rfl ?_ rfl
          (refine ent ?_ ?_; (repeat refine fr_cons rfl ?_); exact fr_nil; (repeat (first | exact List.Sublist.refl _ | refine List.Sublist.cons_cons _ ?_ | refine List.Sublist.cons _ ?_)))
        · rename_i hh
          exact absurd rfl hh
      · have h6 : ∀ z, l[i]? = some z → rkT y < rkT z := fun z hz => by
          have h7 := h4 z hz
          have h8 : rkT y ≠ rkT z := fun e => hxy (by rw [hx] at hz; cases hz; exact (rkT_inj _ _ e).symm)
          omega
        rw [← turn_more h3 h6] at e3
        repeat' (refine J_nil ?_)
        apply JC_draw mixed
        · kernel_rfl
        repeat' (first | (apply Jq_eqA; exact rfl; exact rfl; exact rfl; kernel_rfl; (intro w; exact eqS_run _ _ w)) | (apply Jq_move; exact rfl; exact rfl) | (apply Jq_cmp; exact rfl; exact rfl; exact rfl; exact rfl) | (apply Jq_pick_true; exact rfl; exact rfl; exact rfl) | (apply J_on; exact rfl; exact rfl) | (apply Jq_loadW; exact rfl; exact rfl; (exact mb); (omega)) | (apply Jq_lenRs; exact rfl; exact rfl; (exact rb); exact lf; decide) | (apply Jq_indexRs; exact rfl; exact rfl; exact rfl; (exact rb); omega) | (apply Jq_loadRA; exact rfl; exact rfl; (exact rb); (exact hg); (omega); decide) | refine thenQ_normal ?_ | refine JC_seq ?_ | refine J_nil ?_ | refine JC_skip ?_ | (apply JC_dec_false; exact rfl; omega) | (apply J_gdT; exact rfl; exact rfl; omega))
        refine JC_any (m := 9) rfl [.blk b3 (encS y) 72, .row v 72 8 (l.flatMap encS)] mixed (by ((repeat (apply sub_cons; (focus ((with_reducible (repeat (first | exact m0 | assumption | refine mS ?_))); done)))); exact sub_nil)) ?_
        (apply JF_q 0; exact rfl; kernel_rfl; exact rfl; (intro E hE; (apply q_move; exact rfl)))
        (apply JF_q 1; exact rfl; kernel_rfl; exact rfl; (intro E hE; (apply q_loadW; exact rfl; (refine hE _ ?_; exact mb); (omega))))
        (apply JF_q 4; exact rfl; kernel_rfl; exact rfl; (intro E hE; (apply q_move; exact rfl)))
        (apply JF_q 5; exact rfl; kernel_rfl; exact rfl; (intro E hE; (apply q_move; exact rfl)))
        (apply JF_q 6; exact rfl; kernel_rfl; exact rfl; (intro E hE; (apply q_partL; exact rfl; exact rfl; (refine hE _ ?_; exact rb); exact lf; decide; omega)))
        (apply JF_all [2]; kernel_rfl)
        (apply JFs_cons; exact rfl)
        · (apply J_lit1s; exact rfl; exact rfl; exact uy; decide; decide; (intro _))
          (apply J_nil; apply JF_end; ((repeat (apply sub_cons; (focus ((with_reducible (repeat (first | exact m0 | assumption | refine mS ?_))); done)))); exact sub_nil))
          (apply JF_all [3]; kernel_rfl)
          (apply JFs_cons; exact rfl)
          · ((apply J_ap; decide; exact rfl; exact rfl; exact rfl; infer_instance; exact m0; exact hne; exact encS_one _; ((show (_ + _) * _ ≤ _); omega); decide; exact rfl; (intro v8)))
            (apply J_nil; apply JF_end; ((repeat (apply sub_cons; (focus ((with_reducible (repeat (first | exact m0 | assumption | refine mS ?_))); done)))); exact sub_nil))
            (apply JF_all [7]; kernel_rfl)
            (apply JFs_cons; exact rfl)
            · ((apply J_apP; decide; exact rfl; exact rfl; exact rfl; infer_instance; exact rb; exact lf; omega; exact Nat.le_refl _; exact f4; ((show (_ + _) * _ ≤ _); omega); decide; exact e3; (intro v7)))
              (apply J_nil; apply JF_end; ((repeat (apply sub_cons; (focus ((with_reducible (repeat (first | exact m0 | assumption | refine mS ?_))); done)))); exact sub_nil))
              (apply JF_q 8; exact rfl; kernel_rfl; exact rfl; (intro E hE; (apply q_assign; exact rfl)))
              (apply JF_done; kernel_rfl)
              ((repeat' (first | refine thenQ_normal ?_ | refine JC_ret ?_)); refine SL.e1 (H' := .row v7 72 8 ((sd rkT l [y]).flatMap encS) :: H) rfl rfl rfl ?_ rfl; (refine ent ?_ ?_; (repeat refine fr_cons rfl ?_); exact fr_nil; (repeat (first | exact List.Sublist.refl _ | refine List.Sublist.cons_cons _ ?_ | refine List.Sublist.cons _ ?_))))
            exact JFs_nil
          exact JFs_nil
        exact JFs_nil
    · have h6 : ∀ z, l[i]? = some z → rkT y < rkT z := fun z hz => by rw [List.getElem?_eq_none (by omega)] at hz; cases hz
      rw [← turn_more h3 h6] at e3
      repeat' (refine J_nil ?_)
      apply JC_draw mixed
      · kernel_rfl
      repeat' (first | (apply Jq_move; exact rfl; exact rfl) | (apply Jq_cmp; exact rfl; exact rfl; exact rfl; exact rfl) | (apply Jq_pick_false; exact rfl; exact rfl; exact rfl) | (apply J_skip; exact rfl; exact rfl; exact rfl; exact rfl) | (apply Jq_lenRs; exact rfl; exact rfl; (exact rb); exact lf; decide) | refine thenQ_normal ?_ | refine JC_seq ?_ | refine J_nil ?_ | refine JC_skip ?_ | (apply JC_if_false; exact rfl) | (apply J_gdF; exact rfl; exact rfl; omega))
      refine JC_any (m := 9) rfl [.blk b3 (encS y) 72, .row v 72 8 (l.flatMap encS)] mixed (by ((repeat (apply sub_cons; (focus ((with_reducible (repeat (first | exact m0 | assumption | refine mS ?_))); done)))); exact sub_nil)) ?_
      (apply JF_q 0; exact rfl; kernel_rfl; exact rfl; (intro E hE; (apply q_move; exact rfl)))
      (apply JF_q 1; exact rfl; kernel_rfl; exact rfl; (intro E hE; (apply q_loadW; exact rfl; (refine hE _ ?_; exact mb); (omega))))
      (apply JF_q 4; exact rfl; kernel_rfl; exact rfl; (intro E hE; (apply q_move; exact rfl)))
      (apply JF_q 5; exact rfl; kernel_rfl; exact rfl; (intro E hE; (apply q_move; exact rfl)))
      (apply JF_q 6; exact rfl; kernel_rfl; exact rfl; (intro E hE; (apply q_partL; exact rfl; exact rfl; (refine hE _ ?_; exact rb); exact lf; decide; omega)))
      (apply JF_all [2]; kernel_rfl)
      (apply JFs_cons; exact rfl)
      · (apply J_lit1s; exact rfl; exact rfl; exact uy; decide; decide; (intro _))
        (apply J_nil; apply JF_end; ((repeat (apply sub_cons; (focus ((with_reducible (repeat (first | exact m0 | assumption | refine mS ?_))); done)))); exact sub_nil))
        (apply JF_all [3]; kernel_rfl)
        (apply JFs_cons; exact rfl)
        · ((apply J_ap; decide; exact rfl; exact rfl; exact rfl; infer_instance; exact m0; exact hne; exact encS_one _; ((show (_ + _) * _ ≤ _); omega); decide; exact rfl; (intro v8)))
          (apply J_nil; apply JF_end; ((repeat (apply sub_cons; (focus ((with_reducible (repeat (first | exact m0 | assumption | refine mS ?_))); done)))); exact sub_nil))
          (apply JF_all [7]; kernel_rfl)
          (apply JFs_cons; exact rfl)
          · ((apply J_apP; decide; exact rfl; exact rfl; exact rfl; infer_instance; exact rb; exact lf; omega; exact Nat.le_refl _; exact f4; ((show (_ + _) * _ ≤ _); omega); decide; exact e3; (intro v7)))
            (apply J_nil; apply JF_end; ((repeat (apply sub_cons; (focus ((with_reducible (repeat (first | exact m0 | assumption | refine mS ?_))); done)))); exact sub_nil))
            (apply JF_q 8; exact rfl; kernel_rfl; exact rfl; (intro E hE; (apply q_assign; exact rfl)))
            (apply JF_done; kernel_rfl)
            ((repeat' (first | refine thenQ_normal ?_ | refine JC_ret ?_)); refine SL.e1 (H' := .row v7 72 8 ((sd rkT l [y]).flatMap encS) :: H) rfl rfl rfl ?_ rfl; (refine ent ?_ ?_; (repeat refine fr_cons rfl ?_); exact fr_nil; (repeat (first | exact List.Sublist.refl _ | refine List.Sublist.cons_cons _ ?_ | refine List.Sublist.cons _ ?_))))
          exact JFs_nil
        exact JFs_nil
      exact JFs_nil
/-- The followers of the first rectangles. -/
def folK (n : Nat) (x : StB) (L : List Rec) : List StB := (L.filter freeR).map (led n x)
theorem folK_yes {n : Nat} {x : StB} {L : List Rec} {k : Nat} {r : Rec} (h : L[k]? = some r) (hp : freeR r = true) : folK n x (L.take (k + 1)) = folK n x (L.take k) ++ [led n x r] := by
  unfold folK
  rw [filt_yes h hp, List.map_append]; rfl
theorem folK_no {n : Nat} {x : StB} {L : List Rec} {k : Nat} {r : Rec} (h : L[k]? = some r) (hp : freeR r = false) : folK n x (L.take (k + 1)) = folK n x (L.take k) := by
  unfold folK
  rw [filt_no h hp]
theorem folK_len {n : Nat} {x : StB} {L : List Rec} {k : Nat} : (folK n x (L.take k)).length ≤ L.length := by
  unfold folK
  rw [List.length_map]; exact filt_len
theorem freeR_yes {r : Rec} (h1 : (r.xs : Int) = 0) (h2 : (r.os : Int) = 0) : freeR r = true := by
  unfold freeR
  rw [show r.xs = 0 by omega, show r.os = 0 by omega]; rfl
theorem freeR_no1 {r : Rec} (h1 : ¬ (r.xs : Int) = 0) : freeR r = false := by
  unfold freeR
  rw [beq_eq_false_iff_ne.2 (show r.xs ≠ 0 by omega)]; rfl
theorem freeR_no2 {r : Rec} (h1 : ¬ (r.os : Int) = 0) : freeR r = false := by
  unfold freeR
  rw [beq_eq_false_iff_ne.2 (show r.os ≠ 0 by omega), Bool.and_false]
theorem eout_facts {n : Nat} (h8 : n ≤ 8) {X O : List Nat} {x : StB} (px : isPerm x.1 n) {r : Rec} (hr : r ∈ eout n X O x.1 n) : r.le < n ∧ r.wi < n ∧ r.bo < n ∧ r.he < n ∧ 1 ≤ r.wi := by
  rw [eout_filter] at hr
  obtain ⟨l, w, hl, hw1, hw, rfl⟩ := mem_rout (List.mem_filter.1 hr).1
  exact ⟨hl, hw, px.1 l hl, up_lt (by omega) _ _ _ _, hw1⟩
theorem eout_len64 {n : Nat} (h8 : n ≤ 8) (X O x : List Nat) : (eout n X O x n).length ≤ 64 :=
  Nat.le_trans (eout_len n X O x n) (Nat.mul_le_mul h8 (show n - 1 ≤ 8 by omega))
set_option maxRecDepth 100000 in
theorem sfol_gives {B : Nat} {w0 : World} {H : Hp} (n : Nat) (X O : List Nat) (x : StB) (bX : isB X) (bO : isB O) (h8 : n ≤ 8) (px : isPerm x.1 n) :
    GivesE Tryz.prog 114 #[.agg (gv (n : Int) X O).toArray, .agg (encS x).toArray] B w0 H (fun v' H' => H' = .row v' 72 8 ((tfold (fol n X O x)).flatMap encS) :: H) := by
  have ug := gv_len (n := (n : Int)) bX.1 bO.1
  have ux := encS_len x
  have hL := eout_len64 h8 X O x.1
  have hmem := fun r (hr : r ∈ eout n X O x.1 n) => eout_facts h8 px hr
  have hf : fol n X O x = folK n x (eout n X O x.1 n) := rfl
  rw [hf]
  refine givesE_of (args := [.agg (gv (n : Int) X O).toArray, .agg (encS x).toArray]) [(0, .agg (gv (n : Int) X O).toArray), (1, .agg (encS x).toArray)] Tryz.func114 rfl Tryz.ntmps114 rfl (argsF_cons rfl (argsF_cons rfl argsF_nil)) ?_
  repeat' (first | (apply JcE; exact rfl; exact rfl; exact rfl; infer_instance; (exact sempty_gives n X O x bX bO h8 px); (intro v1 H' hV; subst hV)) | (apply Jq_assign; exact rfl; exact rfl) | (apply Jq_loadW; exact rfl; exact rfl; (exact mb); (omega)) | (apply J_box; exact rfl; exact rfl; exact rfl; (intro _)) | (apply J_lit0; exact rfl; (intro _)) | refine thenQ_normal ?_ | refine JC_seq ?_ | refine JC_region ?_ | refine J_nil ?_ | refine JC_block ?_)
  rename_i b2 b3 b11
  generalize eout n X O x.1 n = L at *
  have lf := fl_len encR_len L
  refine JC_loop (X := Nat × Value) (fun p => p.1 ≤ L.length) (fun p => [(5, v1), (6, p.2), (7, .int .i64 (p.1 : Int)), (2, .pointer (some ⟨b2, 0, none⟩)), (3, .pointer (some ⟨b3, 0, none⟩))])
    (fun p => .row p.2 72 8 ((tfold (folK n x (L.take p.1))).flatMap encS) :: .row v1 151 6 (L.flatMap encR) :: .blk b3 (encS x) 72 :: .blk b2 (gv (n : Int) X O) 28 :: H) (fun p => L.length - p.1) (0, .slice (some ⟨b11, 0, none⟩) 0 0) (Nat.zero_le _) ?_ ?_
  · (refine entP (ent ?_ (List.nil_sublist _)) ?_; (repeat refine fr_cons rfl ?_); exact fr_nil; (repeat (exact sp_refl)))
  · rintro ⟨k, v⟩ hk
    dsimp only at hk ⊢
    by_cases hlt : k < L.length
    · obtain ⟨r, hr⟩ : ∃ r, L[k]? = some r := ⟨_, List.getElem?_eq_getElem hlt⟩
      obtain ⟨hle, hwi, _, _, _⟩ := hmem r (List.mem_of_getElem? hr)
      have ur := encR_len r
      have hg := fl_at encR_len hr
      have hx := fl_cell encR_len (t := 4) hr rfl
      have hy := fl_cell encR_len (t := 5) hr rfl
      have h1 := tfold_odd (folK n x (L.take k))
      have h2 := folK_len (n := n) (x := x) (L := L) (k := k)
      have h3 := h1.2.2
      repeat' (first | (apply Jq_move; exact rfl; exact rfl) | (apply Jq_assign; exact rfl; exact rfl) | (apply Jq_fieldAddr; exact rfl; exact rfl) | (apply Jq_cmp; exact rfl; exact rfl; exact rfl; exact rfl) | (apply Jq_add; exact rfl; exact rfl; exact rfl; omega) | (apply Jq_pick_true; exact rfl; exact rfl; exact rfl) | (apply Jq_pick_false; exact rfl; exact rfl; exact rfl) | (apply J_on; exact rfl; exact rfl) | (apply J_skip; exact rfl; exact rfl; exact rfl; exact rfl) | (apply Jq_loadR; exact rfl; exact rfl; (exact rb); (first | exact hx | exact hy)) | (apply Jq_lenRs; exact rfl; exact rfl; (exact rb); exact lf; decide) | (apply Jq_indexRs; exact rfl; exact rfl; exact rfl; (exact rb); omega) | refine thenQ_normal ?_ | refine inBlockQ_normal ?_ | refine JC_seq ?_ | refine JC_region ?_ | refine J_nil ?_ | refine JC_block ?_ | refine JC_skip ?_ | (apply JC_if_false; exact rfl) | (apply JC_dec_true; exact rfl; omega) | refine JC_dec rfl (fun _ => ?_) (fun _ => ?_) | refine J_gd rfl rfl (fun _ => ?_) (fun _ => ?_))
      · rename_i hc1 hc2
        have e := (folK_yes (n := n) (x := x) hr (freeR_yes hc1 hc2))
        have e2 := tfold_snoc (folK n x (L.take k)) (led n x r)
        rw [← e] at e2
        refine JC_any (m := 11) rfl [.blk b2 (gv (n : Int) X O) 28, .blk b3 (encS x) 72, .row v1 151 6 (L.flatMap encR)] mixed (by ((repeat (apply sub_cons; (focus ((with_reducible (repeat (first | exact m0 | refine mS ?_))); done)))); exact sub_nil)) ?_
        (apply JF_q 0; exact rfl; kernel_rfl; exact rfl; (intro E hE; (apply q_move; exact rfl)))
        (apply JF_q 1; exact rfl; kernel_rfl; exact rfl; (intro E hE; (apply q_fieldAddr; exact rfl)))
        (apply JF_q 2; exact rfl; kernel_rfl; exact rfl; (intro E hE; (apply q_load; exact rfl; (refine hE _ ?_; exact mb); (exact rfl))))
        (apply JF_q 3; exact rfl; kernel_rfl; exact rfl; (intro E hE; (apply q_loadW; exact rfl; (refine hE _ ?_; exact mb); (omega))))
        (apply JF_q 4; exact rfl; kernel_rfl; exact rfl; (intro E hE; (apply q_move; exact rfl)))
        (apply JF_q 5; exact rfl; kernel_rfl; exact rfl; (intro E hE; (apply q_move; exact rfl)))
        (apply JF_q 6; exact rfl; kernel_rfl; exact rfl; (intro E hE; (apply q_indexRs; exact rfl; exact rfl; (refine hE _ ?_; exact rb); omega)))
        (apply JF_q 7; exact rfl; kernel_rfl; exact rfl; (intro E hE; (apply q_loadRA; exact rfl; (refine hE _ ?_; exact rb); (exact hg); (exact rfl); decide)))
        (apply JF_q 8; exact rfl; kernel_rfl; exact rfl; (intro E hE; (apply q_callE; exact rfl; exact rfl; infer_instance; ((intro w hw); exact sled_gives n x r h8 hle hwi w))))
        (apply JF_all [9]; kernel_rfl)
        (apply JFs_cons; exact rfl)
        · (apply JcE; exact rfl; exact rfl; exact rfl; infer_instance; (exact turn_gives _ (led n x r) m0 (by omega) h1.1); (intro v' H' hV; subst hV))
          (apply J_nil; apply JF_end; ((repeat (apply sub_cons; (focus ((with_reducible (repeat (first | exact m0 | refine mS ?_))); done)))); exact sub_nil))
          (apply JF_q 10; exact rfl; kernel_rfl; exact rfl; (intro E hE; (apply q_assign; exact rfl)))
          (apply JF_done; kernel_rfl)
          ((repeat' (first | (apply Jq_move; exact rfl; exact rfl) | (apply Jq_assign; exact rfl; exact rfl) | (apply Jq_add; exact rfl; exact rfl; exact rfl; omega) | refine thenQ_normal ?_ | refine inBlockQ_normal ?_ | refine JC_region ?_ | refine J_nil ?_)); refine ⟨(k + 1, v'), by (dsimp only; omega), by (dsimp only; omega), ?_⟩; dsimp only; rw [e2]; (refine entP (ent ?_ (List.nil_sublist _)) ?_; (repeat refine fr_cons rfl ?_); exact fr_nil; (repeat (first | exact sp_end | (with_reducible apply sp0)))))
        exact JFs_nil
      · rename_i hc1 hc2
        have e := (folK_no (n := n) (x := x) hr (freeR_no2 hc2))
        refine ⟨(k + 1, v), by dsimp only; omega, by dsimp only; omega, ?_⟩
        dsimp only
        rw [e]
        (refine entP (ent ?_ (List.nil_sublist _)) ?_; (repeat refine fr_cons rfl ?_); exact fr_nil; (repeat (exact sp_refl)))
      · rename_i hc1
        have e := (folK_no (n := n) (x := x) hr (freeR_no1 hc1))
        refine ⟨(k + 1, v), by dsimp only; omega, by dsimp only; omega, ?_⟩
        dsimp only
        rw [e]
        (refine entP (ent ?_ (List.nil_sublist _)) ?_; (repeat refine fr_cons rfl ?_); exact fr_nil; (repeat (exact sp_refl)))
    · obtain rfl : k = L.length := by omega
      rw [List.take_length]
      repeat' (first | (apply Jq_move; exact rfl; exact rfl) | (apply Jq_assign; exact rfl; exact rfl) | (apply Jq_cmp; exact rfl; exact rfl; exact rfl; exact rfl) | (apply Jq_lenRs; exact rfl; exact rfl; (exact rb); exact lf; decide) | refine thenQ_normal ?_ | refine thenQ_exit ?_ | refine inBlockQ_here ?_ | refine JC_seq ?_ | refine JC_region ?_ | refine J_nil ?_ | refine JC_ret ?_ | refine JC_exit ?_ | (apply JC_dec_false; exact rfl; omega))
      refine e1 (H' := .row v 72 8 ((tfold (folK n x L)).flatMap encS) :: H) rfl rfl rfl ?_ rfl
      (refine ent ?_ ?_; (repeat refine fr_cons rfl ?_); exact fr_nil; (repeat (first | exact List.Sublist.refl _ | refine List.Sublist.cons_cons _ ?_ | refine List.Sublist.cons _ ?_)))
theorem fol30 {n : Nat} (h6 : n ≤ 6) (X O : List Nat) (x : StB) : (fol n X O x).length ≤ 36 := Nat.le_trans (fol_len n X O x) (Nat.mul_le_mul h6 (show n - 1 ≤ 6 by omega))
end Go.Proofs.YtmbbcmebdefggaaGreatDoor
namespace Go.Proofs.YtmbbcmebdefggaaGreatDoor
open Go Go.RowKit SL
set_option maxRecDepth 100000 in
theorem up_gives {B : Nat} {w0 : World} {H : Hp} (n : Nat) (Y : List Nat) (l b k b2 b3 b4 : Nat) (T2 T3 T4 : TypeId) (m2 : It.blk b2 [.int .i64 (l : Int)] T2 ∈ H) (m3 : It.blk b3 [.int .i64 (n : Int)] T3 ∈ H) (m4 : It.blk b4 [.int .i64 (b : Int)] T4 ∈ H) (h8 : n ≤ 8) (lY : Y.length = 8) (hl : l < n) (hb : b ≤ n) (hk : k ≤ n) (hY : ∀ i, Y.getD i 0 < 256) :
    GivesE Tryz.prog 190 #[.agg (u8s Y).toArray, .int .i64 (k : Int), .pointer (some ⟨b2, 0, none⟩), .pointer (some ⟨b3, 0, none⟩), .pointer (some ⟨b4, 0, none⟩)] B w0 H (fun v' H' => v' = .int .i64 ((upR n Y l b k : Nat) : Int) ∧ H' = H) := by
  have uY := u8s_len Y
  have i2 : MB b2 H [.int .i64 (l : Int)] T2 := ⟨m2⟩
  have i3 : MB b3 H [.int .i64 (n : Int)] T3 := ⟨m3⟩
  have i4 : MB b4 H [.int .i64 (b : Int)] T4 := ⟨m4⟩
  have hr : (l + k) % n < n := Nat.mod_lt _ (by omega)
  have hYk := hY ((l + k) % n)
  have e1 : (l : Int) + (k : Int) = ((l + k : Nat) : Int) := rfl
  have e2 : ((l + k : Nat) : Int) % (n : Int) = (((l + k) % n : Nat) : Int) := rfl
  have e3 : ((Y.getD ((l + k) % n) 0 : Nat) : Int) - (b : Int) + (n : Int) = ((Y.getD ((l + k) % n) 0 + n - b : Nat) : Int) := by omega
  have e4 : ((Y.getD ((l + k) % n) 0 + n - b : Nat) : Int) % (n : Int) = ((upR n Y l b k : Nat) : Int) := rfl
  refine givesE_of (args := [.agg (u8s Y).toArray, .int .i64 (k : Int), .pointer (some ⟨b2, 0, none⟩), .pointer (some ⟨b3, 0, none⟩), .pointer (some ⟨b4, 0, none⟩)]) [(0, .agg (u8s Y).toArray), (1, .int .i64 (k : Int)), (2, .pointer (some ⟨b2, 0, none⟩)), (3, .pointer (some ⟨b3, 0, none⟩)), (4, .pointer (some ⟨b4, 0, none⟩))] Tryz.func190 rfl Tryz.ntmps190 rfl (argsF_cons rfl (argsF_cons rfl (argsF_cons rfl (argsF_cons rfl (argsF_cons rfl argsF_nil))))) ?_
  repeat' (first | (apply Jq_addR; exact rfl; exact rfl; exact rfl; omega; (first | exact e1 | exact e3)) | (apply Jq_remR; exact rfl; exact rfl; exact rfl; omega; omega; (first | exact e2 | exact e4)) | (apply Jq_conv; exact rfl; exact rfl; exact wrap_in (by omega)) | (apply Jq_move; exact rfl; exact rfl) | (apply Jq_assign; exact rfl; exact rfl) | (apply Jq_load; exact rfl; exact rfl; (exact mb); (first | exact rfl | (refine u8s_at ?_; omega))) | (apply Jq_indexN; exact rfl; exact rfl; exact rfl; omega) | (apply Jq_sub; exact rfl; exact rfl; exact rfl; omega) | (apply J_box; exact rfl; exact rfl; exact rfl; (intro _)) | refine thenQ_normal ?_ | refine JC_seq ?_ | refine JC_region ?_ | (apply JC_draw mixed; kernel_rfl) | refine J_nil ?_ | refine JC_ret ?_)
  refine SL.e1 (H' := H) rfl rfl rfl ?_ ⟨rfl, rfl⟩
  (refine ent ?_ ?_; (repeat refine fr_cons rfl ?_); exact fr_nil; (repeat (first | exact List.Sublist.refl _ | refine List.Sublist.cons _ ?_)))
theorem one_set (u v : Value) : [u].set 0 v = [v] := rfl
theorem encR_getX (l b w h a o : Nat) : (encR ⟨l, b, w, h, a, o⟩)[0 + 4]? = some (.int .i64 (a : Int)) := rfl
theorem encR_getO (l b w h a o : Nat) : (encR ⟨l, b, w, h, a, o⟩)[0 + 5]? = some (.int .i64 (o : Int)) := rfl
theorem encR_setX (l b w h a o : Nat) : (encR ⟨l, b, w, h, a, o⟩).set (0 + 4) (.int .i64 ((a : Int) + 1)) = encR ⟨l, b, w, h, a + 1, o⟩ := rfl
theorem encR_setO (l b w h a o : Nat) : (encR ⟨l, b, w, h, a, o⟩).set (0 + 5) (.int .i64 ((o : Int) + 1)) = encR ⟨l, b, w, h, a, o + 1⟩ := rfl
theorem built_rec0 (l b w h : Nat) : Tryz.prog.built 151 [(0, .int .i64 (l : Int)), (1, .int .i64 (b : Int)), (2, .int .i64 (w : Int)), (3, .int .i64 (h : Int)), (4, .int .i64 0), (5, .int .i64 0)] = some (encR ⟨l, b, w, h, 0, 0⟩).toArray := by kernel_rfl
set_option maxRecDepth 100000 in
theorem irect_gives (n : Nat) (X O : List Nat) (x : StB) (l wd : Nat) (bX : isB X) (bO : isB O) (h8 : n ≤ 8) (hl : l < n) (hw : wd < n) (px : isPerm x.1 n) (w : World) :
    Gives Tryz.prog 157 #[.agg (gv (n : Int) X O).toArray, .agg (encS x).toArray, .int .i64 (l : Int), .int .i64 (wd : Int)] (.tuple #[.agg (encR (recT n X O x.1 l wd)).toArray, .bool (isEmp n x.1 (recT n X O x.1 l wd))]) w := by
  have ug := gv_len (n := (n : Int)) bX.1 bO.1
  have ux := encS_len x
  have lx := x.2.1
  have uX : (u8s X).length = 8 := (u8s_len X).trans bX.1
  have uO : (u8s O).length = 8 := (u8s_len O).trans bO.1
  have hbo := px.1 l hl
  have hxl := x.2.2 l
  have hh := up_lt (show 0 < n by omega) x.1 l (x.1.getD l 0) wd
  refine gives_of (args := [.agg (gv (n : Int) X O).toArray, .agg (encS x).toArray, .int .i64 (l : Int), .int .i64 (wd : Int)]) [(0, .agg (gv (n : Int) X O).toArray), (1, .agg (encS x).toArray), (2, .int .i64 (l : Int)), (3, .int .i64 (wd : Int))] [] Tryz.func157 rfl Tryz.ntmps157 rfl (argsF_cons rfl (argsF_cons rfl (argsF_cons rfl (argsF_cons rfl argsF_nil)))) (Holds.start w) ?_
  repeat' (first | (apply Jq_func3; exact rfl; exact rfl; exact rfl; exact rfl) | (apply Jq_conv; exact rfl; exact rfl; exact wrap_in (by omega)) | (apply JcEc; exact rfl; exact rfl; exact rfl; infer_instance; (exact up_gives n x.1 l (x.1.getD l 0) wd _ _ _ _ _ _ mb mb mb h8 lx hl (by omega) (by omega) x.2.2); (intro v' H' hV; obtain ⟨rfl, rfl⟩ := hV)) | (apply Jq_move; exact rfl; exact rfl) | (apply Jq_assign; exact rfl; exact rfl) | (apply Jq_load; exact rfl; exact rfl; (exact mb); (first | exact rfl | (refine u8s_at ?_; omega))) | (apply Jq_indexN; exact rfl; exact rfl; exact rfl; omega) | (apply Jc; exact rfl; exact rfl; exact rfl; infer_instance; ((intro w hw); exact n_gives n X O w)) | (apply Jq_loadW; exact rfl; exact rfl; (exact mb); (omega)) | (apply J_s1; exact rfl; exact rfl; exact rfl; infer_instance; (exact Nat.le_of_ble_eq_true rfl); (exact one_set _ _); infer_instance) | (apply J_sW; exact rfl; exact rfl; infer_instance; (exact rfl); (exact rfl); (exact ones_of rfl); infer_instance) | (apply J_box; exact rfl; exact rfl; exact rfl; (intro _)) | (apply Jq_buildE; exact rfl; exact rfl; exact built_rec0 _ _ _ _) | (apply J_alloc (cs := encR ⟨0, 0, 0, 0, 0, 0⟩); exact rfl; exact rfl; (intro _)) | (apply J_alloc; exact rfl; exact rfl; (intro _)) | refine thenQ_normal ?_ | refine JC_seq ?_ | refine JC_region ?_ | refine J_nil ?_ | refine JC_block ?_)
  rename_i b4 b5 b6 b8 b10 b11 b14
  refine JC_loop (X := Nat) (fun k => k ≤ wd) (fun k => [(34, .int .i64 (k : Int)), (33, .int .i64 (wd : Int)), (15, .bool (emp n x.1 l (x.1.getD l 0) (upR n x.1 l (x.1.getD l 0) wd) k)), (14, .pointer (some ⟨b14, 0, none⟩)), (13, .int .i64 ((upR n x.1 l (x.1.getD l 0) wd : Nat) : Int)), (12, .func (.func 190) #[] #[.pointer (some ⟨b6, 0, none⟩), .pointer (some ⟨b10, 0, none⟩), .pointer (some ⟨b11, 0, none⟩)]), (8, .pointer (some ⟨b8, 0, none⟩)), (5, .pointer (some ⟨b5, 0, none⟩)), (4, .pointer (some ⟨b4, 0, none⟩))])
    (fun k => [.blk b14 (encR ⟨l, x.1.getD l 0, wd, upR n x.1 l (x.1.getD l 0) wd, mks n X l (x.1.getD l 0) (upR n x.1 l (x.1.getD l 0) wd) k, mks n O l (x.1.getD l 0) (upR n x.1 l (x.1.getD l 0) wd) k⟩) 151, .blk b11 [.int .i64 ((x.1.getD l 0 : Nat) : Int)] 3, .blk b10 [.int .i64 (n : Int)] 3, .blk b8 (encR ⟨0, 0, 0, 0, 0, 0⟩) 151, .blk b6 [.int .i64 (l : Int)] 3, .blk b5 (encS x) 72, .blk b4 (gv (n : Int) X O) 28]) (fun k => wd - k) 0 (Nat.zero_le _) ?_ ?_
  · (refine ent ?_ ?_; (repeat refine fr_cons rfl ?_); exact fr_nil; (repeat (exact List.Sublist.refl _)))
  · intro k hk
    have a1 := mks_le n X l (x.1.getD l 0) (upR n x.1 l (x.1.getD l 0) wd) k
    have a2 := mks_le n O l (x.1.getD l 0) (upR n x.1 l (x.1.getD l 0) wd) k
    by_cases hlt : k < wd
    · have hX1 : upR n X l (x.1.getD l 0) k < upR n x.1 l (x.1.getD l 0) wd → mks n X l (x.1.getD l 0) (upR n x.1 l (x.1.getD l 0) wd) (k + 1) = mks n X l (x.1.getD l 0) (upR n x.1 l (x.1.getD l 0) wd) k + 1 := fun h => by rw [mks, if_pos h]
      have hX0 : ¬ upR n X l (x.1.getD l 0) k < upR n x.1 l (x.1.getD l 0) wd → mks n X l (x.1.getD l 0) (upR n x.1 l (x.1.getD l 0) wd) (k + 1) = mks n X l (x.1.getD l 0) (upR n x.1 l (x.1.getD l 0) wd) k := fun h => by rw [mks, if_neg h]; rfl
      have hO1 : upR n O l (x.1.getD l 0) k < upR n x.1 l (x.1.getD l 0) wd → mks n O l (x.1.getD l 0) (upR n x.1 l (x.1.getD l 0) wd) (k + 1) = mks n O l (x.1.getD l 0) (upR n x.1 l (x.1.getD l 0) wd) k + 1 := fun h => by rw [mks, if_pos h]
      have hO0 : ¬ upR n O l (x.1.getD l 0) k < upR n x.1 l (x.1.getD l 0) wd → mks n O l (x.1.getD l 0) (upR n x.1 l (x.1.getD l 0) wd) (k + 1) = mks n O l (x.1.getD l 0) (upR n x.1 l (x.1.getD l 0) wd) k := fun h => by rw [mks, if_neg h]; rfl
      have hE0 : 0 < k ∧ upR n x.1 l (x.1.getD l 0) k < upR n x.1 l (x.1.getD l 0) wd → emp n x.1 l (x.1.getD l 0) (upR n x.1 l (x.1.getD l 0) wd) (k + 1) = false := fun h => by rw [emp, if_pos h]
      have hE1 : ¬ (0 < k ∧ upR n x.1 l (x.1.getD l 0) k < upR n x.1 l (x.1.getD l 0) wd) → emp n x.1 l (x.1.getD l 0) (upR n x.1 l (x.1.getD l 0) wd) (k + 1) = emp n x.1 l (x.1.getD l 0) (upR n x.1 l (x.1.getD l 0) wd) k := fun h => by rw [emp, if_neg h]
      repeat' (first | (apply Jq_load; exact rfl; exact rfl; exact mb; (first | exact encR_getX _ _ _ _ _ _ | exact encR_getO _ _ _ _ _ _)) | (apply JcEc; exact rfl; exact rfl; exact rfl; infer_instance; (first | exact up_gives n x.1 l (x.1.getD l 0) k _ _ _ _ _ _ mb mb mb h8 lx hl (by omega) (by omega) x.2.2 | exact up_gives n X l (x.1.getD l 0) k _ _ _ _ _ _ mb mb mb h8 bX.1 hl (by omega) (by omega) bX.2 | exact up_gives n O l (x.1.getD l 0) k _ _ _ _ _ _ mb mb mb h8 bO.1 hl (by omega) (by omega) bO.2); (intro v' H' hV; obtain ⟨rfl, rfl⟩ := hV)) | (apply Jq_move; exact rfl; exact rfl) | (apply Jq_assign; exact rfl; exact rfl) | (apply Jq_fieldAddr; exact rfl; exact rfl) | (apply Jq_cmp; exact rfl; exact rfl; exact rfl; exact rfl) | (apply Jq_add; exact rfl; exact rfl; exact rfl; omega) | (apply Jq_pick_true; exact rfl; exact rfl; exact rfl) | (apply Jq_pick_false; exact rfl; exact rfl; exact rfl) | (apply J_on; exact rfl; exact rfl) | (apply J_skip; exact rfl; exact rfl; exact rfl; exact rfl) | (apply Jq_loadW; exact rfl; exact rfl; (exact mb); (omega)) | (apply Jq_loadA; exact rfl; exact rfl; (exact mb); (first | exact gv_arrX bX.1 | exact gv_arrO bX.1 bO.1); (omega)) | (apply J_s1; exact rfl; exact rfl; exact rfl; infer_instance; (exact Nat.le_of_ble_eq_true rfl); (first | exact encR_setX _ _ _ _ _ _ | exact encR_setO _ _ _ _ _ _); infer_instance) | refine thenQ_normal ?_ | refine inBlockQ_normal ?_ | refine JC_seq ?_ | refine JC_region ?_ | refine J_nil ?_ | refine JC_block ?_ | refine JC_skip ?_ | (apply JC_if_false; exact rfl) | (apply JC_dec_true; exact rfl; omega) | refine JC_dec rfl (fun _ => ?_) (fun _ => ?_) | refine J_gd rfl rfl (fun _ => ?_) (fun _ => ?_))
      all_goals
        refine ⟨k + 1, by omega, by omega, ?_⟩
        first | rw [hX1 (by omega)] | rw [hX0 (by omega)]
        first | rw [hO1 (by omega)] | rw [hO0 (by omega)]
        first | rw [hE0 (by omega)] | rw [hE1 (by omega)]
        (refine ent ?_ ?_; (repeat refine fr_cons rfl ?_); exact fr_nil; (repeat (exact List.Sublist.refl _)))
    · obtain rfl : k = wd := by omega
      repeat' (first | (apply Jq_move; exact rfl; exact rfl) | (apply Jq_assign; exact rfl; exact rfl) | (apply Jq_cmp; exact rfl; exact rfl; exact rfl; exact rfl) | (apply Jq_loadW; exact rfl; exact rfl; (exact mb); (exact rfl)) | (apply J_sW; exact rfl; exact rfl; infer_instance; (exact rfl); (exact rfl); (exact ones_of rfl); infer_instance) | refine thenQ_normal ?_ | refine thenQ_exit ?_ | refine inBlockQ_here ?_ | refine JC_seq ?_ | refine JC_region ?_ | refine J_nil ?_ | refine JC_ret ?_ | refine JC_exit ?_ | (apply JC_dec_false; exact rfl; omega))
      exact gCT rfl rfl rfl rfl (.tail _ (.tail _ (.tail _ (.head _)))) rfl rfl
set_option maxRecDepth 100000 in
theorem iled_gives (n : Nat) (x : StB) (r : Rec) (h8 : n ≤ 8) (hl : r.le < n) (hw : r.wi < n) (w : World) :
    Gives Tryz.prog 126 #[.agg (encR r).toArray, .agg (encS x).toArray, .int .i64 (n : Int)] (.agg (encS (led n x r)).toArray) w := by
  have ux := encS_len x
  have ul := encS_len (led n x r)
  have lx := x.2.1
  have ur := encR_len r
  have hr : (r.le + r.wi) % n < n := Nat.mod_lt _ (by omega)
  have u1 : (u8s (x.1.set r.le (x.1.getD ((r.le + r.wi) % n) 0))).length = 8 := by rw [u8s_len, List.length_set]; exact lx
  have u2 : (u8s ((x.1.set r.le (x.1.getD ((r.le + r.wi) % n) 0)).set ((r.le + r.wi) % n) (x.1.getD r.le 0))).length = 8 := by rw [u8s_len, List.length_set, List.length_set]; exact lx
  have e1 : (r.le : Int) + (r.wi : Int) = ((r.le + r.wi : Nat) : Int) := rfl
  have e2 : ((r.le + r.wi : Nat) : Int) % (n : Int) = (((r.le + r.wi) % n : Nat) : Int) := rfl
  refine gives_of (args := [.agg (encR r).toArray, .agg (encS x).toArray, .int .i64 (n : Int)]) [(0, .agg (encR r).toArray), (1, .agg (encS x).toArray), (2, .int .i64 (n : Int))] [] Tryz.func126 rfl Tryz.ntmps126 rfl (argsF_cons rfl (argsF_cons rfl (argsF_cons rfl argsF_nil))) (Holds.start w) ?_
  repeat' (first | (apply J_box; exact rfl; exact rfl; exact rfl; (intro _)) | (apply J_alloc (cs := u8s Z8); exact rfl; exact rfl; (intro _)) | refine thenQ_normal ?_ | refine JC_seq ?_ | refine JC_region ?_ | refine J_nil ?_)
  apply JC_draw mixed
  · kernel_rfl
  repeat' (first | (apply Jq_addR; exact rfl; exact rfl; exact rfl; omega; (exact e1)) | (apply Jq_remR; exact rfl; exact rfl; exact rfl; omega; omega; (exact e2)) | (apply Jq_move; exact rfl; exact rfl) | (apply Jq_assign; exact rfl; exact rfl) | (apply Jq_load; exact rfl; exact rfl; (exact mb); (exact rfl)) | (apply Jq_fieldAddr; exact rfl; exact rfl) | refine thenQ_normal ?_ | refine JC_seq ?_ | refine J_nil ?_)
  rename_i b3 b4 b6
  refine JC_any (m := 12) rfl [] mixed (by exact sub_nil) ?_
  (apply JF_q 0; exact rfl; kernel_rfl; exact rfl; (intro E hE; (apply q_move; exact rfl)))
  (apply JF_q 1; exact rfl; kernel_rfl; exact rfl; (intro E hE; (apply q_move; exact rfl)))
  (apply JF_q 2; exact rfl; kernel_rfl; exact rfl; (intro E hE; (apply q_move; exact rfl)))
  (apply JF_q 3; exact rfl; kernel_rfl; exact rfl; (intro E hE; (apply q_indexN; exact rfl; exact rfl; omega)))
  (apply JF_q 5; exact rfl; kernel_rfl; exact rfl; (intro E hE; (apply q_move; exact rfl)))
  (apply JF_q 6; exact rfl; kernel_rfl; exact rfl; (intro E hE; (apply q_indexN; exact rfl; exact rfl; omega)))
  (apply JF_all [4, 7]; kernel_rfl)
  (apply JFs_cons; exact rfl)
  · (apply Jq_load; exact rfl; exact rfl; (exact mb); (refine u8s_at ?_; omega))
    (apply J_nil; apply JF_end; exact sub_nil)
    (apply JF_all [7]; kernel_rfl)
    (apply JFs_cons; exact rfl)
    · (apply Jq_load; exact rfl; exact rfl; (exact mb); (refine u8s_at ?_; omega))
      (apply J_nil; apply JF_end; exact sub_nil)
      (apply JF_q 8; exact rfl; kernel_rfl; exact rfl; (intro E hE; (apply q_indexN; exact rfl; exact rfl; omega)))
      (apply JF_all [9]; kernel_rfl)
      (apply JFs_cons; exact rfl)
      · (apply J_s1; exact rfl; exact rfl; exact rfl; infer_instance; (omega); (exact u8s_set); infer_instance)
        (apply J_nil; apply JF_end; exact sub_nil)
        (apply JF_q 10; exact rfl; kernel_rfl; exact rfl; (intro E hE; (apply q_indexN; exact rfl; exact rfl; omega)))
        (apply JF_all [11]; kernel_rfl)
        (apply JFs_cons; exact rfl)
        · (apply J_s1; exact rfl; exact rfl; exact rfl; infer_instance; (omega); (exact u8s_set); infer_instance)
          (apply J_nil; apply JF_end; exact sub_nil)
          (apply JF_done; kernel_rfl)
          ((repeat' (first | (apply Jq_loadW; exact rfl; exact rfl; (exact mb); (omega)) | (apply J_sW; exact rfl; exact rfl; infer_instance; (exact rfl); (omega); (exact u8s_one _); infer_instance) | refine thenQ_normal ?_ | refine JC_seq ?_ | refine JC_region ?_ | refine J_nil ?_ | refine JC_ret ?_)); exact gC rfl rfl rfl m0 u2 rfl)
        exact JFs_nil
      exact JFs_nil
    exact JFs_nil
  (apply JFs_cons; exact rfl)
  · (apply Jq_load; exact rfl; exact rfl; (exact mb); (refine u8s_at ?_; omega))
    (apply J_nil; apply JF_end; exact sub_nil)
    (apply JF_all [4]; kernel_rfl)
    (apply JFs_cons; exact rfl)
    · (apply Jq_load; exact rfl; exact rfl; (exact mb); (refine u8s_at ?_; omega))
      (apply J_nil; apply JF_end; exact sub_nil)
      (apply JF_q 8; exact rfl; kernel_rfl; exact rfl; (intro E hE; (apply q_indexN; exact rfl; exact rfl; omega)))
      (apply JF_all [9]; kernel_rfl)
      (apply JFs_cons; exact rfl)
      · (apply J_s1; exact rfl; exact rfl; exact rfl; infer_instance; (omega); (exact u8s_set); infer_instance)
        (apply J_nil; apply JF_end; exact sub_nil)
        (apply JF_q 10; exact rfl; kernel_rfl; exact rfl; (intro E hE; (apply q_indexN; exact rfl; exact rfl; omega)))
        (apply JF_all [11]; kernel_rfl)
        (apply JFs_cons; exact rfl)
        · (apply J_s1; exact rfl; exact rfl; exact rfl; infer_instance; (omega); (exact u8s_set); infer_instance)
          (apply J_nil; apply JF_end; exact sub_nil)
          (apply JF_done; kernel_rfl)
          ((repeat' (first | (apply Jq_loadW; exact rfl; exact rfl; (exact mb); (omega)) | (apply J_sW; exact rfl; exact rfl; infer_instance; (exact rfl); (omega); (exact u8s_one _); infer_instance) | refine thenQ_normal ?_ | refine JC_seq ?_ | refine JC_region ?_ | refine J_nil ?_ | refine JC_ret ?_)); exact gC rfl rfl rfl m0 u2 rfl)
        exact JFs_nil
      exact JFs_nil
    exact JFs_nil
  exact JFs_nil
set_option maxRecDepth 100000 in
theorem iempty_gives {B : Nat} {w0 : World} {H : Hp} (n : Nat) (X O : List Nat) (x : StB) (bX : isB X) (bO : isB O) (h8 : n ≤ 8) (px : isPerm x.1 n) :
    GivesE Tryz.prog 125 #[.agg (gv (n : Int) X O).toArray, .agg (encS x).toArray, .bool true] B w0 H (fun v' H' => H' = .row v' 151 6 ((eout n X O x.1 n).flatMap encR) :: H) := by
  have ug := gv_len (n := (n : Int)) bX.1 bO.1
  have ux := encS_len x
  refine givesE_of (args := [.agg (gv (n : Int) X O).toArray, .agg (encS x).toArray, .bool true]) [(0, .agg (gv (n : Int) X O).toArray), (1, .agg (encS x).toArray), (2, .bool true)] Tryz.func125 rfl Tryz.ntmps125 rfl (argsF_cons rfl (argsF_cons rfl (argsF_cons rfl argsF_nil))) ?_
  repeat' (first | (apply Jq_move; exact rfl; exact rfl) | (apply Jq_assign; exact rfl; exact rfl) | (apply Jc; exact rfl; exact rfl; exact rfl; infer_instance; ((intro w hw); exact n_gives n X O w)) | (apply Jq_loadW; exact rfl; exact rfl; (exact mb); (omega)) | (apply J_box; exact rfl; exact rfl; exact rfl; (intro _)) | (apply J_lit0; exact rfl; (intro _)) | refine thenQ_normal ?_ | refine JC_seq ?_ | refine JC_region ?_ | refine J_nil ?_ | refine JC_block ?_)
  rename_i b3 b4 b12
  refine JC_loop (X := Nat × Value) (fun p => p.1 ≤ n) (fun p => [(2, .bool true), (14, .int .i64 (n : Int)), (15, .int .i64 (p.1 : Int)), (7, p.2), (3, .pointer (some ⟨b3, 0, none⟩)), (4, .pointer (some ⟨b4, 0, none⟩))])
    (fun p => .row p.2 151 6 ((eout n X O x.1 p.1).flatMap encR) :: .blk b4 (encS x) 72 :: .blk b3 (gv (n : Int) X O) 28 :: H) (fun p => n - p.1) (0, .slice (some ⟨b12, 0, none⟩) 0 0) (Nat.zero_le _) ?_ ?_
  · (refine ent ?_ ?_; (repeat refine fr_cons rfl ?_); exact fr_nil; (repeat (exact List.Sublist.refl _)))
  · rintro ⟨k, v⟩ hk
    dsimp only at hk ⊢
    by_cases hlt : k < n
    · have hkn := px.1 k hlt
      repeat' (first | (apply Jq_move; exact rfl; exact rfl) | (apply Jq_assign; exact rfl; exact rfl) | (apply Jq_cmp; exact rfl; exact rfl; exact rfl; exact rfl) | refine thenQ_normal ?_ | refine JC_seq ?_ | refine JC_region ?_ | refine J_nil ?_ | refine JC_block ?_ | refine JC_skip ?_ | (apply JC_dec_true; exact rfl; omega))
      refine JC_loop (X := Nat × Value) (fun p => p.1 ≤ n - 1) (fun p => [(2, .bool true), (14, .int .i64 (n : Int)), (15, .int .i64 (k : Int)), (8, .int .i64 (k : Int)), (9, .int .i64 ((p.1 + 1 : Nat) : Int)), (7, p.2), (3, .pointer (some ⟨b3, 0, none⟩)), (4, .pointer (some ⟨b4, 0, none⟩))])
        (fun p => .row p.2 151 6 ((eout n X O x.1 k ++ einn n X O x.1 k p.1).flatMap encR) :: .blk b4 (encS x) 72 :: .blk b3 (gv (n : Int) X O) 28 :: H) (fun p => n - p.1) (0, v) (Nat.zero_le _) ?_ ?_
      · rw [einn, List.append_nil]
        (refine ent ?_ ?_; (repeat refine fr_cons rfl ?_); exact fr_nil; (repeat (exact List.Sublist.refl _)))
      · rintro ⟨m, v⟩ hm
        dsimp only at hm ⊢
        have lr := fl_len encR_len (eout n X O x.1 k ++ einn n X O x.1 k m)
        have l1 := eout_len n X O x.1 k
        have l2 := einn_len n X O x.1 k m
        have hp := part_le h8 hlt hm
        have ll : (eout n X O x.1 k ++ einn n X O x.1 k m).length ≤ 64 := by rw [List.length_append]; omega
        by_cases hlm : m + 1 < n
        · have er1 : isEmp n x.1 (recT n X O x.1 k (m + 1)) = true → eout n X O x.1 k ++ einn n X O x.1 k (m + 1) = (eout n X O x.1 k ++ einn n X O x.1 k m) ++ [recT n X O x.1 k (m + 1)] := fun h => by rw [einn, if_pos h, List.append_assoc]
          have er0 : isEmp n x.1 (recT n X O x.1 k (m + 1)) = false → eout n X O x.1 k ++ einn n X O x.1 k (m + 1) = eout n X O x.1 k ++ einn n X O x.1 k m := fun h => by rw [einn, h]; rfl
          have ur := encR_len (recT n X O x.1 k (m + 1))
          repeat' (first | (apply J_lit1s; exact rfl; exact rfl; exact ur; decide; decide; (intro _)) | (apply J_ap; decide; exact rfl; exact rfl; exact rfl; infer_instance; exact m0; exact encR_ne _; exact encR_one _; ((show (_ + _) * _ ≤ _); (simp only [encR_len]); omega); decide; exact fl_snoc; (intro v')) | (apply Jq_move; exact rfl; exact rfl) | (apply Jq_assign; exact rfl; exact rfl) | (apply Jq_cmp; exact rfl; exact rfl; exact rfl; exact rfl) | (apply Jq_add; exact rfl; exact rfl; exact rfl; omega) | (apply Jq_not; exact rfl; exact rfl) | (apply Jq_pick_true; exact rfl; exact rfl; exact rfl) | (apply Jq_pick_false; exact rfl; exact rfl; exact rfl) | (apply J_on; exact rfl; exact rfl) | (apply J_skip; exact rfl; exact rfl; exact rfl; exact rfl) | (apply Jc; exact rfl; exact rfl; exact rfl; infer_instance; ((intro w hw); first | exact n_gives n X O w | exact irect_gives n X O x k (m + 1) bX bO h8 hlt hlm px w)) | (apply Jq_loadW; exact rfl; exact rfl; (exact mb); (first | exact rfl | omega)) | (apply J_sW; exact rfl; exact rfl; infer_instance; (exact rfl); (exact rfl); (exact ones_of rfl); infer_instance) | (apply Jq_ext20; exact rfl; exact rfl) | (apply Jq_ext21; exact rfl; exact rfl) | (apply J_alloc (cs := encR ⟨0, 0, 0, 0, 0, 0⟩); exact rfl; exact rfl; (intro _)) | refine thenQ_normal ?_ | refine inBlockQ_normal ?_ | refine JC_seq ?_ | refine JC_region ?_ | refine J_nil ?_ | refine JC_block ?_ | refine JC_skip ?_ | (apply JC_if_true; exact rfl) | (apply JC_if_false; exact rfl) | (apply JC_dec_true; exact rfl; omega) | refine J_gb rfl rfl (fun _ => ?_) (fun _ => ?_))
          · rename_i _ hc _
            have e := er1 hc
            refine ⟨(m + 1, v'), by dsimp only; omega, by dsimp only; omega, ?_⟩
            dsimp only
            rw [e]
            (refine entP (ent ?_ (List.nil_sublist _)) ?_; (repeat refine fr_cons rfl ?_); exact fr_nil; (repeat (exact sp_end)))
          · rename_i _ hc
            have e := er0 hc
            refine ⟨(m + 1, v), by dsimp only; omega, by dsimp only; omega, ?_⟩
            dsimp only
            rw [e]
            (refine entP (ent ?_ (List.nil_sublist _)) ?_; (repeat refine fr_cons rfl ?_); exact fr_nil; (repeat (exact sp_end)))
        · obtain rfl : m = n - 1 := by omega
          repeat' (first | (apply Jq_move; exact rfl; exact rfl) | (apply Jq_cmp; exact rfl; exact rfl; exact rfl; exact rfl) | (apply Jq_add; exact rfl; exact rfl; exact rfl; omega) | (apply Jc; exact rfl; exact rfl; exact rfl; infer_instance; ((intro w hw); exact n_gives n X O w)) | (apply Jq_loadW; exact rfl; exact rfl; (exact mb); (omega)) | refine thenQ_normal ?_ | refine thenQ_exit ?_ | refine inBlockQ_normal ?_ | refine inBlockQ_here ?_ | refine JC_seq ?_ | refine JC_region ?_ | refine J_nil ?_ | refine JC_exit ?_ | (apply JC_dec_false; exact rfl; omega))
          refine ⟨(k + 1, v), by dsimp only; omega, by dsimp only; omega, ?_⟩
          rw [eout]
          (refine ent ?_ ?_; (repeat refine fr_cons rfl ?_); exact fr_nil; (repeat (exact List.Sublist.refl _)))
    · obtain rfl : k = n := by omega
      repeat' (first | (apply Jq_move; exact rfl; exact rfl) | (apply Jq_assign; exact rfl; exact rfl) | (apply Jq_cmp; exact rfl; exact rfl; exact rfl; exact rfl) | refine thenQ_normal ?_ | refine thenQ_exit ?_ | refine inBlockQ_here ?_ | refine JC_seq ?_ | refine JC_region ?_ | refine J_nil ?_ | refine JC_ret ?_ | refine JC_exit ?_ | (apply JC_dec_false; exact rfl; omega))
      refine SL.e1 (H' := .row v 151 6 ((eout k X O x.1 k).flatMap encR) :: H) rfl rfl rfl ?_ rfl
      (refine ent ?_ ?_; (repeat refine fr_cons rfl ?_); exact fr_nil; (repeat (first | exact List.Sublist.refl _ | refine List.Sublist.cons_cons _ ?_ | refine List.Sublist.cons _ ?_)))
set_option maxRecDepth 100000 in
theorem ifol_gives {B : Nat} {w0 : World} {H : Hp} (n : Nat) (X O : List Nat) (x : StB) (bX : isB X) (bO : isB O) (h8 : n ≤ 8) (px : isPerm x.1 n) :
    GivesE Tryz.prog 77 #[.agg (gv (n : Int) X O).toArray, .agg (encS x).toArray] B w0 H (fun v' H' => H' = .row v' 72 8 ((tfold (fol n X O x)).flatMap encS) :: H) := by
  have ug := gv_len (n := (n : Int)) bX.1 bO.1
  have ux := encS_len x
  have hL := eout_len64 h8 X O x.1
  have hmem := fun r (hr : r ∈ eout n X O x.1 n) => eout_facts h8 px hr
  have hf : fol n X O x = folK n x (eout n X O x.1 n) := rfl
  rw [hf]
  refine givesE_of (args := [.agg (gv (n : Int) X O).toArray, .agg (encS x).toArray]) [(0, .agg (gv (n : Int) X O).toArray), (1, .agg (encS x).toArray)] Tryz.func77 rfl Tryz.ntmps77 rfl (argsF_cons rfl (argsF_cons rfl argsF_nil)) ?_
  repeat' (first | (apply Jq_assign; exact rfl; exact rfl) | (apply Jq_loadW; exact rfl; exact rfl; (exact mb); (omega)) | (apply J_box; exact rfl; exact rfl; exact rfl; (intro _)) | (apply J_lit0; exact rfl; (intro _)) | refine thenQ_normal ?_ | refine JC_seq ?_ | refine JC_region ?_ | refine J_nil ?_)
  rename_i b2 b3 b8
  generalize hv8 : Value.slice (some ⟨b8, 0, none⟩) 0 0 = v8
  have lf := fl_len encR_len (eout n X O x.1 n)
  repeat' (first | (apply JcE; exact rfl; exact rfl; exact rfl; infer_instance; (exact iempty_gives n X O x bX bO h8 px); (intro v1 H' hV; subst hV)) | (apply Jq_move; exact rfl; exact rfl) | (apply Jq_lenRs; exact rfl; exact rfl; (exact rb); exact lf; decide) | refine thenQ_normal ?_ | refine J_nil ?_ | refine JC_block ?_)
  generalize eout n X O x.1 n = L at *
  refine JC_loop (X := Nat × Value) (fun p => p.1 ≤ L.length) (fun p => [(11, v1), (12, .int .i64 (L.length : Int)), (13, .int .i64 (p.1 : Int)), (5, p.2), (2, .pointer (some ⟨b2, 0, none⟩)), (3, .pointer (some ⟨b3, 0, none⟩))])
    (fun p => .row p.2 72 8 ((folK n x (L.take p.1)).flatMap encS) :: .row v1 151 6 (L.flatMap encR) :: .blk b3 (encS x) 72 :: .blk b2 (gv (n : Int) X O) 28 :: H) (fun p => L.length - p.1) (0, v8) (Nat.zero_le _) ?_ ?_
  · (refine entP (ent ?_ (List.nil_sublist _)) ?_; (repeat refine fr_cons rfl ?_); exact fr_nil; (repeat (first | exact sp_refl | apply sp1)))
  · rintro ⟨k, v⟩ hk
    dsimp only at hk ⊢
    by_cases hlt : k < L.length
    · obtain ⟨r, hr⟩ : ∃ r, L[k]? = some r := ⟨_, List.getElem?_eq_getElem hlt⟩
      obtain ⟨hle, hwi, _, _, _⟩ := hmem r (List.mem_of_getElem? hr)
      have ur := encR_len r
      have hg := fl_at encR_len hr
      have h2 := folK_len (n := n) (x := x) (L := L) (k := k)
      have lk := fl_len encS_len (folK n x (L.take k))
      have ul := encS_len (led n x r)
      have hne : encS (led n x r) ≠ [] := fun e => by rw [e] at ul; cases ul
      repeat' (first | (apply J_lit1s; exact rfl; exact rfl; exact ul; decide; decide; (intro _)) | (apply J_ap; decide; exact rfl; exact rfl; exact rfl; infer_instance; exact m0; exact hne; exact encS_one _; ((show (_ + _) * _ ≤ _); omega); decide; exact fl_snoc; (intro v')) | (apply Jq_move; exact rfl; exact rfl) | (apply Jq_assign; exact rfl; exact rfl) | (apply Jq_load; exact rfl; exact rfl; (exact mb); (exact rfl)) | (apply Jq_fieldAddr; exact rfl; exact rfl) | (apply Jq_cmp; exact rfl; exact rfl; exact rfl; exact rfl) | (apply Jq_add; exact rfl; exact rfl; exact rfl; omega) | (apply Jq_pick_true; exact rfl; exact rfl; exact rfl) | (apply Jq_pick_false; exact rfl; exact rfl; exact rfl) | (apply J_on; exact rfl; exact rfl) | (apply J_skip; exact rfl; exact rfl; exact rfl; exact rfl) | (apply Jc; exact rfl; exact rfl; exact rfl; infer_instance; ((intro w hw); exact iled_gives n x r h8 hle hwi w)) | (apply Jq_loadW; exact rfl; exact rfl; (exact mb); (first | exact rfl | omega)) | (apply J_sW; exact rfl; exact rfl; infer_instance; (exact rfl); (exact rfl); (exact ones_of rfl); infer_instance) | (apply Jq_indexRs; exact rfl; exact rfl; exact rfl; (exact rb); omega) | (apply Jq_loadRA; exact rfl; exact rfl; (exact rb); (exact hg); (exact rfl); decide) | (apply J_alloc (cs := encR ⟨0, 0, 0, 0, 0, 0⟩); exact rfl; exact rfl; (intro _)) | refine thenQ_normal ?_ | refine inBlockQ_normal ?_ | refine JC_seq ?_ | refine JC_region ?_ | refine J_nil ?_ | refine JC_block ?_ | refine JC_skip ?_ | (apply JC_if_false; exact rfl) | (apply JC_dec_true; exact rfl; omega) | refine JC_dec rfl (fun _ => ?_) (fun _ => ?_) | refine J_gd rfl rfl (fun _ => ?_) (fun _ => ?_))
      · rename_i _ hc1 hc2 _
        have e := (folK_yes (n := n) (x := x) hr (freeR_yes hc1 hc2))
        refine ⟨(k + 1, v'), by dsimp only; omega, by dsimp only; omega, ?_⟩
        dsimp only
        rw [e]
        (refine entP (ent ?_ (List.nil_sublist _)) ?_; (repeat refine fr_cons rfl ?_); exact fr_nil; (repeat (exact sp_end)))
      · rename_i hc1 hc2
        have e := (folK_no (n := n) (x := x) hr (freeR_no2 hc2))
        refine ⟨(k + 1, v), by dsimp only; omega, by dsimp only; omega, ?_⟩
        dsimp only
        rw [e]
        (refine entP (ent ?_ (List.nil_sublist _)) ?_; (repeat refine fr_cons rfl ?_); exact fr_nil; (repeat (exact sp_end)))
      · rename_i hc1
        have e := (folK_no (n := n) (x := x) hr (freeR_no1 hc1))
        refine ⟨(k + 1, v), by dsimp only; omega, by dsimp only; omega, ?_⟩
        dsimp only
        rw [e]
        (refine entP (ent ?_ (List.nil_sublist _)) ?_; (repeat refine fr_cons rfl ?_); exact fr_nil; (repeat (exact sp_end)))
    · obtain rfl : k = L.length := by omega
      have h2 := folK_len (n := n) (x := x) (L := L) (k := L.length)
      rw [List.take_length] at h2 ⊢
      repeat' (first | (apply JcE; exact rfl; exact rfl; exact rfl; infer_instance; (exact odd_gives _ m0 (by omega)); (intro v2 H2 hV; obtain ⟨out, ho, rfl⟩ := hV)) | (apply Jq_move; exact rfl; exact rfl) | (apply Jq_assign; exact rfl; exact rfl) | (apply Jq_cmp; exact rfl; exact rfl; exact rfl; exact rfl) | refine thenQ_normal ?_ | refine thenQ_exit ?_ | refine inBlockQ_here ?_ | refine JC_seq ?_ | refine JC_region ?_ | refine J_nil ?_ | refine JC_ret ?_ | refine JC_exit ?_ | (apply JC_dec_false; exact rfl; omega))
      have e := ho.unique (tfold_odd _)
      subst e
      refine SL.e1 (H' := .row v2 72 8 ((tfold (folK n x L)).flatMap encS) :: H) rfl rfl rfl ?_ rfl
      (refine ent ?_ ?_; (repeat refine fr_cons rfl ?_); exact fr_nil; (repeat (first | exact List.Sublist.refl _ | refine List.Sublist.cons_cons _ ?_ | refine List.Sublist.cons _ ?_)))
end Go.Proofs.YtmbbcmebdefggaaGreatDoor
