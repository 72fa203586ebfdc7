/- Walks: the program's own shift. -/
import Derived.Test.YtflleelfkknfaaaWK
namespace Go.Proofs.Ytflleelfkknfaaa
open Go Go.RowKit SL
theorem Holds.start_rd3 {w : World} {b o c o' e o2 : Nat} {cs ds es : List Value} (hb : b < w.heap.size) (hc : ∀ i v, cs[i]? = some v → w.cell? ⟨b, o + i, none⟩ = some v) (hb' : c < w.heap.size) (hc' : ∀ i v, ds[i]? = some v → w.cell? ⟨c, o' + i, none⟩ = some v)
    (hb2 : e < w.heap.size) (hc2 : ∀ i v, es[i]? = some v → w.cell? ⟨e, o2 + i, none⟩ = some v) : Holds w.heap.size w [.rd b o cs, .rd c o' ds, .rd e o2 es] w :=
  ⟨Blw.refl _ _, Nat.le_refl _, (fun x hx => by
    rcases List.mem_cons.1 hx with rfl | hx
    · exact ⟨hb, hc⟩
    · rcases List.mem_cons.1 hx with rfl | hx
      · exact ⟨hb', hc'⟩
      · rcases List.mem_cons.1 hx with rfl | hx
        · exact ⟨hb2, hc2⟩
        · cases hx), List.nodup_nil⟩
set_option maxRecDepth 100000 in
theorem shift1_gives (n u v i r b5 b3 b4 : Nat) (X O : List Nat) (lX : X.length = 8) (lO : O.length = 8) (h2 : 2 ≤ n) (h8 : n ≤ 8) (hu : u ≤ n) (hv : v ≤ n) (hi : i < n) (hr : r < n) (w : World)
    (hb : b5 < w.heap.size) (hc : ∀ j x, [Value.int .i64 (u : Int)][j]? = some x → w.cell? ⟨b5, 0 + j, none⟩ = some x) (hb' : b3 < w.heap.size) (hc' : ∀ j x, (gv n X O)[j]? = some x → w.cell? ⟨b3, 0 + j, none⟩ = some x)
    (hb2 : b4 < w.heap.size) (hc2 : ∀ j x, [Value.int .i64 (v : Int)][j]? = some x → w.cell? ⟨b4, 0 + j, none⟩ = some x) :
    Gives Try.prog 64 #[.int .i64 (i : Int), .int .i64 (r : Int), .pointer (some ⟨b5, 0, none⟩), .pointer (some ⟨b3, 0, none⟩), .pointer (some ⟨b4, 0, none⟩)] (.tuple #[.int .i64 (((i + u) % n : Nat) : Int), .int .i64 (((r + v) % n : Nat) : Int)]) w := by
  have ug := gv_len (n := n) lX lO
  refine gives_of (args := [.int .i64 (i : Int), .int .i64 (r : Int), .pointer (some ⟨b5, 0, none⟩), .pointer (some ⟨b3, 0, none⟩), .pointer (some ⟨b4, 0, none⟩)]) [(0, .int .i64 (i : Int)), (1, .int .i64 (r : Int)), (2, .pointer (some ⟨b5, 0, none⟩)), (3, .pointer (some ⟨b3, 0, none⟩)), (4, .pointer (some ⟨b4, 0, none⟩))] [.rd b5 0 [.int .i64 (u : Int)], .rd b3 0 (gv n X O), .rd b4 0 [.int .i64 (v : Int)]] Try.func64 rfl Try.ntmps64 rfl (argsF_cons rfl (argsF_cons rfl (argsF_cons rfl (argsF_cons rfl (argsF_cons rfl argsF_nil))))) (Holds.start_rd3 hb hc hb' hc' hb2 hc2) ?_
  repeat' (first | (apply Jq_move; exact rfl; exact rfl) | (apply Jq_assign; exact rfl; exact rfl) | (apply Jq_add; exact rfl; exact rfl; exact rfl; omega) | (apply Jc; exact rfl; exact rfl; exact rfl; infer_instance; ((intro w hw); exact n_gives n X O w)) | (apply Jq_rem; exact rfl; exact rfl; exact rfl; omega; omega) | refine thenQ_normal ?_ | refine JC_seq ?_ | refine JC_region ?_ | (apply JC_draw mixed; kernel_rfl) | refine J_nil ?_ | refine JC_ret ?_ | (apply Jq_loadD (j := 0); exact rfl; exact rfl; exact m0; exact rfl; exact rfl) | (apply Jq_loadD (j := 0); exact rfl; exact rfl; exact mS (mS m0); exact rfl; exact rfl) | (apply Jq_loadDW; exact rfl; exact rfl; exact mS m0; exact ug))
  exact g2 rfl rfl rfl rfl rfl
set_option maxRecDepth 100000 in
theorem led_shift (n u v k : Nat) (caps : List Value) (X O : List Nat) (hk : Runs Try.prog k) (bX : isB X) (bO : isB O) (g : okG (n : Int) X O) (w : World)
    (h : ∀ i r, i < n → r < n → ∀ w', Blw w.heap.size w w' → Gives Try.prog k (([.int .i64 (i : Int), .int .i64 (r : Int)] : List Value) ++ caps).toArray (.tuple #[.int .i64 (((i + u) % n : Nat) : Int), .int .i64 (((r + v) % n : Nat) : Int)]) w') :
    Gives Try.prog 63 #[.agg (gv n X O).toArray, .func (.func k) #[] caps.toArray, .bool false] (.agg (gv n (rol n v u X n) (rol n v u O n)).toArray) w := by
  have ug := gv_len (n := n) bX.1 bO.1
  have lX := bX.1
  have lO := bO.1
  obtain ⟨⟨h2, h8⟩, pX, pO, hne⟩ := g
  simp only [Int.toNat_natCast] at pX pO hne
  refine gives_of (args := [.agg (gv n X O).toArray, .func (.func k) #[] caps.toArray, .bool false]) [(0, .agg (gv n X O).toArray), (1, .func (.func k) #[] caps.toArray), (2, .bool false)] [] Try.func63 rfl Try.ntmps63 rfl (argsF_cons rfl (argsF_cons rfl (argsF_cons rfl argsF_nil))) (Holds.start w) ?_
  repeat' (first | (apply Jq_build1; exact rfl; exact rfl; exact built_grid n) | (apply Jq_move; exact rfl; exact rfl) | (apply Jq_assign; exact rfl; exact rfl) | (apply Jq_load; exact rfl; exact rfl; (exact mb); (exact rfl)) | (apply Jq_fieldAddr; exact rfl; exact rfl) | (apply Jc; exact rfl; exact rfl; exact rfl; infer_instance; ((intro w hw); exact n_gives n X O w)) | (apply Jq_loadW; exact rfl; exact rfl; (exact mb); (omega)) | (apply J_sW; exact rfl; exact rfl; infer_instance; (exact rfl); (exact rfl); (exact ones_of rfl); infer_instance) | (apply J_box; exact rfl; exact rfl; exact rfl; (intro _)) | (apply J_alloc (cs := gv 0 Z8 Z8); exact rfl; exact rfl; (intro _)) | refine thenQ_normal ?_ | refine JC_seq ?_ | refine JC_region ?_ | refine J_nil ?_ | refine JC_block ?_ | refine JC_skip ?_ | (apply JC_if_false; exact rfl))
  rename_i b3 b6 b7
  refine JC_loop (X := Nat) (fun j => j ≤ n) (fun j => [(23, .int .i64 (j : Int)), (22, .int .i64 (n : Int)), (1, .func (.func k) #[] caps.toArray), (3, .pointer (some ⟨b3, 0, none⟩)), (6, .pointer (some ⟨b6, 0, none⟩)), (7, .pointer (some ⟨b7, 0, none⟩)), (8, .pointer (some ⟨b7, 0 + 1, none⟩)), (9, .pointer (some ⟨b7, 0 + 9, none⟩))])
    (fun j => [.blk b7 (gv n (rol n v u X j) (rol n v u O j)) 27, .blk b6 (gv 0 Z8 Z8) 27, .blk b3 (gv n X O) 27]) (fun j => n - j) 0 (Nat.zero_le _) ?_ ?_
  · (refine ent ?_ ?_; (repeat refine fr_cons rfl ?_); exact fr_nil; (repeat (exact List.Sublist.refl _)))
  · intro j hj
    have lr1 := rol_len n v u X j
    have lr2 := rol_len n v u O j
    have lr3 : ((rol n v u X j).set ((j + u) % n) ((X.getD j 0 + v) % n)).length = 8 := rol_len n v u X (j + 1)
    have lg := gv_len (n := n) lr1 lr2
    have lg2 := gv_len (n := n) lr3 lr2
    by_cases hlt : j < n
    · have hto : (j + u) % n < n := Nat.mod_lt _ (by omega)
      have y1 : (X.getD j 0 + v) % n < n := Nat.mod_lt _ (by omega)
      have y2 : (O.getD j 0 + v) % n < n := Nat.mod_lt _ (by omega)
      have bk := bX.2 j
      have bk' := bO.2 j
      have q1 := h j (X.getD j 0) hlt (pX.1 j hlt)
      have q2 := h j (O.getD j 0) hlt (pO.1 j hlt)
      repeat' (first | (apply Jcc; exact rfl; exact rfl; exact rfl; exact hk; ((intro w' hw); first | exact q1 w' hw.below | exact q2 w' hw.below)) | (apply Jq_move; exact rfl; exact rfl) | (apply Jq_assign; exact rfl; exact rfl) | (apply Jq_load; exact rfl; exact rfl; (exact mb); (first | (refine gv_X lX ?_; omega) | (refine gv_O lX lO ?_; omega))) | (apply Jq_fieldAddr; exact rfl; exact rfl) | (apply Jq_indexN; exact rfl; exact rfl; exact rfl; omega) | (apply Jq_cmp; exact rfl; exact rfl; exact rfl; exact rfl) | (apply Jq_add; exact rfl; exact rfl; exact rfl; omega) | (apply J_s1; exact rfl; exact rfl; exact rfl; infer_instance; (omega); (first | (refine gv_setX lr1 ?_; omega) | exact gv_setO lr3); infer_instance) | (apply Jq_extract; exact rfl; exact rfl; exact rfl) | (apply Jq_nilCheck; exact rfl; exact rfl) | refine thenQ_normal ?_ | refine inBlockQ_normal ?_ | refine JC_seq ?_ | refine JC_region ?_ | refine J_nil ?_ | refine JC_block ?_ | refine JC_skip ?_ | (apply JC_dec_true; exact rfl; omega) | (apply Jq_conv; exact rfl; exact rfl; first | exact wrap64_nat (by assumption) | exact wrap8 (by omega)))
      refine ⟨j + 1, by omega, by omega, ?_⟩
      (refine ent ?_ ?_; (repeat refine fr_cons rfl ?_); exact fr_nil; (repeat (exact List.Sublist.refl _)))
    · obtain rfl : j = n := by omega
      repeat' (first | (apply Jq_cmp; exact rfl; exact rfl; exact rfl; exact rfl) | (apply Jq_loadW; exact rfl; exact rfl; (exact mb); (omega)) | (apply J_sW; exact rfl; exact rfl; infer_instance; (exact rfl); (omega); (exact gv_one _ _ _); infer_instance) | refine thenQ_normal ?_ | refine thenQ_exit ?_ | refine inBlockQ_here ?_ | refine JC_seq ?_ | refine JC_region ?_ | refine J_nil ?_ | refine JC_ret ?_ | refine JC_exit ?_ | (apply JC_dec_false; exact rfl; omega))
      exact gC rfl rfl rfl (.tail _ (.head _)) (by omega) rfl
theorem cells_later {B : Nat} {w0 : World} {H : Hp} {w w' : World} (h : Holds B w0 H w) (hb : Blw w.heap.size w w') {b : Nat} {cs : List Value} {E : TypeId} (hm : It.blk b cs E ∈ H) : b < w'.heap.size ∧ ∀ i v, cs[i]? = some v → w'.cell? ⟨b, 0 + i, none⟩ = some v :=
  ⟨Nat.lt_of_lt_of_le (h.blk_lt hm) hb.size, fun i v hi => by
    rw [World.cell?_of_block (w := w) (hb.block b (h.blk_lt hm)), Nat.zero_add]
    exact cell_of_blk (h.blk hm) hi⟩
theorem shift_call {B : Nat} {w0 : World} {H : Hp} (n u v : Nat) (X O : List Nat) (bX : isB X) (bO : isB O) (g : okG (n : Int) X O) (hu : u ≤ n) (hv : v ≤ n) {b5 b3 b4 : Nat} {E1 E2 E3 : TypeId} (w : World) (hw : Holds B w0 H w)
    (m5 : It.blk b5 [.int .i64 (u : Int)] E1 ∈ H) (m3 : It.blk b3 (gv n X O) E2 ∈ H) (m4 : It.blk b4 [.int .i64 (v : Int)] E3 ∈ H) :
    Gives Try.prog 63 #[.agg (gv n X O).toArray, .func (.func 64) #[] #[.pointer (some ⟨b5, 0, none⟩), .pointer (some ⟨b3, 0, none⟩), .pointer (some ⟨b4, 0, none⟩)], .bool false] (.agg (gv n (rol n v u X n) (rol n v u O n)).toArray) w := by
  have hn := g.1
  refine led_shift n u v 64 [.pointer (some ⟨b5, 0, none⟩), .pointer (some ⟨b3, 0, none⟩), .pointer (some ⟨b4, 0, none⟩)] X O inferInstance bX bO g w fun i r hi hr w' hb => ?_
  have c5 := cells_later hw hb m5
  have c3 := cells_later hw hb m3
  have c4 := cells_later hw hb m4
  exact shift1_gives n u v i r b5 b3 b4 X O bX.1 bO.1 (by omega) (by omega) hu hv hi hr w' c5.1 c5.2 c3.1 c3.2 c4.1 c4.2
set_option maxRecDepth 100000 in
theorem shift_gives (n u v : Nat) (X O : List Nat) (bX : isB X) (bO : isB O) (g : okG (n : Int) X O) (hu : u ≤ n) (hv : v ≤ n) (w : World) :
    Gives Try.prog 47 #[.agg (gv n X O).toArray, .int .i64 (v : Int), .int .i64 (u : Int)] (.agg (gv n (rol n v u X n) (rol n v u O n)).toArray) w := by
  have ug := gv_len (n := n) bX.1 bO.1
  have ur := gv_len (n := n) (rol_len n v u X n) (rol_len n v u O n)
  have hn := g.1
  refine gives_of (args := [.agg (gv n X O).toArray, .int .i64 (v : Int), .int .i64 (u : Int)]) [(0, .agg (gv n X O).toArray), (1, .int .i64 (v : Int)), (2, .int .i64 (u : Int))] [] Try.func47 rfl Try.ntmps47 rfl (argsF_cons rfl (argsF_cons rfl (argsF_cons rfl argsF_nil))) (Holds.start w) ?_
  repeat' (first | (apply Jq_func3; exact rfl; exact rfl; exact rfl; exact rfl) | (apply Jc; exact rfl; exact rfl; exact rfl; infer_instance; ((intro w hw); exact shift_call n u v X O bX bO g hu hv w hw (mS m0) (mS (mS (mS m0))) (mS (mS m0)))) | (apply Jq_loadW; exact rfl; exact rfl; (exact mb); (omega)) | (apply J_sW; exact rfl; exact rfl; infer_instance; (exact rfl); (omega); (exact gv_one _ _ _); infer_instance) | (apply J_box; exact rfl; exact rfl; exact rfl; (intro _)) | (apply J_alloc (cs := gv 0 Z8 Z8); exact rfl; exact rfl; (intro _)) | refine thenQ_normal ?_ | refine JC_seq ?_ | refine JC_region ?_ | refine J_nil ?_ | refine JC_ret ?_)
  exact gC rfl rfl rfl (.head _) (by omega) rfl
end Go.Proofs.Ytflleelfkknfaaa
