/- Walks: the program's destabilization (printed by mkshrunk.py). -/
import Derived.Test.YtflleelfkknfaaaMC
import Derived.Test.YtflleelfkknfaaaSB
namespace Go.Proofs.Ytflleelfkknfaaa
open Go Go.RowKit SL
theorem built_growth (i m d u : Nat) : Try.prog.built 104 [(0, .int .i64 (i : Int)), (1, .int .i64 (m : Int)), (2, .int .i64 (d : Int)), (3, .int .i64 (u : Int))] = some (encW i m d u).toArray := by kernel_rfl
namespace SL
section
variable {P : Program} {B : Nat} {w0 : World} {n : Nat} {F : Fr} {H : Hp} {w : World}
theorem resultsCCT {fn : Func} {t u r : Tmp} {T U : TypeId} {s s' : Nat} (h : fn.results = #[.cell t T, .cell u U, .tmp r]) [hT : IsAg P T s] [hU : IsAg P U s'] {a : Act} (ha : Has n F a) {b b' : Nat} {cs ds : List Value} {E E' : TypeId} {v' : Value}
    (hv : look F t = some (.pointer (some ⟨b, 0, none⟩))) (hu : look F u = some (.pointer (some ⟨b', 0, none⟩))) (hv' : look F r = some v') {w : World} (hw : Holds B w0 H w) (hm : It.blk b cs E ∈ H) (hm' : It.blk b' ds E' ∈ H) (hl : cs.length = s) (hl' : ds.length = s') :
    (results fn a.tmps).run P w = .ok (.tuple #[.agg cs.toArray, .agg ds.toArray, v']) w := by
  have e1 := ha.look t _ hv
  have e2 := ha.look u _ hu
  have e3 := ha.look r _ hv'
  simp only [Array.getD_eq_getD_getElem?] at e1 e2 e3
  simp [results, h, e1, e2, e3, asAddr, loadVarAg hw hm hl, loadVarAg hw hm' hl']
theorem gCCT {fn : Func} {e : Exit} {v : Value} {t u r : Tmp} {T U : TypeId} {s s' b b' : Nat} {cs ds : List Value} {E E' : TypeId} {v' : Value} [IsAg P T s] [IsAg P U s'] (he : isEnd e = true) (h : fn.results = #[.cell t T, .cell u U, .tmp r]) (hv : look F t = some (.pointer (some ⟨b, 0, none⟩))) (hu : look F u = some (.pointer (some ⟨b', 0, none⟩))) (hv' : look F r = some v')
    (hm : It.blk b cs E ∈ H) (hm' : It.blk b' ds E' ∈ H) (hl : cs.length = s) (hl' : ds.length = s') (hvv : Value.tuple #[.agg cs.toArray, .agg ds.toArray, v'] = v) : givesQ P w n fn v e F H :=
  givesQ_mk he fun _ _ ha hw => by subst hvv; exact resultsCCT h ha hv hu hv' hw hm hm' hl hl'
end
end SL
theorem okG_swap' {n : Int} {X O : List Nat} (g : okG n X O) : okG n O X := ⟨g.1, g.2.2.1, g.2.1, fun i hi e => g.2.2.2 i hi e.symm⟩
theorem col_lt1 {n : Nat} {X O : List Nat} (g : okG (n : Int) X O) {j : Nat} (hj : j < n) : X.getD j 0 < n := by
  obtain ⟨_, pX, -, -⟩ := g
  rw [Int.toNat_natCast] at pX
  exact pX.1 j hj
theorem eq_gridS' (n : Int) (X O : List Nat) (lX : X.length = 8) (lO : O.length = 8) (w : World) :
    (Op.equalIn 10000 27 (.agg (gv n X O).toArray) (.agg (gv n X O).toArray)).run Try.prog w = .ok true w := by
  rw [eq_grid n n X O X O lX lO lX lO w, decide_eq_true (by simp)]
theorem wrap8m1 {x : Nat} (h : x < 256) (h0 : 0 < x) : IntKind.u8.wrap ((x : Int) - 1) = ((x - 1 : Nat) : Int) := by
  rw [show (x : Int) - 1 = ((x - 1 : Nat) : Int) by omega]
  exact wrap8 (by omega)
set_option maxHeartbeats 1000000 in
set_option maxRecDepth 100000 in
theorem shrunk_walk (n : Nat) (X O : List Nat) (i r k0 : Nat) (bX : isB X) (bO : isB O) (g : okG (n : Int) X O) (hi : i + 1 < n) (hr : r + 1 < n) (h0 : k0 ≤ 8) (hno : ∀ q, q < k0 → ¬ mch X O i r q) (hyes : k0 < 8 → mch X O i r k0) (v : Value)
    (hv1 : k0 < 8 → Value.tuple #[.agg (gv ((n - 1 : Nat) : Int) (rmv n i r (k0 / 2 % 2) X) (rmv n i r (k0 / 2 % 2) O)).toArray, .agg (encW i (k0 % 2) (k0 / 2 % 2) (k0 / 4)).toArray, .bool true] = v) (hv2 : k0 = 8 → Value.tuple #[.agg (gv 0 Z8 Z8).toArray, .agg (encW 0 0 0 0).toArray, .bool false] = v) (w : World) :
    Gives Try.prog 78 #[.agg (gv n X O).toArray, .int .i64 (i : Int), .int .i64 (r : Int)] v w := by
  have ug := gv_len (n := (n : Int)) bX.1 bO.1
  have kX := bX.1
  have kO := bO.1
  have h8 : n ≤ 8 := by have := g.1; omega
  have gg := g
  obtain ⟨-, pX, pO, hne⟩ := gg
  rw [Int.toNat_natCast] at pX pO hne
  have lZ : Z8.length = 8 := rfl
  have uz := gv_len (n := 0) lZ lZ
  have uw0 : (encW 0 0 0 0).length = 4 := rfl
  refine gives_of (args := [.agg (gv n X O).toArray, .int .i64 (i : Int), .int .i64 (r : Int)]) [(0, .agg (gv n X O).toArray), (1, .int .i64 (i : Int)), (2, .int .i64 (r : Int))] [] Try.func78 rfl Try.ntmps78 rfl (argsF_cons rfl (argsF_cons rfl (argsF_cons rfl argsF_nil))) (Holds.start w) ?_
  repeat' (first | (apply Jq_move; exact rfl; exact rfl) | (apply Jq_assign; exact rfl; exact rfl) | (apply J_box; exact rfl; exact rfl; exact rfl; (intro _)) | (apply J_alloc (cs := gv 0 Z8 Z8); exact rfl; exact rfl; (intro _)) | (apply J_alloc (cs := encW 0 0 0 0); exact rfl; exact rfl; (intro _)) | refine thenQ_normal ?_ | refine JC_seq ?_ | refine JC_region ?_ | refine J_nil ?_ | refine JC_block ?_)
  rename_i b3 b6 b7
  refine JC_loop (X := Nat) (fun q => q ≤ k0) (fun q => [(14, .int .i64 (q : Int)), (1, .int .i64 (i : Int)), (2, .int .i64 (r : Int)), (3, .pointer (some ⟨b3, 0, none⟩)), (6, .pointer (some ⟨b6, 0, none⟩)), (7, .pointer (some ⟨b7, 0, none⟩)), (8, .bool false)])
    (fun _ => [.blk b7 (encW 0 0 0 0) 104, .blk b6 (gv 0 Z8 Z8) 27, .blk b3 (gv n X O) 27]) (fun q => 8 - q) 0 (Nat.zero_le _) ?_ ?_
  · (refine ent ?_ ?_; (repeat refine fr_cons rfl ?_); exact fr_nil; (repeat (exact List.Sublist.refl _)))
  · intro q hq
    by_cases hq8 : q < 8
    · have e1 : (n : Int) - 1 = ((n - 1 : Nat) : Int) := by omega
      have uzn := gv_len (n := ((n - 1 : Nat) : Int)) lZ lZ
      have uwq : (encW i (q % 2) (q / 2 % 2) (q / 4)).length = 4 := rfl
      repeat' (first | (apply Jq_and1; exact rfl; exact rfl; exact rfl; omega) | (apply Jq_shrN (i := 1) (q := q / 2); exact rfl; exact rfl; exact rfl; omega; exact rfl) | (apply Jq_shrN (i := 2) (q := q / 4); exact rfl; exact rfl; exact rfl; omega; exact rfl) | (apply Jq_subR; exact rfl; exact rfl; exact rfl; omega; exact e1) | (apply Jq_move; exact rfl; exact rfl) | (apply Jq_assign; exact rfl; exact rfl) | (apply Jq_load; exact rfl; exact rfl; (exact mb); (exact rfl)) | (apply Jq_fieldAddr; exact rfl; exact rfl) | (apply Jq_cmp; exact rfl; exact rfl; exact rfl; exact rfl) | (apply Jc; exact rfl; exact rfl; exact rfl; infer_instance; ((intro w hw); exact n_gives n X O w)) | (apply Jq_loadW; exact rfl; exact rfl; (exact mb); (omega)) | (apply J_sW; exact rfl; exact rfl; infer_instance; (exact rfl); (exact rfl); (exact ones_of rfl); infer_instance) | (apply Jq_buildE; exact rfl; exact rfl; exact built_growth i (q % 2) (q / 2 % 2) (q / 4)) | (apply Jq_buildE; exact rfl; exact rfl; exact built_grid _) | (apply J_alloc (cs := gv 0 Z8 Z8); exact rfl; exact rfl; (intro _)) | (apply J_alloc (cs := encW 0 0 0 0); exact rfl; exact rfl; (intro _)) | refine thenQ_normal ?_ | refine JC_seq ?_ | refine JC_region ?_ | refine J_nil ?_ | refine JC_block ?_ | refine JC_skip ?_ | (apply JC_dec_true; exact rfl; omega))
      rename_i bw bg
      have hmq : mch X O i r q = stbM X O i r (q % 2) (q / 2 % 2) (q / 4) := rfl
      have hd : q / 2 % 2 ≤ 1 := by omega
      have hu : q / 4 ≤ 1 := by omega
      have hm2 : q % 2 = 0 ∨ q % 2 = 1 := by omega
      have hk0 : q = k0 → Value.tuple #[.agg (gv ((n - 1 : Nat) : Int) (rmv n i r (q / 2 % 2) X) (rmv n i r (q / 2 % 2) O)).toArray, .agg (encW i (q % 2) (q / 2 % 2) (q / 4)).toArray, .bool true] = v := fun e => by subst e; exact hv1 hq8
      generalize q % 2 = m at *
      generalize q / 2 % 2 = d at *
      generalize q / 4 = u at *
      refine JC_loop (X := Nat) (fun c => c ≤ n) (fun c => [(32, .int .i64 (c : Int)), (31, .int .i64 (n : Int)), (14, .int .i64 (q : Int)), (9, .int .i64 (q : Int)), (10, .pointer (some ⟨bw, 0, none⟩)), (11, .pointer (some ⟨bg, 0, none⟩)), (1, .int .i64 (i : Int)), (2, .int .i64 (r : Int)), (3, .pointer (some ⟨b3, 0, none⟩)), (6, .pointer (some ⟨b6, 0, none⟩)), (7, .pointer (some ⟨b7, 0, none⟩)), (8, .bool false)]) (fun c => [.blk bg (gv ((n - 1 : Nat) : Int) (shT n i r d X c) (shT n i r d O c)) 27, .blk bw (encW i m d u) 104, .blk b7 (encW 0 0 0 0) 104, .blk b6 (gv 0 Z8 Z8) 27, .blk b3 (gv n X O) 27]) (fun c => n - c) 0 (Nat.zero_le _) ?_ ?_
      · rw [shT_zero, shT_zero]
        (refine ent ?_ ?_; (repeat refine fr_cons rfl ?_); exact fr_nil; (repeat (exact List.Sublist.refl _)))
      · intro c hc
        by_cases hlt : c < n
        · have f1 : (i : Int) + 1 = ((i + 1 : Nat) : Int) := rfl
          have f2 : ((i + 1 : Nat) : Int) - (d : Int) = ((i + 1 - d : Nat) : Int) := by omega
          by_cases hsk : c = i + 1 - d
          · have hs1 := shT_skip (n := n) (r := r) (A := X) hd hsk
            have hs2 := shT_skip (n := n) (r := r) (A := O) hd hsk
            repeat' (first | (apply Jq_addR; exact rfl; exact rfl; exact rfl; omega; exact f1) | (apply Jq_subR; exact rfl; exact rfl; exact rfl; omega; exact f2) | (apply Jq_move; exact rfl; exact rfl) | (apply Jq_assign; exact rfl; exact rfl) | (apply Jq_load; exact rfl; exact rfl; (exact mb); (exact rfl)) | (apply Jq_fieldAddr; exact rfl; exact rfl) | (apply Jq_cmp; exact rfl; exact rfl; exact rfl; exact rfl) | (apply Jq_add; exact rfl; exact rfl; exact rfl; omega) | refine thenQ_normal ?_ | refine thenQ_exit ?_ | refine inBlockQ_here ?_ | refine JC_seq ?_ | refine JC_region ?_ | refine J_nil ?_ | refine JC_block ?_ | refine JC_skip ?_ | refine JC_exit ?_ | (apply JC_dec_true; exact rfl; omega))
            refine ⟨c + 1, by omega, by omega, ?_⟩
            rw [← hs1, ← hs2]
            (refine ent ?_ ?_; (repeat refine fr_cons rfl ?_); exact fr_nil; (repeat (exact List.Sublist.refl _)))
          · have hD8 : (if i < c then c - 1 else c) < 8 := by split <;> omega
            have ht : (if i < c then c - 1 else c) = if i < c then c - 1 else c := rfl
            have sX := shT_set (r := r) (A := X) h8 hi hd hlt hsk
            have sO := shT_set (r := r) (A := O) h8 hi hd hlt hsk
            have lM := shT_len (n := n) (i := i) (r := r) (d := d) (A := X) (k := c)
            have lT := shT_len (n := n) (i := i) (r := r) (d := d) (A := O) (k := c)
            have xk := bX.2 c
            have ok := bO.2 c
            have hgx := gv_X (n := (n : Int)) (O := O) kX (k := c) (by omega)
            have hgy := gv_O (n := (n : Int)) kX kO (k := c) (by omega)
            generalize shT n i r d X c = M at *
            generalize shT n i r d O c = T at *
            generalize hDD : (if i < c then c - 1 else c) = D at *
            generalize X.getD c 0 = x at *
            generalize O.getD c 0 = y at *
            have f3 : i < c → (c : Int) - 1 = ((c - 1 : Nat) : Int) := by omega
            have lMx : (M.set D x).length = 8 := (List.length_set ..).trans lM
            have lTy : (T.set D y).length = 8 := (List.length_set ..).trans lT
            have lMl : (M.set D (low r x)).length = 8 := (List.length_set ..).trans lM
            have vM1 : (M.set D x).getD D 0 = x := set_at lM hD8
            have vT1 : (T.set D y).getD D 0 = y := set_at lT hD8
            have cM1 : (M.set D x).set D (x - 1) = M.set D (x - 1) := List.set_set ..
            have cT1 : (T.set D y).set D (y - 1) = T.set D (y - 1) := List.set_set ..
            have hm1 := gv_X (n := ((n - 1 : Nat) : Int)) (O := T.set D y) lMx hD8
            rw [vM1] at hm1
            have hm2' := gv_O (n := ((n - 1 : Nat) : Int)) lMl lTy hD8
            rw [vT1] at hm2'
            have g1 := gv_len (n := ((n - 1 : Nat) : Int)) lM lT
            have g2 := gv_len (n := ((n - 1 : Nat) : Int)) lMx lT
            have g3 := gv_len (n := ((n - 1 : Nat) : Int)) lM lTy
            have g4 := gv_len (n := ((n - 1 : Nat) : Int)) lMx lTy
            have g5 := gv_len (n := ((n - 1 : Nat) : Int)) lMl lTy
            repeat' (first | (refine JC_cut1 (x := .seq (.region 11 _ _) _) [(12, .int .i64 (c : Int)), (13, .int .i64 (D : Int)), (32, .int .i64 (c : Int)), (31, .int .i64 (n : Int)), (14, .int .i64 (q : Int)), (9, .int .i64 (q : Int)), (10, .pointer (some ⟨bw, 0, none⟩)), (11, .pointer (some ⟨bg, 0, none⟩)), (1, .int .i64 (i : Int)), (2, .int .i64 (r : Int)), (3, .pointer (some ⟨b3, 0, none⟩)), (6, .pointer (some ⟨b6, 0, none⟩)), (7, .pointer (some ⟨b7, 0, none⟩)), (8, .bool false)] [.blk bg (gv ((n - 1 : Nat) : Int) (M) (T)) 27, .blk bw (encW i m d u) 104, .blk b7 (encW 0 0 0 0) 104, .blk b6 (gv 0 Z8 Z8) 27, .blk b3 (gv n X O) 27] ?_ ?_) | (refine JC_cut1 (x := .region 13 _ _) [(12, .int .i64 (c : Int)), (13, .int .i64 (D : Int)), (32, .int .i64 (c : Int)), (31, .int .i64 (n : Int)), (14, .int .i64 (q : Int)), (9, .int .i64 (q : Int)), (10, .pointer (some ⟨bw, 0, none⟩)), (11, .pointer (some ⟨bg, 0, none⟩)), (1, .int .i64 (i : Int)), (2, .int .i64 (r : Int)), (3, .pointer (some ⟨b3, 0, none⟩)), (6, .pointer (some ⟨b6, 0, none⟩)), (7, .pointer (some ⟨b7, 0, none⟩)), (8, .bool false)] [.blk bg (gv ((n - 1 : Nat) : Int) (M.set D x) (T.set D y)) 27, .blk bw (encW i m d u) 104, .blk b7 (encW 0 0 0 0) 104, .blk b6 (gv 0 Z8 Z8) 27, .blk b3 (gv n X O) 27] ?_ ?_) | (refine JC_cut1 (x := .seq (.region 14 _ _) _) [(12, .int .i64 (c : Int)), (13, .int .i64 (D : Int)), (32, .int .i64 (c : Int)), (31, .int .i64 (n : Int)), (14, .int .i64 (q : Int)), (9, .int .i64 (q : Int)), (10, .pointer (some ⟨bw, 0, none⟩)), (11, .pointer (some ⟨bg, 0, none⟩)), (1, .int .i64 (i : Int)), (2, .int .i64 (r : Int)), (3, .pointer (some ⟨b3, 0, none⟩)), (6, .pointer (some ⟨b6, 0, none⟩)), (7, .pointer (some ⟨b7, 0, none⟩)), (8, .bool false)] [.blk bg (gv ((n - 1 : Nat) : Int) (M.set D (low r x)) (T.set D y)) 27, .blk bw (encW i m d u) 104, .blk b7 (encW 0 0 0 0) 104, .blk b6 (gv 0 Z8 Z8) 27, .blk b3 (gv n X O) 27] ?_ ?_) | (apply Jq_addR; exact rfl; exact rfl; exact rfl; omega; exact f1) | (apply Jq_subR; exact rfl; exact rfl; exact rfl; omega; first | exact f2 | exact f3 (by omega)) | (apply Jq_subwR; exact rfl; exact rfl; exact rfl; exact wrap8m1 (by omega) (by omega)) | (apply Jq_conv; exact rfl; exact rfl; first | exact wrap64_nat xk | exact wrap64_nat ok) | (apply Jq_move; exact rfl; exact rfl) | (apply Jq_assign; exact rfl; exact rfl) | (apply Jq_load; exact rfl; exact rfl; (exact mb); (first | exact rfl | exact hgx | exact hgy | exact hm1 | exact hm2')) | (apply Jq_fieldAddr; exact rfl; exact rfl) | (apply Jq_indexN; exact rfl; exact rfl; exact rfl; omega) | (apply Jq_cmp; exact rfl; exact rfl; exact rfl; exact rfl) | (apply Jq_add; exact rfl; exact rfl; exact rfl; omega) | (apply J_s1; exact rfl; exact rfl; exact rfl; infer_instance; (omega); (first | (refine gv_setX lMx ?_; omega) | exact gv_setO lMl); infer_instance) | refine thenQ_normal ?_ | refine inBlockQ_normal ?_ | refine JC_seq ?_ | refine JC_region ?_ | refine J_nil ?_ | refine JC_block ?_ | refine JC_skip ?_ | (apply JC_dec_true; exact rfl; omega) | (apply JC_dec_false; exact rfl; omega) | refine JC_dec rfl (fun _ => ?_) (fun _ => ?_))
            · rw [show D = c - 1 from hDD.symm.trans (if_pos (by omega))]
              (refine ent ?_ ?_; (repeat refine fr_cons rfl ?_); exact fr_nil; (repeat (exact List.Sublist.refl _)))
            · rw [show D = c from hDD.symm.trans (if_neg (by omega))]
              (refine ent ?_ ?_; (repeat refine fr_cons rfl ?_); exact fr_nil; (repeat (exact List.Sublist.refl _)))
            ·
              refine JC_any (m := 16) rfl [.blk b3 (gv n X O) 27] mixed (by ((repeat (apply sub_cons; (focus ((with_reducible (repeat (first | exact m0 | refine mS ?_))); done)))); exact sub_nil)) ?_
              (apply JF_q 0; exact rfl; kernel_rfl; exact rfl; (intro E hE; (apply q_move; exact rfl)))
              (apply JF_q 1; exact rfl; kernel_rfl; exact rfl; (intro E hE; (apply q_move; exact rfl)))
              (apply JF_q 2; exact rfl; kernel_rfl; exact rfl; (intro E hE; (apply q_move; exact rfl)))
              (apply JF_q 3; exact rfl; kernel_rfl; exact rfl; (intro E hE; (apply q_fieldAddr; exact rfl)))
              (apply JF_q 4; exact rfl; kernel_rfl; exact rfl; (intro E hE; (apply q_indexN; exact rfl; exact rfl; omega)))
              (apply JF_q 5; exact rfl; kernel_rfl; exact rfl; (intro E hE; (apply q_load; exact rfl; (refine hE _ ?_; exact mb); (exact hgx))))
              (apply JF_q 6; exact rfl; kernel_rfl; exact rfl; (intro E hE; (apply q_move; exact rfl)))
              (apply JF_q 7; exact rfl; kernel_rfl; exact rfl; (intro E hE; (apply q_fieldAddr; exact rfl)))
              (apply JF_q 8; exact rfl; kernel_rfl; exact rfl; (intro E hE; (apply q_indexN; exact rfl; exact rfl; omega)))
              (apply JF_q 9; exact rfl; kernel_rfl; exact rfl; (intro E hE; (apply q_load; exact rfl; (refine hE _ ?_; exact mb); (exact hgy))))
              (apply JF_q 10; exact rfl; kernel_rfl; exact rfl; (intro E hE; (apply q_fieldAddr; exact rfl)))
              (apply JF_q 11; exact rfl; kernel_rfl; exact rfl; (intro E hE; (apply q_indexN; exact rfl; exact rfl; omega)))
              (apply JF_q 13; exact rfl; kernel_rfl; exact rfl; (intro E hE; (apply q_fieldAddr; exact rfl)))
              (apply JF_all [12]; kernel_rfl)
              (apply JFs_cons; exact rfl)
              · (apply J_s1; exact rfl; exact rfl; exact rfl; infer_instance; (omega); (refine gv_setX lM ?_; omega); infer_instance)
                (apply J_nil; apply JF_end; ((repeat (apply sub_cons; (focus ((with_reducible (repeat (first | exact m0 | refine mS ?_))); done)))); exact sub_nil))
                (apply JF_q 14; exact rfl; kernel_rfl; exact rfl; (intro E hE; (apply q_indexN; exact rfl; exact rfl; omega)))
                (apply JF_all [15]; kernel_rfl)
                (apply JFs_cons; exact rfl)
                · (apply J_s1; exact rfl; exact rfl; exact rfl; infer_instance; (omega); (exact gv_setO lMx); infer_instance)
                  (apply J_nil; apply JF_end; ((repeat (apply sub_cons; (focus ((with_reducible (repeat (first | exact m0 | refine mS ?_))); done)))); exact sub_nil))
                  (apply JF_done; kernel_rfl)
                  (apply thenQ_normal; (refine entP (ent ?_ (List.nil_sublist _)) ?_; (repeat refine fr_cons rfl ?_); exact fr_nil; (repeat (exact sp_refl))))
                exact JFs_nil
              exact JFs_nil
            · rw [show low r x = x - 1 from if_pos (by omega), ← cM1]
              (refine ent ?_ ?_; (repeat refine fr_cons rfl ?_); exact fr_nil; (repeat (exact List.Sublist.refl _)))
            · rw [show low r x = x from if_neg (by omega)]
              (refine ent ?_ ?_; (repeat refine fr_cons rfl ?_); exact fr_nil; (repeat (exact List.Sublist.refl _)))
            · refine ⟨c + 1, by omega, by omega, ?_⟩
              rw [← sX, ← sO, show low r y = y - 1 from if_pos (by omega), ← cT1]
              (refine ent ?_ ?_; (repeat refine fr_cons rfl ?_); exact fr_nil; (repeat (exact List.Sublist.refl _)))
            · refine ⟨c + 1, by omega, by omega, ?_⟩
              rw [← sX, ← sO, show low r y = y from if_neg (by omega)]
              (refine ent ?_ ?_; (repeat refine fr_cons rfl ?_); exact fr_nil; (repeat (exact List.Sublist.refl _)))
        · have ecn : c = n := by omega
          rw [ecn, shT_end hi hd, shT_end hi hd]
          clear hlt hc ecn c
          have bM := isB_rmv (n := n) (i := i) (r := r) (d := d) h8 bX.2
          have bT := isB_rmv (n := n) (i := i) (r := r) (d := d) h8 bO.2
          have uE := gv_len (n := ((n - 1 : Nat) : Int)) bM.1 bT.1
          have uw : (encW i m d u).length = 4 := rfl
          by_cases hs : stbM X O i r m d u
          · have ek : q = k0 := Classical.byContradiction fun h => hno q (by omega) (by rw [hmq]; exact hs)
            have hvv := hk0 ek
            rcases hs with ⟨em, hs⟩ | ⟨em, hs⟩
            · subst em
              obtain ⟨h3, hG, hown, e1, e2⟩ := shr_ok g kX kO hi hr hd hu hs
              have hIs : ∀ w, Gives Try.prog 28 #[.agg (gv ((n - 1 : Nat) : Int) (rmv n i r d X) (rmv n i r d O)).toArray] (.bool true) w := fun w => by
                have := IsGrid_gives ((n - 1 : Nat) : Int) (rmv n i r d X) (rmv n i r d O) bM bT w
                rwa [@decide_eq_true _ (Classical.propDecidable _) hG] at this
              have hx1 := fun j (hj : j < n - 1) => col_lt1 hG hj
              have hx2 := fun j (hj : j < n - 1) => col_lt1 (okG_swap' hG) hj
              have h3 : 3 ≤ n := by have := hG.1; omega
              have hnn : n - 1 + 1 = n := by omega
              have hgr := grown0_gives (n - 1) (rmv n i r d X) (rmv n i r d O) i d u bM bT (by omega) hx1 hx2 (by omega) hd hu
              rw [hnn] at hgr
              have hgi := gv_X (n := ((n - 1 : Nat) : Int)) (O := rmv n i r d O) bM.1 (k := i) (by omega)
              have oi := bM.2 i
              rw [hown] at hgr
              rw [e1, e2] at hgr
              rw [hown] at hgi oi
              repeat' (first | (refine JC_draw (id := 19) mixed (by kernel_rfl) ?_) | (apply Jq_conv; exact rfl; exact rfl; exact wrap64_nat oi) | (apply Jq_cmp (r := true); exact rfl; exact rfl; exact rfl; exact congrArg some (decide_eq_true rfl)) | (apply Jq_eqA (r := true); exact rfl; exact rfl; exact rfl; kernel_rfl; (intro w; exact eq_gridS' _ _ _ kX kO w)) | (refine JC_cutT (x := .region 20 _ _) (Y := Unit) (fun _ => True) (fun _ => [(6, .pointer (some ⟨b6, 0, none⟩)), (7, .pointer (some ⟨b7, 0, none⟩)), (8, .bool true)]) (fun _ => [.blk b6 (gv ((n - 1 : Nat) : Int) (rmv n i r d X) (rmv n i r d O)) 27, .blk b7 (encW i 0 d u) 104]) ?_ ?_) | (apply Jq_move; exact rfl; exact rfl) | (apply Jq_load; exact rfl; exact rfl; (exact mb); (first | exact rfl | exact hgi)) | (apply Jq_fieldAddr; exact rfl; exact rfl) | (apply Jq_indexN; exact rfl; exact rfl; exact rfl; omega) | (apply Jq_cmp; exact rfl; exact rfl; exact rfl; exact rfl) | (apply Jq_pick_true; exact rfl; exact rfl; exact rfl) | (apply J_on; exact rfl; exact rfl) | (apply Jc; exact rfl; exact rfl; exact rfl; infer_instance; ((intro w hw); first | exact hIs w | exact hgr w | exact rows0_gives _ w)) | (apply Jq_loadW; exact rfl; exact rfl; (exact mb); (first | exact rfl | omega)) | (apply Jq_nilCheck; exact rfl; exact rfl) | refine thenQ_normal ?_ | refine thenQ_exit ?_ | refine inBlockQ_here ?_ | refine JC_seq ?_ | refine JC_region ?_ | refine J_nil ?_ | refine JC_exit ?_ | (apply JC_if_true; exact rfl) | (apply JC_dec_false; exact rfl; omega))
              ·
                refine JC_any (m := 5) rfl [.blk bg (gv ((n - 1 : Nat) : Int) (rmv n i r d X) (rmv n i r d O)) 27, .blk bw (encW i 0 d u) 104] mixed (by ((repeat (apply sub_cons; (focus ((with_reducible (repeat (first | exact m0 | refine mS ?_))); done)))); exact sub_nil)) ?_
                (apply JF_q 0; exact rfl; kernel_rfl; exact rfl; (intro E hE; (apply q_loadW; exact rfl; (refine hE _ ?_; exact mb); (exact rfl))))
                (apply JF_q 1; exact rfl; kernel_rfl; exact rfl; (intro E hE; (apply q_loadW; exact rfl; (refine hE _ ?_; exact mb); (exact rfl))))
                (apply JF_all [2]; kernel_rfl)
                (apply JFs_cons; exact rfl)
                · (apply J_sW; exact rfl; exact rfl; infer_instance; (exact rfl); (exact rfl); (exact ones_of rfl); infer_instance)
                  (apply J_nil; apply JF_end; ((repeat (apply sub_cons; (focus ((with_reducible (repeat (first | exact m0 | refine mS ?_))); done)))); exact sub_nil))
                  (apply JF_all [3]; kernel_rfl)
                  (apply JFs_cons; exact rfl)
                  · (apply J_sW; exact rfl; exact rfl; infer_instance; (exact rfl); (exact rfl); (exact ones_of rfl); infer_instance)
                    (apply J_nil; apply JF_end; ((repeat (apply sub_cons; (focus ((with_reducible (repeat (first | exact m0 | refine mS ?_))); done)))); exact sub_nil))
                    (apply JF_q 4; exact rfl; kernel_rfl; exact rfl; (intro E hE; (apply q_assign; exact rfl)))
                    (apply JF_done; kernel_rfl)
                    (apply thenQ_normal; refine ⟨(), trivial, ?_⟩; (refine entP (ent ?_ (List.nil_sublist _)) ?_; (repeat refine fr_cons rfl ?_); exact fr_nil; (repeat (first | exact sp_nil | (with_reducible apply sp2) | (with_reducible apply sp3)))))
                  exact JFs_nil
                exact JFs_nil
              · rintro ⟨⟩ _
                repeat' (first | refine thenQ_ret ?_ | refine inBlockQ_ret ?_ | refine JC_ret ?_)
                exact gCCT rfl rfl rfl rfl rfl mb mb uE uw hvv
            · subst em
              obtain ⟨h3, hG', hown, e1, e2⟩ := shr_ok (okG_swap' g) kO kX hi hr hd hu hs
              have hG := okG_swap' hG'
              have hIs : ∀ w, Gives Try.prog 28 #[.agg (gv ((n - 1 : Nat) : Int) (rmv n i r d X) (rmv n i r d O)).toArray] (.bool true) w := fun w => by
                have := IsGrid_gives ((n - 1 : Nat) : Int) (rmv n i r d X) (rmv n i r d O) bM bT w
                rwa [@decide_eq_true _ (Classical.propDecidable _) hG] at this
              have hx1 := fun j (hj : j < n - 1) => col_lt1 hG hj
              have hx2 := fun j (hj : j < n - 1) => col_lt1 (okG_swap' hG) hj
              have h3 : 3 ≤ n := by have := hG.1; omega
              have hnn : n - 1 + 1 = n := by omega
              have hgr := grown1_gives (n - 1) (rmv n i r d X) (rmv n i r d O) i d u bM bT (by omega) hx1 hx2 (by omega) hd hu
              rw [hnn] at hgr
              have hgi := gv_O (n := ((n - 1 : Nat) : Int)) bM.1 bT.1 (k := i) (by omega)
              have oi := bT.2 i
              rw [hown] at hgr
              rw [e1, e2] at hgr
              rw [hown] at hgi oi
              repeat' (first | (refine JC_draw (id := 19) mixed (by kernel_rfl) ?_) | (apply Jq_conv; exact rfl; exact rfl; exact wrap64_nat oi) | (apply Jq_cmp (r := true); exact rfl; exact rfl; exact rfl; exact congrArg some (decide_eq_true rfl)) | (apply Jq_eqA (r := true); exact rfl; exact rfl; exact rfl; kernel_rfl; (intro w; exact eq_gridS' _ _ _ kX kO w)) | (refine JC_cutT (x := .region 20 _ _) (Y := Unit) (fun _ => True) (fun _ => [(6, .pointer (some ⟨b6, 0, none⟩)), (7, .pointer (some ⟨b7, 0, none⟩)), (8, .bool true)]) (fun _ => [.blk b6 (gv ((n - 1 : Nat) : Int) (rmv n i r d X) (rmv n i r d O)) 27, .blk b7 (encW i 1 d u) 104]) ?_ ?_) | (apply Jq_move; exact rfl; exact rfl) | (apply Jq_load; exact rfl; exact rfl; (exact mb); (first | exact rfl | exact hgi)) | (apply Jq_fieldAddr; exact rfl; exact rfl) | (apply Jq_indexN; exact rfl; exact rfl; exact rfl; omega) | (apply Jq_cmp; exact rfl; exact rfl; exact rfl; exact rfl) | (apply Jq_pick_true; exact rfl; exact rfl; exact rfl) | (apply J_on; exact rfl; exact rfl) | (apply Jc; exact rfl; exact rfl; exact rfl; infer_instance; ((intro w hw); first | exact hIs w | exact hgr w | exact rows1_gives _ w)) | (apply Jq_loadW; exact rfl; exact rfl; (exact mb); (first | exact rfl | omega)) | (apply Jq_nilCheck; exact rfl; exact rfl) | refine thenQ_normal ?_ | refine thenQ_exit ?_ | refine inBlockQ_here ?_ | refine JC_seq ?_ | refine JC_region ?_ | refine J_nil ?_ | refine JC_exit ?_ | (apply JC_if_true; exact rfl) | (apply JC_dec_false; exact rfl; omega))
              ·
                refine JC_any (m := 5) rfl [.blk bg (gv ((n - 1 : Nat) : Int) (rmv n i r d X) (rmv n i r d O)) 27, .blk bw (encW i 1 d u) 104] mixed (by ((repeat (apply sub_cons; (focus ((with_reducible (repeat (first | exact m0 | refine mS ?_))); done)))); exact sub_nil)) ?_
                (apply JF_q 0; exact rfl; kernel_rfl; exact rfl; (intro E hE; (apply q_loadW; exact rfl; (refine hE _ ?_; exact mb); (exact rfl))))
                (apply JF_q 1; exact rfl; kernel_rfl; exact rfl; (intro E hE; (apply q_loadW; exact rfl; (refine hE _ ?_; exact mb); (exact rfl))))
                (apply JF_all [2]; kernel_rfl)
                (apply JFs_cons; exact rfl)
                · (apply J_sW; exact rfl; exact rfl; infer_instance; (exact rfl); (exact rfl); (exact ones_of rfl); infer_instance)
                  (apply J_nil; apply JF_end; ((repeat (apply sub_cons; (focus ((with_reducible (repeat (first | exact m0 | refine mS ?_))); done)))); exact sub_nil))
                  (apply JF_all [3]; kernel_rfl)
                  (apply JFs_cons; exact rfl)
                  · (apply J_sW; exact rfl; exact rfl; infer_instance; (exact rfl); (exact rfl); (exact ones_of rfl); infer_instance)
                    (apply J_nil; apply JF_end; ((repeat (apply sub_cons; (focus ((with_reducible (repeat (first | exact m0 | refine mS ?_))); done)))); exact sub_nil))
                    (apply JF_q 4; exact rfl; kernel_rfl; exact rfl; (intro E hE; (apply q_assign; exact rfl)))
                    (apply JF_done; kernel_rfl)
                    (apply thenQ_normal; refine ⟨(), trivial, ?_⟩; (refine entP (ent ?_ (List.nil_sublist _)) ?_; (repeat refine fr_cons rfl ?_); exact fr_nil; (repeat (first | exact sp_nil | (with_reducible apply sp2) | (with_reducible apply sp3)))))
                  exact JFs_nil
                exact JFs_nil
              · rintro ⟨⟩ _
                repeat' (first | refine thenQ_ret ?_ | refine inBlockQ_ret ?_ | refine JC_ret ?_)
                exact gCCT rfl rfl rfl rfl rfl mb mb uE uw hvv
          · have ek : q < k0 := by
              refine Classical.byContradiction fun h => hs ?_
              have e : q = k0 := by omega
              rw [← hmq, e]
              exact hyes (by omega)
            by_cases hG : okG ((n - 1 : Nat) : Int) (rmv n i r d X) (rmv n i r d O)
            · rcases hm2 with em | em
              · subst em
                have hIs : ∀ w, Gives Try.prog 28 #[.agg (gv ((n - 1 : Nat) : Int) (rmv n i r d X) (rmv n i r d O)).toArray] (.bool true) w := fun w => by
                  have := IsGrid_gives ((n - 1 : Nat) : Int) (rmv n i r d X) (rmv n i r d O) bM bT w
                  rwa [@decide_eq_true _ (Classical.propDecidable _) hG] at this
                have hx1 := fun j (hj : j < n - 1) => col_lt1 hG hj
                have hx2 := fun j (hj : j < n - 1) => col_lt1 (okG_swap' hG) hj
                have h3 : 3 ≤ n := by have := hG.1; omega
                have hnn : n - 1 + 1 = n := by omega
                have hgr := grown0_gives (n - 1) (rmv n i r d X) (rmv n i r d O) i d u bM bT (by omega) hx1 hx2 (by omega) hd hu
                rw [hnn] at hgr
                have hgi := gv_X (n := ((n - 1 : Nat) : Int)) (O := rmv n i r d O) bM.1 (k := i) (by omega)
                have oi := bM.2 i
                by_cases hown : (rmv n i r d X).getD i 0 = r
                · rw [hown] at hgr
                  rw [hown] at hgi oi
                  have hneq : ¬ ((n : Int) = n ∧ gMine (n - 1) i r d u (rmv n i r d X) = X ∧ gThr (n - 1) i r d u (rmv n i r d O) = O) := fun h => hs (.inl ⟨rfl, shr_conv hG h8 hi hd hu hown h.2.1 h.2.2⟩)
                  repeat' (first | (refine JC_draw (id := 19) mixed (by kernel_rfl) ?_) | (apply Jq_conv; exact rfl; exact rfl; exact wrap64_nat oi) | (apply Jq_cmp (r := true); exact rfl; exact rfl; exact rfl; exact congrArg some (decide_eq_true rfl)) | (apply Jq_eqA (r := false); exact rfl; exact rfl; exact rfl; kernel_rfl; (intro w; exact (eq_grid _ _ _ _ _ _ (tab_len _) (tab_len _) kX kO w).trans (congrArg (fun b => Result.ok b w) (decide_eq_false hneq)))) | (apply Jq_move; exact rfl; exact rfl) | (apply Jq_load; exact rfl; exact rfl; (exact mb); (first | exact rfl | exact hgi)) | (apply Jq_fieldAddr; exact rfl; exact rfl) | (apply Jq_indexN; exact rfl; exact rfl; exact rfl; omega) | (apply Jq_cmp; exact rfl; exact rfl; exact rfl; exact rfl) | (apply Jq_add; exact rfl; exact rfl; exact rfl; omega) | (apply Jq_pick_true; exact rfl; exact rfl; exact rfl) | (apply J_on; exact rfl; exact rfl) | (apply Jc; exact rfl; exact rfl; exact rfl; infer_instance; ((intro w hw); first | exact hIs w | exact hgr w | exact rows0_gives _ w)) | (apply Jq_loadW; exact rfl; exact rfl; (exact mb); (first | exact rfl | omega)) | (apply Jq_nilCheck; exact rfl; exact rfl) | refine thenQ_normal ?_ | refine thenQ_exit ?_ | refine inBlockQ_normal ?_ | refine inBlockQ_here ?_ | refine JC_seq ?_ | refine JC_region ?_ | refine J_nil ?_ | refine JC_skip ?_ | refine JC_exit ?_ | (apply JC_if_false; exact rfl) | (apply JC_dec_false; exact rfl; omega))
                  refine ⟨q + 1, by omega, by omega, ?_⟩
                  (refine ent ?_ ?_; (repeat refine fr_cons rfl ?_); exact fr_nil; (repeat (first | exact List.Sublist.refl _ | refine List.Sublist.cons _ ?_)))
                · repeat' (first | (refine JC_draw (id := 19) mixed (by kernel_rfl) ?_) | (apply Jq_conv; exact rfl; exact rfl; exact wrap64_nat oi) | (apply Jq_cmp (r := false); exact rfl; exact rfl; exact rfl; exact congrArg some (decide_eq_false (fun h => hown (by omega)))) | (apply Jq_move; exact rfl; exact rfl) | (apply Jq_load; exact rfl; exact rfl; (exact mb); (first | exact rfl | exact hgi)) | (apply Jq_fieldAddr; exact rfl; exact rfl) | (apply Jq_indexN; exact rfl; exact rfl; exact rfl; omega) | (apply Jq_add; exact rfl; exact rfl; exact rfl; omega) | (apply Jq_pick_true; exact rfl; exact rfl; exact rfl) | (apply Jq_pick_false; exact rfl; exact rfl; exact rfl) | (apply J_on; exact rfl; exact rfl) | (apply J_skip; exact rfl; exact rfl; exact rfl; exact rfl) | (apply Jc; exact rfl; exact rfl; exact rfl; infer_instance; ((intro w hw); first | exact hIs w | exact rows0_gives _ w)) | (apply Jq_loadW; exact rfl; exact rfl; (exact mb); (exact rfl)) | (apply Jq_nilCheck; exact rfl; exact rfl) | refine thenQ_normal ?_ | refine thenQ_exit ?_ | refine inBlockQ_normal ?_ | refine inBlockQ_here ?_ | refine JC_seq ?_ | refine JC_region ?_ | refine J_nil ?_ | refine JC_skip ?_ | refine JC_exit ?_ | (apply JC_if_false; exact rfl))
                  refine ⟨q + 1, by omega, by omega, ?_⟩
                  (refine ent ?_ ?_; (repeat refine fr_cons rfl ?_); exact fr_nil; (repeat (first | exact List.Sublist.refl _ | refine List.Sublist.cons _ ?_)))
              · subst em
                have hIs : ∀ w, Gives Try.prog 28 #[.agg (gv ((n - 1 : Nat) : Int) (rmv n i r d X) (rmv n i r d O)).toArray] (.bool true) w := fun w => by
                  have := IsGrid_gives ((n - 1 : Nat) : Int) (rmv n i r d X) (rmv n i r d O) bM bT w
                  rwa [@decide_eq_true _ (Classical.propDecidable _) hG] at this
                have hx1 := fun j (hj : j < n - 1) => col_lt1 hG hj
                have hx2 := fun j (hj : j < n - 1) => col_lt1 (okG_swap' hG) hj
                have h3 : 3 ≤ n := by have := hG.1; omega
                have hnn : n - 1 + 1 = n := by omega
                have hgr := grown1_gives (n - 1) (rmv n i r d X) (rmv n i r d O) i d u bM bT (by omega) hx1 hx2 (by omega) hd hu
                rw [hnn] at hgr
                have hgi := gv_O (n := ((n - 1 : Nat) : Int)) bM.1 bT.1 (k := i) (by omega)
                have oi := bT.2 i
                by_cases hown : (rmv n i r d O).getD i 0 = r
                · rw [hown] at hgr
                  rw [hown] at hgi oi
                  have hneq : ¬ ((n : Int) = n ∧ gThr (n - 1) i r d u (rmv n i r d X) = X ∧ gMine (n - 1) i r d u (rmv n i r d O) = O) := fun h => hs (.inr ⟨rfl, shr_conv (okG_swap' hG) h8 hi hd hu hown h.2.2 h.2.1⟩)
                  repeat' (first | (refine JC_draw (id := 19) mixed (by kernel_rfl) ?_) | (apply Jq_conv; exact rfl; exact rfl; exact wrap64_nat oi) | (apply Jq_cmp (r := true); exact rfl; exact rfl; exact rfl; exact congrArg some (decide_eq_true rfl)) | (apply Jq_eqA (r := false); exact rfl; exact rfl; exact rfl; kernel_rfl; (intro w; exact (eq_grid _ _ _ _ _ _ (tab_len _) (tab_len _) kX kO w).trans (congrArg (fun b => Result.ok b w) (decide_eq_false hneq)))) | (apply Jq_move; exact rfl; exact rfl) | (apply Jq_load; exact rfl; exact rfl; (exact mb); (first | exact rfl | exact hgi)) | (apply Jq_fieldAddr; exact rfl; exact rfl) | (apply Jq_indexN; exact rfl; exact rfl; exact rfl; omega) | (apply Jq_cmp; exact rfl; exact rfl; exact rfl; exact rfl) | (apply Jq_add; exact rfl; exact rfl; exact rfl; omega) | (apply Jq_pick_true; exact rfl; exact rfl; exact rfl) | (apply J_on; exact rfl; exact rfl) | (apply Jc; exact rfl; exact rfl; exact rfl; infer_instance; ((intro w hw); first | exact hIs w | exact hgr w | exact rows1_gives _ w)) | (apply Jq_loadW; exact rfl; exact rfl; (exact mb); (first | exact rfl | omega)) | (apply Jq_nilCheck; exact rfl; exact rfl) | refine thenQ_normal ?_ | refine thenQ_exit ?_ | refine inBlockQ_normal ?_ | refine inBlockQ_here ?_ | refine JC_seq ?_ | refine JC_region ?_ | refine J_nil ?_ | refine JC_skip ?_ | refine JC_exit ?_ | (apply JC_if_false; exact rfl) | (apply JC_dec_false; exact rfl; omega))
                  refine ⟨q + 1, by omega, by omega, ?_⟩
                  (refine ent ?_ ?_; (repeat refine fr_cons rfl ?_); exact fr_nil; (repeat (first | exact List.Sublist.refl _ | refine List.Sublist.cons _ ?_)))
                · repeat' (first | (refine JC_draw (id := 19) mixed (by kernel_rfl) ?_) | (apply Jq_conv; exact rfl; exact rfl; exact wrap64_nat oi) | (apply Jq_cmp (r := false); exact rfl; exact rfl; exact rfl; exact congrArg some (decide_eq_false (fun h => hown (by omega)))) | (apply Jq_move; exact rfl; exact rfl) | (apply Jq_load; exact rfl; exact rfl; (exact mb); (first | exact rfl | exact hgi)) | (apply Jq_fieldAddr; exact rfl; exact rfl) | (apply Jq_indexN; exact rfl; exact rfl; exact rfl; omega) | (apply Jq_add; exact rfl; exact rfl; exact rfl; omega) | (apply Jq_pick_true; exact rfl; exact rfl; exact rfl) | (apply Jq_pick_false; exact rfl; exact rfl; exact rfl) | (apply J_on; exact rfl; exact rfl) | (apply J_skip; exact rfl; exact rfl; exact rfl; exact rfl) | (apply Jc; exact rfl; exact rfl; exact rfl; infer_instance; ((intro w hw); first | exact hIs w | exact rows1_gives _ w)) | (apply Jq_loadW; exact rfl; exact rfl; (exact mb); (exact rfl)) | (apply Jq_nilCheck; exact rfl; exact rfl) | refine thenQ_normal ?_ | refine thenQ_exit ?_ | refine inBlockQ_normal ?_ | refine inBlockQ_here ?_ | refine JC_seq ?_ | refine JC_region ?_ | refine J_nil ?_ | refine JC_skip ?_ | refine JC_exit ?_ | (apply JC_if_false; exact rfl))
                  refine ⟨q + 1, by omega, by omega, ?_⟩
                  (refine ent ?_ ?_; (repeat refine fr_cons rfl ?_); exact fr_nil; (repeat (first | exact List.Sublist.refl _ | refine List.Sublist.cons _ ?_)))
            · have hIs : ∀ w, Gives Try.prog 28 #[.agg (gv ((n - 1 : Nat) : Int) (rmv n i r d X) (rmv n i r d O)).toArray] (.bool false) w := fun w => by
                have := IsGrid_gives ((n - 1 : Nat) : Int) (rmv n i r d X) (rmv n i r d O) bM bT w
                rwa [@decide_eq_false _ (Classical.propDecidable _) hG] at this
              repeat' (first | (refine JC_draw (id := 19) mixed (by kernel_rfl) ?_) | (apply Jq_move; exact rfl; exact rfl) | (apply Jq_cmp; exact rfl; exact rfl; exact rfl; exact rfl) | (apply Jq_add; exact rfl; exact rfl; exact rfl; omega) | (apply Jq_pick_false; exact rfl; exact rfl; exact rfl) | (apply J_skip; exact rfl; exact rfl; exact rfl; exact rfl) | (apply Jc; exact rfl; exact rfl; exact rfl; infer_instance; ((intro w hw); exact hIs w)) | (apply Jq_loadW; exact rfl; exact rfl; (exact mb); (exact rfl)) | refine thenQ_normal ?_ | refine thenQ_exit ?_ | refine inBlockQ_normal ?_ | refine inBlockQ_here ?_ | refine JC_seq ?_ | refine JC_region ?_ | refine J_nil ?_ | refine JC_skip ?_ | refine JC_exit ?_ | (apply JC_if_false; exact rfl) | (apply JC_dec_false; exact rfl; omega))
              refine ⟨q + 1, by omega, by omega, ?_⟩
              (refine ent ?_ ?_; (repeat refine fr_cons rfl ?_); exact fr_nil; (repeat (first | exact List.Sublist.refl _ | refine List.Sublist.cons _ ?_)))
    · have e8 : k0 = 8 := by omega
      have hvv := hv2 e8
      repeat' (first | (apply Jq_assign; exact rfl; exact rfl) | (apply Jq_cmp; exact rfl; exact rfl; exact rfl; exact rfl) | (apply J_sW; exact rfl; exact rfl; infer_instance; (exact rfl); (exact rfl); (exact ones_of rfl); infer_instance) | (apply Jz (cs := gv 0 Z8 Z8); exact rfl; exact rfl) | (apply Jz (cs := encW 0 0 0 0); exact rfl; exact rfl) | refine thenQ_normal ?_ | refine thenQ_exit ?_ | refine inBlockQ_here ?_ | refine JC_seq ?_ | refine JC_region ?_ | refine J_nil ?_ | refine JC_ret ?_ | refine JC_exit ?_ | (apply JC_dec_false; exact rfl; omega))
      exact gCCT rfl rfl rfl rfl rfl mb mb uz uw0 hvv
theorem shrunk_yes (n : Nat) (X O : List Nat) (i r m d u : Nat) (bX : isB X) (bO : isB O) (g : okG (n : Int) X O) (hi : i + 1 < n) (hr : r + 1 < n) (hm : m ≤ 1) (hd : d ≤ 1) (hu : u ≤ 1) (s : stbM X O i r m d u) (w : World) :
    Gives Try.prog 78 #[.agg (gv n X O).toArray, .int .i64 (i : Int), .int .i64 (r : Int)] (.tuple #[.agg (gv ((n - 1 : Nat) : Int) (rmv n i r d X) (rmv n i r d O)).toArray, .agg (encW i m d u).toArray, .bool true]) w := by
  have e1 : (m + 2 * d + 4 * u) % 2 = m := by omega
  have e2 : (m + 2 * d + 4 * u) / 2 % 2 = d := by omega
  have e3 : (m + 2 * d + 4 * u) / 4 = u := by omega
  refine shrunk_walk n X O i r (m + 2 * d + 4 * u) bX bO g hi hr (by omega) (fun q hq hm' => ?_) (fun _ => ?_) _ (fun _ => by rw [e1, e2, e3]) (fun h => by omega) w
  · have := stbM_uniq g hi hd hu (by omega) (by omega) s hm'
    omega
  · unfold mch
    rw [e1, e2, e3]
    exact s
theorem shrunk_no (n : Nat) (X O : List Nat) (i r : Nat) (bX : isB X) (bO : isB O) (g : okG (n : Int) X O) (hi : i + 1 < n) (hr : r + 1 < n) (hno : ∀ m d u, m ≤ 1 → d ≤ 1 → u ≤ 1 → ¬ stbM X O i r m d u) (w : World) :
    Gives Try.prog 78 #[.agg (gv n X O).toArray, .int .i64 (i : Int), .int .i64 (r : Int)] (.tuple #[.agg (gv 0 Z8 Z8).toArray, .agg (encW 0 0 0 0).toArray, .bool false]) w :=
  shrunk_walk n X O i r 8 bX bO g hi hr (by omega) (fun q hq => hno _ _ _ (by omega) (by omega) (by omega)) (fun h => absurd h (by omega)) _ (fun h => absurd h (by omega)) (fun _ => rfl) w
end Go.Proofs.Ytflleelfkknfaaa
