/- Walks: exchanged columns and rows, in both texts; the reference's grid without a column and a row. -/
import Derived.Test.YtflleelfkknfaaaMD
import Derived.Test.YtflleelfkknfaaaWL
namespace Go.Proofs.Ytflleelfkknfaaa
open Go Go.RowKit SL
namespace SL
section
variable {P : Program} {B : Nat} {w0 : World} {n : Nat} {Q : Po} {F : Fr} {H : Hp} {ops : Array Oper} {l : List Oper} {ty : TypeId} {pos : String} {af : Array Edge} {d : Nat}
theorem Jq_fun1 {dr : Bool} {fn : Fn} {x : Operand} {v : Value} (hdn : Nat.blt d n = true) (hx : ev F x = some v) (kk : J dr P B w0 n ops Q l ((d, .func fn #[] #[v]) :: F) H) :
    J dr P B w0 n ops Q (⟨some d, .makeFunc fn #[] #[x], ty, pos, af, none⟩ :: l) F H :=
  J_q hdn (q_makeFunc (fun a ha => by simp) (fun a ha => by simp [ha.ev hx])) kk
end
end SL
theorem isB_swC {X : List Nat} {i : Nat} (h : isB X) (hi : i + 1 < 8) : isB (swC X i) := ⟨swC_len.trans h.1, fun j => by
  rw [swC_get h.1 hi]
  split
  · exact h.2 i
  · split
    · exact h.2 _
    · exact h.2 j⟩
set_option maxRecDepth 100000 in
theorem swCS_gives (n : Int) (X O : List Nat) (i : Nat) (bX : isB X) (bO : isB O) (hi : i + 1 < 8) (w : World) :
    Gives Try.prog 68 #[.agg (gv n X O).toArray, .int .i64 (i : Int)] (.agg (gv n (swC X i) (swC O i)).toArray) w := by
  have kX := bX.1
  have kO := bO.1
  have ug := gv_len (n := n) kX kO
  have lX : (X.set i (X.getD (i + 1) 0)).length = 8 := (List.length_set ..).trans kX
  have lO : (O.set i (O.getD (i + 1) 0)).length = 8 := (List.length_set ..).trans kO
  have l1 : (swC X i).length = 8 := swC_len.trans kX
  have l2 : (swC O i).length = 8 := swC_len.trans kO
  have u1 := gv_len (n := n) lX kO
  have u2 := gv_len (n := n) lX lO
  have u3 : (gv n ((X.set i (X.getD (i + 1) 0)).set (i + 1) (X.getD i 0)) (O.set i (O.getD (i + 1) 0))).length = 17 := gv_len (n := n) l1 lO
  have u4 : (gv n ((X.set i (X.getD (i + 1) 0)).set (i + 1) (X.getD i 0)) ((O.set i (O.getD (i + 1) 0)).set (i + 1) (O.getD i 0))).length = 17 := gv_len (n := n) l1 l2
  have g1 : ∀ v, (X.set i v).getD (i + 1) 0 = X.getD (i + 1) 0 := fun v => by rw [getD_set8' kX (by omega), if_neg (by omega)]
  have e1 : (i : Int) + 1 = ((i + 1 : Nat) : Int) := rfl
  refine gives_of (args := [.agg (gv n X O).toArray, .int .i64 (i : Int)]) [(0, .agg (gv n X O).toArray), (1, .int .i64 (i : Int))] [] Try.func68 rfl Try.ntmps68 rfl (argsF_cons rfl (argsF_cons rfl argsF_nil)) (Holds.start w) ?_
  repeat' (first | (apply Jq_addR; exact rfl; exact rfl; exact rfl; omega; exact e1) | (apply Jq_move; exact rfl; exact rfl) | (apply Jq_assign; exact rfl; exact rfl) | (apply Jq_load; exact rfl; exact rfl; (exact mb); (first | (refine gv_X kX ?_; omega) | (refine gv_O kX kO ?_; omega) | (refine gv_O lX kO ?_; omega))) | (apply Jq_fieldAddr; exact rfl; exact rfl) | (apply Jq_indexN; exact rfl; exact rfl; exact rfl; omega) | (apply Jq_loadW; exact rfl; exact rfl; (exact mb); (omega)) | (apply J_s1; exact rfl; exact rfl; exact rfl; infer_instance; (omega); (first | (refine gv_setX kX ?_; omega) | exact gv_setO lX | (refine gv_setX lX ?_; omega) | exact gv_setO l1); infer_instance) | (apply J_sW; exact rfl; exact rfl; infer_instance; (exact rfl); (omega); (exact gv_one _ _ _); infer_instance) | (apply J_box; exact rfl; exact rfl; exact rfl; (intro _)) | (apply J_alloc (cs := gv 0 Z8 Z8); exact rfl; exact rfl; (intro _)) | refine thenQ_normal ?_ | refine JC_seq ?_ | refine JC_region ?_ | (apply JC_draw mixed; kernel_rfl) | refine J_nil ?_ | refine JC_ret ?_)
  exact gC rfl rfl rfl mb u4 rfl
set_option maxRecDepth 100000 in
theorem swCI_gives (n : Int) (X O : List Nat) (i : Nat) (bX : isB X) (bO : isB O) (hi : i + 1 < 8) (w : World) :
    Gives Try.prog 74 #[.agg (gv n X O).toArray, .int .i64 (i : Int)] (.agg (gv n (swC X i) (swC O i)).toArray) w := by
  have kX := bX.1
  have kO := bO.1
  have ug := gv_len (n := n) kX kO
  have lX : (X.set i (X.getD (i + 1) 0)).length = 8 := (List.length_set ..).trans kX
  have lX' : (X.set (i + 1) (X.getD i 0)).length = 8 := (List.length_set ..).trans kX
  have lO : (O.set i (O.getD (i + 1) 0)).length = 8 := (List.length_set ..).trans kO
  have lO' : (O.set (i + 1) (O.getD i 0)).length = 8 := (List.length_set ..).trans kO
  have l1 : (swC X i).length = 8 := swC_len.trans kX
  have l2 : (swC O i).length = 8 := swC_len.trans kO
  have u1 := gv_len (n := n) lX kO
  have u1' := gv_len (n := n) lX' kO
  have u3 := gv_len (n := n) l1 kO
  have u2 := gv_len (n := n) l1 lO
  have u2' := gv_len (n := n) l1 lO'
  have u4 := gv_len (n := n) l1 l2
  have cX : (X.set (i + 1) (X.getD i 0)).set i (X.getD (i + 1) 0) = swC X i := List.set_comm _ _ (by omega)
  have cO : (O.set (i + 1) (O.getD i 0)).set i (O.getD (i + 1) 0) = swC O i := List.set_comm _ _ (by omega)
  have e1 : (i : Int) + 1 = ((i + 1 : Nat) : Int) := rfl
  refine gives_of (args := [.agg (gv n X O).toArray, .int .i64 (i : Int)]) [(0, .agg (gv n X O).toArray), (1, .int .i64 (i : Int))] [] Try.func74 rfl Try.ntmps74 rfl (argsF_cons rfl (argsF_cons rfl argsF_nil)) (Holds.start w) ?_
  repeat' (first | (apply J_box; exact rfl; exact rfl; exact rfl; (intro _)) | (apply J_alloc (cs := gv 0 Z8 Z8); exact rfl; exact rfl; (intro _)) | refine thenQ_normal ?_ | refine JC_seq ?_ | refine JC_region ?_ | refine J_nil ?_)
  rename_i b2 b4
  repeat' (first | (refine JC_cut1 (x := .region 1 _ _) [(1, .int .i64 (i : Int)), (2, .pointer (some ⟨b2, 0, none⟩)), (4, .pointer (some ⟨b4, 0, none⟩))] [.blk b2 (gv n (swC X i) O) 27, .blk b4 (gv 0 Z8 Z8) 27] ?_ ?_) | (refine JC_cut1 (x := .region 2 _ _) [(2, .pointer (some ⟨b2, 0, none⟩)), (4, .pointer (some ⟨b4, 0, none⟩))] [.blk b2 (gv n (swC X i) (swC O i)) 27, .blk b4 (gv 0 Z8 Z8) 27] ?_ ?_) | (apply Jq_loadW; exact rfl; exact rfl; (exact mb); (omega)) | (apply J_sW; exact rfl; exact rfl; infer_instance; (exact rfl); (omega); (exact gv_one _ _ _); infer_instance) | refine thenQ_normal ?_ | refine JC_seq ?_ | refine JC_region ?_ | refine J_nil ?_ | refine JC_ret ?_)
  ·
    refine JC_any (m := 18) rfl [] mixed (by exact sub_nil) ?_
    (apply JF_q 0; exact rfl; kernel_rfl; exact rfl; (intro E hE; (apply q_move; exact rfl)))
    (apply JF_q 1; exact rfl; kernel_rfl; exact rfl; (intro E hE; (apply q_move; exact rfl)))
    (apply JF_q 2; exact rfl; kernel_rfl; exact rfl; (intro E hE; (apply q_addR; exact rfl; exact rfl; omega; exact e1)))
    (apply JF_q 3; exact rfl; kernel_rfl; exact rfl; (intro E hE; (apply q_move; exact rfl)))
    (apply JF_q 4; exact rfl; kernel_rfl; exact rfl; (intro E hE; (apply q_addR; exact rfl; exact rfl; omega; exact e1)))
    (apply JF_q 5; exact rfl; kernel_rfl; exact rfl; (intro E hE; (apply q_fieldAddr; exact rfl)))
    (apply JF_q 6; exact rfl; kernel_rfl; exact rfl; (intro E hE; (apply q_indexN; exact rfl; exact rfl; omega)))
    (apply JF_q 8; exact rfl; kernel_rfl; exact rfl; (intro E hE; (apply q_move; exact rfl)))
    (apply JF_q 9; exact rfl; kernel_rfl; exact rfl; (intro E hE; (apply q_fieldAddr; exact rfl)))
    (apply JF_q 10; exact rfl; kernel_rfl; exact rfl; (intro E hE; (apply q_indexN; exact rfl; exact rfl; omega)))
    (apply JF_q 12; exact rfl; kernel_rfl; exact rfl; (intro E hE; (apply q_fieldAddr; exact rfl)))
    (apply JF_q 15; exact rfl; kernel_rfl; exact rfl; (intro E hE; (apply q_fieldAddr; exact rfl)))
    (apply JF_all [7, 11]; kernel_rfl)
    (apply JFs_cons; exact rfl)
    · (apply Jq_load; exact rfl; exact rfl; exact mb; (refine gv_X kX ?_; omega))
      (apply J_nil; apply JF_end; exact sub_nil)
      (apply JF_all [11]; kernel_rfl)
      (apply JFs_cons; exact rfl)
      · (apply Jq_load; exact rfl; exact rfl; exact mb; (refine gv_X kX ?_; omega))
        (apply J_nil; apply JF_end; exact sub_nil)
        (apply JF_q 13; exact rfl; kernel_rfl; exact rfl; (intro E hE; (apply q_indexN; exact rfl; exact rfl; omega)))
        (apply JF_all [14]; kernel_rfl)
        (apply JFs_cons; exact rfl)
        · (apply J_s1; exact rfl; exact rfl; exact rfl; infer_instance; (omega); (refine gv_setX kX ?_; omega); infer_instance)
          (apply J_nil; apply JF_end; exact sub_nil)
          (apply JF_q 16; exact rfl; kernel_rfl; exact rfl; (intro E hE; (apply q_indexN; exact rfl; exact rfl; omega)))
          (apply JF_all [17]; kernel_rfl)
          (apply JFs_cons; exact rfl)
          · (apply J_s1; exact rfl; exact rfl; exact rfl; infer_instance; (omega); (refine gv_setX lX ?_; omega); infer_instance)
            (apply J_nil; apply JF_end; exact sub_nil)
            (apply JF_done; kernel_rfl)
            (apply thenQ_normal; (refine entP (ent ?_ (List.nil_sublist _)) ?_; (repeat refine fr_cons rfl ?_); exact fr_nil; (repeat (first | exact sp_refl | apply sp1))))
          exact JFs_nil
        exact JFs_nil
      exact JFs_nil
    (apply JFs_cons; exact rfl)
    · (apply Jq_load; exact rfl; exact rfl; exact mb; (refine gv_X kX ?_; omega))
      (apply J_nil; apply JF_end; exact sub_nil)
      (apply JF_all [7]; kernel_rfl)
      (apply JFs_cons; exact rfl)
      · (apply Jq_load; exact rfl; exact rfl; exact mb; (refine gv_X kX ?_; omega))
        (apply J_nil; apply JF_end; exact sub_nil)
        (apply JF_q 13; exact rfl; kernel_rfl; exact rfl; (intro E hE; (apply q_indexN; exact rfl; exact rfl; omega)))
        (apply JF_all [14]; kernel_rfl)
        (apply JFs_cons; exact rfl)
        · (apply J_s1; exact rfl; exact rfl; exact rfl; infer_instance; (omega); (refine gv_setX kX ?_; omega); infer_instance)
          (apply J_nil; apply JF_end; exact sub_nil)
          (apply JF_q 16; exact rfl; kernel_rfl; exact rfl; (intro E hE; (apply q_indexN; exact rfl; exact rfl; omega)))
          (apply JF_all [17]; kernel_rfl)
          (apply JFs_cons; exact rfl)
          · (apply J_s1; exact rfl; exact rfl; exact rfl; infer_instance; (omega); (refine gv_setX lX ?_; omega); infer_instance)
            (apply J_nil; apply JF_end; exact sub_nil)
            (apply JF_done; kernel_rfl)
            (apply thenQ_normal; (refine entP (ent ?_ (List.nil_sublist _)) ?_; (repeat refine fr_cons rfl ?_); exact fr_nil; (repeat (first | exact sp_refl | apply sp1))))
          exact JFs_nil
        exact JFs_nil
      exact JFs_nil
    exact JFs_nil
  ·
    refine JC_any (m := 18) rfl [] mixed (by exact sub_nil) ?_
    (apply JF_q 0; exact rfl; kernel_rfl; exact rfl; (intro E hE; (apply q_move; exact rfl)))
    (apply JF_q 1; exact rfl; kernel_rfl; exact rfl; (intro E hE; (apply q_move; exact rfl)))
    (apply JF_q 2; exact rfl; kernel_rfl; exact rfl; (intro E hE; (apply q_addR; exact rfl; exact rfl; omega; exact e1)))
    (apply JF_q 3; exact rfl; kernel_rfl; exact rfl; (intro E hE; (apply q_move; exact rfl)))
    (apply JF_q 4; exact rfl; kernel_rfl; exact rfl; (intro E hE; (apply q_addR; exact rfl; exact rfl; omega; exact e1)))
    (apply JF_q 5; exact rfl; kernel_rfl; exact rfl; (intro E hE; (apply q_fieldAddr; exact rfl)))
    (apply JF_q 6; exact rfl; kernel_rfl; exact rfl; (intro E hE; (apply q_indexN; exact rfl; exact rfl; omega)))
    (apply JF_q 8; exact rfl; kernel_rfl; exact rfl; (intro E hE; (apply q_move; exact rfl)))
    (apply JF_q 9; exact rfl; kernel_rfl; exact rfl; (intro E hE; (apply q_fieldAddr; exact rfl)))
    (apply JF_q 10; exact rfl; kernel_rfl; exact rfl; (intro E hE; (apply q_indexN; exact rfl; exact rfl; omega)))
    (apply JF_q 12; exact rfl; kernel_rfl; exact rfl; (intro E hE; (apply q_fieldAddr; exact rfl)))
    (apply JF_q 15; exact rfl; kernel_rfl; exact rfl; (intro E hE; (apply q_fieldAddr; exact rfl)))
    (apply JF_all [7, 11]; kernel_rfl)
    (apply JFs_cons; exact rfl)
    · (apply Jq_load; exact rfl; exact rfl; exact mb; (refine gv_O l1 kO ?_; omega))
      (apply J_nil; apply JF_end; exact sub_nil)
      (apply JF_all [11]; kernel_rfl)
      (apply JFs_cons; exact rfl)
      · (apply Jq_load; exact rfl; exact rfl; exact mb; (refine gv_O l1 kO ?_; omega))
        (apply J_nil; apply JF_end; exact sub_nil)
        (apply JF_q 13; exact rfl; kernel_rfl; exact rfl; (intro E hE; (apply q_indexN; exact rfl; exact rfl; omega)))
        (apply JF_all [14]; kernel_rfl)
        (apply JFs_cons; exact rfl)
        · (apply J_s1; exact rfl; exact rfl; exact rfl; infer_instance; (omega); (exact gv_setO l1); infer_instance)
          (apply J_nil; apply JF_end; exact sub_nil)
          (apply JF_q 16; exact rfl; kernel_rfl; exact rfl; (intro E hE; (apply q_indexN; exact rfl; exact rfl; omega)))
          (apply JF_all [17]; kernel_rfl)
          (apply JFs_cons; exact rfl)
          · (apply J_s1; exact rfl; exact rfl; exact rfl; infer_instance; (omega); (exact gv_setO l1); infer_instance)
            (apply J_nil; apply JF_end; exact sub_nil)
            (apply JF_done; kernel_rfl)
            (apply thenQ_normal; (refine entP (ent ?_ (List.nil_sublist _)) ?_; (repeat refine fr_cons rfl ?_); exact fr_nil; (repeat (exact sp_refl))))
          exact JFs_nil
        exact JFs_nil
      exact JFs_nil
    (apply JFs_cons; exact rfl)
    · (apply Jq_load; exact rfl; exact rfl; exact mb; (refine gv_O l1 kO ?_; omega))
      (apply J_nil; apply JF_end; exact sub_nil)
      (apply JF_all [7]; kernel_rfl)
      (apply JFs_cons; exact rfl)
      · (apply Jq_load; exact rfl; exact rfl; exact mb; (refine gv_O l1 kO ?_; omega))
        (apply J_nil; apply JF_end; exact sub_nil)
        (apply JF_q 13; exact rfl; kernel_rfl; exact rfl; (intro E hE; (apply q_indexN; exact rfl; exact rfl; omega)))
        (apply JF_all [14]; kernel_rfl)
        (apply JFs_cons; exact rfl)
        · (apply J_s1; exact rfl; exact rfl; exact rfl; infer_instance; (omega); (exact gv_setO l1); infer_instance)
          (apply J_nil; apply JF_end; exact sub_nil)
          (apply JF_q 16; exact rfl; kernel_rfl; exact rfl; (intro E hE; (apply q_indexN; exact rfl; exact rfl; omega)))
          (apply JF_all [17]; kernel_rfl)
          (apply JFs_cons; exact rfl)
          · (apply J_s1; exact rfl; exact rfl; exact rfl; infer_instance; (omega); (exact gv_setO l1); infer_instance)
            (apply J_nil; apply JF_end; exact sub_nil)
            (apply JF_done; kernel_rfl)
            (apply thenQ_normal; (refine entP (ent ?_ (List.nil_sublist _)) ?_; (repeat refine fr_cons rfl ?_); exact fr_nil; (repeat (exact sp_refl))))
          exact JFs_nil
        exact JFs_nil
      exact JFs_nil
    exact JFs_nil
  · exact gC rfl rfl rfl mb u4 rfl
theorem swR_len {n r : Nat} {X : List Nat} : (swR n r X).length = 8 := tab_len _
theorem isB_swR {n r : Nat} {X : List Nat} (h8 : n ≤ 8) (hr : r + 1 < n) (p : isPerm X n) : isB (swR n r X) := by
  refine ⟨swR_len, fun j => ?_⟩
  unfold swR
  by_cases hj : j < 8
  · rw [tab_get _ hj]
    split
    · have := swr_lt hr (p.1 j (by assumption))
      omega
    · decide
  · rw [tab_out _ (by omega)]; decide
set_option maxRecDepth 100000 in
theorem swRS_gives (n : Nat) (X O : List Nat) (r : Nat) (bX : isB X) (bO : isB O) (g : okG (n : Int) X O) (hr : r + 1 < n) (w : World) :
    Gives Try.prog 69 #[.agg (gv n X O).toArray, .int .i64 (r : Int)] (.agg (gv n (swR n r X) (swR n r O)).toArray) w := by
  have kX := bX.1
  have kO := bO.1
  have ug := gv_len (n := (n : Int)) kX kO
  have h8 : n ≤ 8 := by have := g.1; omega
  obtain ⟨-, pX, pO, -⟩ := g
  rw [Int.toNat_natCast] at pX pO
  have e1 : (r : Int) + 1 = ((r + 1 : Nat) : Int) := rfl
  refine gives_of (args := [.agg (gv n X O).toArray, .int .i64 (r : Int)]) [(0, .agg (gv n X O).toArray), (1, .int .i64 (r : Int))] [] Try.func69 rfl Try.ntmps69 rfl (argsF_cons rfl (argsF_cons rfl argsF_nil)) (Holds.start w) ?_
  repeat' (first | (apply Jq_addR; exact rfl; exact rfl; exact rfl; omega; exact e1) | (apply Jq_conv; exact rfl; exact rfl; exact wrap8 (by omega)) | (apply Jq_move; exact rfl; exact rfl) | (apply Jq_assign; exact rfl; exact rfl) | (apply J_box; exact rfl; exact rfl; exact rfl; (intro _)) | (apply J_alloc (cs := gv 0 Z8 Z8); exact rfl; exact rfl; (intro _)) | refine thenQ_normal ?_ | refine JC_seq ?_ | refine JC_region ?_ | refine J_nil ?_ | refine JC_block ?_)
  rename_i b2 b4
  refine JC_loop (X := Nat) (fun k => k ≤ n) (fun k => [(7, .int .i64 (k : Int)), (5, .int .u8 (r : Int)), (6, .int .u8 ((r + 1 : Nat) : Int)), (2, .pointer (some ⟨b2, 0, none⟩)), (4, .pointer (some ⟨b4, 0, none⟩))])
    (fun k => [.blk b4 (gv 0 Z8 Z8) 27, .blk b2 (gv n (swP r X k) (swP r O k)) 27]) (fun k => n - k) 0 (Nat.zero_le _) ?_ ?_
  · rw [swP_zero kX, swP_zero kO]
    (refine ent ?_ ?_; (repeat refine fr_cons rfl ?_); exact fr_nil; (repeat (exact List.Sublist.refl _)))
  · intro k hk
    by_cases hlt : k < n
    · have sX := swP_set (r := r) (X := X) (k := k) (by omega)
      have sO := swP_set (r := r) (X := O) (k := k) (by omega)
      have aX := swP_at (r := r) (X := X) (k := k) (by omega)
      have aO := swP_at (r := r) (X := O) (k := k) (by omega)
      have mX := swP_same (r := r) (X := X) (k := k) (by omega)
      have mO := swP_same (r := r) (X := O) (k := k) (by omega)
      have lM := swP_len (r := r) (X := X) (k := k)
      have lT := swP_len (r := r) (X := O) (k := k)
      have lM' := swP_len (r := r) (X := X) (k := k + 1)
      have lT' := swP_len (r := r) (X := O) (k := k + 1)
      have hsx : swr r (X.getD k 0) = if X.getD k 0 = r then r + 1 else if X.getD k 0 = r + 1 then r else X.getD k 0 := rfl
      have hsy : swr r (O.getD k 0) = if O.getD k 0 = r then r + 1 else if O.getD k 0 = r + 1 then r else O.getD k 0 := rfl
      generalize hM' : swP r X (k + 1) = M' at *
      generalize hT' : swP r O (k + 1) = T' at *
      generalize swP r X k = M at *
      generalize swP r O k = T at *
      generalize swr r (X.getD k 0) = x' at *
      generalize swr r (O.getD k 0) = y' at *
      generalize X.getD k 0 = x at *
      generalize O.getD k 0 = y at *
      have hgx := gv_X (n := (n : Int)) (O := T) lM (k := k) (by omega)
      rw [aX] at hgx
      have hgy := gv_O (n := (n : Int)) lM' lT (k := k) (by omega)
      rw [aO] at hgy
      have g1 := gv_len (n := (n : Int)) lM lT
      have g2 := gv_len (n := (n : Int)) lM' lT
      have g3 := gv_len (n := (n : Int)) lM' lT'
      repeat' (first | (refine JC_cut1 (x := .seq (.region 5 _ _) _) [(7, .int .i64 (k : Int)), (5, .int .u8 (r : Int)), (6, .int .u8 ((r + 1 : Nat) : Int)), (2, .pointer (some ⟨b2, 0, none⟩)), (4, .pointer (some ⟨b4, 0, none⟩))] [.blk b4 (gv 0 Z8 Z8) 27, .blk b2 (gv n M' T) 27] ?_ ?_) | (apply Jq_move; exact rfl; exact rfl) | (apply Jq_assign; exact rfl; exact rfl) | (apply Jq_load; exact rfl; exact rfl; (exact mb); (first | exact rfl | exact hgx | exact hgy)) | (apply Jq_fieldAddr; exact rfl; exact rfl) | (apply Jq_indexN; exact rfl; exact rfl; exact rfl; omega) | (apply Jq_cmp; exact rfl; exact rfl; exact rfl; exact rfl) | (apply Jq_add; exact rfl; exact rfl; exact rfl; omega) | (apply J_s1; exact rfl; exact rfl; exact rfl; infer_instance; (omega); (first | (refine gv_setX lM ?_; omega) | exact gv_setO lM'); infer_instance) | refine thenQ_normal ?_ | refine inBlockQ_normal ?_ | refine JC_seq ?_ | refine JC_region ?_ | refine J_nil ?_ | refine JC_block ?_ | refine JC_skip ?_ | (apply JC_dec_true; exact rfl; omega) | refine JC_dec rfl (fun _ => ?_) (fun _ => ?_))
      · rw [show M' = M.set k (r + 1) by rw [← sX, show x' = r + 1 from hsx.trans (if_pos (by omega))]]
        (refine ent ?_ ?_; (repeat refine fr_cons rfl ?_); exact fr_nil; (repeat (exact List.Sublist.refl _)))
      · rw [show M' = M.set k r by rw [← sX, show x' = r from hsx.trans ((if_neg (by omega)).trans (if_pos (by omega)))]]
        (refine ent ?_ ?_; (repeat refine fr_cons rfl ?_); exact fr_nil; (repeat (exact List.Sublist.refl _)))
      · rw [← mX (hsx.trans ((if_neg (by omega)).trans (if_neg (by omega))))]
        (refine ent ?_ ?_; (repeat refine fr_cons rfl ?_); exact fr_nil; (repeat (exact List.Sublist.refl _)))
      · refine ⟨k + 1, by omega, by omega, ?_⟩
        rw [hM', hT', show T' = T.set k (r + 1) by rw [← sO, show y' = r + 1 from hsy.trans (if_pos (by omega))]]
        (refine ent ?_ ?_; (repeat refine fr_cons rfl ?_); exact fr_nil; (repeat (exact List.Sublist.refl _)))
      · refine ⟨k + 1, by omega, by omega, ?_⟩
        rw [hM', hT', show T' = T.set k r by rw [← sO, show y' = r from hsy.trans ((if_neg (by omega)).trans (if_pos (by omega)))]]
        (refine ent ?_ ?_; (repeat refine fr_cons rfl ?_); exact fr_nil; (repeat (exact List.Sublist.refl _)))
      · refine ⟨k + 1, by omega, by omega, ?_⟩
        rw [hM', hT', ← mO (hsy.trans ((if_neg (by omega)).trans (if_neg (by omega))))]
        (refine ent ?_ ?_; (repeat refine fr_cons rfl ?_); exact fr_nil; (repeat (exact List.Sublist.refl _)))
    · have ekn : k = n := by omega
      rw [ekn, swP_end pX, swP_end pO]
      have uE := gv_len (n := (n : Int)) (swR_len (n := n) (r := r) (X := X)) (swR_len (n := n) (r := r) (X := O))
      repeat' (first | (apply Jq_move; exact rfl; exact rfl) | (apply Jq_load; exact rfl; exact rfl; (exact mb); (exact rfl)) | (apply Jq_fieldAddr; exact rfl; exact rfl) | (apply Jq_cmp; exact rfl; exact rfl; exact rfl; exact rfl) | (apply Jq_loadW; exact rfl; exact rfl; (exact mb); (exact rfl)) | (apply J_sW; exact rfl; exact rfl; infer_instance; (exact rfl); (exact rfl); (exact ones_of rfl); infer_instance) | refine thenQ_normal ?_ | refine thenQ_exit ?_ | refine inBlockQ_here ?_ | refine JC_seq ?_ | refine JC_region ?_ | refine J_nil ?_ | refine JC_ret ?_ | refine JC_exit ?_ | (apply JC_dec_false; exact rfl; omega))
      exact gC rfl rfl rfl mb uE rfl
set_option maxRecDepth 100000 in
theorem led_rows (n r k : Nat) (caps : List Value) (X O : List Nat) (hk : Runs Try.prog k) (bX : isB X) (bO : isB O) (g : okG (n : Int) X O) (hr : r + 1 < n) (w : World)
    (h : ∀ i x, i < n → x < n → ∀ w', Blw w.heap.size w w' → Gives Try.prog k (([.int .i64 (i : Int), .int .i64 (x : Int)] : List Value) ++ caps).toArray (.tuple #[.int .i64 (i : Int), .int .i64 ((swr r x : Nat) : Int)]) w') :
    Gives Try.prog 63 #[.agg (gv n X O).toArray, .func (.func k) #[] caps.toArray, .bool false] (.agg (gv n (swR n r X) (swR n r O)).toArray) w := by
  have ug := gv_len (n := n) bX.1 bO.1
  have lX := bX.1
  have lO := bO.1
  obtain ⟨⟨h2, h8⟩, pX, pO, hne⟩ := g
  simp only [Int.toNat_natCast] at pX pO hne
  refine gives_of (args := [.agg (gv n X O).toArray, .func (.func k) #[] caps.toArray, .bool false]) [(0, .agg (gv n X O).toArray), (1, .func (.func k) #[] caps.toArray), (2, .bool false)] [] Try.func63 rfl Try.ntmps63 rfl (argsF_cons rfl (argsF_cons rfl (argsF_cons rfl argsF_nil))) (Holds.start w) ?_
  repeat' (first | (apply Jq_build1; exact rfl; exact rfl; exact built_grid n) | (apply Jq_move; exact rfl; exact rfl) | (apply Jq_assign; exact rfl; exact rfl) | (apply Jq_load; exact rfl; exact rfl; (exact mb); (exact rfl)) | (apply Jq_fieldAddr; exact rfl; exact rfl) | (apply Jc; exact rfl; exact rfl; exact rfl; infer_instance; ((intro w hw); exact n_gives n X O w)) | (apply Jq_loadW; exact rfl; exact rfl; (exact mb); (omega)) | (apply J_sW; exact rfl; exact rfl; infer_instance; (exact rfl); (exact rfl); (exact ones_of rfl); infer_instance) | (apply J_box; exact rfl; exact rfl; exact rfl; (intro _)) | (apply J_alloc (cs := gv 0 Z8 Z8); exact rfl; exact rfl; (intro _)) | refine thenQ_normal ?_ | refine JC_seq ?_ | refine JC_region ?_ | refine J_nil ?_ | refine JC_block ?_ | refine JC_skip ?_ | (apply JC_if_false; exact rfl))
  rename_i b3 b6 b7
  refine JC_loop (X := Nat) (fun j => j ≤ n) (fun j => [(23, .int .i64 (j : Int)), (22, .int .i64 (n : Int)), (1, .func (.func k) #[] caps.toArray), (3, .pointer (some ⟨b3, 0, none⟩)), (6, .pointer (some ⟨b6, 0, none⟩)), (7, .pointer (some ⟨b7, 0, none⟩)), (8, .pointer (some ⟨b7, 0 + 1, none⟩)), (9, .pointer (some ⟨b7, 0 + 9, none⟩))])
    (fun j => [.blk b7 (gv n (swQ r X j) (swQ r O j)) 27, .blk b6 (gv 0 Z8 Z8) 27, .blk b3 (gv n X O) 27]) (fun j => n - j) 0 (Nat.zero_le _) ?_ ?_
  · rw [swQ_zero, swQ_zero]
    (refine ent ?_ ?_; (repeat refine fr_cons rfl ?_); exact fr_nil; (repeat (exact List.Sublist.refl _)))
  · intro j hj
    have lr1 := swQ_len (r := r) (X := X) (k := j)
    have lr2 := swQ_len (r := r) (X := O) (k := j)
    by_cases hlt : j < n
    · have sX := swQ_set (r := r) (X := X) (k := j) (by omega)
      have sO := swQ_set (r := r) (X := O) (k := j) (by omega)
      have lr3 : ((swQ r X j).set j (swr r (X.getD j 0))).length = 8 := (List.length_set ..).trans lr1
      have lg := gv_len (n := n) lr1 lr2
      have lg2 := gv_len (n := n) lr3 lr2
      have y1 := swr_lt hr (pX.1 j hlt)
      have y2 := swr_lt hr (pO.1 j hlt)
      have bk := bX.2 j
      have bk' := bO.2 j
      have q1 := h j (X.getD j 0) hlt (pX.1 j hlt)
      have q2 := h j (O.getD j 0) hlt (pO.1 j hlt)
      repeat' (first | (apply Jcc; exact rfl; exact rfl; exact rfl; exact hk; ((intro w' hw); first | exact q1 w' hw.below | exact q2 w' hw.below)) | (apply Jq_move; exact rfl; exact rfl) | (apply Jq_assign; exact rfl; exact rfl) | (apply Jq_load; exact rfl; exact rfl; (exact mb); (first | (refine gv_X lX ?_; omega) | (refine gv_O lX lO ?_; omega))) | (apply Jq_fieldAddr; exact rfl; exact rfl) | (apply Jq_indexN; exact rfl; exact rfl; exact rfl; omega) | (apply Jq_cmp; exact rfl; exact rfl; exact rfl; exact rfl) | (apply Jq_add; exact rfl; exact rfl; exact rfl; omega) | (apply J_s1; exact rfl; exact rfl; exact rfl; infer_instance; (omega); (first | (refine gv_setX lr1 ?_; omega) | exact gv_setO lr3); infer_instance) | (apply Jq_ext20; exact rfl; exact rfl) | (apply Jq_ext21; exact rfl; exact rfl) | (apply Jq_nilCheck; exact rfl; exact rfl) | refine thenQ_normal ?_ | refine inBlockQ_normal ?_ | refine JC_seq ?_ | refine JC_region ?_ | refine J_nil ?_ | refine JC_block ?_ | refine JC_skip ?_ | (apply JC_dec_true; exact rfl; omega) | (apply Jq_conv; exact rfl; exact rfl; first | exact wrap64_nat (by assumption) | exact wrap8 (by omega)))
      refine ⟨j + 1, by omega, by omega, ?_⟩
      rw [← sX, ← sO]
      (refine ent ?_ ?_; (repeat refine fr_cons rfl ?_); exact fr_nil; (repeat (exact List.Sublist.refl _)))
    · have ejn : j = n := by omega
      rw [ejn, swQ_end, swQ_end]
      have uE := gv_len (n := (n : Int)) (swR_len (n := n) (r := r) (X := X)) (swR_len (n := n) (r := r) (X := O))
      repeat' (first | (apply Jq_cmp; exact rfl; exact rfl; exact rfl; exact rfl) | (apply Jq_loadW; exact rfl; exact rfl; (exact mb); (exact rfl)) | (apply J_sW; exact rfl; exact rfl; infer_instance; (exact rfl); (exact rfl); (exact ones_of rfl); infer_instance) | refine thenQ_normal ?_ | refine thenQ_exit ?_ | refine inBlockQ_here ?_ | refine JC_seq ?_ | refine JC_region ?_ | refine J_nil ?_ | refine JC_ret ?_ | refine JC_exit ?_ | (apply JC_dec_false; exact rfl; omega))
      exact gC rfl rfl rfl mb uE rfl
set_option maxRecDepth 100000 in
theorem rows1F_gives (r i x b3 : Nat) (hr : r < 8) (hx : x < 8) (w : World) (hb : b3 < w.heap.size) (hc : ∀ j v, [Value.int .i64 (r : Int)][j]? = some v → w.cell? ⟨b3, 0 + j, none⟩ = some v) :
    Gives Try.prog 99 #[.int .i64 (i : Int), .int .i64 (x : Int), .pointer (some ⟨b3, 0, none⟩)] (.tuple #[.int .i64 (i : Int), .int .i64 ((swr r x : Nat) : Int)]) w := by
  have e1 : (r : Int) + 1 = ((r + 1 : Nat) : Int) := rfl
  have hs : swr r x = if x = r then r + 1 else if x = r + 1 then r else x := rfl
  refine gives_of (args := [.int .i64 (i : Int), .int .i64 (x : Int), .pointer (some ⟨b3, 0, none⟩)]) [(0, .int .i64 (i : Int)), (1, .int .i64 (x : Int)), (2, .pointer (some ⟨b3, 0, none⟩))] [.rd b3 0 [.int .i64 (r : Int)]] Try.func99 rfl Try.ntmps99 rfl (argsF_cons rfl (argsF_cons rfl (argsF_cons rfl argsF_nil))) (Holds.start_rd hb hc) ?_
  repeat' (first | (apply Jq_loadD (j := 0); exact rfl; exact rfl; exact m0; exact rfl; exact rfl) | (apply Jq_addR; exact rfl; exact rfl; exact rfl; omega; exact e1) | (apply Jq_move; exact rfl; exact rfl) | (apply Jq_assign; exact rfl; exact rfl) | (apply Jq_cmp; exact rfl; exact rfl; exact rfl; exact rfl) | refine thenQ_normal ?_ | refine inBlockQ_normal ?_ | refine JC_seq ?_ | refine JC_region ?_ | refine J_nil ?_ | refine JC_block ?_ | refine JC_skip ?_ | refine JC_ret ?_ | refine JC_dec rfl (fun _ => ?_) (fun _ => ?_))
  · exact g2 rfl rfl rfl rfl (by rw [hs, if_pos (by omega)])
  · exact g2 rfl rfl rfl rfl (by rw [hs, if_neg (by omega), if_pos (by omega)])
  · exact g2 rfl rfl rfl rfl (by rw [hs, if_neg (by omega), if_neg (by omega)])
theorem rows_call {B : Nat} {w0 : World} {H : Hp} (n r : Nat) (X O : List Nat) (bX : isB X) (bO : isB O) (g : okG (n : Int) X O) (hr : r + 1 < n) {b3 : Nat} {E1 : TypeId} (w : World) (hw : Holds B w0 H w) (m3 : It.blk b3 [.int .i64 (r : Int)] E1 ∈ H) :
    Gives Try.prog 63 #[.agg (gv n X O).toArray, .func (.func 99) #[] #[.pointer (some ⟨b3, 0, none⟩)], .bool false] (.agg (gv n (swR n r X) (swR n r O)).toArray) w := by
  have hn := g.1
  refine led_rows n r 99 [.pointer (some ⟨b3, 0, none⟩)] X O inferInstance bX bO g hr w fun i x hi hx w' hb => ?_
  have c3 := cells_later hw hb m3
  exact rows1F_gives r i x b3 (by omega) (by omega) w' c3.1 c3.2
set_option maxRecDepth 100000 in
theorem swRI_gives (n r : Nat) (X O : List Nat) (bX : isB X) (bO : isB O) (g : okG (n : Int) X O) (hr : r + 1 < n) (w : World) :
    Gives Try.prog 75 #[.agg (gv n X O).toArray, .int .i64 (r : Int)] (.agg (gv n (swR n r X) (swR n r O)).toArray) w := by
  have ug := gv_len (n := n) bX.1 bO.1
  have ur := gv_len (n := n) (swR_len (n := n) (r := r) (X := X)) (swR_len (n := n) (r := r) (X := O))
  refine gives_of (args := [.agg (gv n X O).toArray, .int .i64 (r : Int)]) [(0, .agg (gv n X O).toArray), (1, .int .i64 (r : Int))] [] Try.func75 rfl Try.ntmps75 rfl (argsF_cons rfl (argsF_cons rfl argsF_nil)) (Holds.start w) ?_
  repeat' (first | (apply Jq_fun1; exact rfl; exact rfl) | (apply Jc; exact rfl; exact rfl; exact rfl; infer_instance; ((intro w hw); exact rows_call n r X O bX bO g hr w hw (mS m0))) | (apply Jq_loadW; exact rfl; exact rfl; (exact mb); (omega)) | (apply J_sW; exact rfl; exact rfl; infer_instance; (exact rfl); (exact rfl); (exact ones_of rfl); infer_instance) | (apply J_box; exact rfl; exact rfl; exact rfl; (intro _)) | (apply J_alloc (cs := gv 0 Z8 Z8); exact rfl; exact rfl; (intro _)) | refine thenQ_normal ?_ | refine JC_seq ?_ | refine JC_region ?_ | refine J_nil ?_ | refine JC_ret ?_)
  exact gC rfl rfl rfl mb ur rfl
end Go.Proofs.Ytflleelfkknfaaa
