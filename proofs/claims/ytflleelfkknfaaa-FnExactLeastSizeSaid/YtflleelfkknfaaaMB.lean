/- Walks: exchanges of columns and rows, in both texts. -/
import Derived.Test.YtflleelfkknfaaaGE
import Derived.Test.YtflleelfkknfaaaMA
import Derived.Test.YtflleelfkknfaaaWB
import Derived.Test.YtflleelfkknfaaaWC
namespace Go.Proofs.Ytflleelfkknfaaa
open Go Go.RowKit SL
theorem boolQ {p : Prop} {b : Bool} {i : Decidable p} (h : b = true ↔ p) : Value.bool b = .bool (@decide p i) := by
  cases b
  · exact boolF fun k => by cases h.2 k
  · exact boolT (h.1 rfl)
namespace SL
section
variable {P : Program} {B : Nat} {w0 : World} {n : Nat} {Q : Po} {F : Fr} {H : Hp} {ops : Array Oper} {l : List Oper} {ty : TypeId} {pos : String} {af : Array Edge} {d : Nat} {dst : Option Tmp} {g : Option (Nat × Bool)}
theorem Jq_eqbD {dr : Bool} {T T' : TypeId} {x y : Operand} {a b : Bool} [hT : Un P T .bool] (hdn : Nat.blt d n = true) (hx : ev F x = some (.bool a)) (hy : ev F y = some (.bool b)) (kk : J dr P B w0 n ops Q l ((d, .bool (decide (a = b))) :: F) H) :
    J dr P B w0 n ops Q (⟨some d, .binOp .eql T x y T', ty, pos, af, none⟩ :: l) F H := Jq_eqb hdn hx hy (by rw [show (a == b) = decide (a = b) by cases a <;> cases b <;> rfl]; exact kk)
theorem JC_cut1 {x y : Code} {Q' : Po} (Fi : Fr) (Hi : Hp)
    (h : JC P B w0 n x (thenQ (fun F' H' => Ent F' H' Fi Hi) Q') F H) (k : JC P B w0 n y Q Fi Hi) : JC P B w0 n x (thenQ (JC P B w0 n y Q) Q') F H :=
  JC_cutT (Y := Unit) (fun _ => True) (fun _ => Fi) (fun _ => Hi) (JC_mono h fun e F' H' q => by
    unfold thenQ at *
    cases e with
    | normal => exact ⟨(), trivial, q⟩
    | _ => exact q) fun _ _ => k
end
end SL
theorem maxN (a b : Nat) : max (a : Int) (b : Int) = ((max a b : Nat) : Int) := by
  rw [Int.max_def, Nat.max_def]
  split <;> split <;> omega
theorem minN (a b : Nat) : min (a : Int) (b : Int) = ((min a b : Nat) : Int) := by
  rw [Int.min_def, Nat.min_def]
  split <;> split <;> omega
set_option maxRecDepth 100000 in
theorem apart_gives (a b c d : Nat) (w : World) : Gives Try.prog 108 #[.int .i64 (a : Int), .int .i64 (b : Int), .int .i64 (c : Int), .int .i64 (d : Int)] (.bool (decide (aprt a b c d))) w := by
  have h : aprt a b c d ↔ a ≠ c ∧ a ≠ d ∧ b ≠ c ∧ b ≠ d ∧ ((min a b < c ∧ c < max a b) ↔ (min a b < d ∧ d < max a b)) := Iff.rfl
  refine gives_of (args := [.int .i64 (a : Int), .int .i64 (b : Int), .int .i64 (c : Int), .int .i64 (d : Int)]) [(0, .int .i64 (a : Int)), (1, .int .i64 (b : Int)), (2, .int .i64 (c : Int)), (3, .int .i64 (d : Int))] [] Try.func108 rfl Try.ntmps108 rfl (argsF_cons rfl (argsF_cons rfl (argsF_cons rfl (argsF_cons rfl argsF_nil)))) (Holds.start w) ?_
  repeat' (first | (apply Jq_eqbD; exact rfl; exact rfl; exact rfl) | (apply Jq_move; exact rfl; exact rfl) | (apply Jq_assign; exact rfl; exact rfl) | (apply Jq_cmp; exact rfl; exact rfl; exact rfl; exact rfl) | (apply Jq_pick_true; exact rfl; exact rfl; exact rfl) | (apply Jq_pick_false; exact rfl; exact rfl; exact rfl) | (apply J_on; exact rfl; exact rfl) | (apply J_skip; exact rfl; exact rfl; exact rfl; exact rfl) | (apply Jq_max; exact rfl; exact rfl; exact rfl) | (apply Jq_min; exact rfl; exact rfl; exact rfl) | refine thenQ_normal ?_ | refine thenQ_ret ?_ | refine JC_seq ?_ | refine JC_region ?_ | refine J_nil ?_ | refine JC_skip ?_ | refine JC_ret ?_ | (apply JC_if_true; exact rfl) | refine JC_dec rfl (fun _ => ?_) (fun _ => ?_) | refine J_gd rfl rfl (fun _ => ?_) (fun _ => ?_))
  all_goals (refine g1 rfl rfl rfl (boolQ ?_); rw [h]; clear h; (try simp only [maxN, minN, Bool.false_eq_true, Bool.true_eq_false, false_iff, true_iff, decide_eq_decide, decide_eq_true_eq, decide_eq_false_iff_not, false_eq_decide_iff, true_eq_decide_iff, decide_true, decide_false] at *); omega)
set_option maxRecDepth 100000 in
theorem free_gives (a b c d : Nat) (w : World) : Gives Try.prog 92 #[.int .i64 (a : Int), .int .i64 (b : Int), .int .i64 (c : Int), .int .i64 (d : Int)] (.bool (decide (aprt a b c d))) w := by
  have h := @aprt_free a b c d
  refine gives_of (args := [.int .i64 (a : Int), .int .i64 (b : Int), .int .i64 (c : Int), .int .i64 (d : Int)]) [(0, .int .i64 (a : Int)), (1, .int .i64 (b : Int)), (2, .int .i64 (c : Int)), (3, .int .i64 (d : Int))] [] Try.func92 rfl Try.ntmps92 rfl (argsF_cons rfl (argsF_cons rfl (argsF_cons rfl (argsF_cons rfl argsF_nil)))) (Holds.start w) ?_
  repeat' (first | (apply Jq_eqbD; exact rfl; exact rfl; exact rfl) | (apply Jq_move; exact rfl; exact rfl) | (apply Jq_assign; exact rfl; exact rfl) | (apply Jq_cmp; exact rfl; exact rfl; exact rfl; exact rfl) | (apply Jq_pick_true; exact rfl; exact rfl; exact rfl) | (apply Jq_pick_false; exact rfl; exact rfl; exact rfl) | (apply J_on; exact rfl; exact rfl) | (apply J_skip; exact rfl; exact rfl; exact rfl; exact rfl) | (apply J_skipU; exact rfl; exact rfl; exact rfl) | (apply Jq_max; exact rfl; exact rfl; exact rfl) | (apply Jq_min; exact rfl; exact rfl; exact rfl) | refine thenQ_normal ?_ | refine thenQ_ret ?_ | refine JC_seq ?_ | refine JC_region ?_ | refine J_nil ?_ | refine JC_skip ?_ | refine JC_ret ?_ | (apply JC_if_true; exact rfl) | (apply J_gdT; exact rfl; exact rfl; omega) | (apply J_gdF; exact rfl; exact rfl; omega) | refine JC_dec rfl (fun _ => ?_) (fun _ => ?_) | refine J_gd rfl rfl (fun _ => ?_) (fun _ => ?_))
  all_goals (refine g1 rfl rfl rfl (boolQ ?_); rw [h]; clear h; (try simp only [maxN, minN, Bool.false_eq_true, Bool.true_eq_false, false_iff, true_iff, decide_eq_decide, decide_eq_true_eq, decide_eq_false_iff_not, false_eq_decide_iff, true_eq_decide_iff, decide_true, decide_false] at *); omega)
set_option maxRecDepth 100000 in
theorem canC_gives (n X O) (i : Nat) (bX : isB X) (bO : isB O) (hi : i + 1 < 8) (w : World) :
    Gives Try.prog 96 #[.agg (gv n X O).toArray, .int .i64 (i : Int)] (.bool (decide (aprt (X.getD i 0) (O.getD i 0) (X.getD (i + 1) 0) (O.getD (i + 1) 0)))) w := by
  have kX := bX.1
  have kO := bO.1
  have ug := gv_len (n := n) kX kO
  have b1 := bX.2 i
  have b2 := bO.2 i
  have b3 := bX.2 (i + 1)
  have b4 := bO.2 (i + 1)
  have e1 : (i : Int) + 1 = ((i + 1 : Nat) : Int) := rfl
  refine gives_of (args := [.agg (gv n X O).toArray, .int .i64 (i : Int)]) [(0, .agg (gv n X O).toArray), (1, .int .i64 (i : Int))] [] Try.func96 rfl Try.ntmps96 rfl (argsF_cons rfl (argsF_cons rfl argsF_nil)) (Holds.start w) ?_
  repeat' (first | (apply Jq_addR; exact rfl; exact rfl; exact rfl; omega; exact e1) | (apply Jq_conv; exact rfl; exact rfl; first | exact wrap64_nat b1 | exact wrap64_nat b2 | exact wrap64_nat b3 | exact wrap64_nat b4) | (apply Jq_move; exact rfl; exact rfl) | (apply Jq_assign; exact rfl; exact rfl) | (apply Jq_load; exact rfl; exact rfl; (exact mb); (first | (refine gv_X kX ?_; omega) | (refine gv_O kX kO ?_; omega))) | (apply Jq_fieldAddr; exact rfl; exact rfl) | (apply Jq_indexN; exact rfl; exact rfl; exact rfl; omega) | (apply Jc; exact rfl; exact rfl; exact rfl; infer_instance; ((intro w hw); exact apart_gives _ _ _ _ w)) | (apply J_box; exact rfl; exact rfl; exact rfl; (intro _)) | refine thenQ_normal ?_ | refine JC_seq ?_ | refine JC_region ?_ | (apply JC_draw mixed; kernel_rfl) | refine J_nil ?_ | refine JC_ret ?_)
  exact g1 rfl rfl rfl rfl
set_option maxRecDepth 100000 in
theorem colsS_gives (n X O) (i : Nat) (bX : isB X) (bO : isB O) (hi : i + 1 < 8) (w : World) :
    Gives Try.prog 65 #[.agg (gv n X O).toArray, .int .i64 (i : Int)] (.bool (decide (aprt (X.getD i 0) (O.getD i 0) (X.getD (i + 1) 0) (O.getD (i + 1) 0)))) w := by
  have kX := bX.1
  have kO := bO.1
  have ug := gv_len (n := n) kX kO
  have b1 := bX.2 i
  have b2 := bO.2 i
  have b3 := bX.2 (i + 1)
  have b4 := bO.2 (i + 1)
  have e1 : (i : Int) + 1 = ((i + 1 : Nat) : Int) := rfl
  refine gives_of (args := [.agg (gv n X O).toArray, .int .i64 (i : Int)]) [(0, .agg (gv n X O).toArray), (1, .int .i64 (i : Int))] [] Try.func65 rfl Try.ntmps65 rfl (argsF_cons rfl (argsF_cons rfl argsF_nil)) (Holds.start w) ?_
  repeat' (first | (apply Jq_addR; exact rfl; exact rfl; exact rfl; omega; exact e1) | (apply Jq_conv; exact rfl; exact rfl; first | exact wrap64_nat b1 | exact wrap64_nat b2 | exact wrap64_nat b3 | exact wrap64_nat b4) | (apply Jq_move; exact rfl; exact rfl) | (apply Jq_assign; exact rfl; exact rfl) | (apply Jq_load; exact rfl; exact rfl; (exact mb); (first | (refine gv_X kX ?_; omega) | (refine gv_O kX kO ?_; omega))) | (apply Jq_fieldAddr; exact rfl; exact rfl) | (apply Jq_indexN; exact rfl; exact rfl; exact rfl; omega) | (apply Jc; exact rfl; exact rfl; exact rfl; infer_instance; ((intro w hw); exact free_gives _ _ _ _ w)) | (apply J_box; exact rfl; exact rfl; exact rfl; (intro _)) | refine thenQ_normal ?_ | refine JC_seq ?_ | refine JC_region ?_ | (apply JC_draw mixed; kernel_rfl) | refine J_nil ?_ | refine JC_ret ?_)
  exact g1 rfl rfl rfl rfl
/-- Two neighbouring rows lie apart. -/
def aprR (n : Nat) (X O : List Nat) (r : Nat) : Prop := aprt (posF X n r) (posF O n r) (posF X n (r + 1)) (posF O n (r + 1))
instance (n : Nat) (X O : List Nat) (r : Nat) : Decidable (aprR n X O r) := by unfold aprR; exact inferInstance
set_option maxRecDepth 100000 in
theorem rowsS_gives (n : Nat) (X O) (r : Nat) (bX : isB X) (bO : isB O) (h8 : n ≤ 8) (hr : r + 1 < n) (w : World) :
    Gives Try.prog 66 #[.agg (gv n X O).toArray, .int .i64 (r : Int)] (.bool (decide (aprR n X O r))) w := by
  have kX := bX.1
  have kO := bO.1
  have ug := gv_len (n := n) kX kO
  have uX := (u8s_len X).trans kX
  have uO := (u8s_len O).trans kO
  have e1 : (r : Int) + 1 = ((r + 1 : Nat) : Int) := rfl
  refine gives_of (args := [.agg (gv n X O).toArray, .int .i64 (r : Int)]) [(0, .agg (gv n X O).toArray), (1, .int .i64 (r : Int))] [] Try.func66 rfl Try.ntmps66 rfl (argsF_cons rfl (argsF_cons rfl argsF_nil)) (Holds.start w) ?_
  repeat' (first | (apply Jq_addR; exact rfl; exact rfl; exact rfl; omega; exact e1) | (apply Jq_move; exact rfl; exact rfl) | (apply Jq_assign; exact rfl; exact rfl) | (apply Jq_load; exact rfl; exact rfl; (exact mb); (exact rfl)) | (apply Jq_fieldAddr; exact rfl; exact rfl) | (apply Jc; exact rfl; exact rfl; exact rfl; infer_instance; ((intro w hw); first | exact free_gives _ _ _ _ w | exact l01Row_gives X n _ bX h8 w | exact l01Row_gives O n _ bO h8 w)) | (apply Jq_loadA; exact rfl; exact rfl; (exact mb); (first | exact gv_arrX kX | exact gv_arrO kX kO); (omega)) | (apply J_box; exact rfl; exact rfl; exact rfl; (intro _)) | refine thenQ_normal ?_ | refine JC_seq ?_ | refine JC_region ?_ | (apply JC_draw mixed; kernel_rfl) | refine J_nil ?_ | refine JC_ret ?_)
  exact g1 rfl rfl rfl rfl
set_option maxRecDepth 100000 in
theorem canR_gives (n : Nat) (X O) (r : Nat) (bX : isB X) (bO : isB O) (g : okG (n : Int) X O) (hr : r + 1 < n) (w : World) :
    Gives Try.prog 97 #[.agg (gv n X O).toArray, .int .i64 (r : Int)] (.bool (decide (aprR n X O r))) w := by
  obtain ⟨⟨h2, h8⟩, pX, pO, hne⟩ := g
  simp only [Int.toNat_natCast] at pX pO hne
  have ug := gv_len (n := n) bX.1 bO.1
  have lX := plc_len X n
  have lO := plc_len O n
  have uX := i64s_len (plc X n)
  have uO := i64s_len (plc O n)
  have vX := u8s_len X
  have vO := u8s_len O
  have kX := bX.1
  have kO := bO.1
  have e1 : (r : Int) + 1 = ((r + 1 : Nat) : Int) := rfl
  have p1 := plc_pos pX (by omega) (show r < n by omega)
  have p2 := plc_pos pO (by omega) (show r < n by omega)
  have p3 := plc_pos pX (by omega) hr
  have p4 := plc_pos pO (by omega) hr
  refine gives_of (args := [.agg (gv n X O).toArray, .int .i64 (r : Int)]) [(0, .agg (gv n X O).toArray), (1, .int .i64 (r : Int))] [] Try.func97 rfl Try.ntmps97 rfl (argsF_cons rfl (argsF_cons rfl argsF_nil)) (Holds.start w) ?_
  repeat' (first | (apply Jq_assign; exact rfl; exact rfl) | (apply J_box; exact rfl; exact rfl; exact rfl; (intro _)) | refine thenQ_normal ?_ | refine JC_seq ?_ | refine JC_region ?_ | refine J_nil ?_)
  rename_i b2
  refine JC_cutT (Y := Nat × Nat) (fun _ => True) (fun p => [(1, .int .i64 (r : Int)), (5, .pointer (some ⟨p.1, 0, none⟩)), (6, .pointer (some ⟨p.2, 0, none⟩))])
    (fun p => [.blk p.1 (i64s (plc X n)) 142, .blk p.2 (i64s (plc O n)) 142, .blk b2 (gv n X O) 27]) ?_ ?_
  ·
    refine JC_any (m := 12) rfl _ mixed (fun _ h => h) ?_
    (apply JF_q 0; exact rfl; kernel_rfl; exact rfl; (intro E hE; (apply q_loadW; exact rfl; (refine hE _ ?_; exact mb); (omega))))
    (apply JF_q 1; exact rfl; kernel_rfl; exact rfl; (intro E hE; (apply q_fieldAddr; exact rfl)))
    (apply JF_q 2; exact rfl; kernel_rfl; exact rfl; (intro E hE; (apply q_loadA; exact rfl; (refine hE _ ?_; exact mb); (exact gv_arrX bX.1); (omega))))
    (apply JF_q 3; exact rfl; kernel_rfl; exact rfl; (intro E hE; (apply q_callE; exact rfl; exact rfl; infer_instance; ((intro w hw); exact places_gives n X O X (by omega) bX.1 bO.1 bX.1 (fun i hi => by have := pX.1 i hi; omega) w))))
    (apply JF_q 4; exact rfl; kernel_rfl; exact rfl; (intro E hE; (apply q_loadW; exact rfl; (refine hE _ ?_; exact mb); (omega))))
    (apply JF_q 5; exact rfl; kernel_rfl; exact rfl; (intro E hE; (apply q_fieldAddr; exact rfl)))
    (apply JF_q 6; exact rfl; kernel_rfl; exact rfl; (intro E hE; (apply q_loadA; exact rfl; (refine hE _ ?_; exact mb); (exact gv_arrO bX.1 bO.1); (omega))))
    (apply JF_q 7; exact rfl; kernel_rfl; exact rfl; (intro E hE; (apply q_callE; exact rfl; exact rfl; infer_instance; ((intro w hw); exact places_gives n X O O (by omega) bX.1 bO.1 bO.1 (fun i hi => by have := pO.1 i hi; omega) w))))
    (apply JF_all [8, 9]; kernel_rfl)
    (apply JFs_cons; exact rfl)
    · (apply J_alloc (cs := i64s Z8); exact rfl; exact rfl; (intro _))
      (apply J_nil; apply JF_end; ((repeat (apply sub_cons; (focus ((with_reducible (repeat (first | exact m0 | refine mS ?_))); done)))); exact sub_nil))
      (apply JF_all [9]; kernel_rfl)
      (apply JFs_cons; exact rfl)
      · (apply J_alloc (cs := i64s Z8); exact rfl; exact rfl; (intro _))
        (apply J_nil; apply JF_end; ((repeat (apply sub_cons; (focus ((with_reducible (repeat (first | exact m0 | refine mS ?_))); done)))); exact sub_nil))
        (apply JF_all [10]; kernel_rfl)
        (apply JFs_cons; exact rfl)
        · (apply J_sW; exact rfl; exact rfl; infer_instance; (exact rfl); (omega); (exact i64s_one _); infer_instance)
          (apply J_nil; apply JF_end; ((repeat (apply sub_cons; (focus ((with_reducible (repeat (first | exact m0 | refine mS ?_))); done)))); exact sub_nil))
          (apply JF_all [11]; kernel_rfl)
          (apply JFs_cons; exact rfl)
          · (apply J_sW; exact rfl; exact rfl; infer_instance; (exact rfl); (omega); (exact i64s_one _); infer_instance)
            (apply J_nil; apply JF_end; ((repeat (apply sub_cons; (focus ((with_reducible (repeat (first | exact m0 | refine mS ?_))); done)))); exact sub_nil))
            (apply JF_done; kernel_rfl)
            (apply thenQ_normal; apply ex2; refine ⟨trivial, ?_⟩; (refine entP (ent ?_ (List.nil_sublist _)) ?_; (repeat refine fr_cons rfl ?_); exact fr_nil; (repeat (first | exact sp_nil | (with_reducible apply sp0) | (with_reducible apply sp1)))))
          exact JFs_nil
        exact JFs_nil
      exact JFs_nil
    (apply JFs_cons; exact rfl)
    · (apply J_alloc (cs := i64s Z8); exact rfl; exact rfl; (intro _))
      (apply J_nil; apply JF_end; ((repeat (apply sub_cons; (focus ((with_reducible (repeat (first | exact m0 | refine mS ?_))); done)))); exact sub_nil))
      (apply JF_all [8]; kernel_rfl)
      (apply JFs_cons; exact rfl)
      · (apply J_alloc (cs := i64s Z8); exact rfl; exact rfl; (intro _))
        (apply J_nil; apply JF_end; ((repeat (apply sub_cons; (focus ((with_reducible (repeat (first | exact m0 | refine mS ?_))); done)))); exact sub_nil))
        (apply JF_all [10]; kernel_rfl)
        (apply JFs_cons; exact rfl)
        · (apply J_sW; exact rfl; exact rfl; infer_instance; (exact rfl); (omega); (exact i64s_one _); infer_instance)
          (apply J_nil; apply JF_end; ((repeat (apply sub_cons; (focus ((with_reducible (repeat (first | exact m0 | refine mS ?_))); done)))); exact sub_nil))
          (apply JF_all [11]; kernel_rfl)
          (apply JFs_cons; exact rfl)
          · (apply J_sW; exact rfl; exact rfl; infer_instance; (exact rfl); (omega); (exact i64s_one _); infer_instance)
            (apply J_nil; apply JF_end; ((repeat (apply sub_cons; (focus ((with_reducible (repeat (first | exact m0 | refine mS ?_))); done)))); exact sub_nil))
            (apply JF_done; kernel_rfl)
            (apply thenQ_normal; apply ex2; refine ⟨trivial, ?_⟩; (refine entP (ent ?_ (List.nil_sublist _)) ?_; (repeat refine fr_cons rfl ?_); exact fr_nil; (repeat (first | exact sp_nil | (with_reducible apply sp0)))))
          exact JFs_nil
        exact JFs_nil
      exact JFs_nil
    exact JFs_nil
  · rintro ⟨b5, b6⟩ _
    dsimp only
    repeat' (first | (apply Jq_addR; exact rfl; exact rfl; exact rfl; omega; exact e1) | (apply Jq_move; exact rfl; exact rfl) | (apply Jq_assign; exact rfl; exact rfl) | (apply Jq_load; exact rfl; exact rfl; (exact mb); (refine i64s_at ?_; omega)) | (apply Jq_indexN; exact rfl; exact rfl; exact rfl; omega) | (apply Jc; exact rfl; exact rfl; exact rfl; infer_instance; ((intro w hw); exact apart_gives _ _ _ _ w)) | refine thenQ_normal ?_ | refine JC_seq ?_ | (apply JC_draw mixed; kernel_rfl) | refine J_nil ?_ | refine JC_ret ?_)
    refine g1 rfl rfl rfl ?_
    show Value.bool (decide (aprt ((plc X n).getD r 0) ((plc O n).getD r 0) ((plc X n).getD (r + 1) 0) ((plc O n).getD (r + 1) 0))) = _
    rw [p1, p2, p3, p4]
    rfl
end Go.Proofs.Ytflleelfkknfaaa
