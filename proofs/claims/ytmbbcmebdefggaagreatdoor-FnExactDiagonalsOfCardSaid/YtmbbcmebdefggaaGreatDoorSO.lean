/- Walks: the components of a grid. Walks: the components of a grid, as the reference tells them; how many there can be. -/
import Derived.Test.YtmbbcmebdefggaaGreatDoorCO
import Derived.Test.YtmbbcmebdefggaaGreatDoorGE
import Derived.Test.YtmbbcmebdefggaaGreatDoorWP
import Derived.Test.YtmbbcmebdefggaaGreatDoorAP
namespace Go.Proofs.YtmbbcmebdefggaaGreatDoor
open Go Go.RowKit SL
namespace SL
theorem nCT {P : Program} {w : World} {n : Nat} {fn : Func} {F : Fr} {H : Hp} {e : Exit} {N : Value → Hp → Prop} {t u : Tmp} {T : TypeId} {s b : Nat} {cs : List Value} {E : TypeId} {v' : Value} [IsAg P T s] (he : isEnd e = true) (h : fn.results = #[.cell t T, .tmp u]) (hv : look F t = some (.pointer (some ⟨b, 0, none⟩))) (hv' : look F u = some v') (hm : It.blk b cs E ∈ H) (hl : cs.length = s)
    (hN : N (.tuple #[.agg cs.toArray, v']) []) : nQ P w n fn N e F H :=
  nQ_mk he fun _ _ ha hw => ⟨_, [], resultsCT h ha hv hv' hw hm hl, hN, hw.part (fun x hx => by cases hx) (by unfold owned; exact List.nodup_nil)⟩
end SL
def compV (n c : Nat) (v : Value) (its : Hp) : Prop := its = [] ∧ ∃ L : List Nat, v = .tuple #[.agg (i64s L).toArray, .int .i64 (c : Int)] ∧ L.length = 8 ∧ ∀ m, m < n → L.getD m 0 < c
set_option maxRecDepth 100000 in
theorem component_gives (n : Nat) (X O : List Nat) (bX : isB X) (bO : isB O) (g : okG (n : Int) X O) (w : World) :
    GivesN Tryz.prog 160 #[.agg (gv n X O).toArray] (compV n (comps n X O)) w := by
  have hσ := nxt_perm g
  have hS : ∀ i, nxt n X O i = (plc X n).getD (O.getD i 0) 0 := fun i => rfl
  obtain ⟨⟨h2, h8⟩, pX, pO, hne⟩ := g
  simp only [Int.toNat_natCast] at pX pO hne
  have h8' : n ≤ 8 := by omega
  have ug := gv_len (n := n) bX.1 bO.1
  have lX := plc_len X n
  have uX := i64s_len (plc X n)
  have vX := u8s_len X
  have kX := bX.1
  have kO := bO.1
  have lz : Z8.length = 8 := rfl
  have uz := i64s_len Z8
  have hpl := places_gives n X O X (by omega) bX.1 bO.1 bX.1 (fun i hi => by have := pX.1 i hi; omega)
  refine givesN_of (args := [.agg (gv n X O).toArray]) [(0, .agg (gv n X O).toArray)] [] Tryz.func160 rfl Tryz.ntmps160 rfl (argsF_cons rfl argsF_nil) (Holds.start w) ?_
  repeat' (first | (apply Jq_move; exact rfl; exact rfl) | (apply Jq_assign; exact rfl; exact rfl) | (apply Jq_fieldAddr; exact rfl; exact rfl) | (apply Jc; exact rfl; exact rfl; exact rfl; infer_instance; ((intro w hw); first | exact hpl w | exact n_gives n X O w)) | (apply Jq_loadW; exact rfl; exact rfl; (exact mb); (omega)) | (apply Jq_loadA; exact rfl; exact rfl; (exact mb); (exact gv_arrX bX.1); (omega)) | (apply J_sW; exact rfl; exact rfl; infer_instance; (exact rfl); (first | exact rfl | omega); (first | exact ones_of rfl | exact i64s_one _); infer_instance) | (apply J_box; exact rfl; exact rfl; exact rfl; (intro _)) | (apply J_alloc (cs := i64s Z8); exact rfl; exact rfl; (intro _)) | (apply Jz (cs := i64s Z8); exact rfl; exact rfl) | refine thenQ_normal ?_ | refine JC_seq ?_ | refine JC_region ?_ | refine J_nil ?_ | refine JC_block ?_)
  rename_i b1 b2 b4 b6
  generalize hσd : nxt n X O = σ at *
  refine JC_loop (X := Nat × List Nat × Nat) (fun p => p.1 ≤ n ∧ cov σ n p.1 p.2.1 p.2.2) (fun p => [(17, .int .i64 (p.1 : Int)), (16, .int .i64 (n : Int)), (5, .int .i64 (p.2.2 : Int)), (1, .pointer (some ⟨b1, 0, none⟩)), (2, .pointer (some ⟨b2, 0, none⟩)), (4, .pointer (some ⟨b4, 0, none⟩)), (6, .pointer (some ⟨b6, 0, none⟩))])
    (fun p => [.blk b6 (i64s (plc X n)) 184, .blk b4 (i64s p.2.1) 184, .blk b2 (i64s Z8) 184, .blk b1 (gv n X O) 28]) (fun p => n - p.1) (0, Z8, 0) ⟨Nat.zero_le _, cov_zero σ n⟩ ?_ ?_
  · (refine ent ?_ ?_; (repeat refine fr_cons rfl ?_); exact fr_nil; (repeat (exact List.Sublist.refl _)))
  · rintro ⟨i, L, c⟩ ⟨hi, hc⟩
    dsimp only at hi hc ⊢
    have lL := hc.len
    have uL := i64s_len L
    have hci := cov_le hc
    by_cases hlt : i < n
    · by_cases h0 : L.getD i 0 = 0
      · have e1 : (c : Int) + 1 = ((c + 1 : Nat) : Int) := rfl
        repeat' (first | (apply Jq_addR; exact rfl; exact rfl; exact rfl; omega; exact e1) | (apply Jq_move; exact rfl; exact rfl) | (apply Jq_assign; exact rfl; exact rfl) | (apply Jq_load; exact rfl; exact rfl; (exact mb); (refine i64s_at ?_; omega)) | (apply Jq_indexN; exact rfl; exact rfl; exact rfl; omega) | (apply Jq_cmp; exact rfl; exact rfl; exact rfl; exact rfl) | refine thenQ_normal ?_ | refine JC_seq ?_ | refine JC_region ?_ | refine J_nil ?_ | refine JC_block ?_ | refine JC_skip ?_ | (apply JC_dec_true; exact rfl; omega) | (apply JC_dec_false; exact rfl; omega))
        refine JC_loop (X := Nat × List Nat) (fun p => alo σ n i p.2 (c + 1) p.1) (fun p => [(8, .int .i64 (it σ p.1 i : Nat)), (17, .int .i64 (i : Int)), (16, .int .i64 (n : Int)), (5, .int .i64 ((c + 1 : Nat) : Int)), (1, .pointer (some ⟨b1, 0, none⟩)), (2, .pointer (some ⟨b2, 0, none⟩)), (4, .pointer (some ⟨b4, 0, none⟩)), (6, .pointer (some ⟨b6, 0, none⟩))])
          (fun p => [.blk b6 (i64s (plc X n)) 184, .blk b4 (i64s p.2) 184, .blk b2 (i64s Z8) 184, .blk b1 (gv n X O) 28]) (fun p => zc p.2) (0, L) (alo_start hc) ?_ ?_
        · (refine ent ?_ ?_; (repeat refine fr_cons rfl ?_); exact fr_nil; (repeat (exact List.Sublist.refl _)))
        · rintro ⟨t, M⟩ hM
          dsimp only at hM ⊢
          have hk := it_lt hσ hlt t
          have lM := hM.len
          have uM := i64s_len M
          have hnx : (plc X n).getD (O.getD (it σ t i) 0) 0 = it σ (t + 1) i := (hS _).symm
          have hok := pO.1 _ hk
          have hst := alo_step hσ h8' hlt (Nat.succ_pos c) hM
          have hend := alo_end hσ hlt hc h0 hM
          have hz := zc_set (L := M) (k := it σ t i) (v := c + 1)
          generalize hkk : it σ t i = k at *
          by_cases hz0 : M.getD k 0 = 0
          · repeat' (first | (apply Jq_move; exact rfl; exact rfl) | (apply Jq_assign; exact rfl; exact rfl) | (apply Jq_load; exact rfl; exact rfl; (exact mb); (first | (refine i64s_at ?_; omega) | (refine gv_O kX kO ?_; omega))) | (apply Jq_fieldAddr; exact rfl; exact rfl) | (apply Jq_indexN; exact rfl; exact rfl; exact rfl; omega) | (apply Jq_cmp; exact rfl; exact rfl; exact rfl; exact rfl) | (apply J_s1; exact rfl; exact rfl; exact rfl; infer_instance; (omega); (exact i64s_set); infer_instance) | refine thenQ_normal ?_ | refine inBlockQ_normal ?_ | refine JC_seq ?_ | refine JC_region ?_ | refine J_nil ?_ | refine JC_block ?_ | refine JC_skip ?_ | (apply JC_dec_true; exact rfl; omega))
            refine ⟨(t + 1, M.set k (c + 1)), hst, hz (by omega) hz0 (by omega), ?_⟩
            dsimp only
            rw [← hnx]
            (refine ent ?_ ?_; (repeat refine fr_cons rfl ?_); exact fr_nil; (repeat (exact List.Sublist.refl _)))
          · repeat' (first | (apply Jq_move; exact rfl; exact rfl) | (apply Jq_load; exact rfl; exact rfl; (exact mb); (refine i64s_at ?_; omega)) | (apply Jq_indexN; exact rfl; exact rfl; exact rfl; omega) | (apply Jq_cmp; exact rfl; exact rfl; exact rfl; exact rfl) | (apply Jq_add; exact rfl; exact rfl; exact rfl; omega) | refine thenQ_normal ?_ | refine thenQ_exit ?_ | refine inBlockQ_normal ?_ | refine inBlockQ_here ?_ | refine JC_seq ?_ | refine JC_region ?_ | refine J_nil ?_ | refine JC_exit ?_ | (apply JC_dec_false; exact rfl; omega))
            refine ⟨(i + 1, M, c + 1), ⟨by omega, hend hz0⟩, by dsimp only; omega, ?_⟩
            (refine ent ?_ ?_; (repeat refine fr_cons rfl ?_); exact fr_nil; (repeat (exact List.Sublist.refl _)))
      · repeat' (first | (apply Jq_move; exact rfl; exact rfl) | (apply Jq_assign; exact rfl; exact rfl) | (apply Jq_load; exact rfl; exact rfl; (exact mb); (refine i64s_at ?_; omega)) | (apply Jq_indexN; exact rfl; exact rfl; exact rfl; omega) | (apply Jq_cmp; exact rfl; exact rfl; exact rfl; exact rfl) | (apply Jq_add; exact rfl; exact rfl; exact rfl; omega) | refine thenQ_normal ?_ | refine thenQ_exit ?_ | refine inBlockQ_here ?_ | refine JC_seq ?_ | refine JC_region ?_ | refine J_nil ?_ | refine JC_block ?_ | refine JC_skip ?_ | refine JC_exit ?_ | (apply JC_dec_true; exact rfl; omega))
        refine ⟨(i + 1, L, c), ⟨by omega, cov_old hσ hlt hc h0⟩, by dsimp only; omega, ?_⟩
        (refine ent ?_ ?_; (repeat refine fr_cons rfl ?_); exact fr_nil; (repeat (exact List.Sublist.refl _)))
    · obtain rfl : i = n := by omega
      obtain ⟨e, hpos⟩ := cov_end hc
      have hle := hc.le
      repeat' (first | (apply Jq_move; exact rfl; exact rfl) | (apply Jq_cmp; exact rfl; exact rfl; exact rfl; exact rfl) | (apply Jc; exact rfl; exact rfl; exact rfl; infer_instance; ((intro w hw); exact n_gives i X O w)) | (apply Jq_loadW; exact rfl; exact rfl; (exact mb); (omega)) | refine thenQ_normal ?_ | refine thenQ_exit ?_ | refine inBlockQ_here ?_ | refine JC_seq ?_ | refine JC_region ?_ | refine J_nil ?_ | refine JC_block ?_ | refine JC_exit ?_ | (apply JC_dec_false; exact rfl; omega))
      refine JC_loop (X := Nat) (fun k => k ≤ i) (fun k => [(43, .int .i64 (k : Int)), (42, .int .i64 (i : Int)), (5, .int .i64 (c : Int)), (1, .pointer (some ⟨b1, 0, none⟩)), (2, .pointer (some ⟨b2, 0, none⟩)), (4, .pointer (some ⟨b4, 0, none⟩))])
        (fun k => [.blk b4 (i64s (decs L k)) 184, .blk b2 (i64s Z8) 184, .blk b1 (gv i X O) 28]) (fun k => i - k) 0 (Nat.zero_le _) ?_ ?_
      · (refine ent ?_ ?_; (repeat refine fr_cons rfl ?_); exact fr_nil; (repeat (first | exact List.Sublist.refl _ | refine List.Sublist.cons _ ?_)))
      · intro k hk
        have ld : (decs L k).length = 8 := by rw [decs_len]; exact lL
        have ud := i64s_len (decs L k)
        by_cases hlk : k < i
        · have hd : (decs L k).getD k 0 = L.getD k 0 := by rw [decs_get L (by omega) k, if_neg (by omega)]
          have hp := hpos k hlk
          have e2 : (((decs L k).getD k 0 : Nat) : Int) - 1 = ((L.getD k 0 - 1 : Nat) : Int) := by rw [hd]; omega
          have hb := hle k
          repeat' (first | (apply Jq_subR; exact rfl; exact rfl; exact rfl; omega; exact e2) | (apply Jq_move; exact rfl; exact rfl) | (apply Jq_assign; exact rfl; exact rfl) | (apply Jq_load; exact rfl; exact rfl; (exact mb); (refine i64s_at ?_; omega)) | (apply Jq_indexN; exact rfl; exact rfl; exact rfl; omega) | (apply Jq_cmp; exact rfl; exact rfl; exact rfl; exact rfl) | (apply Jq_add; exact rfl; exact rfl; exact rfl; omega) | (apply J_s1; exact rfl; exact rfl; exact rfl; infer_instance; (omega); (exact i64s_set); infer_instance) | refine thenQ_normal ?_ | refine inBlockQ_normal ?_ | refine JC_seq ?_ | refine JC_region ?_ | refine J_nil ?_ | refine JC_block ?_ | refine JC_skip ?_ | (apply JC_dec_true; exact rfl; omega))
          refine ⟨k + 1, by omega, by omega, ?_⟩
          (refine ent ?_ ?_; (repeat refine fr_cons rfl ?_); exact fr_nil; (repeat (exact List.Sublist.refl _)))
        · obtain rfl : k = i := by omega
          repeat' (first | (apply Jq_move; exact rfl; exact rfl) | (apply Jq_assign; exact rfl; exact rfl) | (apply Jq_cmp; exact rfl; exact rfl; exact rfl; exact rfl) | (apply Jq_loadW; exact rfl; exact rfl; (exact mb); (omega)) | (apply J_sW; exact rfl; exact rfl; infer_instance; (exact rfl); (omega); (exact i64s_one _); infer_instance) | refine thenQ_normal ?_ | refine thenQ_exit ?_ | refine inBlockQ_here ?_ | refine JC_seq ?_ | refine JC_region ?_ | refine J_nil ?_ | refine JC_ret ?_ | refine JC_exit ?_ | (apply JC_dec_false; exact rfl; omega))
          refine nCT rfl rfl rfl rfl (.tail _ (.head _)) (by omega) ⟨rfl, decs L k, by unfold comps; rw [hσd, ← e], ld, fun m hm => ?_⟩
          rw [decs_get L (by omega) k, if_pos hm]
          have := hpos m hm
          have := hle m
          unfold comps
          rw [hσd, ← e]
          omega
namespace SL
section
variable {P : Program} {B : Nat} {w0 : World} {n : Nat} {Q : Po} {F : Fr} {H : Hp} {ops : Array Oper} {l : List Oper} {ty : TypeId} {pos : String} {af : Array Edge} {d : Nat}
theorem JcComp {f : Operand} {xs : List Operand} {Ts : Array TypeId} {k : FuncId} {args : List Value} {caps : Array Value} {m c : Nat} (hd : Nat.blt d n = true) (hf : ev F f = some (.func (.func k) #[] caps)) (hxs : evs F xs = some args) (hk : Runs P k)
    (h : ∀ w, Holds B w0 H w → GivesN P k (args ++ caps.toList).toArray (compV m c) w)
    (K : ∀ L : List Nat, (i64s L).length = 8 → L.length = 8 → (∀ j, j < m → L.getD j 0 < c) → J false P B w0 n ops Q l ((d, .tuple #[.agg (i64s L).toArray, .int .i64 (c : Int)]) :: F) H) :
    J false P B w0 n ops Q (⟨some d, .call { callee := .value f, args := xs.toArray, argTypes := Ts }, ty, pos, af, none⟩ :: l) F H :=
  JcN hd hf hxs hk h (fun v its hN => by
    obtain ⟨rfl, _⟩ := hN
    intro x hx; cases hx) fun v its hN => by
    obtain ⟨rfl, L, rfl, h1, h2⟩ := hN
    exact K L (by rw [i64s_len, h1]) h1 h2
end
end SL
end Go.Proofs.YtmbbcmebdefggaaGreatDoor
namespace Go.Proofs.YtmbbcmebdefggaaGreatDoor
open Go Go.RowKit SL
/-- Numbers, less one. -/
def i64m (L : List Nat) : List Value := L.map fun (x : Nat) => .int .i64 ((x : Int) - 1)
theorem i64m_len (L : List Nat) : (i64m L).length = L.length := by simp [i64m]
theorem i64m_one (L : List Nat) : ∀ u ∈ i64m L, u.oneCell' = true := by simp [i64m, Value.oneCell']
theorem i64m_at {L : List Nat} {k : Nat} (h : k < L.length) : (i64m L)[0 + k * 1]? = some (.int .i64 ((L.getD k 0 : Nat) - 1 : Int)) := by
  rw [show 0 + k * 1 = k by omega]
  simp [i64m, List.getD_eq_getElem?_getD, h]
theorem i64m_set {L : List Nat} {j c : Nat} : (i64m L).set (0 + j * 1) (.int .i64 (c : Int)) = i64m (L.set j (c + 1)) := by
  rw [show 0 + j * 1 = j by omega, i64m, i64m, List.map_set]
  congr 2
  omega
def neg1 (_ : Nat) : Value := .int .i64 (-1)
theorem neg1_all : mkL neg1 8 ++ (i64s Z8).drop 8 = i64m Z8 := rfl
set_option maxRecDepth 100000 in
theorem follow_gives (n k : Nat) (X O : List Nat) (bX : isB X) (bO : isB O) (g : okG (n : Int) X O) (hk : k < n) (w : World) :
    Gives Tryz.prog 191 #[.agg (gv n X O).toArray, .int .i64 (k : Int)] (.int .i64 (nxt n X O k : Nat)) w := by
  obtain ⟨⟨h2, h8⟩, pX, pO, hne⟩ := g
  simp only [Int.toNat_natCast] at pX pO hne
  have ug := gv_len (n := n) bX.1 bO.1
  have uX := u8s_len X
  have lX := bX.1
  have lO := bO.1
  have hb := pO.1 k hk
  refine gives_of (args := [.agg (gv n X O).toArray, .int .i64 (k : Int)]) [(0, .agg (gv n X O).toArray), (1, .int .i64 (k : Int))] [] Tryz.func191 rfl Tryz.ntmps191 rfl (argsF_cons rfl (argsF_cons rfl argsF_nil)) (Holds.start w) ?_
  repeat' (first | (apply Jq_conv; exact rfl; exact rfl; exact wrap64_nat (bO.2 _)) | (apply Jq_move; exact rfl; exact rfl) | (apply Jq_assign; exact rfl; exact rfl) | (apply Jq_load; exact rfl; exact rfl; (exact mb); (first | exact rfl | (refine gv_O lX lO ?_; omega))) | (apply Jq_fieldAddr; exact rfl; exact rfl) | (apply Jq_indexN; exact rfl; exact rfl; exact rfl; omega) | (apply Jc; exact rfl; exact rfl; exact rfl; infer_instance; ((intro w hw); exact l01Row_gives X n (O.getD k 0) bX (by omega) w)) | (apply Jq_loadA; exact rfl; exact rfl; (exact mb); (exact gv_arrX bX.1); (omega)) | (apply J_box; exact rfl; exact rfl; exact rfl; (intro _)) | refine thenQ_normal ?_ | refine JC_seq ?_ | refine JC_region ?_ | (apply JC_draw mixed; kernel_rfl) | refine J_nil ?_ | refine JC_ret ?_)
  exact g1 rfl rfl rfl (by unfold nxt; rw [plc_pos pX (by omega) hb])
/-- A value and a number of components. -/
def compS (c : Nat) (v : Value) (its : Hp) : Prop := its = [] ∧ ∃ L : List Nat, v = .tuple #[.agg (i64m L).toArray, .int .i64 (c : Int)] ∧ L.length = 8
set_option maxRecDepth 100000 in
theorem lcomponents_gives (n : Nat) (X O : List Nat) (bX : isB X) (bO : isB O) (g : okG (n : Int) X O) (w : World) :
    GivesN Tryz.prog 159 #[.agg (gv n X O).toArray] (compS (comps n X O)) w := by
  have hσ := nxt_perm g
  have hfol := fun k hk => follow_gives n k X O bX bO g hk
  have h8 : n ≤ 8 := by have := g.1; omega
  have ug := gv_len (n := n) bX.1 bO.1
  have kX := bX.1
  have kO := bO.1
  have uz := i64s_len Z8
  have lz : Z8.length = 8 := rfl
  refine givesN_of (args := [.agg (gv n X O).toArray]) [(0, .agg (gv n X O).toArray)] [] Tryz.func159 rfl Tryz.ntmps159 rfl (argsF_cons rfl argsF_nil) (Holds.start w) ?_
  repeat' (first | (apply Jq_assign; exact rfl; exact rfl) | (apply J_sW; exact rfl; exact rfl; infer_instance; (exact rfl); (exact rfl); (exact ones_of rfl); infer_instance) | (apply J_box; exact rfl; exact rfl; exact rfl; (intro _)) | (apply J_alloc (cs := i64s Z8); exact rfl; exact rfl; (intro _)) | (apply Jz (cs := i64s Z8); exact rfl; exact rfl) | refine thenQ_normal ?_ | refine JC_seq ?_ | refine JC_region ?_ | refine J_nil ?_ | refine JC_block ?_)
  rename_i b1 b2 b4
  refine JC_cutB (Y := Unit) (fun _ => True) (fun _ => [(5, .int .i64 0), (1, .pointer (some ⟨b1, 0, none⟩)), (2, .pointer (some ⟨b2, 0, none⟩)), (4, .pointer (some ⟨b4, 0, none⟩))]) (fun _ => [.blk b4 (i64m Z8) 181, .blk b2 (i64s Z8) 181, .blk b1 (gv n X O) 28]) ?_ ?_
  · refine JC_loop (X := Nat) (fun k => k ≤ 8) (fun k => [(6, .int .i64 (k : Int)), (5, .int .i64 0), (1, .pointer (some ⟨b1, 0, none⟩)), (2, .pointer (some ⟨b2, 0, none⟩)), (4, .pointer (some ⟨b4, 0, none⟩))])
      (fun k => [.blk b4 (mkL neg1 k ++ (i64s Z8).drop k) 181, .blk b2 (i64s Z8) 181, .blk b1 (gv n X O) 28]) (fun k => 8 - k) 0 (Nat.zero_le _) ?_ ?_
    · (refine ent ?_ ?_; (repeat refine fr_cons rfl ?_); exact fr_nil; (repeat (exact List.Sublist.refl _)))
    · intro k hk
      have lm : (mkL neg1 k ++ (i64s Z8).drop k).length = 8 := mkL_rest (by rw [uz, lz]; exact hk)
      by_cases hlt : k < 8
      · repeat' (first | (apply Jq_move; exact rfl; exact rfl) | (apply Jq_assign; exact rfl; exact rfl) | (apply Jq_indexN; exact rfl; exact rfl; exact rfl; omega) | (apply Jq_cmp; exact rfl; exact rfl; exact rfl; exact rfl) | (apply Jq_add; exact rfl; exact rfl; exact rfl; omega) | (apply J_s1; exact rfl; exact rfl; exact rfl; infer_instance; (omega); (exact mkL_set (t := k) (by omega) rfl (by rw [uz, lz]; exact hlt)); infer_instance) | refine thenQ_normal ?_ | refine inBlockQ_normal ?_ | refine JC_seq ?_ | refine JC_region ?_ | refine J_nil ?_ | refine JC_block ?_ | refine JC_skip ?_ | (apply JC_dec_true; exact rfl; omega))
        refine ⟨k + 1, by omega, by omega, ?_⟩
        (refine ent ?_ ?_; (repeat refine fr_cons rfl ?_); exact fr_nil; (repeat (exact List.Sublist.refl _)))
      · obtain rfl : k = 8 := by omega
        repeat' (first | (apply Jq_move; exact rfl; exact rfl) | (apply Jq_cmp; exact rfl; exact rfl; exact rfl; exact rfl) | refine thenQ_normal ?_ | refine thenQ_exit ?_ | refine inBlockQ_here ?_ | refine JC_seq ?_ | refine JC_region ?_ | refine J_nil ?_ | refine JC_exit ?_ | (apply JC_if_false; exact rfl))
        refine ⟨(), trivial, ?_⟩
        rw [neg1_all]
        (refine ent ?_ ?_; (repeat refine fr_cons rfl ?_); exact fr_nil; (repeat (exact List.Sublist.refl _)))
  · intro _ _
    generalize hσd : nxt n X O = σ at *
    repeat' (first | (apply Jq_assign; exact rfl; exact rfl) | refine thenQ_normal ?_ | refine JC_seq ?_ | refine JC_region ?_ | refine J_nil ?_ | refine JC_block ?_)
    refine JC_loop (X := Nat × List Nat × Nat) (fun p => p.1 ≤ n ∧ cov σ n p.1 p.2.1 p.2.2) (fun p => [(7, .int .i64 (p.1 : Int)), (5, .int .i64 (p.2.2 : Int)), (1, .pointer (some ⟨b1, 0, none⟩)), (2, .pointer (some ⟨b2, 0, none⟩)), (4, .pointer (some ⟨b4, 0, none⟩))])
      (fun p => [.blk b4 (i64m p.2.1) 181, .blk b2 (i64s Z8) 181, .blk b1 (gv n X O) 28]) (fun p => n - p.1) (0, Z8, 0) ⟨Nat.zero_le _, cov_zero σ n⟩ ?_ ?_
    · (refine ent ?_ ?_; (repeat refine fr_cons rfl ?_); exact fr_nil; (repeat (exact List.Sublist.refl _)))
    · rintro ⟨i, L, c⟩ ⟨hi, hc⟩
      dsimp only at hi hc ⊢
      have lL := hc.len
      have uL := i64m_len L
      have hci := cov_le hc
      have hle := hc.le
      by_cases hlt : i < n
      · by_cases h0 : L.getD i 0 = 0
        · have hneg : ((L.getD i 0 : Nat) : Int) - 1 < 0 := by omega
          have gi : (i64m L)[0 + i * 1]? = some (.int .i64 (-1)) := by rw [i64m_at (by omega), h0]; rfl
          repeat' (first | (apply Jq_move; exact rfl; exact rfl) | (apply Jq_assign; exact rfl; exact rfl) | (apply Jq_load; exact rfl; exact rfl; (exact mb); (first | exact rfl | exact gi)) | (apply Jq_fieldAddr; exact rfl; exact rfl) | (apply Jq_indexN; exact rfl; exact rfl; exact rfl; omega) | (apply Jq_cmp; exact rfl; exact rfl; exact rfl; exact rfl) | refine thenQ_normal ?_ | refine JC_seq ?_ | refine JC_region ?_ | refine J_nil ?_ | refine JC_block ?_ | refine JC_skip ?_ | (apply JC_if_false; exact rfl) | (apply JC_dec_true; exact rfl; omega))
          refine JC_cutB (Y := Nat × List Nat) (fun p => alo σ n i p.2 (c + 1) p.1 ∧ p.2.getD (it σ p.1 i) 0 ≠ 0) (fun p => [(7, .int .i64 (i : Int)), (5, .int .i64 (c : Int)), (1, .pointer (some ⟨b1, 0, none⟩)), (2, .pointer (some ⟨b2, 0, none⟩)), (4, .pointer (some ⟨b4, 0, none⟩))]) (fun p => [.blk b4 (i64m p.2) 181, .blk b2 (i64s Z8) 181, .blk b1 (gv n X O) 28]) ?_ ?_
          · refine JC_loop (X := Nat × List Nat) (fun p => alo σ n i p.2 (c + 1) p.1) (fun p => [(8, .int .i64 (it σ p.1 i : Nat)), (7, .int .i64 (i : Int)), (5, .int .i64 (c : Int)), (1, .pointer (some ⟨b1, 0, none⟩)), (2, .pointer (some ⟨b2, 0, none⟩)), (4, .pointer (some ⟨b4, 0, none⟩))])
              (fun p => [.blk b4 (i64m p.2) 181, .blk b2 (i64s Z8) 181, .blk b1 (gv n X O) 28]) (fun p => zc p.2) (0, L) (alo_start hc) ?_ ?_
            · (refine ent ?_ ?_; (repeat refine fr_cons rfl ?_); exact fr_nil; (repeat (exact List.Sublist.refl _)))
            · rintro ⟨t, M⟩ hM
              dsimp only at hM ⊢
              have hk := it_lt hσ hlt t
              have lM := hM.len
              have uM := i64m_len M
              have hf := hfol (it σ t i) hk
              have hnx : σ (it σ t i) = it σ (t + 1) i := rfl
              have hst := alo_step hσ h8 hlt (Nat.succ_pos c) hM
              have hz := zc_set (L := M) (k := it σ t i) (v := c + 1)
              by_cases hz0 : M.getD (it σ t i) 0 = 0
              · have gi : (i64m M)[0 + it σ t i * 1]? = some (.int .i64 (-1)) := by rw [i64m_at (by omega), hz0]; rfl
                rw [hnx] at hf
                generalize hkk : it σ t i = k at *
                repeat' (first | (apply Jq_move; exact rfl; exact rfl) | (apply Jq_assign; exact rfl; exact rfl) | (apply Jq_load; exact rfl; exact rfl; (exact mb); (exact gi)) | (apply Jq_indexN; exact rfl; exact rfl; exact rfl; omega) | (apply Jq_cmp; exact rfl; exact rfl; exact rfl; exact rfl) | (apply Jc; exact rfl; exact rfl; exact rfl; infer_instance; ((intro w hw); exact hf w)) | (apply Jq_loadW; exact rfl; exact rfl; (exact mb); (omega)) | (apply J_s1; exact rfl; exact rfl; exact rfl; infer_instance; (omega); (exact i64m_set); infer_instance) | refine thenQ_normal ?_ | refine inBlockQ_normal ?_ | refine JC_seq ?_ | refine JC_region ?_ | refine J_nil ?_ | refine JC_block ?_ | refine JC_skip ?_ | (apply JC_if_true; exact rfl))
                refine ⟨(t + 1, M.set k (c + 1)), hst, hz (by omega) hz0 (by omega), ?_⟩
                (refine ent ?_ ?_; (repeat refine fr_cons rfl ?_); exact fr_nil; (repeat (exact List.Sublist.refl _)))
              · have hp := hM.len
                repeat' (first | (apply Jq_move; exact rfl; exact rfl) | (apply Jq_load; exact rfl; exact rfl; (exact mb); (refine i64m_at ?_; omega)) | (apply Jq_indexN; exact rfl; exact rfl; exact rfl; omega) | (apply Jq_cmp; exact rfl; exact rfl; exact rfl; exact rfl) | refine thenQ_normal ?_ | refine thenQ_exit ?_ | refine inBlockQ_here ?_ | refine JC_seq ?_ | refine JC_region ?_ | refine J_nil ?_ | refine JC_exit ?_ | (apply JC_dec_false; exact rfl; omega))
                refine ⟨(t, M), ⟨hM, hz0⟩, ?_⟩
                (refine ent ?_ ?_; (repeat refine fr_cons rfl ?_); exact fr_nil; (repeat (exact List.Sublist.refl _)))
          · rintro ⟨t, M⟩ ⟨hM, hz0⟩
            dsimp only at hM hz0 ⊢
            have hend := alo_end hσ hlt hc h0 hM hz0
            repeat' (first | (apply Jq_move; exact rfl; exact rfl) | (apply Jq_assign; exact rfl; exact rfl) | (apply Jq_add; exact rfl; exact rfl; exact rfl; omega) | refine thenQ_normal ?_ | refine inBlockQ_normal ?_ | refine JC_region ?_ | refine J_nil ?_)
            refine ⟨(i + 1, M, c + 1), ⟨by omega, hend⟩, by dsimp only; omega, ?_⟩
            (refine ent ?_ ?_; (repeat refine fr_cons rfl ?_); exact fr_nil; (repeat (exact List.Sublist.refl _)))
        · have hl := hle i
          repeat' (first | (apply Jq_move; exact rfl; exact rfl) | (apply Jq_assign; exact rfl; exact rfl) | (apply Jq_load; exact rfl; exact rfl; (exact mb); (first | exact rfl | (refine i64m_at ?_; omega))) | (apply Jq_fieldAddr; exact rfl; exact rfl) | (apply Jq_indexN; exact rfl; exact rfl; exact rfl; omega) | (apply Jq_cmp; exact rfl; exact rfl; exact rfl; exact rfl) | (apply Jq_add; exact rfl; exact rfl; exact rfl; omega) | refine thenQ_normal ?_ | refine thenQ_exit ?_ | refine inBlockQ_here ?_ | refine JC_seq ?_ | refine JC_region ?_ | refine J_nil ?_ | refine JC_block ?_ | refine JC_skip ?_ | refine JC_exit ?_ | (apply JC_dec_true; exact rfl; omega))
          refine ⟨(i + 1, L, c), ⟨by omega, cov_old hσ hlt hc h0⟩, by dsimp only; omega, ?_⟩
          (refine ent ?_ ?_; (repeat refine fr_cons rfl ?_); exact fr_nil; (repeat (exact List.Sublist.refl _)))
      · obtain rfl : i = n := by omega
        obtain ⟨e, hpos⟩ := cov_end hc
        repeat' (first | (apply Jq_move; exact rfl; exact rfl) | (apply Jq_assign; exact rfl; exact rfl) | (apply Jq_load; exact rfl; exact rfl; (exact mb); (exact rfl)) | (apply Jq_fieldAddr; exact rfl; exact rfl) | (apply Jq_cmp; exact rfl; exact rfl; exact rfl; exact rfl) | (apply Jq_loadW; exact rfl; exact rfl; (exact mb); (omega)) | (apply J_sW; exact rfl; exact rfl; infer_instance; (exact rfl); (omega); (exact i64m_one _); infer_instance) | refine thenQ_normal ?_ | refine thenQ_exit ?_ | refine inBlockQ_here ?_ | refine JC_seq ?_ | refine JC_region ?_ | refine J_nil ?_ | refine JC_ret ?_ | refine JC_exit ?_ | (apply JC_dec_false; exact rfl; omega))
        exact nCT rfl rfl rfl rfl mb (by omega) ⟨rfl, L, by unfold comps; rw [hσd, ← e], lL⟩
end Go.Proofs.YtmbbcmebdefggaaGreatDoor
