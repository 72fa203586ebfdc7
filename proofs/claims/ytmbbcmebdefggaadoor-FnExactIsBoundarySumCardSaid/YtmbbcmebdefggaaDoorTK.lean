/- Rules: room for a slice's elements. Walks: lists of states joined. Walks: sums of states: impl.AddSums. Walks: FnExactAddSums. -/
import Derived.Test.YtmbbcmebdefggaaDoorAP
import Derived.Test.YtmbbcmebdefggaaDoorTG
import Derived.Test.YtmbbcmebdefggaaDoorTH
import Derived.Lib.AppendZeros
namespace Go.Proofs.YtmbbcmebdefggaaDoor
open Go Go.RowKit
namespace SL
section
variable {P : Program} {B : Nat} {w0 : World} {n : Nat} {Q : Po} {F : Fr} {H H1 H2 : Hp} {ops : Array Oper} {l : List Oper} {ty : TypeId} {pos : String} {af : Array Edge} {d : Nat} {dst : Option Tmp} {g : Option (Nat × Bool)}
end
end SL
end Go.Proofs.YtmbbcmebdefggaaDoor
namespace Go.Proofs.YtmbbcmebdefggaaDoor
open Go Go.RowKit SL
end Go.Proofs.YtmbbcmebdefggaaDoor
namespace Go.Proofs.YtmbbcmebdefggaaDoor
open Go Go.RowKit SL
namespace SL
section
variable {P : Program} {B : Nat} {w0 : World} {n : Nat} {Q : Po} {F : Fr} {H H1 H2 : Hp} {ops : Array Oper} {l : List Oper} {ty : TypeId} {pos : String} {af : Array Edge} {d : Nat}
end
end SL
theorem cmpS_neg (x y : StB) : (0 ≤ cmpL x.1 y.1) ↔ ¬ rkT x < rkT y := by
  have := cfS_lt x y
  unfold cfS rkS at this
  omega
set_option maxRecDepth 100000 in
theorem isum_gives {B : Nat} {w0 : World} {H : Hp} {v : Value} (n : Int) (X O : List Nat) (bX : isB X) (bO : isB O) (l : List StB) (hv : It.row v 43 8 (l.flatMap encS) ∈ H) (hl : l.length < 100000000) :
    GivesM Tryd.prog 50 #[.agg (gv n X O).toArray, v] B w0 H (.bool (@decide (sumOK n X O l) (Classical.propDecidable _))) H := by
  have ug := gv_len (n := n) bX.1 bO.1
  have iv : RB v H 43 8 (l.flatMap encS) := ⟨hv⟩
  have lf := fl_len encS_len l
  refine givesM_of (args := [.agg (gv n X O).toArray, v]) [(0, .agg (gv n X O).toArray), (1, v)] Tryd.func50 rfl Tryd.ntmps50 rfl (argsF_cons rfl (argsF_cons rfl argsF_nil)) ?_
  by_cases g : okG n X O
  · obtain ⟨m, rfl⟩ := okG_nat g
    have h2 := g.1
    repeat' (first | (apply Jq_move; exact rfl; exact rfl) | (apply Jq_assign; exact rfl; exact rfl) | (apply Jq_not; exact rfl; exact rfl) | (apply Jc; exact rfl; exact rfl; exact rfl; infer_instance; ((intro w hw); exact IsGrid_gives m X O bX bO w)) | (apply Jq_loadW; exact rfl; exact rfl; (exact mb); (omega)) | (apply J_box; exact rfl; exact rfl; exact rfl; (intro _)) | (apply Jq_lenRs; exact rfl; exact rfl; (exact rb); exact lf; decide) | refine thenQ_normal ?_ | refine JC_seq ?_ | refine JC_region ?_ | refine J_nil ?_ | refine JC_block ?_ | refine JC_skip ?_ | (apply JC_ndec_false; exact rfl; omega))
    rename_i b2
    refine JC_loop (X := Nat) (fun k => k ≤ l.length ∧ preS m l k) (fun k => [(10, v), (11, .int .i64 (l.length : Int)), (12, .int .i64 (k : Int)), (1, v), (2, .pointer (some ⟨b2, 0, none⟩))]) (fun _ => .blk b2 (gv m X O) 29 :: H) (fun k => l.length - k) 0 ⟨Nat.zero_le _, fun j x h => absurd h (Nat.not_lt_zero _), fun j x y h => absurd h (Nat.not_lt_zero _)⟩ ?_ ?_
    · (refine ent ?_ ?_; (repeat refine fr_cons rfl ?_); exact fr_nil; (repeat (exact List.Sublist.refl _)))
    · rintro k ⟨hk, hpre⟩
      by_cases hlt : k < l.length
      · obtain ⟨x, hx⟩ : ∃ x, l[k]? = some x := ⟨_, List.getElem?_eq_getElem hlt⟩
        have ux := encS_len x
        have hno1 : ¬ isPerm x.1 m → ¬ sumOK (m : Int) X O l := fun h hs => h (by have := hs.2.1 x (List.mem_of_getElem? hx); rwa [Int.toNat_natCast] at this)
        by_cases hk0 : 0 < k
        · obtain ⟨y, hy⟩ : ∃ y, l[k - 1]? = some y := ⟨_, List.getElem?_eq_getElem (by omega)⟩
          have uy := encS_len y
          have hno2 : ¬ rkT y < rkT x → ¬ sumOK (m : Int) X O l := fun h hs => h (hs.2.2.get hy hx (by omega))
          have hk1 : (k : Int) - 1 = ((k - 1 : Nat) : Int) := by omega
          repeat' (first | (apply Jq_subR; exact rfl; exact rfl; exact rfl; omega; exact hk1) | (apply Jq_move; exact rfl; exact rfl) | (apply Jq_assign; exact rfl; exact rfl) | (apply Jq_cmp; exact rfl; exact rfl; exact rfl; exact rfl) | (apply Jq_add; exact rfl; exact rfl; exact rfl; omega) | (apply Jq_not; exact rfl; exact rfl) | (apply Jq_pick_true; exact rfl; exact rfl; exact rfl) | (apply Jq_pick_false; exact rfl; exact rfl; exact rfl) | (apply J_on; exact rfl; exact rfl) | (apply J_skip; exact rfl; exact rfl; exact rfl; exact rfl) | (apply J_skipU; exact rfl; exact rfl; exact rfl) | (apply Jc; exact rfl; exact rfl; exact rfl; infer_instance; ((intro w hw); first | exact isState_gives m X O x.1 bX bO x.2 (by omega) (by omega) w | exact compareS_gives y.1 x.1 y.2 x.2 w)) | (apply Jq_loadW; exact rfl; exact rfl; (exact mb); (omega)) | (apply J_sW; exact rfl; exact rfl; infer_instance; (exact rfl); (omega); (exact u8s_one _); infer_instance) | (apply Jq_indexRs; exact rfl; exact rfl; exact rfl; (exact rb); omega) | (apply Jq_loadRA; exact rfl; exact rfl; (exact rb); (first | exact fl_at encS_len hx | exact fl_at encS_len hy); (omega); decide) | (apply J_alloc (cs := u8s Z8); exact rfl; exact rfl; (intro _)) | refine thenQ_normal ?_ | refine thenQ_ret ?_ | refine inBlockQ_normal ?_ | refine inBlockQ_ret ?_ | refine JC_seq ?_ | refine JC_region ?_ | (apply JC_draw mixed; kernel_rfl) | refine J_nil ?_ | refine JC_block ?_ | refine JC_skip ?_ | refine JC_ret ?_ | (apply JC_if_true; exact rfl) | (apply JC_dec_true; exact rfl; omega) | (apply J_gdT; exact rfl; exact rfl; omega) | refine JC_dec rfl (fun _ => ?_) (fun _ => ?_) | refine J_gn rfl rfl (fun _ => ?_) (fun _ => ?_))
          · rename_i hh
            refine m1 rfl rfl rfl (boolF (hno1 hh)) ?_
            (refine ent ?_ ?_; (repeat refine fr_cons rfl ?_); exact fr_nil; (repeat (first | exact List.Sublist.refl _ | refine List.Sublist.cons _ ?_)))
          · rename_i hh
            refine m1 rfl rfl rfl (boolF (hno2 ((cmpS_neg y x).1 hh))) ?_
            (refine ent ?_ ?_; (repeat refine fr_cons rfl ?_); exact fr_nil; (repeat (first | exact List.Sublist.refl _ | refine List.Sublist.cons _ ?_)))
          · rename_i hp ho
            refine ⟨k + 1, ⟨by omega, preS_step hpre hx hp fun z _ hz => by rw [hy] at hz; cases hz; exact Classical.byContradiction fun hc => ho ((cmpS_neg y x).2 hc)⟩, by omega, ?_⟩
            (refine ent ?_ ?_; (repeat refine fr_cons rfl ?_); exact fr_nil; (repeat (first | exact List.Sublist.refl _ | refine List.Sublist.cons _ ?_)))
        · obtain rfl : k = 0 := by omega
          repeat' (first | (apply Jq_move; exact rfl; exact rfl) | (apply Jq_assign; exact rfl; exact rfl) | (apply Jq_cmp; exact rfl; exact rfl; exact rfl; exact rfl) | (apply Jq_add; exact rfl; exact rfl; exact rfl; omega) | (apply Jq_not; exact rfl; exact rfl) | (apply Jq_pick_true; exact rfl; exact rfl; exact rfl) | (apply Jq_pick_false; exact rfl; exact rfl; exact rfl) | (apply J_on; exact rfl; exact rfl) | (apply J_skip; exact rfl; exact rfl; exact rfl; exact rfl) | (apply J_skipU; exact rfl; exact rfl; exact rfl) | (apply Jc; exact rfl; exact rfl; exact rfl; infer_instance; ((intro w hw); exact isState_gives m X O x.1 bX bO x.2 (by omega) (by omega) w)) | (apply Jq_loadW; exact rfl; exact rfl; (exact mb); (omega)) | (apply J_sW; exact rfl; exact rfl; infer_instance; (exact rfl); (omega); (exact u8s_one _); infer_instance) | (apply Jq_indexRs; exact rfl; exact rfl; exact rfl; (exact rb); omega) | (apply Jq_loadRA; exact rfl; exact rfl; (exact rb); (exact fl_at encS_len hx); (omega); decide) | (apply J_alloc (cs := u8s Z8); exact rfl; exact rfl; (intro _)) | refine thenQ_normal ?_ | refine thenQ_ret ?_ | refine inBlockQ_normal ?_ | refine inBlockQ_ret ?_ | refine JC_seq ?_ | refine JC_region ?_ | (apply JC_draw mixed; kernel_rfl) | refine J_nil ?_ | refine JC_block ?_ | refine JC_skip ?_ | refine JC_ret ?_ | (apply JC_if_true; exact rfl) | (apply JC_if_false; exact rfl) | (apply JC_dec_true; exact rfl; omega) | refine J_gn rfl rfl (fun _ => ?_) (fun _ => ?_))
          · rename_i hh
            refine m1 rfl rfl rfl (boolF (hno1 hh)) ?_
            (refine ent ?_ ?_; (repeat refine fr_cons rfl ?_); exact fr_nil; (repeat (first | exact List.Sublist.refl _ | refine List.Sublist.cons _ ?_)))
          · rename_i hp
            refine ⟨1, ⟨by omega, preS_step hpre hx hp fun z h => absurd h (Nat.lt_irrefl _)⟩, by omega, ?_⟩
            (refine ent ?_ ?_; (repeat refine fr_cons rfl ?_); exact fr_nil; (repeat (first | exact List.Sublist.refl _ | refine List.Sublist.cons _ ?_)))
      · obtain rfl : k = l.length := by omega
        have hs := preS_end g hpre
        repeat' (first | (apply Jq_assign; exact rfl; exact rfl) | (apply Jq_cmp; exact rfl; exact rfl; exact rfl; exact rfl) | refine thenQ_normal ?_ | refine thenQ_exit ?_ | refine inBlockQ_here ?_ | refine JC_seq ?_ | refine JC_region ?_ | refine J_nil ?_ | refine JC_ret ?_ | refine JC_exit ?_ | (apply JC_dec_false; exact rfl; omega))
        refine m1 rfl rfl rfl (boolT hs) ?_
        (refine ent ?_ ?_; (repeat refine fr_cons rfl ?_); exact fr_nil; (repeat (first | exact List.Sublist.refl _ | refine List.Sublist.cons _ ?_)))
  · have hs : ¬ sumOK n X O l := fun h => g h.1
    repeat' (first | (apply Jq_assign; exact rfl; exact rfl) | (apply Jq_not; exact rfl; exact rfl) | (apply Jc; exact rfl; exact rfl; exact rfl; infer_instance; ((intro w hw); exact IsGrid_gives n X O bX bO w)) | (apply Jq_loadW; exact rfl; exact rfl; (exact mb); (omega)) | (apply J_box; exact rfl; exact rfl; exact rfl; (intro _)) | refine thenQ_normal ?_ | refine thenQ_ret ?_ | refine JC_seq ?_ | refine JC_region ?_ | refine J_nil ?_ | refine JC_ret ?_ | (apply JC_ndec_true; exact rfl; omega))
    refine m1 rfl rfl rfl (boolF hs) ?_
    (refine ent ?_ ?_; (repeat refine fr_cons rfl ?_); exact fr_nil; (repeat (first | exact List.Sublist.refl _ | refine List.Sublist.cons _ ?_)))
theorem codeS_cases {n : Int} {X O : List Nat} {Ls : List (List StB)} {c : Int} (hc : codeS n X O Ls = c) : (c = 1 ∧ ¬ (okG n X O ∧ ∀ l ∈ Ls, sumOK n X O l)) ∨ ((okG n X O ∧ ∀ l ∈ Ls, sumOK n X O l) ∧ ((c = 2 ∧ 6 < n) ∨ (c = 0 ∧ n ≤ 6))) := by
  unfold codeS at hc
  split at hc
  · rename_i h
    split at hc
    · exact .inr ⟨h, .inl ⟨hc.symm, by assumption⟩⟩
    · exact .inr ⟨h, .inr ⟨hc.symm, by omega⟩⟩
  · exact .inl ⟨hc.symm, by assumption⟩
end Go.Proofs.YtmbbcmebdefggaaDoor
namespace Go.Proofs.YtmbbcmebdefggaaDoor
open Go Go.RowKit SL
set_option maxRecDepth 100000 in
theorem szS_ok (a : Option Addr) (m cap : Nat) (l : Nat) (hl : l ≤ 2000000) (hm : m ≤ l) (w : World) : Gives Tryd.prog 6 #[.slice a m cap, .int .i64 (l : Int)] (.int .i64 ((l - m : Nat) : Int)) w := by
  have e : (l : Int) - (m : Int) = ((l - m : Nat) : Int) := by omega
  refine gives_of (args := [.slice a m cap, .int .i64 (l : Int)]) [(0, .slice a m cap), (1, .int .i64 (l : Int))] [] Tryd.func6 rfl Tryd.ntmps6 rfl (argsF_cons rfl (argsF_cons rfl argsF_nil)) (Holds.start w) ?_
  repeat' (first | (apply Jq_subR; exact rfl; exact rfl; exact rfl; omega; exact e) | (apply Jq_move; exact rfl; exact rfl) | (apply Jq_assign; exact rfl; exact rfl) | (apply Jq_cmp; exact rfl; exact rfl; exact rfl; exact rfl) | (apply Jq_len; exact rfl; exact rfl) | refine thenQ_normal ?_ | refine JC_seq ?_ | refine JC_region ?_ | refine J_nil ?_ | refine JC_skip ?_ | refine JC_ret ?_ | (apply JC_if_false; exact rfl))
  exact g1 rfl rfl rfl rfl
set_option maxRecDepth 100000 in
theorem szS_over (a : Option Addr) (m cap : Nat) (l : Nat) (hl : l ≤ 2000000) (hm : l < m) (hm2 : m ≤ 9223372036854775807) (w : World) : Gives Tryd.prog 6 #[.slice a m cap, .int .i64 (l : Int)] (.int .i64 (-1)) w := by
  refine gives_of (args := [.slice a m cap, .int .i64 (l : Int)]) [(0, .slice a m cap), (1, .int .i64 (l : Int))] [] Tryd.func6 rfl Tryd.ntmps6 rfl (argsF_cons rfl (argsF_cons rfl argsF_nil)) (Holds.start w) ?_
  repeat' (first | (apply Jq_move; exact rfl; exact rfl) | (apply Jq_assign; exact rfl; exact rfl) | (apply Jq_cmp; exact rfl; exact rfl; exact rfl; exact rfl) | (apply Jq_sub; exact rfl; exact rfl; exact rfl; omega) | (apply Jq_len; exact rfl; exact rfl) | refine thenQ_normal ?_ | refine thenQ_ret ?_ | refine JC_seq ?_ | refine JC_region ?_ | refine J_nil ?_ | refine JC_ret ?_ | (apply JC_dec_true; exact rfl; omega))
  exact g1 rfl rfl rfl rfl
end Go.Proofs.YtmbbcmebdefggaaDoor
