/- Walks: sums of states, as the reference tells them. -/
import Derived.Test.YtmbbcmebdefggaaGreatDoorV
import Derived.Test.YtmbbcmebdefggaaGreatDoorAP
import Derived.Test.YtmbbcmebdefggaaGreatDoorWC
import Derived.Test.YtmbbcmebdefggaaGreatDoorVA
import Derived.Test.YtmbbcmebdefggaaGreatDoorXA
namespace Go.Proofs.YtmbbcmebdefggaaGreatDoor
open Go Go.RowKit SL
set_option maxRecDepth 100000 in
theorem before_gives (x y : StB) (w : World) : Gives Tryz.prog 119 #[.agg (encS x).toArray, .agg (encS y).toArray] (.bool (decide (rkT x < rkT y))) w := by
  obtain ⟨X, bX⟩ := x
  obtain ⟨Y, bY⟩ := y
  have lX := bX.1
  have lY := bY.1
  have uX := u8s_len X
  have uY := u8s_len Y
  have hkey : ∀ k, k < 8 → (∀ j, j < k → X.getD j 0 = Y.getD j 0) → X.getD k 0 ≠ Y.getD k 0 → (X.getD k 0 < Y.getD k 0 ↔ rkT ⟨X, bX⟩ < rkT ⟨Y, bY⟩) := fun k hk hpre hne => by
    have mem : ∀ {X : List Nat}, isB X → ∀ x ∈ X, x < 256 := fun {X} hX x hx => by
      obtain ⟨i, hi, rfl⟩ := List.getElem_of_mem hx
      have := hX.2 i
      simpa [List.getD_eq_getElem?_getD, hi] using this
    unfold rkT
    constructor
    · intro h
      have := key_first (bX.1.trans bY.1.symm) (mem bX) (mem bY) (by omega) hpre h
      show ((key X : Nat) : Int) < ((key Y : Nat) : Int)
      omega
    · intro h
      refine Classical.byContradiction fun h2 => ?_
      have := key_first (bY.1.trans bX.1.symm) (mem bY) (mem bX) (show k < Y.length by omega) (fun j hj => (hpre j hj).symm) (by omega)
      have h3 : ((key X : Nat) : Int) < ((key Y : Nat) : Int) := h
      omega
  refine gives_of (args := [.agg (u8s X).toArray, .agg (u8s Y).toArray]) [(0, .agg (u8s X).toArray), (1, .agg (u8s Y).toArray)] [] Tryz.func119 rfl Tryz.ntmps119 rfl (argsF_cons rfl (argsF_cons rfl argsF_nil)) (Holds.start w) ?_
  repeat' (first | (apply Jq_assign; exact rfl; exact rfl) | (apply J_box; exact rfl; exact rfl; exact rfl; (intro _)) | refine thenQ_normal ?_ | refine JC_seq ?_ | refine JC_region ?_ | refine J_nil ?_ | refine JC_block ?_)
  rename_i b2 b3
  refine JC_loop (X := Nat) (fun k => k ≤ 8 ∧ ∀ j, j < k → X.getD j 0 = Y.getD j 0) (fun k => [(5, .int .i64 (k : Int)), (2, .pointer (some ⟨b2, 0, none⟩)), (3, .pointer (some ⟨b3, 0, none⟩))])
    (fun _ => [.blk b3 (u8s Y) 72, .blk b2 (u8s X) 72]) (fun k => 8 - k) 0 ⟨Nat.zero_le _, fun j h => absurd h (Nat.not_lt_zero _)⟩ ?_ ?_
  · (refine ent ?_ ?_; (repeat refine fr_cons rfl ?_); exact fr_nil; (repeat (exact List.Sublist.refl _)))
  · rintro k ⟨hk, hpre⟩
    by_cases hlt : k < 8
    · by_cases hne : X.getD k 0 = Y.getD k 0
      · repeat' (first | (apply Jq_move; exact rfl; exact rfl) | (apply Jq_assign; exact rfl; exact rfl) | (apply Jq_load; exact rfl; exact rfl; (exact mb); (refine u8s_at ?_; omega)) | (apply Jq_indexN; exact rfl; exact rfl; exact rfl; omega) | (apply Jq_cmp; exact rfl; exact rfl; exact rfl; exact rfl) | (apply Jq_add; exact rfl; exact rfl; exact rfl; omega) | refine thenQ_normal ?_ | refine inBlockQ_normal ?_ | refine JC_seq ?_ | refine JC_region ?_ | (apply JC_draw mixed; kernel_rfl) | refine J_nil ?_ | refine JC_block ?_ | refine JC_skip ?_ | (apply JC_dec_true; exact rfl; omega) | (apply JC_ndec_false; exact rfl; omega))
        refine ⟨k + 1, ⟨by omega, fun j hj => ?_⟩, by omega, ?_⟩
        · by_cases e : j = k
          · subst e; exact hne
          · exact hpre j (by omega)
        · (refine ent ?_ ?_; (repeat refine fr_cons rfl ?_); exact fr_nil; (repeat (exact List.Sublist.refl _)))
      · have hc := hkey k hlt hpre hne
        repeat' (first | (apply Jq_move; exact rfl; exact rfl) | (apply Jq_assign; exact rfl; exact rfl) | (apply Jq_load; exact rfl; exact rfl; (exact mb); (refine u8s_at ?_; omega)) | (apply Jq_indexN; exact rfl; exact rfl; exact rfl; omega) | (apply Jq_cmp; exact rfl; exact rfl; exact rfl; exact rfl) | refine thenQ_normal ?_ | refine thenQ_ret ?_ | refine inBlockQ_ret ?_ | refine JC_seq ?_ | refine JC_region ?_ | (apply JC_draw mixed; kernel_rfl) | refine J_nil ?_ | refine JC_block ?_ | refine JC_skip ?_ | refine JC_ret ?_ | (apply JC_dec_true; exact rfl; omega) | (apply JC_ndec_true; exact rfl; omega))
        exact g1 rfl rfl rfl (boolE (by rw [← hc]; omega))
    · repeat' (first | (apply Jq_move; exact rfl; exact rfl) | (apply Jq_assign; exact rfl; exact rfl) | (apply Jq_cmp; exact rfl; exact rfl; exact rfl; exact rfl) | refine thenQ_normal ?_ | refine thenQ_exit ?_ | refine inBlockQ_here ?_ | refine JC_seq ?_ | refine JC_region ?_ | refine J_nil ?_ | refine JC_ret ?_ | refine JC_exit ?_ | (apply JC_dec_false; exact rfl; omega))
      refine g1 rfl rfl rfl (boolF fun h => ?_)
      have e1 := list8_ext lY lX fun j hj => hpre j (by omega)
      subst e1
      exact Int.lt_irrefl _ h
theorem okS_nat {n : Nat} {X O x : List Nat} (g : okG (n : Int) X O) : okS (n : Int) X O x ↔ isPerm x n := by
  unfold okS
  rw [Int.toNat_natCast]
  exact and_iff_right g
/-- The first i states are in order. -/
def preS (n : Nat) (l : List StB) (i : Nat) : Prop := (∀ j x, j < i → l[j]? = some x → isPerm x.1 n) ∧ ∀ j x y, j + 1 < i → l[j]? = some x → l[j + 1]? = some y → rkT x < rkT y
theorem preS_end {n : Nat} {X O : List Nat} {l : List StB} (g : okG (n : Int) X O) (h : preS n l l.length) : sumOK (n : Int) X O l := by
  refine ⟨g, fun x hx => ?_, asc_adj fun i x y hi hj => ?_⟩
  · obtain ⟨j, hj, e⟩ := List.getElem_of_mem hx
    rw [Int.toNat_natCast]
    exact h.1 j x hj (by rw [List.getElem?_eq_getElem hj, e])
  · exact h.2 i x y (List.getElem?_eq_some_iff.1 hj).1 hi hj
theorem preS_step {n i : Nat} {l : List StB} {x : StB} (h : preS n l i) (hx : l[i]? = some x) (hp : isPerm x.1 n) (ho : ∀ y, 0 < i → l[i - 1]? = some y → rkT y < rkT x) : preS n l (i + 1) := by
  refine ⟨fun j z hj hz => ?_, fun j y z hj hy hz => ?_⟩
  · rcases Nat.lt_or_eq_of_le (show j ≤ i by omega) with e | e
    · exact h.1 j z e hz
    · subst e; rw [hx] at hz; cases hz; exact hp
  · rcases Nat.lt_or_eq_of_le (show j + 1 ≤ i by omega) with e | e
    · exact h.2 j y z e hy hz
    · subst e; rw [hx] at hz; cases hz; exact ho y (by omega) (by simpa using hy)
set_option maxRecDepth 100000 in
theorem lsum_gives {B : Nat} {w0 : World} {H : Hp} {v : Value} (n : Int) (X O : List Nat) (bX : isB X) (bO : isB O) (l : List StB) (hv : It.row v 72 8 (l.flatMap encS) ∈ H) (hl : l.length < 100000000) :
    GivesM Tryz.prog 63 #[.agg (gv n X O).toArray, v] B w0 H (.bool (@decide (sumOK n X O l) (Classical.propDecidable _))) H := by
  have ug := gv_len (n := n) bX.1 bO.1
  have iv : RB v H 72 8 (l.flatMap encS) := ⟨hv⟩
  have lf := fl_len encS_len l
  refine givesM_of (args := [.agg (gv n X O).toArray, v]) [(0, .agg (gv n X O).toArray), (1, v)] Tryz.func63 rfl Tryz.ntmps63 rfl (argsF_cons rfl (argsF_cons rfl argsF_nil)) ?_
  by_cases g : okG n X O
  · obtain ⟨m, rfl⟩ := okG_nat g
    repeat' (first | (apply Jq_assign; exact rfl; exact rfl) | (apply Jq_not; exact rfl; exact rfl) | (apply Jc; exact rfl; exact rfl; exact rfl; infer_instance; ((intro w hw); exact l01Is_gives m X O bX bO w)) | (apply Jq_loadW; exact rfl; exact rfl; (exact mb); (omega)) | (apply J_box; exact rfl; exact rfl; exact rfl; (intro _)) | refine thenQ_normal ?_ | refine JC_seq ?_ | refine JC_region ?_ | refine J_nil ?_ | refine JC_block ?_ | refine JC_skip ?_ | (apply JC_ndec_false; exact rfl; omega))
    rename_i b2
    refine JC_loop (X := Nat) (fun k => k ≤ l.length ∧ preS m l k) (fun k => [(5, .int .i64 (k : Int)), (1, v), (2, .pointer (some ⟨b2, 0, none⟩))]) (fun _ => .blk b2 (gv m X O) 28 :: H) (fun k => l.length - k) 0 ⟨Nat.zero_le _, fun j x h => absurd h (Nat.not_lt_zero _), fun j x y h => absurd h (Nat.not_lt_zero _)⟩ ?_ ?_
    · (refine ent ?_ ?_; (repeat refine fr_cons rfl ?_); exact fr_nil; (repeat (exact List.Sublist.refl _)))
    · rintro k ⟨hk, hpre⟩
      by_cases hlt : k < l.length
      · obtain ⟨x, hx⟩ : ∃ x, l[k]? = some x := ⟨_, List.getElem?_eq_getElem hlt⟩
        have ux := encS_len x
        have hno1 : ¬ isPerm x.1 m → ¬ sumOK (m : Int) X O l := fun h hs => h (by have := hs.2.1 x (List.mem_of_getElem? hx); rwa [Int.toNat_natCast] at this)
        by_cases hk0 : 0 < k
        · obtain ⟨y, hy⟩ : ∃ y, l[k - 1]? = some y := ⟨_, List.getElem?_eq_getElem (by omega)⟩
          have uy := encS_len y
          have hno2 : ¬ rkT y < rkT x → ¬ sumOK (m : Int) X O l := fun h hs => h (hs.2.2.get hy hx (by omega))
          have hk1 : (k : Int) - 1 = ((k - 1 : Nat) : Int) := by omega
          repeat' (first | (apply Jq_subR; exact rfl; exact rfl; exact rfl; omega; exact hk1) | (apply Jq_move; exact rfl; exact rfl) | (apply Jq_assign; exact rfl; exact rfl) | (apply Jq_cmp; exact rfl; exact rfl; exact rfl; exact rfl) | (apply Jq_add; exact rfl; exact rfl; exact rfl; omega) | (apply Jq_not; exact rfl; exact rfl) | (apply Jq_pick_true; exact rfl; exact rfl; exact rfl) | (apply Jq_pick_false; exact rfl; exact rfl; exact rfl) | (apply J_on; exact rfl; exact rfl) | (apply J_skip; exact rfl; exact rfl; exact rfl; exact rfl) | (apply J_skipU; exact rfl; exact rfl; exact rfl) | (apply Jc; exact rfl; exact rfl; exact rfl; infer_instance; ((intro w hw); first | exact l05Is_gives m X O x.1 bX bO x.2 w | exact before_gives y x w)) | (apply Jq_loadW; exact rfl; exact rfl; (exact mb); (omega)) | (apply Jq_lenRs; exact rfl; exact rfl; (exact rb); exact lf; decide) | (apply Jq_indexRs; exact rfl; exact rfl; exact rfl; (exact rb); omega) | (apply Jq_loadRA; exact rfl; exact rfl; (exact rb); (first | exact fl_at encS_len hx | exact fl_at encS_len hy); (omega); decide) | refine thenQ_normal ?_ | refine thenQ_ret ?_ | refine inBlockQ_normal ?_ | refine inBlockQ_ret ?_ | refine JC_seq ?_ | refine JC_region ?_ | (apply JC_draw mixed; kernel_rfl) | refine J_nil ?_ | refine JC_block ?_ | refine JC_skip ?_ | refine JC_ret ?_ | (apply JC_if_true; exact rfl) | (apply JC_dec_true; exact rfl; omega) | (apply J_gdT; exact rfl; exact rfl; omega) | refine JC_ndec rfl (fun _ => ?_) (fun _ => ?_) | refine J_gn rfl rfl (fun _ => ?_) (fun _ => ?_))
          · rename_i hh
            refine m1 rfl rfl rfl (boolF (hno1 fun hp => hh ((okS_nat g).2 hp))) ?_
            (refine ent ?_ ?_; (repeat refine fr_cons rfl ?_); exact fr_nil; (repeat (first | exact List.Sublist.refl _ | refine List.Sublist.cons _ ?_)))
          · rename_i hh
            refine m1 rfl rfl rfl (boolF (hno2 hh)) ?_
            (refine ent ?_ ?_; (repeat refine fr_cons rfl ?_); exact fr_nil; (repeat (first | exact List.Sublist.refl _ | refine List.Sublist.cons _ ?_)))
          · rename_i hp ho
            refine ⟨k + 1, ⟨by omega, preS_step hpre hx ((okS_nat g).1 hp) fun z _ hz => by rw [hy] at hz; cases hz; exact ho⟩, by omega, ?_⟩
            (refine ent ?_ ?_; (repeat refine fr_cons rfl ?_); exact fr_nil; (repeat (exact List.Sublist.refl _)))
        · obtain rfl : k = 0 := by omega
          repeat' (first | (apply Jq_move; exact rfl; exact rfl) | (apply Jq_assign; exact rfl; exact rfl) | (apply Jq_cmp; exact rfl; exact rfl; exact rfl; exact rfl) | (apply Jq_add; exact rfl; exact rfl; exact rfl; omega) | (apply Jq_not; exact rfl; exact rfl) | (apply Jq_pick_true; exact rfl; exact rfl; exact rfl) | (apply Jq_pick_false; exact rfl; exact rfl; exact rfl) | (apply J_on; exact rfl; exact rfl) | (apply J_skip; exact rfl; exact rfl; exact rfl; exact rfl) | (apply J_skipU; exact rfl; exact rfl; exact rfl) | (apply Jc; exact rfl; exact rfl; exact rfl; infer_instance; ((intro w hw); exact l05Is_gives m X O x.1 bX bO x.2 w)) | (apply Jq_loadW; exact rfl; exact rfl; (exact mb); (omega)) | (apply Jq_lenRs; exact rfl; exact rfl; (exact rb); exact lf; decide) | (apply Jq_indexRs; exact rfl; exact rfl; exact rfl; (exact rb); omega) | (apply Jq_loadRA; exact rfl; exact rfl; (exact rb); (exact fl_at encS_len hx); (omega); decide) | refine thenQ_normal ?_ | refine thenQ_ret ?_ | refine inBlockQ_normal ?_ | refine inBlockQ_ret ?_ | refine JC_seq ?_ | refine JC_region ?_ | (apply JC_draw mixed; kernel_rfl) | refine J_nil ?_ | refine JC_block ?_ | refine JC_skip ?_ | refine JC_ret ?_ | (apply JC_if_true; exact rfl) | (apply JC_if_false; exact rfl) | (apply JC_dec_true; exact rfl; omega) | refine J_gn rfl rfl (fun _ => ?_) (fun _ => ?_))
          · rename_i hh
            refine m1 rfl rfl rfl (boolF (hno1 fun hp => hh ((okS_nat g).2 hp))) ?_
            (refine ent ?_ ?_; (repeat refine fr_cons rfl ?_); exact fr_nil; (repeat (first | exact List.Sublist.refl _ | refine List.Sublist.cons _ ?_)))
          · rename_i hp
            refine ⟨1, ⟨by omega, preS_step hpre hx ((okS_nat g).1 hp) fun z h => absurd h (Nat.lt_irrefl _)⟩, by omega, ?_⟩
            (refine ent ?_ ?_; (repeat refine fr_cons rfl ?_); exact fr_nil; (repeat (exact List.Sublist.refl _)))
      · obtain rfl : k = l.length := by omega
        have hs := preS_end g hpre
        repeat' (first | (apply Jq_move; exact rfl; exact rfl) | (apply Jq_assign; exact rfl; exact rfl) | (apply Jq_cmp; exact rfl; exact rfl; exact rfl; exact rfl) | (apply Jq_lenRs; exact rfl; exact rfl; (exact rb); exact lf; decide) | refine thenQ_normal ?_ | refine thenQ_exit ?_ | refine inBlockQ_here ?_ | refine JC_seq ?_ | refine JC_region ?_ | refine J_nil ?_ | refine JC_ret ?_ | refine JC_exit ?_ | (apply JC_dec_false; exact rfl; omega))
        refine m1 rfl rfl rfl (boolT hs) ?_
        (refine ent ?_ ?_; (repeat refine fr_cons rfl ?_); exact fr_nil; (repeat (first | exact List.Sublist.refl _ | refine List.Sublist.cons _ ?_)))
  · have hs : ¬ sumOK n X O l := fun h => g h.1
    repeat' (first | (apply Jq_assign; exact rfl; exact rfl) | (apply Jq_not; exact rfl; exact rfl) | (apply Jc; exact rfl; exact rfl; exact rfl; infer_instance; ((intro w hw); exact l01Is_gives n X O bX bO w)) | (apply Jq_loadW; exact rfl; exact rfl; (exact mb); (omega)) | (apply J_box; exact rfl; exact rfl; exact rfl; (intro _)) | refine thenQ_normal ?_ | refine thenQ_ret ?_ | refine JC_seq ?_ | refine JC_region ?_ | refine J_nil ?_ | refine JC_ret ?_ | (apply JC_ndec_true; exact rfl; omega))
    refine m1 rfl rfl rfl (boolF hs) ?_
    (refine ent ?_ ?_; (repeat refine fr_cons rfl ?_); exact fr_nil; (repeat (first | exact List.Sublist.refl _ | refine List.Sublist.cons _ ?_)))
namespace SL
section
variable {P : Program} {B : Nat} {w0 : World} {n : Nat} {Q : Po} {F : Fr} {H : Hp} {ops : Array Oper} {l : List Oper}
/-- A row's slice is one cell. -/
theorem J_row1' {v : Value} {e sz : Nat} {xs : List Value} (hm : It.row v e sz xs ∈ H) (k : v.oneCell' = true → v.cells = #[v] → J false P B w0 n ops Q l F H) : J false P B w0 n ops Q l F H := by
  unfold J at *
  intro a w ha hw
  obtain ⟨m, _, h2⟩ := hw.row_slice hm
  have h3 : v.oneCell' = true ∧ v.cells = #[v] := by rcases h2 with ⟨rfl, _⟩ | ⟨_, _, _, rfl, _⟩ <;> exact ⟨rfl, rfl⟩
  exact k h3.1 h3.2 a w ha hw
theorem JC_row1' {c : Code} {v : Value} {e sz : Nat} {xs : List Value} (hm : It.row v e sz xs ∈ H) (k : v.oneCell' = true → v.cells = #[v] → JC P B w0 n c Q F H) : JC P B w0 n c Q F H := by
  unfold JC at *
  intro a w ha hw
  obtain ⟨m, _, h2⟩ := hw.row_slice hm
  have h3 : v.oneCell' = true ∧ v.cells = #[v] := by rcases h2 with ⟨rfl, _⟩ | ⟨_, _, _, rfl, _⟩ <;> exact ⟨rfl, rfl⟩
  exact k h3.1 h3.2 a w ha hw
end
/-- At an end with nil and a code: nil is an empty row. -/
theorem eT2nil {P : Program} {B : Nat} {w0 : World} {n : Nat} {fn : Func} {e : Exit} {F : Fr} {H H' : Hp} {R : Value → Hp → Prop} {t u : Tmp} {T sz : Nat} {v2 : Value} (he : isEnd e = true) (h : fn.results = #[.tmp t, .tmp u]) (hv : look F t = some (.slice none 0 0)) (hv' : look F u = some v2) (hi : Ent [] H [] H') (hR : R (.tuple #[.slice none 0 0, v2]) (.row (.slice none 0 0) T sz [] :: H')) : eQ P B w0 n fn R e F H :=
  eQ_mk he hR fun _ w' ha hw => ⟨results2 h ha hv hv' w', (hi.holds hw).nilrow⟩
end SL
open Classical in
noncomputable def codeS (n : Int) (X O : List Nat) (Ls : List (List StB)) : Int := if okG n X O ∧ ∀ l ∈ Ls, sumOK n X O l then (if 6 < n then 2 else 0) else 1
/-- Sums behind slices. -/
def sumsIn (Ls : List (Value × List StB)) (H : Hp) : Prop := ∀ p ∈ Ls, It.row p.1 72 8 (p.2.flatMap encS) ∈ H ∧ p.2.length < 100000000
set_option maxRecDepth 100000 in
theorem lcode_gives {B : Nat} {w0 : World} {H : Hp} {v : Value} (n : Int) (X O : List Nat) (bX : isB X) (bO : isB O) (Ls : List (Value × List StB)) (hv : It.row v 35 1 (Ls.map (·.1)) ∈ H) (hs : sumsIn Ls H) (hl : Ls.length < 1000) :
    GivesM Tryz.prog 48 #[.agg (gv n X O).toArray, v] B w0 H (.int .i64 (codeS n X O (Ls.map (·.2)))) H := by
  have ug := gv_len (n := n) bX.1 bO.1
  have iv : RB v H 35 1 (Ls.map (·.1)) := ⟨hv⟩
  have lm : (Ls.map (·.1)).length = Ls.length := List.length_map _
  refine givesM_of (args := [.agg (gv n X O).toArray, v]) [(0, .agg (gv n X O).toArray), (1, v)] Tryz.func48 rfl Tryz.ntmps48 rfl (argsF_cons rfl (argsF_cons rfl argsF_nil)) ?_
  by_cases g : okG n X O
  · repeat' (first | (apply Jq_assign; exact rfl; exact rfl) | (apply Jq_not; exact rfl; exact rfl) | (apply Jc; exact rfl; exact rfl; exact rfl; infer_instance; ((intro w hw); exact l01Is_gives n X O bX bO w)) | (apply Jq_loadW; exact rfl; exact rfl; (exact mb); (omega)) | (apply J_box; exact rfl; exact rfl; exact rfl; (intro _)) | refine thenQ_normal ?_ | refine JC_seq ?_ | refine JC_region ?_ | refine J_nil ?_ | refine JC_block ?_ | refine JC_skip ?_ | (apply JC_ndec_false; exact rfl; omega))
    rename_i b2
    refine JC_loop (X := Nat) (fun k => k ≤ Ls.length ∧ ∀ j p, j < k → Ls[j]? = some p → sumOK n X O p.2) (fun k => [(5, .int .i64 (k : Int)), (1, v), (2, .pointer (some ⟨b2, 0, none⟩))]) (fun _ => .blk b2 (gv n X O) 28 :: H) (fun k => Ls.length - k) 0 ⟨Nat.zero_le _, fun j x h => absurd h (Nat.not_lt_zero _)⟩ ?_ ?_
    · (refine ent ?_ ?_; (repeat refine fr_cons rfl ?_); exact fr_nil; (repeat (exact List.Sublist.refl _)))
    · rintro k ⟨hk, hpre⟩
      by_cases hlt : k < Ls.length
      · obtain ⟨p, hp⟩ : ∃ p, Ls[k]? = some p := ⟨_, List.getElem?_eq_getElem hlt⟩
        have hpm := hs p (List.mem_of_getElem? hp)
        have hg : (Ls.map (·.1))[k]? = some p.1 := by rw [List.getElem?_map, hp]; rfl
        by_cases hsum : sumOK n X O p.2
        · repeat' (first | (apply Jq_move; exact rfl; exact rfl) | (apply Jq_assign; exact rfl; exact rfl) | (apply Jq_cmp; exact rfl; exact rfl; exact rfl; exact rfl) | (apply Jq_add; exact rfl; exact rfl; exact rfl; omega) | (apply Jq_not; exact rfl; exact rfl) | (apply Jq_loadW; exact rfl; exact rfl; (exact mb); (omega)) | (apply JqM; exact rfl; exact rfl; exact rfl; infer_instance; (exact lsum_gives n X O bX bO p.2 (mS hpm.1) hpm.2)) | (apply Jq_lenR; exact rfl; exact rfl; (exact rb)) | (apply Jq_indexRN; exact rfl; exact rfl; exact rfl; (exact rb); omega) | (apply Jq_loadR; exact rfl; exact rfl; (exact rb); (exact hg)) | refine thenQ_normal ?_ | refine inBlockQ_normal ?_ | refine JC_seq ?_ | refine JC_region ?_ | (apply JC_draw mixed; kernel_rfl) | refine J_nil ?_ | refine JC_block ?_ | refine JC_skip ?_ | (apply JC_dec_true; exact rfl; omega) | (apply JC_ndec_false; exact rfl; omega))
          refine ⟨k + 1, ⟨by omega, fun j q hj hq => ?_⟩, by omega, ?_⟩
          · rcases Nat.lt_or_eq_of_le (show j ≤ k by omega) with e | e
            · exact hpre j q e hq
            · subst e; rw [hp] at hq; cases hq; exact hsum
          · (refine ent ?_ ?_; (repeat refine fr_cons rfl ?_); exact fr_nil; (repeat (exact List.Sublist.refl _)))
        · have hs : codeS n X O (Ls.map (·.2)) = 1 := if_neg fun h => hsum (h.2 p.2 (List.mem_map.2 ⟨p, List.mem_of_getElem? hp, rfl⟩))
          repeat' (first | (apply Jq_move; exact rfl; exact rfl) | (apply Jq_assign; exact rfl; exact rfl) | (apply Jq_cmp; exact rfl; exact rfl; exact rfl; exact rfl) | (apply Jq_not; exact rfl; exact rfl) | (apply Jq_loadW; exact rfl; exact rfl; (exact mb); (omega)) | (apply JqM; exact rfl; exact rfl; exact rfl; infer_instance; (exact lsum_gives n X O bX bO p.2 (mS hpm.1) hpm.2)) | (apply Jq_lenR; exact rfl; exact rfl; (exact rb)) | (apply Jq_indexRN; exact rfl; exact rfl; exact rfl; (exact rb); omega) | (apply Jq_loadR; exact rfl; exact rfl; (exact rb); (exact hg)) | refine thenQ_normal ?_ | refine thenQ_ret ?_ | refine inBlockQ_ret ?_ | refine JC_seq ?_ | refine JC_region ?_ | (apply JC_draw mixed; kernel_rfl) | refine J_nil ?_ | refine JC_block ?_ | refine JC_skip ?_ | refine JC_ret ?_ | (apply JC_dec_true; exact rfl; omega) | (apply JC_ndec_true; exact rfl; omega))
          refine m1 rfl rfl rfl (by rw [hs]) ?_
          (refine ent ?_ ?_; (repeat refine fr_cons rfl ?_); exact fr_nil; (repeat (first | exact List.Sublist.refl _ | refine List.Sublist.cons _ ?_)))
      · obtain rfl : k = Ls.length := by omega
        have hall : okG n X O ∧ ∀ l ∈ Ls.map (·.2), sumOK n X O l := ⟨g, fun l hl => by
          obtain ⟨q, hq, rfl⟩ := List.mem_map.1 hl
          obtain ⟨j, hj, e⟩ := List.getElem_of_mem hq
          exact hpre j q hj (by rw [List.getElem?_eq_getElem hj, e])⟩
        by_cases h6 : 6 < n
        · have hs : codeS n X O (Ls.map (·.2)) = 2 := by unfold codeS; rw [if_pos hall, if_pos h6]
          repeat' (first | (apply Jq_move; exact rfl; exact rfl) | (apply Jq_assign; exact rfl; exact rfl) | (apply Jq_load; exact rfl; exact rfl; (exact mb); (exact rfl)) | (apply Jq_fieldAddr; exact rfl; exact rfl) | (apply Jq_cmp; exact rfl; exact rfl; exact rfl; exact rfl) | (apply Jq_lenR; exact rfl; exact rfl; (exact rb)) | refine thenQ_normal ?_ | refine thenQ_exit ?_ | refine thenQ_ret ?_ | refine inBlockQ_here ?_ | refine JC_seq ?_ | refine JC_region ?_ | refine J_nil ?_ | refine JC_ret ?_ | refine JC_exit ?_ | (apply JC_dec_true; exact rfl; omega) | (apply JC_dec_false; exact rfl; omega))
          refine m1 rfl rfl rfl (by rw [hs]) ?_
          (refine ent ?_ ?_; (repeat refine fr_cons rfl ?_); exact fr_nil; (repeat (first | exact List.Sublist.refl _ | refine List.Sublist.cons _ ?_)))
        · have hs : codeS n X O (Ls.map (·.2)) = 0 := by unfold codeS; rw [if_pos hall, if_neg h6]
          repeat' (first | (apply Jq_move; exact rfl; exact rfl) | (apply Jq_assign; exact rfl; exact rfl) | (apply Jq_load; exact rfl; exact rfl; (exact mb); (exact rfl)) | (apply Jq_fieldAddr; exact rfl; exact rfl) | (apply Jq_cmp; exact rfl; exact rfl; exact rfl; exact rfl) | (apply Jq_lenR; exact rfl; exact rfl; (exact rb)) | refine thenQ_normal ?_ | refine thenQ_exit ?_ | refine inBlockQ_here ?_ | refine JC_seq ?_ | refine JC_region ?_ | refine J_nil ?_ | refine JC_skip ?_ | refine JC_ret ?_ | refine JC_exit ?_ | (apply JC_dec_false; exact rfl; omega))
          refine m1 rfl rfl rfl (by rw [hs]) ?_
          (refine ent ?_ ?_; (repeat refine fr_cons rfl ?_); exact fr_nil; (repeat (first | exact List.Sublist.refl _ | refine List.Sublist.cons _ ?_)))
  · have hs : codeS n X O (Ls.map (·.2)) = 1 := if_neg fun h => g h.1
    repeat' (first | (apply Jq_assign; exact rfl; exact rfl) | (apply Jq_not; exact rfl; exact rfl) | (apply Jc; exact rfl; exact rfl; exact rfl; infer_instance; ((intro w hw); exact l01Is_gives n X O bX bO w)) | (apply Jq_loadW; exact rfl; exact rfl; (exact mb); (omega)) | (apply J_box; exact rfl; exact rfl; exact rfl; (intro _)) | refine thenQ_normal ?_ | refine thenQ_ret ?_ | refine JC_seq ?_ | refine JC_region ?_ | refine J_nil ?_ | refine JC_ret ?_ | (apply JC_ndec_true; exact rfl; omega))
    refine m1 rfl rfl rfl (by rw [hs]) ?_
    (refine ent ?_ ?_; (repeat refine fr_cons rfl ?_); exact fr_nil; (repeat (first | exact List.Sublist.refl _ | refine List.Sublist.cons _ ?_)))
theorem get_in {l : List StB} {i : Nat} (h : i < l.length) : ∃ x, l[i]? = some x := ⟨_, List.getElem?_eq_getElem h⟩
theorem drop_get {l : List StB} {i : Nat} {x : StB} (h : l[i]? = some x) : l.drop i = x :: l.drop (i + 1) := by
  obtain ⟨h1, h2⟩ := List.getElem?_eq_some_iff.1 h
  rw [List.drop_eq_getElem_cons h1, h2]
set_option maxRecDepth 100000 in
theorem ladd_gives {B : Nat} {w0 : World} {H : Hp} {va vb : Value} (a b : List StB) (hva : It.row va 72 8 (a.flatMap encS) ∈ H) (hvb : It.row vb 72 8 (b.flatMap encS) ∈ H) (la : a.length < 100000000) (lb : b.length < 100000000) :
    GivesE Tryz.prog 69 #[va, vb] B w0 H (fun v' H' => H' = .row v' 72 8 ((sd rkT a b).flatMap encS) :: H) := by
  have iva : RB va H 72 8 (a.flatMap encS) := ⟨hva⟩
  have ivb : RB vb H 72 8 (b.flatMap encS) := ⟨hvb⟩
  have fa := fl_len encS_len a
  have fb := fl_len encS_len b
  have ga : ∀ i x, a[i]? = some x → ((a.flatMap encS).drop (i * 8)).take 8 = encS x := fun i x h => fl_at encS_len h
  have gb' : ∀ i x, b[i]? = some x → ((b.flatMap encS).drop (i * 8)).take 8 = encS x := fun i x h => fl_at encS_len h
  refine givesE_of (args := [va, vb]) [(0, va), (1, vb)] Tryz.func69 rfl Tryz.ntmps69 rfl (argsF_cons rfl (argsF_cons rfl argsF_nil)) ?_
  repeat' (first | (apply Jq_assign; exact rfl; exact rfl) | (apply J_lit0; exact rfl; (intro _)) | refine thenQ_normal ?_ | refine JC_seq ?_ | refine JC_region ?_ | refine J_nil ?_ | refine JC_block ?_)
  rename_i b8
  refine JC_loop (X := Nat × Nat × Value × List StB) (fun p => p.1 ≤ a.length ∧ p.2.1 ≤ b.length ∧ p.2.2.2 ++ sd rkT (a.drop p.1) (b.drop p.2.1) = sd rkT a b ∧ p.2.2.2.length ≤ p.1 + p.2.1) (fun p => [(0, va), (1, vb), (5, p.2.2.1), (6, .int .i64 (p.1 : Int)), (7, .int .i64 (p.2.1 : Int))]) (fun p => .row p.2.2.1 72 8 (p.2.2.2.flatMap encS) :: H) (fun p => (a.length - p.1) + (b.length - p.2.1)) (0, 0, .slice (some ⟨b8, 0, none⟩) 0 0, []) ⟨Nat.zero_le _, Nat.zero_le _, rfl, Nat.le_refl _⟩ ?_ ?_
  · (refine ent ?_ ?_; (repeat refine fr_cons rfl ?_); exact fr_nil; (repeat (exact List.Sublist.refl _)))
  · rintro ⟨i, k, u, out⟩ ⟨hi, hk, hsd, hlo⟩
    dsimp only at hi hk hsd hlo ⊢
    have fo := fl_len encS_len out
    have push : ∀ x, out.flatMap encS ++ encS x = (out ++ [x]).flatMap encS := fun x => fl_snoc
    by_cases hik : i < a.length
    · obtain ⟨x, hx⟩ := get_in hik
      have ux := encS_len x
      have gx := ga i x hx
      have ux0 : encS x ≠ [] := fun e => by rw [e] at ux; cases ux
      by_cases hkk : k < b.length
      · obtain ⟨y, hy⟩ := get_in hkk
        have uy := encS_len y
        have gy := gb' k y hy
        have uy0 : encS y ≠ [] := fun e => by rw [e] at uy; cases uy
        rw [drop_get hx, drop_get hy] at hsd
        by_cases h1 : rkT x < rkT y
        · rw [sd_lt h1, ← drop_get hy] at hsd
          repeat' (first | (apply J_ap; decide; exact rfl; exact rfl; exact rfl; infer_instance; exact rb; exact ux0; exact encS_one x; ((show (_ + _) * _ ≤ _); omega); decide; exact push x; (intro _)) | (apply Jq_move; exact rfl; exact rfl) | (apply Jq_assign; exact rfl; exact rfl) | (apply Jq_cmp; exact rfl; exact rfl; exact rfl; exact rfl) | (apply Jq_add; exact rfl; exact rfl; exact rfl; omega) | (apply Jq_pick_true; exact rfl; exact rfl; exact rfl) | (apply Jq_pick_false; exact rfl; exact rfl; exact rfl) | (apply J_on; exact rfl; exact rfl) | (apply J_skip; exact rfl; exact rfl; exact rfl; exact rfl) | (apply Jc; exact rfl; exact rfl; exact rfl; infer_instance; ((intro w hw); exact before_gives x y w)) | (apply Jq_lenRs; exact rfl; exact rfl; (exact rb); exact fa; decide) | (apply Jq_lenRs; exact rfl; exact rfl; (exact rb); exact fb; decide) | (apply Jq_indexRs; exact rfl; exact rfl; exact rfl; (exact rb); omega) | (apply Jq_loadRA; exact rfl; exact rfl; (exact rb); (first | exact gx | exact gy); (omega); decide) | (apply J_lit1s; exact rfl; exact rfl; (omega); decide; decide; (intro _)) | refine thenQ_normal ?_ | refine inBlockQ_normal ?_ | refine JC_seq ?_ | refine JC_region ?_ | (apply JC_draw mixed; kernel_rfl) | refine J_nil ?_ | refine JC_block ?_ | refine JC_skip ?_ | (apply JC_if_true; exact rfl) | (apply JC_dec_true; exact rfl; omega) | (apply J_gdT; exact rfl; exact rfl; omega) | (apply J_gdF; exact rfl; exact rfl; omega))
          rename_i v'
          refine ⟨(i + 1, k, v', out ++ [x]), ⟨by dsimp only; omega, hk, by dsimp only; rw [← hsd, List.append_assoc]; rfl, by dsimp only; rw [List.length_append]; simp only [List.length_singleton]; omega⟩, by dsimp only; omega, ?_⟩
          (refine ent ?_ ?_; (repeat refine fr_cons rfl ?_); exact fr_nil; (repeat (first | exact List.Sublist.refl _ | refine List.Sublist.cons _ ?_)))
        · by_cases h2 : rkT y < rkT x
          · rw [sd_gt h2, ← drop_get hx] at hsd
            repeat' (first | (apply J_ap; decide; exact rfl; exact rfl; exact rfl; infer_instance; exact rb; exact uy0; exact encS_one y; ((show (_ + _) * _ ≤ _); omega); decide; exact push y; (intro _)) | (apply Jq_move; exact rfl; exact rfl) | (apply Jq_assign; exact rfl; exact rfl) | (apply Jq_cmp; exact rfl; exact rfl; exact rfl; exact rfl) | (apply Jq_add; exact rfl; exact rfl; exact rfl; omega) | (apply Jq_pick_true; exact rfl; exact rfl; exact rfl) | (apply Jq_pick_false; exact rfl; exact rfl; exact rfl) | (apply J_on; exact rfl; exact rfl) | (apply J_skip; exact rfl; exact rfl; exact rfl; exact rfl) | (apply Jc; exact rfl; exact rfl; exact rfl; infer_instance; ((intro w hw); first | exact before_gives x y w | exact before_gives y x w)) | (apply Jq_lenRs; exact rfl; exact rfl; (exact rb); exact fa; decide) | (apply Jq_lenRs; exact rfl; exact rfl; (exact rb); exact fb; decide) | (apply Jq_indexRs; exact rfl; exact rfl; exact rfl; (exact rb); omega) | (apply Jq_loadRA; exact rfl; exact rfl; (exact rb); (first | exact gx | exact gy); (omega); decide) | (apply J_lit1s; exact rfl; exact rfl; (omega); decide; decide; (intro _)) | refine thenQ_normal ?_ | refine inBlockQ_normal ?_ | refine JC_seq ?_ | refine JC_region ?_ | (apply JC_draw mixed; kernel_rfl) | refine J_nil ?_ | refine JC_block ?_ | refine JC_skip ?_ | (apply JC_if_true; exact rfl) | (apply JC_dec_true; exact rfl; omega) | (apply JC_dec_false; exact rfl; omega) | (apply J_gdT; exact rfl; exact rfl; omega) | (apply J_gdF; exact rfl; exact rfl; omega))
            rename_i v'
            refine ⟨(i, k + 1, v', out ++ [y]), ⟨hi, by dsimp only; omega, by dsimp only; rw [← hsd, List.append_assoc]; rfl, by dsimp only; rw [List.length_append]; simp only [List.length_singleton]; omega⟩, by dsimp only; omega, ?_⟩
            (refine ent ?_ ?_; (repeat refine fr_cons rfl ?_); exact fr_nil; (repeat (first | exact List.Sublist.refl _ | refine List.Sublist.cons _ ?_)))
          · rw [sd_eq h1 h2] at hsd
            repeat' (first | (apply Jq_move; exact rfl; exact rfl) | (apply Jq_assign; exact rfl; exact rfl) | (apply Jq_cmp; exact rfl; exact rfl; exact rfl; exact rfl) | (apply Jq_add; exact rfl; exact rfl; exact rfl; omega) | (apply Jq_pick_true; exact rfl; exact rfl; exact rfl) | (apply Jq_pick_false; exact rfl; exact rfl; exact rfl) | (apply J_on; exact rfl; exact rfl) | (apply J_skip; exact rfl; exact rfl; exact rfl; exact rfl) | (apply Jc; exact rfl; exact rfl; exact rfl; infer_instance; ((intro w hw); first | exact before_gives x y w | exact before_gives y x w)) | (apply Jq_lenRs; exact rfl; exact rfl; (exact rb); exact fa; decide) | (apply Jq_lenRs; exact rfl; exact rfl; (exact rb); exact fb; decide) | (apply Jq_indexRs; exact rfl; exact rfl; exact rfl; (exact rb); omega) | (apply Jq_loadRA; exact rfl; exact rfl; (exact rb); (first | exact gx | exact gy); (omega); decide) | refine thenQ_normal ?_ | refine inBlockQ_normal ?_ | refine JC_seq ?_ | refine JC_region ?_ | (apply JC_draw mixed; kernel_rfl) | refine J_nil ?_ | refine JC_block ?_ | refine JC_skip ?_ | (apply JC_if_true; exact rfl) | (apply JC_dec_false; exact rfl; omega) | (apply J_gdT; exact rfl; exact rfl; omega) | (apply J_gdF; exact rfl; exact rfl; omega))
            refine ⟨(i + 1, k + 1, u, out), ⟨by dsimp only; omega, by dsimp only; omega, hsd, by dsimp only; omega⟩, by dsimp only; omega, ?_⟩
            (refine ent ?_ ?_; (repeat refine fr_cons rfl ?_); exact fr_nil; (repeat (exact List.Sublist.refl _)))
      · have ek : k = b.length := by omega
        rw [drop_get hx, ek, List.drop_length, sd_right] at hsd
        repeat' (first | (apply J_ap; decide; exact rfl; exact rfl; exact rfl; infer_instance; exact rb; exact ux0; exact encS_one x; ((show (_ + _) * _ ≤ _); omega); decide; exact push x; (intro _)) | (apply Jq_move; exact rfl; exact rfl) | (apply Jq_assign; exact rfl; exact rfl) | (apply Jq_cmp; exact rfl; exact rfl; exact rfl; exact rfl) | (apply Jq_add; exact rfl; exact rfl; exact rfl; omega) | (apply Jq_pick_true; exact rfl; exact rfl; exact rfl) | (apply J_skip; exact rfl; exact rfl; exact rfl; exact rfl) | (apply J_skipU; exact rfl; exact rfl; exact rfl) | (apply Jq_lenRs; exact rfl; exact rfl; (exact rb); exact fa; decide) | (apply Jq_lenRs; exact rfl; exact rfl; (exact rb); exact fb; decide) | (apply Jq_indexRs; exact rfl; exact rfl; exact rfl; (exact rb); omega) | (apply Jq_loadRA; exact rfl; exact rfl; (exact rb); (exact gx); (omega); decide) | (apply J_lit1s; exact rfl; exact rfl; (omega); decide; decide; (intro _)) | refine thenQ_normal ?_ | refine inBlockQ_normal ?_ | refine JC_seq ?_ | refine JC_region ?_ | (apply JC_draw mixed; kernel_rfl) | refine J_nil ?_ | refine JC_block ?_ | refine JC_skip ?_ | (apply JC_if_true; exact rfl) | (apply J_gdT; exact rfl; exact rfl; omega))
        rename_i v'
        refine ⟨(i + 1, k, v', out ++ [x]), ⟨by dsimp only; omega, hk, by dsimp only; rw [ek, List.drop_length, sd_right, ← hsd, List.append_assoc]; rfl, by dsimp only; rw [List.length_append]; simp only [List.length_singleton]; omega⟩, by dsimp only; omega, ?_⟩
        (refine ent ?_ ?_; (repeat refine fr_cons rfl ?_); exact fr_nil; (repeat (first | exact List.Sublist.refl _ | refine List.Sublist.cons _ ?_)))
    · have ei : i = a.length := by omega
      by_cases hkk : k < b.length
      · obtain ⟨y, hy⟩ := get_in hkk
        have uy := encS_len y
        have gy := gb' k y hy
        have uy0 : encS y ≠ [] := fun e => by rw [e] at uy; cases uy
        rw [drop_get hy, ei, List.drop_length, sd_nil] at hsd
        repeat' (first | (apply J_ap; decide; exact rfl; exact rfl; exact rfl; infer_instance; exact rb; exact uy0; exact encS_one y; ((show (_ + _) * _ ≤ _); omega); decide; exact push y; (intro _)) | (apply Jq_move; exact rfl; exact rfl) | (apply Jq_assign; exact rfl; exact rfl) | (apply Jq_cmp; exact rfl; exact rfl; exact rfl; exact rfl) | (apply Jq_add; exact rfl; exact rfl; exact rfl; omega) | (apply Jq_pick_true; exact rfl; exact rfl; exact rfl) | (apply Jq_pick_false; exact rfl; exact rfl; exact rfl) | (apply J_on; exact rfl; exact rfl) | (apply J_skip; exact rfl; exact rfl; exact rfl; exact rfl) | (apply Jq_lenRs; exact rfl; exact rfl; (exact rb); exact fa; decide) | (apply Jq_lenRs; exact rfl; exact rfl; (exact rb); exact fb; decide) | (apply Jq_indexRs; exact rfl; exact rfl; exact rfl; (exact rb); omega) | (apply Jq_loadRA; exact rfl; exact rfl; (exact rb); (exact gy); (omega); decide) | (apply J_lit1s; exact rfl; exact rfl; (omega); decide; decide; (intro _)) | refine thenQ_normal ?_ | refine inBlockQ_normal ?_ | refine JC_seq ?_ | refine JC_region ?_ | (apply JC_draw mixed; kernel_rfl) | refine J_nil ?_ | refine JC_block ?_ | refine JC_skip ?_ | (apply JC_if_true; exact rfl) | (apply JC_if_false; exact rfl) | (apply JC_dec_true; exact rfl; omega) | (apply J_gdT; exact rfl; exact rfl; omega) | (apply J_gdF; exact rfl; exact rfl; omega))
        rename_i v'
        refine ⟨(i, k + 1, v', out ++ [y]), ⟨hi, by dsimp only; omega, by dsimp only; rw [ei, List.drop_length, sd_nil, ← hsd, List.append_assoc]; rfl, by dsimp only; rw [List.length_append]; simp only [List.length_singleton]; omega⟩, by dsimp only; omega, ?_⟩
        (refine ent ?_ ?_; (repeat refine fr_cons rfl ?_); exact fr_nil; (repeat (first | exact List.Sublist.refl _ | refine List.Sublist.cons _ ?_)))
      · have ek : k = b.length := by omega
        rw [ei, ek, List.drop_length, List.drop_length, sd_nil, List.append_nil] at hsd
        repeat' (first | (apply Jq_move; exact rfl; exact rfl) | (apply Jq_assign; exact rfl; exact rfl) | (apply Jq_cmp; exact rfl; exact rfl; exact rfl; exact rfl) | (apply Jq_pick_false; exact rfl; exact rfl; exact rfl) | (apply J_on; exact rfl; exact rfl) | (apply Jq_lenRs; exact rfl; exact rfl; (exact rb); exact fa; decide) | (apply Jq_lenRs; exact rfl; exact rfl; (exact rb); exact fb; decide) | refine thenQ_normal ?_ | refine thenQ_exit ?_ | refine inBlockQ_here ?_ | refine JC_seq ?_ | refine JC_region ?_ | refine J_nil ?_ | refine JC_ret ?_ | refine JC_exit ?_ | (apply JC_dec_false; exact rfl; omega) | (apply J_gdF; exact rfl; exact rfl; omega))
        refine e1 rfl rfl rfl (entS fun _ _ h => h) ?_
        rw [hsd]
theorem lcode_is {B : Nat} {w0 : World} {H : Hp} {v : Value} (n : Int) (X O : List Nat) (bX : isB X) (bO : isB O) (Ls : List (Value × List StB)) (hv : It.row v 35 1 (Ls.map (·.1)) ∈ H) (hs : sumsIn Ls H) (hl : Ls.length < 1000) {c : Int} (hc : codeS n X O (Ls.map (·.2)) = c) :
    GivesM Tryz.prog 48 #[.agg (gv n X O).toArray, v] B w0 H (.int .i64 c) H := by
  subst hc
  exact lcode_gives n X O bX bO Ls hv hs hl
end Go.Proofs.YtmbbcmebdefggaaGreatDoor
