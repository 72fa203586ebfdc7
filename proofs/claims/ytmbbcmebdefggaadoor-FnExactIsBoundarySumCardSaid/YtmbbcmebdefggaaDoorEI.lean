/- Walks: IsBoundarySum in the reference and in the program; the law. -/
import Derived.Test.YtmbbcmebdefggaaDoorEH
import Derived.Test.YtmbbcmebdefggaaDoorTK
import Derived.Test.YtmbbcmebdefggaaDoorWC
namespace Go.Proofs.YtmbbcmebdefggaaDoor
open Go Go.RowKit SL
namespace SL
section
variable {P : Program} {B : Nat} {w0 : World} {n : Nat} {Q : Po} {F : Fr} {H : Hp} {ops : Array Oper} {l : List Oper} {ty : TypeId} {pos : String} {af : Array Edge} {d : Nat}
theorem Jq_nebS {dr : Bool} {T T' : TypeId} {x y : Operand} {a : Bool} [hT : Un P T .bool] (hdn : Nat.blt d n = true) (hx : ev F x = some (.bool a)) (hy : ev F y = some (.bool a)) (kk : J dr P B w0 n ops Q l ((d, .bool false) :: F) H) :
    J dr P B w0 n ops Q (⟨some d, .binOp .neq T x y T', ty, pos, af, none⟩ :: l) F H := Jq_neb hdn hx hy (by rw [show (!(a == a)) = false by cases a <;> rfl]; exact kk)
end
end SL
/-- What both hand back. -/
def bdR (r : Bool) (c : Int) (H : Hp) : Value → Hp → Prop := fun v' H' => v' = .tuple #[.bool r, .int .i64 c] ∧ ∀ x ∈ H, x ∈ H'
set_option maxRecDepth 100000 in
theorem listedB_good {B : Nat} {w0 : World} {H : Hp} {fk : FuncId} {caps : Array Value} (hk : Runs Tryd.prog fk) (n : Int) (X O : List Nat) (bX : isB X) (bO : isB O) (g : okG n X O) (h6 : n ≤ 6) (R : Value → Hp → Prop) (hf : GivesE Tryd.prog fk (([.agg (gv n X O).toArray] : List Value) ++ caps.toList).toArray B w0 H R) :
    GivesE Tryd.prog 51 #[.agg (gv n X O).toArray, .func (.func fk) #[] caps] B w0 H (fun v' H' => ∃ u, v' = .tuple #[u, .int .i64 0] ∧ R u H') := by
  have ug := gv_len (n := n) bX.1 bO.1
  refine givesE_of (args := [.agg (gv n X O).toArray, .func (.func fk) #[] caps]) [(0, .agg (gv n X O).toArray), (1, .func (.func fk) #[] caps)] Tryd.func51 rfl Tryd.ntmps51 rfl (argsF_cons rfl (argsF_cons rfl argsF_nil)) ?_
  repeat' (first | (apply JcEcP (H1 := H); exact rfl; exact rfl; exact rfl; exact hk; (refine entP (ent ?_ (List.nil_sublist _)) ?_; (repeat refine fr_cons rfl ?_); exact fr_nil; (repeat (exact sp_end))); exact hf; (intro v' H' hV)) | (apply Jq_move; exact rfl; exact rfl) | (apply Jq_assign; exact rfl; exact rfl) | (apply Jq_load; exact rfl; exact rfl; (exact mb); (exact rfl)) | (apply Jq_fieldAddr; exact rfl; exact rfl) | (apply Jq_cmp; exact rfl; exact rfl; exact rfl; exact rfl) | (apply Jq_not; exact rfl; exact rfl) | (apply Jc; exact rfl; exact rfl; exact rfl; infer_instance; ((intro w hw); exact IsGrid_gives n X O bX bO w)) | (apply Jq_loadW; exact rfl; exact rfl; (exact mb); (omega)) | (apply J_box; exact rfl; exact rfl; exact rfl; (intro _)) | refine thenQ_normal ?_ | refine inBlockQ_normal ?_ | refine JC_seq ?_ | refine JC_region ?_ | refine J_nil ?_ | refine JC_block ?_ | refine JC_skip ?_ | refine JC_ret ?_ | (apply JC_dec_false; exact rfl; omega) | (apply JC_ndec_false; exact rfl; omega))
  exact eT2 (H' := H') rfl rfl rfl rfl (entS fun _ _ h => h) ⟨v', rfl, hV⟩
set_option maxRecDepth 100000 in
theorem listedB_bad {B : Nat} {w0 : World} {H : Hp} {f : Value} (n : Int) (X O : List Nat) (bX : isB X) (bO : isB O) {c : Int} (hc : (¬ okG n X O ∧ c = 1) ∨ (okG n X O ∧ 6 < n ∧ c = 2)) :
    GivesE Tryd.prog 51 #[.agg (gv n X O).toArray, f] B w0 H (bdR false c H) := by
  have ug := gv_len (n := n) bX.1 bO.1
  refine givesE_of (args := [.agg (gv n X O).toArray, f]) [(0, .agg (gv n X O).toArray), (1, f)] Tryd.func51 rfl Tryd.ntmps51 rfl (argsF_cons rfl (argsF_cons rfl argsF_nil)) ?_
  rcases hc with ⟨g, rfl⟩ | ⟨g, h6, rfl⟩
  · repeat' (first | (apply Jq_move; exact rfl; exact rfl) | (apply Jq_assign; exact rfl; exact rfl) | (apply Jq_not; exact rfl; exact rfl) | (apply Jc; exact rfl; exact rfl; exact rfl; infer_instance; ((intro w hw); exact IsGrid_gives n X O bX bO w)) | (apply Jq_loadW; exact rfl; exact rfl; (exact mb); (omega)) | (apply J_box; exact rfl; exact rfl; exact rfl; (intro _)) | refine thenQ_normal ?_ | refine thenQ_ret ?_ | refine inBlockQ_ret ?_ | refine JC_seq ?_ | refine JC_region ?_ | refine J_nil ?_ | refine JC_block ?_ | refine JC_ret ?_ | (apply JC_ndec_true; exact rfl; omega))
    refine eT2 (H' := H) rfl rfl rfl rfl ?_ ⟨rfl, fun _ h => h⟩
    (refine ent ?_ ?_; (repeat refine fr_cons rfl ?_); exact fr_nil; (repeat (first | exact List.Sublist.refl _ | refine List.Sublist.cons _ ?_)))
  · repeat' (first | (apply Jq_move; exact rfl; exact rfl) | (apply Jq_assign; exact rfl; exact rfl) | (apply Jq_load; exact rfl; exact rfl; (exact mb); (exact rfl)) | (apply Jq_fieldAddr; exact rfl; exact rfl) | (apply Jq_cmp; exact rfl; exact rfl; exact rfl; exact rfl) | (apply Jq_not; exact rfl; exact rfl) | (apply Jc; exact rfl; exact rfl; exact rfl; infer_instance; ((intro w hw); exact IsGrid_gives n X O bX bO w)) | (apply Jq_loadW; exact rfl; exact rfl; (exact mb); (omega)) | (apply J_box; exact rfl; exact rfl; exact rfl; (intro _)) | refine thenQ_normal ?_ | refine thenQ_ret ?_ | refine inBlockQ_ret ?_ | refine JC_seq ?_ | refine JC_region ?_ | refine J_nil ?_ | refine JC_block ?_ | refine JC_ret ?_ | (apply JC_dec_true; exact rfl; omega) | (apply JC_ndec_false; exact rfl; omega))
    refine eT2 (H' := H) rfl rfl rfl rfl ?_ ⟨rfl, fun _ h => h⟩
    (refine ent ?_ ?_; (repeat refine fr_cons rfl ?_); exact fr_nil; (repeat (first | exact List.Sublist.refl _ | refine List.Sublist.cons _ ?_)))
set_option maxRecDepth 100000 in
theorem summedB_good {B : Nat} {w0 : World} {H : Hp} {v : Value} {fk : FuncId} {caps : Array Value} (hfk : Runs Tryd.prog fk) (n : Int) (X O : List Nat) (bX : isB X) (bO : isB O) (Ls : List (Value × List StB)) (hv : It.row v 31 1 (Ls.map (·.1)) ∈ H) (hs : sumsIn Ls H) (hl : Ls.length < 1000) (hc : codeS n X O (Ls.map (·.2)) = 0)
    (R : Value → Hp → Prop) (hf : GivesE Tryd.prog fk (([.agg (gv n X O).toArray] : List Value) ++ caps.toList).toArray B w0 H R) :
    GivesE Tryd.prog 24 #[.agg (gv n X O).toArray, .func (.func fk) #[] caps, v] B w0 H (fun v' H' => ∃ u, v' = .tuple #[u, .int .i64 0] ∧ R u H') := by
  have ug := gv_len (n := n) bX.1 bO.1
  have iv : RB v H 31 1 (Ls.map (·.1)) := ⟨hv⟩
  have lm : (Ls.map (·.1)).length = Ls.length := List.length_map _
  rcases codeS_cases hc with ⟨h, _⟩ | ⟨⟨g, hall⟩, ⟨h, _⟩ | ⟨_, h6⟩⟩
  · omega
  · omega
  · refine givesE_of (args := [.agg (gv n X O).toArray, .func (.func fk) #[] caps, v]) [(0, .agg (gv n X O).toArray), (1, .func (.func fk) #[] caps), (2, v)] Tryd.func24 rfl Tryd.ntmps24 rfl (argsF_cons rfl (argsF_cons rfl (argsF_cons rfl argsF_nil))) ?_
    repeat' (first | (apply Jq_move; exact rfl; exact rfl) | (apply Jq_assign; exact rfl; exact rfl) | (apply Jq_lenR; exact rfl; exact rfl; (exact rb)) | (apply J_box; exact rfl; exact rfl; exact rfl; (intro _)) | refine thenQ_normal ?_ | refine JC_seq ?_ | refine JC_region ?_ | refine J_nil ?_ | refine JC_block ?_)
    rename_i b3
    refine JC_loop (X := Nat) (fun k => k ≤ Ls.length) (fun k => [(1, .func (.func fk) #[] caps), (3, .pointer (some ⟨b3, 0, none⟩)), (11, v), (12, .int .i64 ((Ls.map (·.1)).length : Nat)), (13, .int .i64 (k : Int))]) (fun _ => .blk b3 (gv n X O) 29 :: H) (fun k => Ls.length - k) 0 (Nat.zero_le _) ?_ ?_
    · (refine ent ?_ ?_; (repeat refine fr_cons rfl ?_); exact fr_nil; (repeat (exact List.Sublist.refl _)))
    · intro k hk
      by_cases hlt : k < Ls.length
      · obtain ⟨p, hp⟩ : ∃ p, Ls[k]? = some p := ⟨_, List.getElem?_eq_getElem hlt⟩
        have hpm := hs p (List.mem_of_getElem? hp)
        have hg : (Ls.map (·.1))[k]? = some p.1 := by rw [List.getElem?_map, hp]; rfl
        have hsum := hall p.2 (List.mem_map.2 ⟨p, List.mem_of_getElem? hp, rfl⟩)
        repeat' (first | (apply Jq_move; exact rfl; exact rfl) | (apply Jq_assign; exact rfl; exact rfl) | (apply Jq_cmp; exact rfl; exact rfl; exact rfl; exact rfl) | (apply Jq_add; exact rfl; exact rfl; exact rfl; omega) | (apply Jq_not; exact rfl; exact rfl) | (apply Jq_loadW; exact rfl; exact rfl; (exact mb); (omega)) | (apply JqM; exact rfl; exact rfl; exact rfl; infer_instance; (exact isum_gives n X O bX bO p.2 (mS hpm.1) hpm.2)) | (apply Jq_indexRN; exact rfl; exact rfl; exact rfl; (exact rb); omega) | (apply Jq_loadR; exact rfl; exact rfl; (exact rb); (exact hg)) | refine thenQ_normal ?_ | refine inBlockQ_normal ?_ | refine JC_seq ?_ | refine JC_region ?_ | refine J_nil ?_ | refine JC_block ?_ | refine JC_skip ?_ | (apply JC_dec_true; exact rfl; omega) | (apply JC_ndec_false; exact rfl; omega))
        refine ⟨k + 1, by omega, by omega, ?_⟩
        (refine ent ?_ ?_; (repeat refine fr_cons rfl ?_); exact fr_nil; (repeat (exact List.Sublist.refl _)))
      · obtain rfl : k = Ls.length := by omega
        repeat' (first | (apply JcEcP (H1 := H); exact rfl; exact rfl; exact rfl; infer_instance; (refine entP (ent ?_ (List.nil_sublist _)) ?_; (repeat refine fr_cons rfl ?_); exact fr_nil; (repeat (exact sp_end))); (exact listedB_good hfk n X O bX bO g h6 R hf); (intro v' H' hV; obtain ⟨u, rfl, hR⟩ := hV)) | (apply Jq_move; exact rfl; exact rfl) | (apply Jq_assign; exact rfl; exact rfl) | (apply Jq_cmp; exact rfl; exact rfl; exact rfl; exact rfl) | (apply Jq_loadW; exact rfl; exact rfl; (exact mb); (omega)) | (apply Jq_ext20; exact rfl; exact rfl) | (apply Jq_ext21; exact rfl; exact rfl) | refine thenQ_normal ?_ | refine thenQ_exit ?_ | refine inBlockQ_here ?_ | refine JC_seq ?_ | refine JC_region ?_ | refine J_nil ?_ | refine JC_ret ?_ | refine JC_exit ?_ | (apply JC_dec_false; exact rfl; omega))
        exact eT2 (H' := H') rfl rfl rfl rfl (entS fun _ _ h => h) ⟨u, rfl, hR⟩
set_option maxRecDepth 100000 in
theorem summedB_bad {B : Nat} {w0 : World} {H : Hp} {v f : Value} (n : Int) (X O : List Nat) (bX : isB X) (bO : isB O) (Ls : List (Value × List StB)) (hv : It.row v 31 1 (Ls.map (·.1)) ∈ H) (hs : sumsIn Ls H) (hl : Ls.length < 1000) {c : Int} (hc : codeS n X O (Ls.map (·.2)) = c) (h0 : c ≠ 0) :
    GivesE Tryd.prog 24 #[.agg (gv n X O).toArray, f, v] B w0 H (bdR false c H) := by
  have ug := gv_len (n := n) bX.1 bO.1
  have iv : RB v H 31 1 (Ls.map (·.1)) := ⟨hv⟩
  have lm : (Ls.map (·.1)).length = Ls.length := List.length_map _
  refine givesE_of (args := [.agg (gv n X O).toArray, f, v]) [(0, .agg (gv n X O).toArray), (1, f), (2, v)] Tryd.func24 rfl Tryd.ntmps24 rfl (argsF_cons rfl (argsF_cons rfl (argsF_cons rfl argsF_nil))) ?_
  repeat' (first | (apply Jq_move; exact rfl; exact rfl) | (apply Jq_assign; exact rfl; exact rfl) | (apply Jq_lenR; exact rfl; exact rfl; (exact rb)) | (apply J_box; exact rfl; exact rfl; exact rfl; (intro _)) | refine thenQ_normal ?_ | refine JC_seq ?_ | refine JC_region ?_ | refine J_nil ?_ | refine JC_block ?_)
  rename_i b3
  refine JC_loop (X := Nat) (fun k => k ≤ Ls.length ∧ ∀ j p, j < k → Ls[j]? = some p → sumOK n X O p.2) (fun k => [(1, f), (8, .bool false), (3, .pointer (some ⟨b3, 0, none⟩)), (11, v), (12, .int .i64 ((Ls.map (·.1)).length : Nat)), (13, .int .i64 (k : Int))]) (fun _ => .blk b3 (gv n X O) 29 :: H) (fun k => Ls.length - k) 0 ⟨Nat.zero_le _, fun j p h => absurd h (Nat.not_lt_zero _)⟩ ?_ ?_
  · (refine ent ?_ ?_; (repeat refine fr_cons rfl ?_); exact fr_nil; (repeat (exact List.Sublist.refl _)))
  · rintro k ⟨hk, hpre⟩
    by_cases hlt : k < Ls.length
    · obtain ⟨p, hp⟩ : ∃ p, Ls[k]? = some p := ⟨_, List.getElem?_eq_getElem hlt⟩
      have hpm := hs p (List.mem_of_getElem? hp)
      have hg : (Ls.map (·.1))[k]? = some p.1 := by rw [List.getElem?_map, hp]; rfl
      by_cases hsum : sumOK n X O p.2
      · repeat' (first | (apply Jq_move; exact rfl; exact rfl) | (apply Jq_assign; exact rfl; exact rfl) | (apply Jq_cmp; exact rfl; exact rfl; exact rfl; exact rfl) | (apply Jq_add; exact rfl; exact rfl; exact rfl; omega) | (apply Jq_not; exact rfl; exact rfl) | (apply Jq_loadW; exact rfl; exact rfl; (exact mb); (omega)) | (apply JqM; exact rfl; exact rfl; exact rfl; infer_instance; (exact isum_gives n X O bX bO p.2 (mS hpm.1) hpm.2)) | (apply Jq_indexRN; exact rfl; exact rfl; exact rfl; (exact rb); omega) | (apply Jq_loadR; exact rfl; exact rfl; (exact rb); (exact hg)) | refine thenQ_normal ?_ | refine inBlockQ_normal ?_ | refine JC_seq ?_ | refine JC_region ?_ | refine J_nil ?_ | refine JC_block ?_ | refine JC_skip ?_ | (apply JC_dec_true; exact rfl; omega) | (apply JC_ndec_false; exact rfl; omega))
        refine ⟨k + 1, ⟨by omega, fun j q hj hq => ?_⟩, by omega, ?_⟩
        · rcases Nat.lt_or_eq_of_le (show j ≤ k by omega) with e | e
          · exact hpre j q e hq
          · subst e; rw [hp] at hq; cases hq; exact hsum
        · (refine ent ?_ ?_; (repeat refine fr_cons rfl ?_); exact fr_nil; (repeat (exact List.Sublist.refl _)))
      · have hc1 : c = 1 := by
          rcases codeS_cases hc with ⟨h, _⟩ | ⟨⟨_, h⟩, _⟩
          · exact h
          · exact absurd (h p.2 (List.mem_map.2 ⟨p, List.mem_of_getElem? hp, rfl⟩)) hsum
        subst hc1
        repeat' (first | (apply Jq_move; exact rfl; exact rfl) | (apply Jq_assign; exact rfl; exact rfl) | (apply Jq_cmp; exact rfl; exact rfl; exact rfl; exact rfl) | (apply Jq_not; exact rfl; exact rfl) | (apply Jq_loadW; exact rfl; exact rfl; (exact mb); (omega)) | (apply JqM; exact rfl; exact rfl; exact rfl; infer_instance; (exact isum_gives n X O bX bO p.2 (mS hpm.1) hpm.2)) | (apply Jq_indexRN; exact rfl; exact rfl; exact rfl; (exact rb); omega) | (apply Jq_loadR; exact rfl; exact rfl; (exact rb); (exact hg)) | refine thenQ_normal ?_ | refine thenQ_ret ?_ | refine inBlockQ_ret ?_ | refine JC_seq ?_ | refine JC_region ?_ | refine J_nil ?_ | refine JC_block ?_ | refine JC_skip ?_ | refine JC_ret ?_ | (apply JC_dec_true; exact rfl; omega) | (apply JC_ndec_true; exact rfl; omega))
        refine eT2 (H' := H) rfl rfl rfl rfl ?_ ⟨rfl, fun _ h => h⟩
        (refine ent ?_ ?_; (repeat refine fr_cons rfl ?_); exact fr_nil; (repeat (first | exact List.Sublist.refl _ | refine List.Sublist.cons _ ?_)))
    · obtain rfl : k = Ls.length := by omega
      have hcc : (¬ okG n X O ∧ c = 1) ∨ (okG n X O ∧ 6 < n ∧ c = 2) := by
        rcases codeS_cases hc with ⟨h1, h2⟩ | ⟨⟨g, _⟩, ⟨h1, h2⟩ | ⟨h1, _⟩⟩
        · refine .inl ⟨fun g => h2 ⟨g, fun l hl => ?_⟩, h1⟩
          obtain ⟨p, hp, rfl⟩ := List.mem_map.1 hl
          obtain ⟨j, hj⟩ := List.getElem?_of_mem hp
          exact hpre j p (List.getElem?_eq_some_iff.1 hj).1 hj
        · exact .inr ⟨g, h2, h1⟩
        · exact absurd h1 h0
      repeat' (first | (apply JcE; exact rfl; exact rfl; exact rfl; infer_instance; (exact listedB_bad n X O bX bO hcc); (intro v' H' hV; obtain ⟨rfl, hs2⟩ := hV)) | (apply Jq_move; exact rfl; exact rfl) | (apply Jq_assign; exact rfl; exact rfl) | (apply Jq_cmp; exact rfl; exact rfl; exact rfl; exact rfl) | (apply Jq_loadW; exact rfl; exact rfl; (exact mb); (omega)) | (apply Jq_ext20; exact rfl; exact rfl) | (apply Jq_ext21; exact rfl; exact rfl) | refine thenQ_normal ?_ | refine thenQ_exit ?_ | refine inBlockQ_here ?_ | refine JC_seq ?_ | refine JC_region ?_ | refine J_nil ?_ | refine JC_ret ?_ | refine JC_exit ?_ | (apply JC_dec_false; exact rfl; omega))
      exact eT2 (H' := H') rfl rfl rfl rfl (entS fun _ _ h => h) ⟨rfl, fun _ h => hs2 _ (mS h)⟩
set_option maxRecDepth 100000 in
theorem sisb_good {B : Nat} {w0 : World} {H : Hp} {va : Value} (n : Nat) (X O : List Nat) (bX : isB X) (bO : isB O) (a : List StB) (hva : It.row va 43 8 (a.flatMap encS) ∈ H) (la : a.length ≤ 46656) (h6 : n ≤ 6) (hva2 : Vec n a) (g : okG (n : Int) X O) (hc : codeS n X O [a] = 0) (r : Bool) (hr : r = true ↔ Spn rkT (imgs n X O (stB n)) a) :
    GivesE Tryd.prog 7 #[.agg (gv (n : Int) X O).toArray, va] B w0 H (bdR r 0 H) := by
  have ug := gv_len (n := (n : Int)) bX.1 bO.1
  have hr2 : r = true ↔ Spn rkT (imgs n X O ((stB n).filter (nearL n X O a))) a := hr.trans (near_spn g (by omega) hva2.asc)
  have hS := stB_len h6
  have l1 : ((stB n).filter (nearL n X O a)).length ≤ 46656 := Nat.le_trans (List.length_filter_le _ _) hS
  have p1 : ∀ x ∈ (stB n).filter (nearL n X O a), isPerm x.1 n := fun x hx => stB_perm (by omega) x (List.mem_filter.1 hx).1
  have hvec := mem_imgsV (X := X) (O := O) (show n ≤ 8 by omega) p1
  have iva : RB va H 43 8 (a.flatMap encS) := ⟨hva⟩
  have lfa := fl_len encS_len a
  refine givesE_of (args := [.agg (gv (n : Int) X O).toArray, va]) [(0, .agg (gv (n : Int) X O).toArray), (1, va)] Tryd.func7 rfl Tryd.ntmps7 rfl (argsF_cons rfl (argsF_cons rfl argsF_nil)) ?_
  refine JC_row1' hva fun oa ca => ?_
  repeat' (first | (apply J_lit1; exact rfl; exact rfl; exact ca; (intro _)) | (apply JcE; exact rfl; exact rfl; exact rfl; infer_instance; (exact lall_gives n (by omega)); (intro v8 H' hV; subst hV)) | (apply Jq_move; exact rfl; exact rfl) | (apply Jq_assign; exact rfl; exact rfl) | (apply Jq_load; exact rfl; exact rfl; (exact mb); (exact rfl)) | (apply Jq_fieldAddr; exact rfl; exact rfl) | (apply Jq_cmp; exact rfl; exact rfl; exact rfl; exact rfl) | (apply Jq_loadW; exact rfl; exact rfl; (exact mb); (omega)) | (apply JqM; exact rfl; exact rfl; exact rfl; infer_instance; (exact lcode_is n X O bX bO [(va, a)] m0 (sums1 (mS (mS hva)) (by omega)) (Nat.le_of_ble_eq_true rfl) hc)) | (apply J_box; exact rfl; exact rfl; exact rfl; (intro _)) | (apply J_lit0; exact rfl; (intro _)) | refine thenQ_normal ?_ | refine JC_seq ?_ | refine JC_region ?_ | refine J_nil ?_ | refine JC_block ?_ | refine JC_skip ?_ | (apply JC_if_false; exact rfl))
  rename_i b2 b15 b7
  have lS := fl_len encS_len (stB n)
  refine JC_loop (X := Nat × Value) (fun p => p.1 ≤ (stB n).length) (fun p => [(9, .int .i64 (p.1 : Int)), (8, v8), (7, p.2), (2, .pointer (some ⟨b2, 0, none⟩)), (1, va)]) (fun p => .row p.2 43 8 ((((stB n).take p.1).filter (nearL n X O a)).flatMap encS) :: .row v8 43 8 ((stB n).flatMap encS) :: .blk b2 (gv (n : Int) X O) 29 :: H) (fun p => (stB n).length - p.1) (0, .slice (some ⟨b7, 0, none⟩) 0 0) (Nat.zero_le _) ?_ ?_
  · dsimp only [List.take_zero, List.filter_nil, List.flatMap_nil]
    (refine entP (ent ?_ (List.nil_sublist _)) ?_; (repeat refine fr_cons rfl ?_); exact fr_nil; (repeat (first | exact sp_end | (with_reducible apply sp0) | apply sp1)))
  · rintro ⟨k, v7⟩ hk
    dsimp only at hk ⊢
    by_cases hlt : k < (stB n).length
    · obtain ⟨x, hx⟩ := get_in hlt
      have ux := encS_len x
      have hgx := fl_at encS_len hx
      have hne : encS x ≠ [] := fun e => by rw [e] at ux; cases ux
      have lq := fl_len encS_len (((stB n).take k).filter (nearL n X O a))
      have lk := filt_len (p := nearL n X O a) (L := stB n) (k := k)
      have hy : nearL n X O a x = true → ((stB n).take (k + 1)).filter (nearL n X O a) = ((stB n).take k).filter (nearL n X O a) ++ [x] := fun h => filt_yes hx h
      have hn : nearL n X O a x = false → ((stB n).take (k + 1)).filter (nearL n X O a) = ((stB n).take k).filter (nearL n X O a) := fun h => filt_no hx h
      generalize ((stB n).take k).filter (nearL n X O a) = near at *
      repeat' (first | (apply Jq_move; exact rfl; exact rfl) | (apply Jq_assign; exact rfl; exact rfl) | (apply Jq_cmp; exact rfl; exact rfl; exact rfl; exact rfl) | (apply Jc; exact rfl; exact rfl; exact rfl; infer_instance; ((intro w hw); exact alex_gives n X O x bX bO (by omega) w)) | (apply Jq_loadW; exact rfl; exact rfl; (exact mb); (omega)) | (apply Jq_lenRs; exact rfl; exact rfl; (exact rb); exact lS; decide) | (apply Jq_indexRs; exact rfl; exact rfl; exact rfl; (exact rb); omega) | (apply Jq_loadRA; exact rfl; exact rfl; (exact rb); (exact hgx); (omega); decide) | refine thenQ_normal ?_ | refine JC_seq ?_ | refine JC_region ?_ | (apply JC_draw mixed; kernel_rfl) | refine J_nil ?_ | refine JC_block ?_ | refine JC_skip ?_ | (apply JC_dec_true; exact rfl; omega))
      refine JC_loop (X := Nat) (fun i => i ≤ a.length) (fun i => [(12, .int .i64 (i : Int)), (11, .bool ((a.take i).any fun y => decide ((grd n X O y).1 = (grd n X O x).1))), (10, .int .i64 (grd n X O x).1), (9, .int .i64 (k : Int)), (8, v8), (7, v7), (2, .pointer (some ⟨b2, 0, none⟩)), (1, va)]) (fun _ => .row v7 43 8 (near.flatMap encS) :: .row v8 43 8 ((stB n).flatMap encS) :: .blk b2 (gv (n : Int) X O) 29 :: H) (fun i => a.length - i) 0 (Nat.zero_le _) ?_ ?_
      · dsimp only [List.take_zero, List.any_nil]
        (refine ent ?_ ?_; (repeat refine fr_cons rfl ?_); exact fr_nil; (repeat (exact List.Sublist.refl _)))
      · intro i hi
        by_cases hli : i < a.length
        · obtain ⟨y, hy0⟩ := get_in hli
          have uy := encS_len y
          have hgy := fl_at encS_len hy0
          have htk : a.take (i + 1) = a.take i ++ [y] := by rw [List.take_add_one, hy0]; rfl
          have hany : ((a.take (i + 1)).any fun y => decide ((grd n X O y).1 = (grd n X O x).1)) = (((a.take i).any fun y => decide ((grd n X O y).1 = (grd n X O x).1)) || decide ((grd n X O y).1 = (grd n X O x).1)) := by rw [htk, List.any_append, List.any_cons, List.any_nil, Bool.or_false]
          generalize ((a.take i).any fun y => decide ((grd n X O y).1 = (grd n X O x).1)) = met at *
          cases met
          · rw [Bool.false_or] at hany
            repeat' (first | (apply Jq_move; exact rfl; exact rfl) | (apply Jq_assign; exact rfl; exact rfl) | (apply Jq_cmp; exact rfl; exact rfl; exact rfl; exact rfl) | (apply Jq_add; exact rfl; exact rfl; exact rfl; omega) | (apply Jq_pick_false; exact rfl; exact rfl; exact rfl) | (apply J_on; exact rfl; exact rfl) | (apply Jc; exact rfl; exact rfl; exact rfl; infer_instance; ((intro w hw); exact alex_gives n X O y bX bO (by omega) w)) | (apply Jq_loadW; exact rfl; exact rfl; (exact mb); (omega)) | (apply Jq_lenRs; exact rfl; exact rfl; (exact rb); exact lfa; decide) | (apply Jq_indexRs; exact rfl; exact rfl; exact rfl; (exact rb); omega) | (apply Jq_loadRA; exact rfl; exact rfl; (exact rb); (exact hgy); (omega); decide) | refine thenQ_normal ?_ | refine inBlockQ_normal ?_ | refine JC_seq ?_ | refine JC_region ?_ | (apply JC_draw mixed; kernel_rfl) | refine J_nil ?_ | refine JC_block ?_ | refine JC_skip ?_ | (apply JC_dec_true; exact rfl; omega))
            refine ⟨i + 1, by omega, by omega, ?_⟩
            rw [hany]
            (refine ent ?_ ?_; (repeat refine fr_cons rfl ?_); exact fr_nil; (repeat (exact List.Sublist.refl _)))
          · rw [Bool.true_or] at hany
            repeat' (first | (apply Jq_move; exact rfl; exact rfl) | (apply Jq_assign; exact rfl; exact rfl) | (apply Jq_cmp; exact rfl; exact rfl; exact rfl; exact rfl) | (apply Jq_add; exact rfl; exact rfl; exact rfl; omega) | (apply Jq_pick_true; exact rfl; exact rfl; exact rfl) | (apply J_skip; exact rfl; exact rfl; exact rfl; exact rfl) | (apply Jq_lenRs; exact rfl; exact rfl; (exact rb); exact lfa; decide) | refine thenQ_normal ?_ | refine inBlockQ_normal ?_ | refine JC_seq ?_ | refine JC_region ?_ | (apply JC_draw mixed; kernel_rfl) | refine J_nil ?_ | refine JC_block ?_ | refine JC_skip ?_ | (apply JC_dec_true; exact rfl; omega))
            refine ⟨i + 1, by omega, by omega, ?_⟩
            rw [hany]
            (refine ent ?_ ?_; (repeat refine fr_cons rfl ?_); exact fr_nil; (repeat (exact List.Sublist.refl _)))
        · obtain rfl : i = a.length := by omega
          rw [List.take_length]
          have hnn : (a.any fun y => decide ((grd n X O y).1 = (grd n X O x).1)) = nearL n X O a x := rfl
          rw [hnn]
          cases hb : nearL n X O a x
          · have e := hn hb
            repeat' (first | (apply Jq_move; exact rfl; exact rfl) | (apply Jq_assign; exact rfl; exact rfl) | (apply Jq_cmp; exact rfl; exact rfl; exact rfl; exact rfl) | (apply Jq_add; exact rfl; exact rfl; exact rfl; omega) | (apply Jq_lenRs; exact rfl; exact rfl; (exact rb); exact lfa; decide) | refine thenQ_normal ?_ | refine thenQ_exit ?_ | refine inBlockQ_normal ?_ | refine inBlockQ_here ?_ | refine JC_seq ?_ | refine JC_region ?_ | refine J_nil ?_ | refine JC_skip ?_ | refine JC_exit ?_ | (apply JC_if_false; exact rfl) | (apply JC_dec_false; exact rfl; omega))
            refine ⟨(k + 1, v7), by dsimp only; omega, by dsimp only; omega, ?_⟩
            dsimp only
            rw [e]
            (refine entP (ent ?_ (List.nil_sublist _)) ?_; (repeat refine fr_cons rfl ?_); exact fr_nil; (repeat (exact sp_refl)))
          · have e := hy hb
            repeat' (first | (apply J_lit1s; exact rfl; exact rfl; exact ux; decide; decide; (intro _)) | (apply J_ap; decide; exact rfl; exact rfl; exact rfl; infer_instance; exact m0; exact hne; exact encS_one _; ((show (_ + _) * _ ≤ _); omega); decide; exact fl_snoc; (intro v')) | (apply Jq_move; exact rfl; exact rfl) | (apply Jq_assign; exact rfl; exact rfl) | (apply Jq_cmp; exact rfl; exact rfl; exact rfl; exact rfl) | (apply Jq_add; exact rfl; exact rfl; exact rfl; omega) | (apply Jq_lenRs; exact rfl; exact rfl; (exact rb); exact lfa; decide) | (apply Jq_indexRs; exact rfl; exact rfl; exact rfl; (exact rb); omega) | (apply Jq_loadRA; exact rfl; exact rfl; (exact rb); (exact hgx); (omega); decide) | refine thenQ_normal ?_ | refine thenQ_exit ?_ | refine inBlockQ_normal ?_ | refine inBlockQ_here ?_ | refine JC_seq ?_ | refine JC_region ?_ | refine J_nil ?_ | refine JC_exit ?_ | (apply JC_if_true; exact rfl) | (apply JC_dec_false; exact rfl; omega))
            refine ⟨(k + 1, v'), by dsimp only; omega, by dsimp only; omega, ?_⟩
            dsimp only
            rw [e]
            (refine entP (ent ?_ (List.nil_sublist _)) ?_; (repeat refine fr_cons rfl ?_); exact fr_nil; (repeat (exact sp_end)))
    · obtain rfl : k = (stB n).length := by omega
      rw [List.take_length]
      have hiff : ∀ Bs : LsV, Bas n (vecs Bs) → (∀ u, Spn rkT (vecs Bs) u ↔ Spn rkT (imgs n X O ((stB n).filter (nearL n X O a))) u) → decide ((((lessL a (vecs Bs)).length : Nat) : Int) = 0) = r := fun Bs hb hs => by
        rw [Bool.eq_iff_iff, decide_eq_true_iff, hr2, ← hs, ← less_nil hb hva2.asc]
        constructor
        · intro h; exact List.eq_nil_of_length_eq_zero (by omega)
        · intro h; rw [h]; rfl
      generalize (stB n).filter (nearL n X O a) = near at *
      repeat' (first | (apply JcE; exact rfl; exact rfl; exact rfl; infer_instance; (exact images_gives n X O near bX bO h6 m0 p1 l1); (intro v1 H1 hV; obtain ⟨Gs, hGs, hv1, hin, hsub⟩ := hV; have hGl : Gs.length = near.length := (by have h := congrArg List.length hGs; unfold vecs imgsV at h; rwa [List.length_map, List.length_map] at h))) | (apply JcE; exact rfl; exact rfl; exact rfl; infer_instance; (exact span_gives h6 Gs hv1 hin (by rw [hGs]; exact hvec) (by omega)); (intro v2 H2 hV; obtain ⟨Bs, hbas, hsp, hle, hv2, hinB, hsub2⟩ := hV)) | (apply JcE; exact rfl; exact rfl; exact rfl; infer_instance; (exact elim_gives h6 a Bs (hsub2 _ (hsub _ (mS (mS (mS hva))))) hv2 hinB hva2 (fun b hb => ⟨hbas.vec b hb, hbas.ne b hb⟩) (by omega)); (intro v3 H3 hV; obtain ⟨hv3, hsub3⟩ := hV; have iv3 : RB v3 H3 43 8 ((lessL a (vecs Bs)).flatMap encS) := ⟨hv3⟩; have lv3 := fl_len encS_len (lessL a (vecs Bs)))) | (apply Jq_lenRs; exact rfl; exact rfl; exact rb; exact lv3; decide) | (apply Jq_move; exact rfl; exact rfl) | (apply Jq_assign; exact rfl; exact rfl) | (apply Jq_cmp; exact rfl; exact rfl; exact rfl; exact rfl) | (apply Jq_loadW; exact rfl; exact rfl; (exact mb); (omega)) | (apply Jq_lenRs; exact rfl; exact rfl; (exact rb); exact lS; decide) | refine thenQ_normal ?_ | refine thenQ_exit ?_ | refine inBlockQ_here ?_ | refine JC_seq ?_ | refine JC_region ?_ | refine J_nil ?_ | refine JC_ret ?_ | refine JC_exit ?_ | (apply JC_dec_false; exact rfl; omega))
      refine eT2 (H' := H3) rfl rfl rfl rfl (entS fun _ _ h => h) ⟨?_, fun x hx => hsub3 _ (hsub2 _ (hsub _ (mS (mS (mS hx)))))⟩
      rw [hiff Bs hbas fun u => (hsp u).trans (by rw [hGs]; exact Iff.rfl)]
set_option maxRecDepth 100000 in
theorem sisb_bad {B : Nat} {w0 : World} {H : Hp} {va : Value} (n : Int) (X O : List Nat) (bX : isB X) (bO : isB O) (a : List StB) (hva : It.row va 43 8 (a.flatMap encS) ∈ H) (la : a.length < 100000000) {c : Int} (hc : codeS n X O [a] = c) (h0 : c ≠ 0) :
    GivesE Tryd.prog 7 #[.agg (gv n X O).toArray, va] B w0 H (bdR false c H) := by
  have ug := gv_len (n := n) bX.1 bO.1
  refine givesE_of (args := [.agg (gv n X O).toArray, va]) [(0, .agg (gv n X O).toArray), (1, va)] Tryd.func7 rfl Tryd.ntmps7 rfl (argsF_cons rfl (argsF_cons rfl argsF_nil)) ?_
  refine JC_row1' hva fun oa ca => ?_
  repeat' (first | (apply J_lit1; exact rfl; exact rfl; exact ca; (intro _)) | (apply Jq_move; exact rfl; exact rfl) | (apply Jq_assign; exact rfl; exact rfl) | (apply Jq_cmp; exact rfl; exact rfl; exact rfl; exact rfl) | (apply Jq_loadW; exact rfl; exact rfl; (exact mb); (omega)) | (apply JqM; exact rfl; exact rfl; exact rfl; infer_instance; (exact lcode_is n X O bX bO [(va, a)] m0 (sums1 (mS (mS hva)) (by omega)) (Nat.le_of_ble_eq_true rfl) hc)) | (apply J_box; exact rfl; exact rfl; exact rfl; (intro _)) | refine thenQ_normal ?_ | refine thenQ_ret ?_ | refine JC_seq ?_ | refine JC_region ?_ | refine J_nil ?_ | refine JC_ret ?_ | (apply JC_ndec_true; exact rfl; omega))
  refine eT2 (H' := H) rfl rfl rfl rfl ?_ ⟨rfl, fun _ h => h⟩
  (refine ent ?_ ?_; (repeat refine fr_cons rfl ?_); exact fr_nil; (repeat (first | exact List.Sublist.refl _ | refine List.Sublist.cons _ ?_)))
set_option maxRecDepth 100000 in
theorem iisb1_gives {B : Nat} {w0 : World} {H : Hp} {va : Value} (n : Nat) (X O : List Nat) (bX : isB X) (bO : isB O) (g : okG (n : Int) X O) (hT : tabI ∈ H) (a : List StB) (b1 : Nat) (T1 : TypeId) (h1 : It.blk b1 [va] T1 ∈ H) (hva : It.row va 43 8 (a.flatMap encS) ∈ H) (h6 : n ≤ 6) (la : a.length ≤ 46656) (hva2 : Vec n a) (r : Bool) (hr : r = true ↔ Spn rkT (imgs n X O (stB n)) a) :
    GivesE Tryd.prog 25 #[.agg (gv (n : Int) X O).toArray, .pointer (some ⟨b1, 0, none⟩)] B w0 H (fun v' H' => v' = .bool r ∧ ∀ x ∈ H, x ∈ H') := by
  have ug := gv_len (n := (n : Int)) bX.1 bO.1
  have i1 : MB b1 H [va] T1 := ⟨h1⟩
  have hS := stB_720 h6
  have hSa := stB_asc (n := n) (by omega)
  have hall : ∀ x, isPerm x.1 n → x ∈ stB n := fun x hx => ((stB_all (by omega)).mem x).2 hx
  have hp := fun x hx => stB_perm (n := n) (by omega) x hx
  have hfg : ∀ x ∈ stB n, ∀ y ∈ tfold (fol n X O x), y ∈ stB n := fun x hx y hy => (fol_grade g (by omega) hx y hy).1
  have hst := states_gives n (by omega)
  change ∀ w, GivesN Tryd.prog 26 #[.int .i64 (n : Int)] (isRow 43 8 (flatS (sts n))) w at hst
  rw [← stB_flat (show n ≤ 8 by omega)] at hst
  have has : ∀ x ∈ a, x ∈ stB n := fun x hx => hall x (hva2.pm x hx)
  refine givesE_of (args := [.agg (gv (n : Int) X O).toArray, .pointer (some ⟨b1, 0, none⟩)]) [(0, .agg (gv (n : Int) X O).toArray), (1, .pointer (some ⟨b1, 0, none⟩))] Tryd.func25 rfl Tryd.ntmps25 rfl (argsF_cons rfl (argsF_cons rfl argsF_nil)) ?_
  have lS := fl_len encS_len (stB n)
  repeat' (first | (apply J_makeMap; exact rfl; (intro _)) | (apply JcE; exact rfl; exact rfl; exact rfl; infer_instance; (exact numbered_gives (stB n) m0 hSa.nodup (by omega)); (intro v' H' hV; obtain ⟨bn, rfl, rfl⟩ := hV)) | (apply Jq_move; exact rfl; exact rfl) | (apply Jq_assign; exact rfl; exact rfl) | (apply Jc; exact rfl; exact rfl; exact rfl; infer_instance; ((intro w hw); exact n_gives n X O w)) | (apply Jq_loadW; exact rfl; exact rfl; (exact mb); (omega)) | (apply JcR; exact rfl; exact rfl; exact rfl; infer_instance; ((intro w hw); exact hst w); (intro _)) | (apply J_box; exact rfl; exact rfl; exact rfl; (intro _)) | (apply Jq_lenRs; exact rfl; exact rfl; (exact rb); exact lS; decide) | refine thenQ_normal ?_ | refine JC_seq ?_ | refine JC_region ?_ | refine J_nil ?_ | refine JC_block ?_)
  rename_i b2 vS b6
  have hTn : ∀ (x1 x2 x3 x4 : It), tabI ∈ x1 :: x2 :: x3 :: x4 :: H := fun _ _ _ _ => mS (mS (mS (mS hT)))
  refine JC_loop (X := Nat × List (Int × List StB)) (fun p => p.1 ≤ (stB n).length ∧ BasM (stB n) p.2 ∧ ∀ v, Spn rkT (p.2.map (·.2)) v ↔ Spn rkT (imgs n X O ((stB n).take p.1)) v) (fun p => [(19, .int .i64 (p.1 : Int)), (18, .int .i64 ((stB n).length : Int)), (17, vS), (6, .map (some b6)), (5, .map (some bn)), (2, .pointer (some ⟨b2, 0, none⟩)), (1, .pointer (some ⟨b1, 0, none⟩))])
    (fun p => .obj b6 (mapO (encM zV (rV (stB n)) p.2)) :: .obj bn (mapO (encM stK nV (numM (stB n)))) :: .row vS 43 8 ((stB n).flatMap encS) :: .blk b2 (gv (n : Int) X O) 29 :: H) (fun p => (stB n).length - p.1) (0, []) ⟨Nat.zero_le _, ⟨List.nodup_nil, fun e he => absurd he List.not_mem_nil, fun e he => absurd he List.not_mem_nil, fun e he => absurd he List.not_mem_nil⟩, fun v => Iff.rfl⟩ ?_ ?_
  · dsimp only [encM, List.map_nil]
    (refine entP (ent ?_ (List.nil_sublist _)) ?_; (repeat refine fr_cons rfl ?_); exact fr_nil; (repeat (exact sp_refl)))
  · rintro ⟨i, Mb⟩ ⟨hi, hMb, hsp⟩
    dsimp only at hi hMb hsp ⊢
    by_cases hlt : i < (stB n).length
    · obtain ⟨x, hx⟩ := get_in hlt
      have ux := encS_len x
      have hgx := fl_at encS_len hx
      have hxS := List.mem_of_getElem? hx
      have px := hp x hxS
      have hfl := Nat.le_trans (tfold_len (fol n X O x)) (fol30 h6 X O x)
      have hfa := (tfold_odd (fol n X O x)).1
      have hsf := fun (H : Hp) => ifol_gives (B := B) (w0 := w0) (H := H) n X O x bX bO (by omega) px
      have hin := hfg x hxS
      have htk : imgs n X O ((stB n).take (i + 1)) = imgs n X O ((stB n).take i) ++ [tfold (fol n X O x)] := by
        unfold imgs
        rw [List.take_add_one, hx, List.map_append]; rfl
      have hstep : ∀ M' : List (Int × List StB), (∀ v, Spn rkT (M'.map (·.2)) v ↔ Spn rkT (tfold (fol n X O x) :: Mb.map (·.2)) v) → ∀ v, Spn rkT (M'.map (·.2)) v ↔ Spn rkT (imgs n X O ((stB n).take (i + 1))) v := fun M' h v => (h v).trans (by rw [htk]; exact Spn.snoc hMb.ascL (imgs_asc _) hfa hsp v)
      generalize tfold (fol n X O x) = fl at *
      have lfl := fl_len encS_len fl
      repeat' (first | (apply JcE; exact rfl; exact rfl; exact rfl; infer_instance; (exact hsf _); (intro vf H' hV; subst hV)) | (apply JcE; exact rfl; exact rfl; exact rfl; infer_instance; (exact rowof_gives (stB n) fl m0 (by exact mo) hSa.nodup (by omega) hfa.nodup hin (by omega)); (intro v' H' hV; obtain ⟨rfl, rfl⟩ := hV)) | (apply JcE; exact rfl; exact rfl; exact rfl; infer_instance; (exact addb_gives (stB n) Mb fl (mS (mS (hTn _ _ _ _))) inferInstance hSa (by omega) hMb hfa hin); (intro v3 H' hV; obtain ⟨rfl, Mb', hMb', hs', rfl⟩ := hV)) | (apply Jq_move; exact rfl; exact rfl) | (apply Jq_cmp; exact rfl; exact rfl; exact rfl; exact rfl) | (apply Jq_add; exact rfl; exact rfl; exact rfl; omega) | (apply Jq_loadW; exact rfl; exact rfl; (exact mb); (omega)) | (apply J_sW; exact rfl; exact rfl; infer_instance; (exact rfl); (omega); (exact u8s_one _); infer_instance) | (apply Jq_indexRs; exact rfl; exact rfl; exact rfl; (exact rb); omega) | (apply Jq_loadRA; exact rfl; exact rfl; (exact rb); (exact hgx); (omega); decide) | (apply J_alloc (cs := u8s Z8); exact rfl; exact rfl; (intro _)) | refine thenQ_normal ?_ | refine inBlockQ_normal ?_ | refine JC_seq ?_ | refine JC_region ?_ | refine J_nil ?_ | refine JC_block ?_ | refine JC_skip ?_ | (apply JC_dec_true; exact rfl; omega))
      refine ⟨(i + 1, Mb'), ⟨by dsimp only; omega, hMb', hstep Mb' hs'⟩, by dsimp only; omega, ?_⟩
      dsimp only
      (refine entP (ent ?_ (List.nil_sublist _)) ?_; (repeat refine fr_cons rfl ?_); exact fr_nil; (repeat (exact sp_end)))
    · obtain rfl : i = (stB n).length := by omega
      rw [List.take_length] at hsp
      refine JC_row1' (v := va) (by exact mS (mS (mS (mS hva)))) fun oa ca => ?_
      repeat' (first | (apply JcE; exact rfl; exact rfl; exact rfl; infer_instance; (exact rowof_gives (stB n) a (mS (mS (mS (mS hva)))) (by exact mo) hSa.nodup (by omega) hva2.asc.nodup has (by omega)); (intro v' H' hV; obtain ⟨rfl, rfl⟩ := hV)) | (apply JcE; exact rfl; exact rfl; exact rfl; infer_instance; (exact reduce_gives (stB n) Mb a (hTn _ _ _ _) m0 hSa (by omega) hMb hva2.asc has); (intro v' H' hV; obtain ⟨l', k, rfl, hrd, rfl⟩ := hV; have ul := wC_len (bS (stB n) l'))) | (apply Jq_move; exact rfl; exact rfl) | (apply Jq_assign; exact rfl; exact rfl) | (apply Jq_load; exact rfl; exact rfl; (exact mb); (exact rfl)) | (apply Jq_cmp; exact rfl; exact rfl; exact rfl; exact rfl) | (apply J_sW; exact rfl; exact rfl; infer_instance; (exact rfl); (omega); (exact wC_one _); infer_instance) | (apply Jq_ext20; exact rfl; exact rfl) | (apply Jq_ext21; exact rfl; exact rfl) | (apply J_alloc; exact rfl; exact rfl; (intro _)) | refine thenQ_normal ?_ | refine thenQ_exit ?_ | refine inBlockQ_here ?_ | refine JC_seq ?_ | refine JC_region ?_ | refine J_nil ?_ | refine JC_ret ?_ | refine JC_exit ?_ | (apply JC_dec_false; exact rfl; omega))
      have hb : decide (k < 0) = r := by rw [Bool.eq_iff_iff, decide_eq_true_iff, hr, ← hsp, red_neg hSa.nodup hMb hva2.asc hrd]
      refine e1 rfl rfl rfl (entS fun _ _ h => h) ⟨by rw [hb], fun x hx => mS (mS (mS (mS (mS hx))))⟩
set_option maxRecDepth 100000 in
theorem iisb_good {B : Nat} {w0 : World} {H : Hp} {va : Value} (n : Nat) (X O : List Nat) (bX : isB X) (bO : isB O) (hT : tabI ∈ H) (a : List StB) (hva : It.row va 43 8 (a.flatMap encS) ∈ H) (la : a.length ≤ 46656) (h6 : n ≤ 6) (hva2 : Vec n a) (g : okG (n : Int) X O) (hc : codeS n X O [a] = 0) (r : Bool) (hr : r = true ↔ Spn rkT (imgs n X O (stB n)) a) :
    GivesE Tryd.prog 10 #[.agg (gv (n : Int) X O).toArray, va] B w0 H (bdR r 0 H) := by
  have ug := gv_len (n := (n : Int)) bX.1 bO.1
  refine givesE_of (args := [.agg (gv (n : Int) X O).toArray, va]) [(0, .agg (gv (n : Int) X O).toArray), (1, va)] Tryd.func10 rfl Tryd.ntmps10 rfl (argsF_cons rfl (argsF_cons rfl argsF_nil)) ?_
  refine JC_row1' hva fun oa ca => ?_
  repeat' (first | (apply J_box (cs := [va]); exact rfl; exact rfl; exact ca; (intro b4)) | (apply Jq_func1; exact rfl; exact rfl) | (apply J_lit1; exact rfl; exact rfl; exact ca; (intro _)) | (apply JcE; exact rfl; exact rfl; exact rfl; infer_instance; (exact summedB_good inferInstance n X O bX bO [(va, a)] m0 (sums1 (mS (mS (mS hva))) (by omega)) (Nat.le_of_ble_eq_true rfl) hc _ (iisb1_gives n X O bX bO g (mS (mS (mS hT))) a _ _ mb (mS (mS (mS hva))) h6 la hva2 r hr)); (intro v' H' hV; obtain ⟨u, rfl, rfl, hs⟩ := hV)) | (apply Jq_assign; exact rfl; exact rfl) | (apply Jq_load; exact rfl; exact rfl; (exact mb); (exact rfl)) | (apply Jq_loadW; exact rfl; exact rfl; (exact mb); (omega)) | (apply Jq_ext20; exact rfl; exact rfl) | (apply Jq_ext21; exact rfl; exact rfl) | (apply J_box; exact rfl; exact rfl; exact rfl; (intro _)) | refine thenQ_normal ?_ | refine JC_seq ?_ | refine JC_region ?_ | refine J_nil ?_ | refine JC_ret ?_)
  exact eT2 (H' := H') rfl rfl rfl rfl (entS fun _ _ h => h) ⟨rfl, fun x hx => hs _ (mS (mS (mS hx)))⟩
set_option maxRecDepth 100000 in
theorem iisb_bad {B : Nat} {w0 : World} {H : Hp} {va : Value} (n : Int) (X O : List Nat) (bX : isB X) (bO : isB O) (a : List StB) (hva : It.row va 43 8 (a.flatMap encS) ∈ H) (la : a.length < 100000000) {c : Int} (hc : codeS n X O [a] = c) (h0 : c ≠ 0) :
    GivesE Tryd.prog 10 #[.agg (gv n X O).toArray, va] B w0 H (bdR false c H) := by
  have ug := gv_len (n := n) bX.1 bO.1
  refine givesE_of (args := [.agg (gv n X O).toArray, va]) [(0, .agg (gv n X O).toArray), (1, va)] Tryd.func10 rfl Tryd.ntmps10 rfl (argsF_cons rfl (argsF_cons rfl argsF_nil)) ?_
  refine JC_row1' hva fun oa ca => ?_
  repeat' (first | (apply J_box (cs := [va]); exact rfl; exact rfl; exact ca; (intro b4)) | (apply Jq_func1; exact rfl; exact rfl) | (apply J_lit1; exact rfl; exact rfl; exact ca; (intro _)) | (apply JcE; exact rfl; exact rfl; exact rfl; infer_instance; (exact summedB_bad n X O bX bO [(va, a)] m0 (sums1 (mS (mS (mS hva))) (by omega)) (Nat.le_of_ble_eq_true rfl) hc h0); (intro v' H' hV; obtain ⟨rfl, hs⟩ := hV)) | (apply Jq_assign; exact rfl; exact rfl) | (apply Jq_load; exact rfl; exact rfl; (exact mb); (exact rfl)) | (apply Jq_loadW; exact rfl; exact rfl; (exact mb); (omega)) | (apply Jq_ext20; exact rfl; exact rfl) | (apply Jq_ext21; exact rfl; exact rfl) | (apply J_box; exact rfl; exact rfl; exact rfl; (intro _)) | refine thenQ_normal ?_ | refine JC_seq ?_ | refine JC_region ?_ | refine J_nil ?_ | refine JC_ret ?_)
  exact eT2 (H' := H') rfl rfl rfl rfl (entS fun _ _ h => h) ⟨rfl, fun x hx => hs _ (mS (mS (mS hx)))⟩
theorem isb_res (n : Int) (X O : List Nat) (a : List StB) : ∃ (r : Bool) (c : Int), ∀ (B : Nat) (w0 : World) (H : Hp) (va : Value), tabI ∈ H → isB X → isB O → It.row va 43 8 (a.flatMap encS) ∈ H → a.length < 10000000 →
    GivesE Tryd.prog 7 #[.agg (gv n X O).toArray, va] B w0 H (bdR r c H) ∧
    GivesE Tryd.prog 10 #[.agg (gv n X O).toArray, va] B w0 H (bdR r c H) := by
  by_cases h0 : codeS n X O [a] = 0
  · rcases codeS_cases h0 with ⟨h, _⟩ | ⟨⟨g, hall⟩, ⟨h, _⟩ | ⟨_, h6⟩⟩
    · omega
    · omega
    · obtain ⟨m, rfl⟩ := okG_nat g
      obtain ⟨_, px, ha⟩ := hall a List.mem_cons_self
      have h6' : m ≤ 6 := by omega
      have la := sums_len h6' ha px
      let r : Bool := @decide (Spn rkT (imgs m X O (stB m)) a) (Classical.propDecidable _)
      have hr : r = true ↔ Spn rkT (imgs m X O (stB m)) a := @decide_eq_true_iff _ (Classical.propDecidable _)
      exact ⟨r, 0, fun B w0 H va hT bX bO hva _ => ⟨sisb_good m X O bX bO a hva la h6' ⟨ha, px⟩ g h0 r hr, iisb_good m X O bX bO hT a hva la h6' ⟨ha, px⟩ g h0 r hr⟩⟩
  · exact ⟨false, codeS n X O [a], fun B w0 H va _ bX bO hva la => ⟨sisb_bad n X O bX bO a hva (by omega) rfl h0, iisb_bad n X O bX bO a hva (by omega) rfl h0⟩⟩
theorem RdS.into {c : Value} {L : List StB} {H H' : SL.Hp} (h : RdS c L H) (hs : ∀ x, x ∈ H → x ∈ H') : RdS c L H' := by
  obtain ⟨a, cap, h1, h4⟩ := h
  refine ⟨a, cap, h1, fun hL => ?_⟩
  obtain ⟨b, off, h5, h6⟩ := h4 hL
  exact ⟨b, off, h5, hs _ h6⟩
set_option maxRecDepth 100000 in
theorem lawIsb_gives {B : Nat} {w0 : World} {H : Hp} (hT : tabI ∈ H) (n : Int) (X O : List Nat) (bX : isB X) (bO : isB O) {c1 : Value} {L1 : List StB} (hc1 : RdS c1 L1 H) (m1 : L1.length ≤ maxLen) :
    GivesE Tryd.prog 3 #[.agg (gv n X O).toArray, c1] B w0 H (fun v' _ => v' = .bool true) := by
  have ug := gv_len (n := n) bX.1 bO.1
  obtain ⟨a1, k1, rfl, _⟩ := id hc1
  simp only [maxLen] at m1
  refine givesE_of (args := [.agg (gv n X O).toArray, .slice a1 L1.length k1]) [(0, .agg (gv n X O).toArray), (1, .slice a1 L1.length k1)] Tryd.func3 rfl Tryd.ntmps3 rfl (argsF_cons rfl (argsF_cons rfl argsF_nil)) ?_
  by_cases h1 : 1048576 < L1.length
  · repeat' (first | (apply Jq_move; exact rfl; exact rfl) | (apply Jq_assign; exact rfl; exact rfl) | (apply Jq_cmp; exact rfl; exact rfl; exact rfl; exact rfl) | (apply Jc; exact rfl; exact rfl; exact rfl; infer_instance; ((intro w hw); exact szS_over a1 L1.length k1 1048576 (by decide) h1 (by omega) w)) | (apply J_box; exact rfl; exact rfl; exact rfl; (intro _)) | refine thenQ_normal ?_ | refine thenQ_ret ?_ | refine JC_seq ?_ | refine JC_region ?_ | refine J_nil ?_ | refine JC_ret ?_ | (apply JC_if_true; exact rfl))
    exact e1 rfl rfl rfl (entS fun _ _ h => h) rfl
  obtain ⟨r, cc, hres⟩ := isb_res n X O L1
  have f1 := fl_len encS_len L1
  repeat' (first | (apply JcE; exact rfl; exact rfl; exact rfl; infer_instance; (focus (refine toStateS_gives L1 ?_ (by omega); (first | exact hc1.cons | exact hc2 | exact hc3); done)); (intro v' H' hV; subst hV)) | (apply JcE; exact rfl; exact rfl; exact rfl; infer_instance; (exact (hres _ _ _ _ (mS (mS hT)) bX bO m0 (by omega)).1); (intro v' H1 hV; obtain ⟨rfl, hs1⟩ := hV; have i2 : MB _ H1 _ _ := ⟨hs1 _ (mS m0)⟩; have hc2 := (hc1.cons.cons).into hs1; have hT1 := hs1 _ (mS (mS hT)))) | (apply JcE; exact rfl; exact rfl; exact rfl; infer_instance; (exact (hres _ _ _ _ (mS hT1) bX bO m0 (by omega)).2); (intro v' H2 hV; obtain ⟨rfl, hs2⟩ := hV; have hc3 := (hc2.cons).into hs2; have hrow := hs2 _ m0)) | (apply Jq_nebS; exact rfl; exact rfl; exact rfl) | (apply Jq_move; exact rfl; exact rfl) | (apply Jq_assign; exact rfl; exact rfl) | (apply Jq_cmp; exact rfl; exact rfl; exact rfl; exact rfl) | (apply Jq_not; exact rfl; exact rfl) | (apply Jq_pick_false; exact rfl; exact rfl; exact rfl) | (apply J_on; exact rfl; exact rfl) | (apply Jc; exact rfl; exact rfl; exact rfl; infer_instance; ((intro w hw); first | exact szS_ok a1 L1.length k1 1048576 (by decide) (by omega) w | exact toGrid_gives n X O bX.1 bO.1 w)) | (apply Jq_loadW; exact rfl; exact rfl; (exact mb); (omega)) | (apply JqM; exact rfl; exact rfl; exact rfl; infer_instance; (exact eqStateS_gives L1 (mS hrow) m0 (by omega))) | (apply Jq_ext20; exact rfl; exact rfl) | (apply Jq_ext21; exact rfl; exact rfl) | (apply J_box; exact rfl; exact rfl; exact rfl; (intro _)) | refine thenQ_normal ?_ | refine JC_seq ?_ | refine JC_region ?_ | refine J_nil ?_ | refine JC_skip ?_ | refine JC_ret ?_ | (apply JC_if_false; exact rfl) | (apply JC_ndec_false; exact rfl; omega))
  exact e1 rfl rfl rfl (entS fun _ _ h => h) rfl
end Go.Proofs.YtmbbcmebdefggaaDoor
