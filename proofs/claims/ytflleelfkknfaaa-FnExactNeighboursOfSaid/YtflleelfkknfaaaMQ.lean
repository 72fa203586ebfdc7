/- Walks: FnExactNeighboursOf. -/
import Derived.Test.YtflleelfkknfaaaSK
import Derived.Test.YtflleelfkknfaaaMN
import Derived.Test.YtflleelfkknfaaaMO
namespace Go.Proofs.Ytflleelfkknfaaa
open Go Go.RowKit SL
namespace SL
theorem J_app1 {P : Program} {B : Nat} {w0 : World} {n : Nat} {Q : Po} {F : Fr} {H : Hp} {ops : Array Oper} {l : List Oper} {dr : Bool} {x : It} (k : J dr P B w0 n ops Q l F (x :: H)) : J dr P B w0 n ops Q l F ([x] ++ H) := k
end SL
theorem nbR_mine {p : GridB} (v : Value) (its : Hp) (h : nbR p v its) : ∀ x, x ∈ its → x.mine = true := by
  obtain ⟨l, _, _, _, rfl⟩ := h; simp [It.mine]
/-- A list of grids and a number. -/
def nbRI (p : GridB) (v : Value) (its : Hp) : Prop := ∃ u, v = .tuple #[u, .int .i64 0] ∧ nbR p u its
theorem nbRI_mine {p : GridB} (v : Value) (its : Hp) (h : nbRI p v its) : ∀ x, x ∈ its → x.mine = true := by
  obtain ⟨u, _, h⟩ := h; exact nbR_mine u its h
set_option maxRecDepth 100000 in
theorem sNb_good {p : GridB} (hp : okB p) (w : World) : GivesN Try.prog 11 #[.agg (encG p).toArray] (nbRI p) w := by
  have ug := encG_len p
  have h1 : ∀ x : GridB, ∀ u ∈ encG x, u.oneCell' = true := fun x => gv_one _ _ _
  have g : okG p.1.1 p.1.2.1 p.1.2.2 := hp
  refine givesN_of (args := [.agg (encG p).toArray]) [(0, .agg (encG p).toArray)] [] Try.func11 rfl Try.ntmps11 rfl (argsF_cons rfl argsF_nil) (Holds.start w) ?_
  repeat' (first | (apply JC_ndec_false; exact rfl; exact g) | (apply JcN (N := nbR p); exact rfl; exact rfl; exact rfl; infer_instance; (intro w _; exact snb_gives hp w); exact nbR_mine; (intro v its h; obtain ⟨l, ha, hm, hl, rfl⟩ := h)) | (apply Jq_assign; exact rfl; exact rfl) | (apply Jq_not; exact rfl; exact rfl) | (apply Jc; exact rfl; exact rfl; exact rfl; infer_instance; ((intro w hw); exact l01Is_gives p.1.1 p.1.2.1 p.1.2.2 p.2.1 p.2.2 w)) | (apply Jq_loadW; exact rfl; exact rfl; (exact mb); (omega)) | (apply J_box; exact rfl; exact rfl; exact rfl; (intro _)) | refine thenQ_normal ?_ | refine JC_seq ?_ | refine JC_region ?_ | refine J_nil ?_ | refine JC_skip ?_ | refine JC_ret ?_)
  refine n2 (its := [.row v 27 17 (l.flatMap encG)]) rfl rfl rfl rfl ?_ ⟨v, rfl, l, ha, hm, hl, rfl⟩
  (refine ent ?_ ?_; (repeat refine fr_cons rfl ?_); exact fr_nil; (repeat (first | exact List.nil_sublist _ | refine List.Sublist.cons_cons _ ?_)))
set_option maxRecDepth 100000 in
theorem wholeNb_good {p : GridB} (hp : okB p) (w : World) : GivesN Try.prog 33 #[.agg (encG p).toArray, .func (.func 34) #[] #[]] (nbRI p) w := by
  have ug := encG_len p
  have h1 : ∀ x : GridB, ∀ u ∈ encG x, u.oneCell' = true := fun x => gv_one _ _ _
  have g : okG p.1.1 p.1.2.1 p.1.2.2 := hp
  refine givesN_of (args := [.agg (encG p).toArray, .func (.func 34) #[] #[]]) [(0, .agg (encG p).toArray), (1, .func (.func 34) #[] #[])] [] Try.func33 rfl Try.ntmps33 rfl (argsF_cons rfl (argsF_cons rfl argsF_nil)) (Holds.start w) ?_
  repeat' (first | (apply JC_ndec_false; exact rfl; exact g) | (apply JcN (N := nbR p); exact rfl; exact rfl; exact rfl; infer_instance; (intro w _; exact inb_gives hp w); exact nbR_mine; (intro v its h; obtain ⟨l, ha, hm, hl, rfl⟩ := h)) | (apply Jq_move; exact rfl; exact rfl) | (apply Jq_assign; exact rfl; exact rfl) | (apply Jq_not; exact rfl; exact rfl) | (apply Jc; exact rfl; exact rfl; exact rfl; infer_instance; ((intro w hw); exact IsGrid_gives p.1.1 p.1.2.1 p.1.2.2 p.2.1 p.2.2 w)) | (apply Jq_loadW; exact rfl; exact rfl; (exact mb); (omega)) | (apply J_box; exact rfl; exact rfl; exact rfl; (intro _)) | refine thenQ_normal ?_ | refine JC_seq ?_ | refine JC_region ?_ | refine J_nil ?_ | refine JC_skip ?_ | refine JC_ret ?_)
  refine n2 (its := [.row v 27 17 (l.flatMap encG)]) rfl rfl rfl rfl ?_ ⟨v, rfl, l, ha, hm, hl, rfl⟩
  (refine ent ?_ ?_; (repeat refine fr_cons rfl ?_); exact fr_nil; (repeat (first | exact List.nil_sublist _ | refine List.Sublist.cons_cons _ ?_)))
set_option maxRecDepth 100000 in
theorem iNb_good {p : GridB} (hp : okB p) (w : World) : GivesN Try.prog 12 #[.agg (encG p).toArray] (nbRI p) w := by
  have ug := encG_len p
  have h1 : ∀ x : GridB, ∀ u ∈ encG x, u.oneCell' = true := fun x => gv_one _ _ _
  refine givesN_of (args := [.agg (encG p).toArray]) [(0, .agg (encG p).toArray)] [] Try.func12 rfl Try.ntmps12 rfl (argsF_cons rfl argsF_nil) (Holds.start w) ?_
  repeat' (first | (apply JcN (N := nbRI p); exact rfl; exact rfl; exact rfl; infer_instance; (intro w _; exact wholeNb_good hp w); exact nbRI_mine; (intro v its h; obtain ⟨u, rfl, l, ha, hm, hl, rfl⟩ := h)) | (apply Jq_assign; exact rfl; exact rfl) | (apply Jq_loadW; exact rfl; exact rfl; (exact mb); (omega)) | (apply Jq_ext20; exact rfl; exact rfl) | (apply Jq_ext21; exact rfl; exact rfl) | (apply J_box; exact rfl; exact rfl; exact rfl; (intro _)) | refine thenQ_normal ?_ | refine JC_seq ?_ | refine JC_region ?_ | refine J_nil ?_ | refine JC_ret ?_)
  refine n2 (its := [.row u 27 17 (l.flatMap encG)]) rfl rfl rfl rfl ?_ ⟨u, rfl, l, ha, hm, hl, rfl⟩
  (refine ent ?_ ?_; (repeat refine fr_cons rfl ?_); exact fr_nil; (repeat (first | exact List.nil_sublist _ | refine List.Sublist.cons_cons _ ?_)))
set_option maxRecDepth 100000 in
theorem sNb_bad (n : Int) (X O : List Nat) (bX : isB X) (bO : isB O) (g : ¬ okG n X O) (w : World) : GivesN Try.prog 11 #[.agg (gv n X O).toArray] (isRowI 27 17 [] 1) w := by
  have ug := gv_len (n := n) bX.1 bO.1
  refine givesN_of (args := [.agg (gv n X O).toArray]) [(0, .agg (gv n X O).toArray)] [] Try.func11 rfl Try.ntmps11 rfl (argsF_cons rfl argsF_nil) (Holds.start w) ?_
  repeat' (first | (apply JC_ndec_true; exact rfl; exact g) | (apply Jq_assign; exact rfl; exact rfl) | (apply Jq_not; exact rfl; exact rfl) | (apply Jc; exact rfl; exact rfl; exact rfl; infer_instance; ((intro w hw); exact l01Is_gives n X O bX bO w)) | (apply Jq_loadW; exact rfl; exact rfl; (exact mb); (omega)) | (apply J_box; exact rfl; exact rfl; exact rfl; (intro _)) | refine thenQ_normal ?_ | refine thenQ_ret ?_ | refine JC_seq ?_ | refine JC_region ?_ | refine J_nil ?_ | refine JC_ret ?_)
  exact n2nil rfl rfl rfl rfl
set_option maxRecDepth 100000 in
theorem wholeNb_bad (k : FuncId) (n : Int) (X O : List Nat) (bX : isB X) (bO : isB O) (g : ¬ okG n X O) (w : World) : GivesN Try.prog 33 #[.agg (gv n X O).toArray, .func (.func k) #[] #[]] (isRowI 27 17 [] 1) w := by
  have ug := gv_len (n := n) bX.1 bO.1
  refine givesN_of (args := [.agg (gv n X O).toArray, .func (.func k) #[] #[]]) [(0, .agg (gv n X O).toArray), (1, .func (.func k) #[] #[])] [] Try.func33 rfl Try.ntmps33 rfl (argsF_cons rfl (argsF_cons rfl argsF_nil)) (Holds.start w) ?_
  repeat' (first | (apply JC_ndec_true; exact rfl; exact g) | (apply Jq_move; exact rfl; exact rfl) | (apply Jq_assign; exact rfl; exact rfl) | (apply Jq_not; exact rfl; exact rfl) | (apply Jc; exact rfl; exact rfl; exact rfl; infer_instance; ((intro w hw); exact IsGrid_gives n X O bX bO w)) | (apply Jq_loadW; exact rfl; exact rfl; (exact mb); (omega)) | (apply J_box; exact rfl; exact rfl; exact rfl; (intro _)) | refine thenQ_normal ?_ | refine thenQ_ret ?_ | refine JC_seq ?_ | refine JC_region ?_ | refine J_nil ?_ | refine JC_ret ?_)
  exact n2nil rfl rfl rfl rfl
set_option maxRecDepth 100000 in
theorem iNb_bad (n : Int) (X O : List Nat) (bX : isB X) (bO : isB O) (g : ¬ okG n X O) (w : World) : GivesN Try.prog 12 #[.agg (gv n X O).toArray] (isRowI 27 17 [] 1) w := by
  have ug := gv_len (n := n) bX.1 bO.1
  refine givesN_of (args := [.agg (gv n X O).toArray]) [(0, .agg (gv n X O).toArray)] [] Try.func12 rfl Try.ntmps12 rfl (argsF_cons rfl argsF_nil) (Holds.start w) ?_
  repeat' (first | (apply JcN (N := isRowI 27 17 [] 1); exact rfl; exact rfl; exact rfl; infer_instance; (intro w _; exact wholeNb_bad _ n X O bX bO g w); exact isRowI_mine; (intro v its h; obtain ⟨u, rfl, rfl⟩ := h)) | (apply Jq_assign; exact rfl; exact rfl) | (apply Jq_loadW; exact rfl; exact rfl; (exact mb); (omega)) | (apply Jq_ext20; exact rfl; exact rfl) | (apply Jq_ext21; exact rfl; exact rfl) | (apply J_box; exact rfl; exact rfl; exact rfl; (intro _)) | refine thenQ_normal ?_ | refine JC_seq ?_ | refine JC_region ?_ | refine J_nil ?_ | refine JC_ret ?_)
  refine n2 (its := [.row u 27 17 []]) rfl rfl rfl rfl ?_ ⟨u, rfl, rfl⟩
  (refine ent ?_ ?_; (repeat refine fr_cons rfl ?_); exact fr_nil; (repeat (first | exact List.nil_sublist _ | refine List.Sublist.cons_cons _ ?_)))
set_option maxRecDepth 100000 in
theorem lawNeighboursOf_gives (n : Int) (X O : List Nat) (bX : isB X) (bO : isB O) (w : World) : Gives Try.prog 4 #[.agg (gv n X O).toArray] (.bool true) w := by
  have ug := gv_len (n := n) bX.1 bO.1
  refine gives_of (args := [.agg (gv n X O).toArray]) [(0, .agg (gv n X O).toArray)] [] Try.func4 rfl Try.ntmps4 rfl (argsF_cons rfl argsF_nil) (Holds.start w) ?_
  by_cases g : okG n X O
  · have hs := sNb_good (p := ⟨(n, X, O), bX, bO⟩) g
    have hi := iNb_good (p := ⟨(n, X, O), bX, bO⟩) g
    repeat' (first | (apply JcN; exact rfl; exact rfl; exact rfl; infer_instance; (intro w _; exact hs w); exact nbRI_mine; (intro v its hV; obtain ⟨u, rfl, l, ha, hm, hl, rfl⟩ := hV; have lf := flat_len l; refine J_app1 ?_)) | (apply Jq_move; exact rfl; exact rfl) | (apply Jq_assign; exact rfl; exact rfl) | (apply Jc; exact rfl; exact rfl; exact rfl; infer_instance; ((intro w hw); exact toGrid_gives n X O bX.1 bO.1 w)) | (apply Jq_loadW; exact rfl; exact rfl; (exact mb); (omega)) | (apply Jq_ext20; exact rfl; exact rfl) | (apply Jq_ext21; exact rfl; exact rfl) | (apply J_box; exact rfl; exact rfl; exact rfl; (intro _)) | refine thenQ_normal ?_ | refine JC_seq ?_ | refine JC_region ?_ | refine J_nil ?_)
    have l1 : (l.flatMap encG).length = l.length * 17 := lf
    have hl' : l.length < 1000000 := by omega
    repeat' (first | (apply JcN; exact rfl; exact rfl; exact rfl; infer_instance; (intro w _; exact hi w); exact nbRI_mine; (intro v its hV; obtain ⟨u2, rfl, l2, ha2, hm2, _, rfl⟩ := hV; have e2 := Asc.ext ha ha2 (fun y => (hm y).trans (hm2 y).symm); subst e2; refine J_app1 ?_)) | (apply Jq_move; exact rfl; exact rfl) | (apply Jq_assign; exact rfl; exact rfl) | (apply Jq_cmp; exact rfl; exact rfl; exact rfl; exact rfl) | (apply Jq_not; exact rfl; exact rfl) | (apply Jq_pick_false; exact rfl; exact rfl; exact rfl) | (apply J_on; exact rfl; exact rfl) | (apply Jc; exact rfl; exact rfl; exact rfl; infer_instance; ((intro w hw); exact toGrid_gives n X O bX.1 bO.1 w)) | (apply Jq_loadW; exact rfl; exact rfl; (exact mb); (omega)) | (apply JqM; exact rfl; exact rfl; exact rfl; infer_instance; (first | (apply eqGridS_gives l; (focus (repeat (exact m0))); (focus (repeat (first | exact m0 | refine mS ?_))); exact hl') | (apply heldGridS_gives 1 l.length; (focus (repeat (first | exact m0 | refine mS ?_))); decide; exact hl'))) | (apply JcM; exact rfl; exact rfl; exact rfl; infer_instance; (exact markGridS_gives 1 l.length (by decide) l1 hl')) | (apply Jq_ext20; exact rfl; exact rfl) | (apply Jq_ext21; exact rfl; exact rfl) | refine thenQ_normal ?_ | refine JC_seq ?_ | refine JC_region ?_ | refine J_nil ?_ | refine JC_skip ?_ | refine JC_ret ?_ | (apply JC_if_false; exact rfl) | (apply JC_ndec_false; exact rfl; omega))
    exact g1 rfl rfl rfl rfl
  · have e : [] = ([] : List GridB).flatMap encG := rfl
    have hm : [] = mkL (mkG 1) (0 * 17) := rfl
    have l0 : ([] : List Value).length = 0 * 17 := rfl
    repeat' (first | (apply Jq_move; exact rfl; exact rfl) | (apply Jq_assign; exact rfl; exact rfl) | (apply Jq_cmp; exact rfl; exact rfl; exact rfl; exact rfl) | (apply Jq_not; exact rfl; exact rfl) | (apply Jq_pick_false; exact rfl; exact rfl; exact rfl) | (apply J_on; exact rfl; exact rfl) | (apply Jc; exact rfl; exact rfl; exact rfl; infer_instance; ((intro w hw); exact toGrid_gives n X O bX.1 bO.1 w)) | (apply Jq_loadW; exact rfl; exact rfl; (exact mb); (omega)) | (apply JcRI; exact rfl; exact rfl; exact rfl; infer_instance; ((intro w hw); first | exact sNb_bad n X O bX bO g w | exact iNb_bad n X O bX bO g w); (intro _)) | (apply JqM; exact rfl; exact rfl; exact rfl; infer_instance; (first | (apply eqGridS_gives []; (focus (repeat (exact m0))); (focus (repeat (first | exact m0 | refine mS ?_))); decide) | (apply heldGridS_gives 1 0; (focus (repeat (first | exact m0 | refine mS ?_))); decide; decide))) | (apply JcM; exact rfl; exact rfl; exact rfl; infer_instance; (exact markGridS_gives 1 0 (by decide) l0 (by decide))) | (apply Jq_ext20; exact rfl; exact rfl) | (apply Jq_ext21; exact rfl; exact rfl) | (apply J_box; exact rfl; exact rfl; exact rfl; (intro _)) | refine thenQ_normal ?_ | refine JC_seq ?_ | refine JC_region ?_ | refine J_nil ?_ | refine JC_skip ?_ | refine JC_ret ?_ | (apply JC_if_false; exact rfl))
    exact g1 rfl rfl rfl rfl
end Go.Proofs.Ytflleelfkknfaaa
