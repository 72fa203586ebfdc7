/- Walks: all moves that fit, in order, and what they make: the reference's. -/
import Derived.Test.YtflleelfkknfaaaMI
import Derived.Test.YtflleelfkknfaaaIB
import Derived.Test.YtflleelfkknfaaaNI
namespace Go.Proofs.Ytflleelfkknfaaa
open Go Go.RowKit SL
open Classical in
/-- The places at which a grid can be destabilized. -/
noncomputable def plr (n : Nat) (X O : List Nat) (i k : Nat) : List (Nat × Nat) := (List.range k).flatMap fun r => if decide (fit3 n X O i r) = true then [(i, r)] else []
noncomputable def pl (n : Nat) (X O : List Nat) (k : Nat) : List (Nat × Nat) := (List.range k).flatMap fun i => plr n X O i (n - 1)
def encPl (p : Nat × Nat) : List Value := [.int .i64 (p.1 : Int), .int .i64 (p.2 : Int)]
theorem plr_len (n : Nat) (X O : List Nat) (i k : Nat) : (plr n X O i k).length ≤ k := by
  have := rangeF_len _ 1 (fun r => ite_len (@decide (fit3 n X O i r) (Classical.propDecidable _)) ((i, r) : Nat × Nat)) k
  unfold plr
  omega
theorem pl_len (n : Nat) (X O : List Nat) (k : Nat) : (pl n X O k).length ≤ k * (n - 1) := rangeF_len _ (n - 1) (fun i => plr_len n X O i (n - 1)) k
set_option maxRecDepth 100000 in
theorem placesS_gives {B : Nat} {w0 : World} {H : Hp} (n : Nat) (X O : List Nat) (bX : isB X) (bO : isB O) (g : okG (n : Int) X O) :
    GivesE Try.prog 67 #[.agg (gv n X O).toArray] B w0 H (ssV ((pl n X O (n - 1)).map encPl) H) := by
  have ug := gv_len (n := (n : Int)) bX.1 bO.1
  have hg := g.1
  have h8 : n ≤ 8 := by omega
  have lZ : Z8.length = 8 := rfl
  have uz := gv_len (n := 0) lZ lZ
  have um0 : (encMo 0 0 0 0 0 0).length = 6 := rfl
  have e1 : (n : Int) - 1 = ((n - 1 : Nat) : Int) := by omega
  refine givesE_of (args := [.agg (gv n X O).toArray]) [(0, .agg (gv n X O).toArray)] Try.func67 rfl Try.ntmps67 rfl (argsF_cons rfl argsF_nil) ?_
  repeat' (first | (apply Jq_assign; exact rfl; exact rfl) | (apply J_box; exact rfl; exact rfl; exact rfl; (intro _)) | (apply J_lit0; exact rfl; (intro _)) | refine thenQ_normal ?_ | refine JC_seq ?_ | refine JC_region ?_ | refine J_nil ?_ | refine JC_block ?_)
  rename_i b1 b9
  refine JC_loop (X := Nat × Value × List (Value × List Value)) (fun p => p.1 ≤ n - 1 ∧ p.2.2.map (·.2) = (pl n X O p.1).map encPl) (fun p => [(4, .int .i64 (p.1 : Int)), (3, p.2.1), (1, .pointer (some ⟨b1, 0, none⟩))])
    (fun p => .row p.2.1 94 1 (p.2.2.map (·.1)) :: (rwR p.2.2 ++ (.blk b1 (gv n X O) 27 :: H))) (fun p => n - 1 - p.1) (0, .slice (some ⟨b9, 0, none⟩) 0 0, []) ⟨Nat.zero_le _, rfl⟩ ?_ ?_
  · dsimp only [rwR, rwI, List.map_nil, List.reverse_nil, List.nil_append]
    (refine entP (ent ?_ (List.nil_sublist _)) ?_; (repeat refine fr_cons rfl ?_); exact fr_nil; (repeat (exact sp_refl)))
  · rintro ⟨i, v, L⟩ ⟨hi, hL⟩
    dsimp only at hi hL ⊢
    by_cases hlt : i < n - 1
    · repeat' (first | (apply Jq_subR; exact rfl; exact rfl; exact rfl; omega; exact e1) | (apply Jq_move; exact rfl; exact rfl) | (apply Jq_assign; exact rfl; exact rfl) | (apply Jq_load; exact rfl; exact rfl; (exact mb); (exact rfl)) | (apply Jq_fieldAddr; exact rfl; exact rfl) | (apply Jq_cmp; exact rfl; exact rfl; exact rfl; exact rfl) | refine thenQ_normal ?_ | refine JC_seq ?_ | refine JC_region ?_ | refine J_nil ?_ | refine JC_block ?_ | refine JC_skip ?_ | (apply JC_dec_true; exact rfl; omega))
      refine JC_loop (X := Nat × Value × List (Value × List Value)) (fun p => p.1 ≤ n - 1 ∧ p.2.2.map (·.2) = (pl n X O i ++ plr n X O i p.1).map encPl) (fun p => [(5, .int .i64 (p.1 : Int)), (4, .int .i64 (i : Int)), (3, p.2.1), (1, .pointer (some ⟨b1, 0, none⟩))])
        (fun p => .row p.2.1 94 1 (p.2.2.map (·.1)) :: (rwR p.2.2 ++ (.blk b1 (gv n X O) 27 :: H))) (fun p => n - 1 - p.1) (0, v, L) ⟨Nat.zero_le _, by rw [hL, show plr n X O i (0 : Nat) = [] from rfl, List.append_nil]⟩ ?_ ?_
      · (refine entP (ent ?_ (List.nil_sublist _)) ?_; (repeat refine fr_cons rfl ?_); exact fr_nil; (repeat (exact sp_refl)))
      · clear hL
        rintro ⟨r, v, L⟩ ⟨hr, hL⟩
        dsimp only at hr hL ⊢
        by_cases hlr : r < n - 1
        · have hLl : L.length ≤ 64 := by
            have h1 := congrArg List.length hL
            rw [List.length_map, List.length_map, List.length_append] at h1
            have h2 := pl_len n X O i
            have h3 := plr_len n X O i r
            have h4 : i * (n - 1) ≤ 7 * 7 := Nat.mul_le_mul (by omega) (by omega)
            omega
          have lm : (L.map (·.1)).length = L.length := List.length_map _
          have hsucc : plr n X O i r ++ (if @decide (fit3 n X O i r) (Classical.propDecidable _) = true then [(i, r)] else []) = plr n X O i (r + 1) := (rangeF_succ _ r).symm
          by_cases hd : dst X O i r
          · obtain ⟨m, d, u, hm, hd1, hu, hs⟩ := id hd
            have hbk := back_yes n X O i r m d u bX bO g (by omega) (by omega) hm hd1 hu hs
            rw [@decide_eq_true _ (Classical.propDecidable _) (show fit3 n X O i r from ⟨by omega, by omega, hd⟩), if_pos rfl] at hsucc
            have uE := gv_len (n := ((n - 1 : Nat) : Int)) (rmv_len (n := n) (i := i) (r := r) (d := d) (A := X)) (rmv_len (n := n) (i := i) (r := r) (d := d) (A := O))
            have uM : (encMo 2 i 0 m d u).length = 6 := rfl
            repeat' (first | (apply J_lit2; exact rfl; exact rfl; exact rfl; exact rfl; exact rfl; (intro _)) | (apply Jq_subR; exact rfl; exact rfl; exact rfl; omega; exact e1) | (apply Jq_move; exact rfl; exact rfl) | (apply Jq_assign; exact rfl; exact rfl) | (apply Jq_load; exact rfl; exact rfl; (exact mb); (exact rfl)) | (apply Jq_fieldAddr; exact rfl; exact rfl) | (apply Jq_cmp; exact rfl; exact rfl; exact rfl; exact rfl) | (apply Jq_add; exact rfl; exact rfl; exact rfl; omega) | (apply Jc; exact rfl; exact rfl; exact rfl; infer_instance; ((intro w hw); exact hbk w)) | (apply Jq_loadW; exact rfl; exact rfl; (exact mb); (omega)) | (apply J_sW; exact rfl; exact rfl; infer_instance; (exact rfl); (exact rfl); (exact ones_of rfl); infer_instance) | (apply J_lit1; exact rfl; exact rfl; exact rfl; (intro _)) | (apply J_ap; exact Nat.one_pos; exact rfl; exact rfl; exact rfl; infer_instance; (exact rb); exact List.cons_ne_nil _ _; exact ones_of rfl; ((show (_ + 1) * _ ≤ _); omega); decide; (exact rfl); (intro _)) | (apply Jq_extract; exact rfl; exact rfl; exact rfl) | (apply J_alloc (cs := gv 0 Z8 Z8); exact rfl; exact rfl; (intro _)) | (apply J_alloc (cs := encMo 0 0 0 0 0 0); exact rfl; exact rfl; (intro _)) | refine thenQ_normal ?_ | refine inBlockQ_normal ?_ | refine JC_seq ?_ | refine JC_region ?_ | refine J_nil ?_ | refine JC_block ?_ | refine JC_skip ?_ | (apply JC_if_true; exact rfl) | (apply JC_dec_true; exact rfl; omega))
            rename_i b6 b7 bp bs v'
            have eR : rwR (L ++ [(.slice (some ⟨bp, 0, none⟩) 2 2, encPl (i, r))]) = It.row (.slice (some ⟨bp, 0, none⟩) 2 2) 2 1 (encPl (i, r)) :: rwR L := rwR_snoc _ _
            have em : (L ++ [((.slice (some ⟨bp, 0, none⟩) 2 2 : Value), encPl (i, r))]).map (·.1) = L.map (·.1) ++ [.slice (some ⟨bp, 0, none⟩) 2 2] := by rw [List.map_append]; rfl
            refine ⟨(r + 1, v', L ++ [(.slice (some ⟨bp, 0, none⟩) 2 2, encPl (i, r))]), ⟨by dsimp only; omega, ?_⟩, by dsimp only; omega, ?_⟩
            · dsimp only
              rw [List.map_append, hL, ← hsucc, ← List.append_assoc]
              show List.map encPl (pl n X O i ++ plr n X O i r) ++ List.map encPl [(i, r)] = _
              rw [← List.map_append]
            · dsimp only
              rw [eR, em]
              (refine entP (ent ?_ (List.nil_sublist _)) ?_; (repeat refine fr_cons rfl ?_); exact fr_nil; (repeat (first | exact sp_end | (with_reducible apply sp4) | apply sp1)))
          · have hbk := back_no n X O i r bX bO g (by omega) (by omega) fun m d u hm hd1 hu hs => hd ⟨m, d, u, hm, hd1, hu, hs⟩
            rw [@decide_eq_false _ (Classical.propDecidable _) (fun h : fit3 n X O i r => hd h.2.2), if_neg (by decide), List.append_nil] at hsucc
            repeat' (first | (apply Jq_subR; exact rfl; exact rfl; exact rfl; omega; exact e1) | (apply Jq_move; exact rfl; exact rfl) | (apply Jq_assign; exact rfl; exact rfl) | (apply Jq_load; exact rfl; exact rfl; (exact mb); (exact rfl)) | (apply Jq_fieldAddr; exact rfl; exact rfl) | (apply Jq_cmp; exact rfl; exact rfl; exact rfl; exact rfl) | (apply Jq_add; exact rfl; exact rfl; exact rfl; omega) | (apply Jc; exact rfl; exact rfl; exact rfl; infer_instance; ((intro w hw); exact hbk w)) | (apply Jq_loadW; exact rfl; exact rfl; (exact mb); (omega)) | (apply J_sW; exact rfl; exact rfl; infer_instance; (exact rfl); (exact rfl); (exact ones_of rfl); infer_instance) | (apply Jq_extract; exact rfl; exact rfl; exact rfl) | (apply J_alloc (cs := gv 0 Z8 Z8); exact rfl; exact rfl; (intro _)) | (apply J_alloc (cs := encMo 0 0 0 0 0 0); exact rfl; exact rfl; (intro _)) | refine thenQ_normal ?_ | refine inBlockQ_normal ?_ | refine JC_seq ?_ | refine JC_region ?_ | refine J_nil ?_ | refine JC_block ?_ | refine JC_skip ?_ | (apply JC_if_false; exact rfl) | (apply JC_dec_true; exact rfl; omega))
            refine ⟨(r + 1, v, L), ⟨by dsimp only; omega, by dsimp only; rw [hL, hsucc]⟩, by dsimp only; omega, ?_⟩
            dsimp only
            (refine entP (ent ?_ (List.nil_sublist _)) ?_; (repeat refine fr_cons rfl ?_); exact fr_nil; (repeat (exact sp_end)))
        · have ern : r = n - 1 := by omega
          rw [ern] at hL
          repeat' (first | (apply Jq_subR; exact rfl; exact rfl; exact rfl; omega; exact e1) | (apply Jq_move; exact rfl; exact rfl) | (apply Jq_assign; exact rfl; exact rfl) | (apply Jq_load; exact rfl; exact rfl; (exact mb); (exact rfl)) | (apply Jq_fieldAddr; exact rfl; exact rfl) | (apply Jq_cmp; exact rfl; exact rfl; exact rfl; exact rfl) | (apply Jq_add; exact rfl; exact rfl; exact rfl; omega) | refine thenQ_normal ?_ | refine thenQ_exit ?_ | refine inBlockQ_normal ?_ | refine inBlockQ_here ?_ | refine JC_seq ?_ | refine JC_region ?_ | refine J_nil ?_ | refine JC_exit ?_ | (apply JC_dec_false; exact rfl; omega))
          refine ⟨(i + 1, v, L), ⟨by dsimp only; omega, by dsimp only; rw [hL, show pl n X O i ++ plr n X O i (n - 1) = pl n X O (i + 1) from (rangeF_succ _ i).symm]⟩, by dsimp only; omega, ?_⟩
          dsimp only
          (refine entP (ent ?_ (List.nil_sublist _)) ?_; (repeat refine fr_cons rfl ?_); exact fr_nil; (repeat (exact sp_refl)))
    · have ein : i = n - 1 := by omega
      rw [ein] at hL
      repeat' (first | (apply Jq_subR; exact rfl; exact rfl; exact rfl; omega; exact e1) | (apply Jq_move; exact rfl; exact rfl) | (apply Jq_assign; exact rfl; exact rfl) | (apply Jq_load; exact rfl; exact rfl; (exact mb); (exact rfl)) | (apply Jq_fieldAddr; exact rfl; exact rfl) | (apply Jq_cmp; exact rfl; exact rfl; exact rfl; exact rfl) | refine thenQ_normal ?_ | refine thenQ_exit ?_ | refine inBlockQ_here ?_ | refine JC_seq ?_ | refine JC_region ?_ | refine J_nil ?_ | refine JC_ret ?_ | refine JC_exit ?_ | (apply JC_dec_false; exact rfl; omega))
      refine SL.e1 (H' := .row v 94 1 (L.map (·.1)) :: (rwI L ++ H)) rfl rfl rfl (entP (ent (fun _ _ h => by cases h) (List.nil_sublist _)) (sp_rows (rwR_perm L) ?_)) ⟨L, hL, rfl⟩
      exact .cons _ (.refl _)
/-! What a move makes of a grid. -/
set_option maxRecDepth 100000 in
theorem apply0_gives (n : Nat) (X O : List Nat) (c : Nat) (bX : isB X) (bO : isB O) (h8 : n ≤ 8) (h : fit0 n X O c) (w : World) :
    Gives Try.prog 49 #[.agg (gv n X O).toArray, .agg (encMo 0 c 0 0 0 0).toArray] (.agg (gv n (swC X c) (swC O c)).toArray) w := by
  have ug := gv_len (n := (n : Int)) bX.1 bO.1
  have um : (encMo 0 c 0 0 0 0).length = 6 := rfl
  have hc := h.1
  have uE := gv_len (n := (n : Int)) (swC_len (X := X) (i := c) |>.trans bX.1) (swC_len (X := O) (i := c) |>.trans bO.1)
  refine gives_of (args := [.agg (gv n X O).toArray, .agg (encMo 0 c 0 0 0 0).toArray]) [(0, .agg (gv n X O).toArray), (1, .agg (encMo 0 c 0 0 0 0).toArray)] [] Try.func49 rfl Try.ntmps49 rfl (argsF_cons rfl (argsF_cons rfl argsF_nil)) (Holds.start w) ?_
  repeat' (first | (apply Jq_assign; exact rfl; exact rfl) | (apply Jq_load; exact rfl; exact rfl; (exact mb); (exact rfl)) | (apply Jq_fieldAddr; exact rfl; exact rfl) | (apply Jq_cmp; exact rfl; exact rfl; exact rfl; exact rfl) | (apply Jc; exact rfl; exact rfl; exact rfl; infer_instance; ((intro w hw); exact swCS_gives n X O c bX bO (by omega) w)) | (apply Jq_loadW; exact rfl; exact rfl; (exact mb); (omega)) | (apply J_sW; exact rfl; exact rfl; infer_instance; (exact rfl); (omega); (exact gv_one _ _ _); infer_instance) | (apply J_box; exact rfl; exact rfl; exact rfl; (intro _)) | (apply J_alloc (cs := gv 0 Z8 Z8); exact rfl; exact rfl; (intro _)) | refine thenQ_normal ?_ | refine thenQ_ret ?_ | refine inBlockQ_ret ?_ | refine JC_seq ?_ | refine JC_region ?_ | refine J_nil ?_ | refine JC_block ?_ | refine JC_ret ?_ | (apply JC_if_true; exact rfl))
  exact gC rfl rfl rfl mb uE rfl
set_option maxRecDepth 100000 in
theorem apply1_gives (n : Nat) (X O : List Nat) (r : Nat) (bX : isB X) (bO : isB O) (g : okG (n : Int) X O) (h : fit1 n X O r) (w : World) :
    Gives Try.prog 49 #[.agg (gv n X O).toArray, .agg (encMo 1 0 r 0 0 0).toArray] (.agg (gv n (swR n r X) (swR n r O)).toArray) w := by
  have ug := gv_len (n := (n : Int)) bX.1 bO.1
  have um : (encMo 1 0 r 0 0 0).length = 6 := rfl
  have uE := gv_len (n := (n : Int)) (swR_len (n := n) (r := r) (X := X)) (swR_len (n := n) (r := r) (X := O))
  refine gives_of (args := [.agg (gv n X O).toArray, .agg (encMo 1 0 r 0 0 0).toArray]) [(0, .agg (gv n X O).toArray), (1, .agg (encMo 1 0 r 0 0 0).toArray)] [] Try.func49 rfl Try.ntmps49 rfl (argsF_cons rfl (argsF_cons rfl argsF_nil)) (Holds.start w) ?_
  repeat' (first | (apply Jq_assign; exact rfl; exact rfl) | (apply Jq_load; exact rfl; exact rfl; (exact mb); (exact rfl)) | (apply Jq_fieldAddr; exact rfl; exact rfl) | (apply Jq_cmp; exact rfl; exact rfl; exact rfl; exact rfl) | (apply Jc; exact rfl; exact rfl; exact rfl; infer_instance; ((intro w hw); exact swRS_gives n X O r bX bO g h.1 w)) | (apply Jq_loadW; exact rfl; exact rfl; (exact mb); (omega)) | (apply J_sW; exact rfl; exact rfl; infer_instance; (exact rfl); (exact rfl); (exact ones_of rfl); infer_instance) | (apply J_box; exact rfl; exact rfl; exact rfl; (intro _)) | (apply J_alloc (cs := gv 0 Z8 Z8); exact rfl; exact rfl; (intro _)) | refine thenQ_normal ?_ | refine thenQ_ret ?_ | refine inBlockQ_ret ?_ | refine JC_seq ?_ | refine JC_region ?_ | refine J_nil ?_ | refine JC_block ?_ | refine JC_ret ?_ | (apply JC_if_true; exact rfl) | (apply JC_if_false; exact rfl))
  exact gC rfl rfl rfl mb uE rfl
set_option maxRecDepth 100000 in
theorem apply3_gives (n : Nat) (X O : List Nat) (i r m d u : Nat) (bX : isB X) (bO : isB O) (g : okG (n : Int) X O) (hi : i + 1 < n) (hr : r + 1 < n) (hm : m ≤ 1) (hd : d ≤ 1) (hu : u ≤ 1) (s : stbM X O i r m d u) (w : World) :
    Gives Try.prog 49 #[.agg (gv n X O).toArray, .agg (encMo 3 i r 0 0 0).toArray] (.agg (gv ((n - 1 : Nat) : Int) (rmv n i r d X) (rmv n i r d O)).toArray) w := by
  have ug := gv_len (n := (n : Int)) bX.1 bO.1
  have um : (encMo 3 i r 0 0 0).length = 6 := rfl
  have uw : (encMo 2 i 0 m d u).length = 6 := rfl
  have uw0 : (encMo 0 0 0 0 0 0).length = 6 := rfl
  have hsh := back_yes n X O i r m d u bX bO g hi hr hm hd hu s
  have uE := gv_len (n := ((n - 1 : Nat) : Int)) (rmv_len (n := n) (i := i) (r := r) (d := d) (A := X)) (rmv_len (n := n) (i := i) (r := r) (d := d) (A := O))
  refine gives_of (args := [.agg (gv n X O).toArray, .agg (encMo 3 i r 0 0 0).toArray]) [(0, .agg (gv n X O).toArray), (1, .agg (encMo 3 i r 0 0 0).toArray)] [] Try.func49 rfl Try.ntmps49 rfl (argsF_cons rfl (argsF_cons rfl argsF_nil)) (Holds.start w) ?_
  repeat' (first | (apply Jq_move; exact rfl; exact rfl) | (apply Jq_assign; exact rfl; exact rfl) | (apply Jq_load; exact rfl; exact rfl; (exact mb); (exact rfl)) | (apply Jq_fieldAddr; exact rfl; exact rfl) | (apply Jq_cmp; exact rfl; exact rfl; exact rfl; exact rfl) | (apply Jc; exact rfl; exact rfl; exact rfl; infer_instance; ((intro w hw); exact hsh w)) | (apply Jq_loadW; exact rfl; exact rfl; (exact mb); (first | exact rfl | omega)) | (apply J_sW; exact rfl; exact rfl; infer_instance; (exact rfl); (exact rfl); (exact ones_of rfl); infer_instance) | (apply Jq_extract; exact rfl; exact rfl; exact rfl) | (apply J_box; exact rfl; exact rfl; exact rfl; (intro _)) | (apply J_alloc (cs := gv 0 Z8 Z8); exact rfl; exact rfl; (intro _)) | (apply J_alloc (cs := encMo 0 0 0 0 0 0); exact rfl; exact rfl; (intro _)) | refine thenQ_normal ?_ | refine inBlockQ_normal ?_ | refine JC_seq ?_ | refine JC_region ?_ | refine J_nil ?_ | refine JC_block ?_ | refine JC_skip ?_ | refine JC_ret ?_ | (apply JC_if_false; exact rfl))
  exact gC rfl rfl rfl mb uE rfl
/-! The list of moves. -/
abbrev MvS := Nat × Nat × Nat × Nat
def encMs (m : MvS) : List Value := encMo m.1 m.2.1 m.2.2.1 (m.2.2.2 / 4) (m.2.2.2 / 2 % 2) (m.2.2.2 % 2)
def e4 (m : MvB) : MvS := (m.1, m.2.1, m.2.2, 0)
theorem encMs_len (m : MvS) : (encMs m).length = 6 := rfl
theorem encMs_one (m : MvS) : ∀ x ∈ encMs m, x.oneCell' = true := encMo_one _ _ _ _ _ _
theorem flatMs_len (l : List MvS) : (l.flatMap encMs).length = l.length * 6 := by
  induction l with
  | nil => rfl
  | cons x l ih => rw [List.flatMap_cons, List.length_append, encMs_len, ih, List.length_cons]; omega
theorem flatMs_snoc (l : List MvS) (m : MvS) : l.flatMap encMs ++ encMs m = (l ++ [m]).flatMap encMs := by simp
theorem encMs_e4 (m : MvB) : encMs (e4 m) = encMv m := by simp [encMs, e4, encMv]
/-- The moves that add columns. -/
def ml2 (n k : Nat) : List MvS := if n < 8 then (List.range k).flatMap fun i => (List.range 8).map fun q => (2, i, 0, q) else []
noncomputable def mvS (n : Nat) (X O : List Nat) : List MvS := (ml0 n X O (n - 1)).map e4 ++ (ml1 n X O (n - 1)).map e4 ++ ml2 n n ++ (pl n X O (n - 1)).map fun p => (3, p.1, p.2, 0)
theorem built_moveq (i q : Nat) : Try.prog.built 73 [(0, .int .i64 2), (1, .int .i64 (i : Int)), (3, .int .i64 ((q / 4 : Nat) : Int)), (4, .int .i64 ((q / 2 % 2 : Nat) : Int)), (5, .int .i64 ((q % 2 : Nat) : Int))] = some (encMs (2, i, 0, q)).toArray := by kernel_rfl
theorem ml2_len (n k : Nat) : (ml2 n k).length ≤ k * 8 := by
  unfold ml2
  split
  · exact rangeF_len _ 8 (fun i => by simp) k
  · simp
set_option maxRecDepth 100000 in
theorem movesS_gives (n : Nat) (X O : List Nat) (bX : isB X) (bO : isB O) (g : okG (n : Int) X O) (w : World) :
    GivesN Try.prog 48 #[.agg (gv n X O).toArray] (isRow 73 6 ((mvS n X O).flatMap encMs)) w := by
  have ug := gv_len (n := (n : Int)) bX.1 bO.1
  have hg := g.1
  have h8 : n ≤ 8 := by omega
  have l0 := ml0_len n X O
  have l1 := ml1_len n X O
  have l2 := ml2_len n
  have l3 := pl_len n X O (n - 1)
  have l3' : (n - 1) * (n - 1) ≤ 7 * 7 := Nat.mul_le_mul (by omega) (by omega)
  have e1 : (n : Int) - 1 = ((n - 1 : Nat) : Int) := by omega
  refine givesN_of (args := [.agg (gv n X O).toArray]) [(0, .agg (gv n X O).toArray)] [] Try.func48 rfl Try.ntmps48 rfl (argsF_cons rfl argsF_nil) (Holds.start w) ?_
  repeat' (first | (apply Jq_assign; exact rfl; exact rfl) | (apply J_box; exact rfl; exact rfl; exact rfl; (intro _)) | refine thenQ_normal ?_ | refine JC_seq ?_ | refine JC_region ?_ | refine J_nil ?_)
  rename_i b1
  refine JC_cutT (Y := Nat) (fun _ => True) (fun p => [(1, .pointer (some ⟨b1, 0, none⟩)), (3, .slice (some ⟨p, 0, none⟩) 0 0), (4, .int .i64 (n : Int))]) (fun p => [.row (.slice (some ⟨p, 0, none⟩) 0 0) 73 6 [], .blk b1 (gv n X O) 27]) ?_ ?_
  ·
    refine JC_any (m := 5) rfl [.blk b1 (gv n X O) 27] mixed (by ((repeat (apply sub_cons; (focus ((with_reducible (repeat (exact m0))); done)))); exact sub_nil)) ?_
    (apply JF_q 1; exact rfl; kernel_rfl; exact rfl; (intro E hE; (apply q_fieldAddr; exact rfl)))
    (apply JF_q 2; exact rfl; kernel_rfl; exact rfl; (intro E hE; (apply q_load; exact rfl; (refine hE _ ?_; exact mb); (exact rfl))))
    (apply JF_all [0]; kernel_rfl)
    (apply JFs_cons; exact rfl)
    · (apply J_lit0; decide; (intro b11))
      (apply J_nil; apply JF_end; ((repeat (apply sub_cons; (focus ((with_reducible (repeat (first | exact m0 | refine mS ?_))); done)))); exact sub_nil))
      (apply JF_q 3; exact rfl; kernel_rfl; exact rfl; (intro E hE; (apply q_assign; exact rfl)))
      (apply JF_q 4; exact rfl; kernel_rfl; exact rfl; (intro E hE; (apply q_assign; exact rfl)))
      (apply JF_done; kernel_rfl)
      (apply thenQ_normal; refine ⟨b11, trivial, ?_⟩; (refine entP (ent ?_ (List.nil_sublist _)) ?_; (repeat refine fr_cons rfl ?_); exact fr_nil; (repeat (exact sp_refl))))
    exact JFs_nil
  · intro b11 _
    repeat' (first | (apply Jq_assign; exact rfl; exact rfl) | refine thenQ_normal ?_ | refine JC_seq ?_ | refine JC_region ?_ | refine J_nil ?_ | refine JC_block ?_)
    refine JC_loop (X := Nat × Value) (fun p => p.1 ≤ n - 1) (fun p => [(5, .int .i64 (p.1 : Int)), (4, .int .i64 (n : Int)), (3, p.2), (1, .pointer (some ⟨b1, 0, none⟩))])
      (fun p => [.row p.2 73 6 (((ml0 n X O p.1).map e4).flatMap encMs), .blk b1 (gv n X O) 27]) (fun p => n - 1 - p.1) (0, .slice (some ⟨b11, 0, none⟩) 0 0) (Nat.zero_le _) ?_ ?_
    · (refine entP (ent ?_ (List.nil_sublist _)) ?_; (repeat refine fr_cons rfl ?_); exact fr_nil; (repeat (exact sp_refl)))
    · rintro ⟨k, v⟩ hk
      dsimp only at hk ⊢
      by_cases hlt : k < n - 1
      · have hfl := flatMs_len ((ml0 n X O k).map e4)
        rw [List.length_map] at hfl; have hl := l0 k
        have hsn : ((ml0 n X O k).map e4).flatMap encMs ++ encMo 0 k 0 0 0 0 = ((ml0 n X O k).map e4 ++ [e4 (0, k, 0)]).flatMap encMs := by have := flatMs_snoc ((ml0 n X O k).map e4) (e4 (0, k, 0)); rw [encMs_e4] at this; exact this
        have hs := rangeF_succ (fun i => if @decide (fit0 n X O i) (Classical.propDecidable _) = true then [((0, i, 0) : MvB)] else []) k
        have hs' : ml0 n X O (k + 1) = ml0 n X O k ++ (if @decide (fit0 n X O k) (Classical.propDecidable _) = true then [(0, k, 0)] else []) := hs
        repeat' (first | (apply Jq_subR; exact rfl; exact rfl; exact rfl; omega; exact e1) | (apply J_ap; decide; exact rfl; exact rfl; exact rfl; infer_instance; exact rb; exact (List.cons_ne_nil _ _ : encMo 0 k 0 0 0 0 ≠ []); exact encMo_one _ _ _ _ _ _; ((show (_ + 6) * _ ≤ _); omega); decide; exact hsn; (intro u)) | (apply Jq_move; exact rfl; exact rfl) | (apply Jq_assign; exact rfl; exact rfl) | (apply Jq_cmp; exact rfl; exact rfl; exact rfl; exact rfl) | (apply Jq_add; exact rfl; exact rfl; exact rfl; omega) | (apply Jc; exact rfl; exact rfl; exact rfl; infer_instance; ((intro w hw); exact colsS_gives n X O k bX bO (by omega) w)) | (apply Jq_loadW; exact rfl; exact rfl; (exact mb); (omega)) | (apply Jq_buildE; exact rfl; exact rfl; exact built_move0 k) | (apply J_lit1s; exact rfl; exact rfl; (exact rfl); decide; decide; (intro _)) | refine thenQ_normal ?_ | refine inBlockQ_normal ?_ | refine JC_seq ?_ | refine JC_region ?_ | refine J_nil ?_ | refine JC_block ?_ | refine JC_skip ?_ | (apply JC_dec_true; exact rfl; omega) | refine JC_dec rfl (fun _ => ?_) (fun _ => ?_))
        · rename_i hap _
          have hf : fit0 n X O k := ⟨by omega, hap⟩
          rw [@decide_eq_true _ (Classical.propDecidable _) hf, if_pos rfl] at hs'
          refine ⟨(k + 1, u), by dsimp only; omega, by dsimp only; omega, ?_⟩
          dsimp only
          rw [hs', List.map_append]
          (refine entP (ent ?_ (List.nil_sublist _)) ?_; (repeat refine fr_cons rfl ?_); exact fr_nil; (repeat (first | exact sp_end | apply sp1)))
        · rename_i hap
          rw [@decide_eq_false _ (Classical.propDecidable _) (fun hf : fit0 n X O k => hap hf.2), if_neg (by decide), List.append_nil] at hs'
          refine ⟨(k + 1, v), by dsimp only; omega, by dsimp only; omega, ?_⟩
          dsimp only
          rw [hs']
          (refine entP (ent ?_ (List.nil_sublist _)) ?_; (repeat refine fr_cons rfl ?_); exact fr_nil; (repeat (exact sp_refl)))
      · have ekn : k = n - 1 := by omega
        rw [ekn]
        clear hlt hk ekn k
        repeat' (first | (apply Jq_subR; exact rfl; exact rfl; exact rfl; omega; exact e1) | (apply Jq_move; exact rfl; exact rfl) | (apply Jq_assign; exact rfl; exact rfl) | (apply Jq_cmp; exact rfl; exact rfl; exact rfl; exact rfl) | refine thenQ_normal ?_ | refine thenQ_exit ?_ | refine inBlockQ_here ?_ | refine JC_seq ?_ | refine JC_region ?_ | refine J_nil ?_ | refine JC_block ?_ | refine JC_exit ?_ | (apply JC_dec_false; exact rfl; omega))
        refine JC_loop (X := Nat × Value) (fun p => p.1 ≤ n - 1) (fun p => [(6, .int .i64 (p.1 : Int)), (4, .int .i64 (n : Int)), (3, p.2), (1, .pointer (some ⟨b1, 0, none⟩))])
          (fun p => [.row p.2 73 6 (((ml0 n X O (n - 1)).map e4 ++ (ml1 n X O p.1).map e4).flatMap encMs), .blk b1 (gv n X O) 27]) (fun p => n - 1 - p.1) (0, v) (Nat.zero_le _) ?_ ?_
        · rw [show (ml1 n X O (0 : Nat)).map e4 = [] from rfl, List.append_nil]
          (refine entP (ent ?_ (List.nil_sublist _)) ?_; (repeat refine fr_cons rfl ?_); exact fr_nil; (repeat (exact sp_refl)))
        · clear v
          rintro ⟨k, v⟩ hk
          dsimp only at hk ⊢
          by_cases hlt : k < n - 1
          · have hfl := flatMs_len ((ml0 n X O (n - 1)).map e4 ++ (ml1 n X O k).map e4)
            rw [List.length_append, List.length_map, List.length_map] at hfl; have hl := l0 (n - 1); have hl1 := l1 k
            have hsn : ((ml0 n X O (n - 1)).map e4 ++ (ml1 n X O k).map e4).flatMap encMs ++ encMo 1 0 k 0 0 0 = ((ml0 n X O (n - 1)).map e4 ++ (ml1 n X O k).map e4 ++ [e4 (1, 0, k)]).flatMap encMs := by have := flatMs_snoc ((ml0 n X O (n - 1)).map e4 ++ (ml1 n X O k).map e4) (e4 (1, 0, k)); rw [encMs_e4] at this; exact this
            have hs := rangeF_succ (fun i => if @decide (fit1 n X O i) (Classical.propDecidable _) = true then [((1, 0, i) : MvB)] else []) k
            have hs' : ml1 n X O (k + 1) = ml1 n X O k ++ (if @decide (fit1 n X O k) (Classical.propDecidable _) = true then [(1, 0, k)] else []) := hs
            repeat' (first | (apply Jq_subR; exact rfl; exact rfl; exact rfl; omega; exact e1) | (apply J_ap; decide; exact rfl; exact rfl; exact rfl; infer_instance; exact rb; exact (List.cons_ne_nil _ _ : encMo 1 0 k 0 0 0 ≠ []); exact encMo_one _ _ _ _ _ _; ((show (_ + 6) * _ ≤ _); omega); decide; exact hsn; (intro u)) | (apply Jq_move; exact rfl; exact rfl) | (apply Jq_assign; exact rfl; exact rfl) | (apply Jq_cmp; exact rfl; exact rfl; exact rfl; exact rfl) | (apply Jq_add; exact rfl; exact rfl; exact rfl; omega) | (apply Jc; exact rfl; exact rfl; exact rfl; infer_instance; ((intro w hw); exact rowsS_gives n X O k bX bO h8 (by omega) w)) | (apply Jq_loadW; exact rfl; exact rfl; (exact mb); (omega)) | (apply Jq_buildE; exact rfl; exact rfl; exact built_move1 k) | (apply J_lit1s; exact rfl; exact rfl; (exact rfl); decide; decide; (intro _)) | refine thenQ_normal ?_ | refine inBlockQ_normal ?_ | refine JC_seq ?_ | refine JC_region ?_ | refine J_nil ?_ | refine JC_block ?_ | refine JC_skip ?_ | (apply JC_dec_true; exact rfl; omega) | refine JC_dec rfl (fun _ => ?_) (fun _ => ?_))
            · rename_i hap _
              have hf : fit1 n X O k := ⟨by omega, hap⟩
              rw [@decide_eq_true _ (Classical.propDecidable _) hf, if_pos rfl] at hs'
              refine ⟨(k + 1, u), by dsimp only; omega, by dsimp only; omega, ?_⟩
              dsimp only
              rw [hs', List.map_append, ← List.append_assoc]
              (refine entP (ent ?_ (List.nil_sublist _)) ?_; (repeat refine fr_cons rfl ?_); exact fr_nil; (repeat (first | exact sp_end | apply sp1)))
            · rename_i hap
              rw [@decide_eq_false _ (Classical.propDecidable _) (fun hf : fit1 n X O k => hap hf.2), if_neg (by decide), List.append_nil] at hs'
              refine ⟨(k + 1, v), by dsimp only; omega, by dsimp only; omega, ?_⟩
              dsimp only
              rw [hs']
              (refine entP (ent ?_ (List.nil_sublist _)) ?_; (repeat refine fr_cons rfl ?_); exact fr_nil; (repeat (exact sp_refl)))
          · have ekn : k = n - 1 := by omega
            rw [ekn]
            clear hlt hk ekn k
            repeat' (first | (apply Jq_subR; exact rfl; exact rfl; exact rfl; omega; exact e1) | (apply Jq_move; exact rfl; exact rfl) | (apply Jq_assign; exact rfl; exact rfl) | (apply Jq_cmp; exact rfl; exact rfl; exact rfl; exact rfl) | refine thenQ_normal ?_ | refine thenQ_exit ?_ | refine inBlockQ_here ?_ | refine JC_seq ?_ | refine JC_region ?_ | refine J_nil ?_ | refine JC_block ?_ | refine JC_exit ?_ | (apply JC_dec_false; exact rfl; omega))
            have L0 := l0 (n - 1)
            have L1 := l1 (n - 1)
            refine JC_loop (X := Nat × Value) (fun p => p.1 ≤ n) (fun p => [(7, .int .i64 (p.1 : Int)), (4, .int .i64 (n : Int)), (3, p.2), (1, .pointer (some ⟨b1, 0, none⟩))])
              (fun p => [.row p.2 73 6 (((ml0 n X O (n - 1)).map e4 ++ (ml1 n X O (n - 1)).map e4 ++ ml2 n p.1).flatMap encMs), .blk b1 (gv n X O) 27]) (fun p => n - p.1) (0, v) (Nat.zero_le _) ?_ ?_
            · rw [show ml2 n (0 : Nat) = [] by unfold ml2; split <;> rfl, List.append_nil]
              (refine entP (ent ?_ (List.nil_sublist _)) ?_; (repeat refine fr_cons rfl ?_); exact fr_nil; (repeat (exact sp_refl)))
            · clear v
              rintro ⟨i, v⟩ hi
              dsimp only at hi ⊢
              by_cases hlt : i < n ∧ n < 8
              · have hm2 : ml2 n (i + 1) = ml2 n i ++ (List.range 8).map fun q => (2, i, 0, q) := by
                  unfold ml2
                  rw [if_pos hlt.2, if_pos hlt.2, rangeF_succ]
                obtain ⟨hlt1, hlt2⟩ := hlt
                repeat' (first | (apply Jq_move; exact rfl; exact rfl) | (apply Jq_assign; exact rfl; exact rfl) | (apply Jq_cmp; exact rfl; exact rfl; exact rfl; exact rfl) | (apply Jq_pick_true; exact rfl; exact rfl; exact rfl) | (apply J_on; exact rfl; exact rfl) | refine thenQ_normal ?_ | refine JC_seq ?_ | refine JC_region ?_ | refine J_nil ?_ | refine JC_block ?_ | refine JC_skip ?_ | (apply JC_dec_true; exact rfl; omega) | (apply J_gdT; exact rfl; exact rfl; omega))
                refine JC_loop (X := Nat × Value) (fun p => p.1 ≤ 8) (fun p => [(8, .int .i64 (p.1 : Int)), (7, .int .i64 (i : Int)), (4, .int .i64 (n : Int)), (3, p.2), (1, .pointer (some ⟨b1, 0, none⟩))])
                  (fun p => [.row p.2 73 6 (((ml0 n X O (n - 1)).map e4 ++ (ml1 n X O (n - 1)).map e4 ++ ml2 n i ++ (List.range p.1).map (fun q => ((2, i, 0, q) : MvS))).flatMap encMs), .blk b1 (gv n X O) 27]) (fun p => 8 - p.1) (0, v) (Nat.zero_le _) ?_ ?_
                · rw [List.range_zero, List.map_nil, List.append_nil]
                  (refine entP (ent ?_ (List.nil_sublist _)) ?_; (repeat refine fr_cons rfl ?_); exact fr_nil; (repeat (exact sp_refl)))
                · clear v
                  rintro ⟨q, v⟩ hq
                  dsimp only at hq ⊢
                  by_cases hlq : q < 8
                  · have hfl := flatMs_len ((ml0 n X O (n - 1)).map e4 ++ (ml1 n X O (n - 1)).map e4 ++ ml2 n i ++ (List.range q).map (fun q => ((2, i, 0, q) : MvS)))
                    rw [List.length_append, List.length_append, List.length_append, List.length_map, List.length_map, List.length_map, List.length_range] at hfl
                    have L2 := l2 i
                    have d1 : (q : Int).tdiv 4 = ((q / 4 : Nat) : Int) := rfl
                    have d2 : (q : Int).tdiv 2 = ((q / 2 : Nat) : Int) := rfl
                    have d3 : ((q / 2 : Nat) : Int) % 2 = ((q / 2 % 2 : Nat) : Int) := rfl
                    have d4 : (q : Int) % 2 = ((q % 2 : Nat) : Int) := rfl
                    repeat' (first | (apply Jq_quoR (r := ((q / 4 : Nat) : Int)); exact rfl; exact rfl; exact rfl; decide; exact d1; omega) | (apply Jq_quoR (r := ((q / 2 : Nat) : Int)); exact rfl; exact rfl; exact rfl; decide; exact d2; omega) | (apply Jq_remR (r := ((q / 2 % 2 : Nat) : Int)); exact rfl; exact rfl; exact rfl; omega; omega; exact d3) | (apply Jq_remR (r := ((q % 2 : Nat) : Int)); exact rfl; exact rfl; exact rfl; omega; omega; exact d4) | (apply J_ap; decide; exact rfl; exact rfl; exact rfl; infer_instance; exact rb; exact (List.cons_ne_nil _ _ : encMs (2, i, 0, q) ≠ []); exact encMs_one (2, i, 0, q); ((show (_ + 6) * _ ≤ _); omega); decide; exact flatMs_snoc _ (2, i, 0, q); (intro u)) | (apply Jq_move; exact rfl; exact rfl) | (apply Jq_assign; exact rfl; exact rfl) | (apply Jq_cmp; exact rfl; exact rfl; exact rfl; exact rfl) | (apply Jq_add; exact rfl; exact rfl; exact rfl; omega) | (apply Jq_buildE; exact rfl; exact rfl; exact built_moveq i q) | (apply J_lit1s; exact rfl; exact rfl; (exact rfl); decide; decide; (intro _)) | refine thenQ_normal ?_ | refine inBlockQ_normal ?_ | refine JC_seq ?_ | refine JC_region ?_ | refine J_nil ?_ | refine JC_block ?_ | refine JC_skip ?_ | (apply JC_dec_true; exact rfl; omega))
                    refine ⟨(q + 1, u), by dsimp only; omega, by dsimp only; omega, ?_⟩
                    dsimp only
                    rw [List.range_succ, List.map_append, ← List.append_assoc]
                    simp only [List.map_cons, List.map_nil]
                    (refine entP (ent ?_ (List.nil_sublist _)) ?_; (repeat refine fr_cons rfl ?_); exact fr_nil; (repeat (exact sp_end)))
                  · have eq8 : q = 8 := by omega
                    rw [eq8, List.append_assoc ((ml0 n X O (n - 1)).map e4 ++ (ml1 n X O (n - 1)).map e4), ← hm2]
                    repeat' (first | (apply Jq_move; exact rfl; exact rfl) | (apply Jq_assign; exact rfl; exact rfl) | (apply Jq_cmp; exact rfl; exact rfl; exact rfl; exact rfl) | (apply Jq_add; exact rfl; exact rfl; exact rfl; omega) | refine thenQ_normal ?_ | refine thenQ_exit ?_ | refine inBlockQ_normal ?_ | refine inBlockQ_here ?_ | refine JC_seq ?_ | refine JC_region ?_ | refine J_nil ?_ | refine JC_exit ?_ | (apply JC_if_false; exact rfl))
                    refine ⟨(i + 1, v), by dsimp only; omega, by dsimp only; omega, ?_⟩
                    dsimp only
                    (refine entP (ent ?_ (List.nil_sublist _)) ?_; (repeat refine fr_cons rfl ?_); exact fr_nil; (repeat (exact sp_refl)))
              · have hm2 : ml2 n i = ml2 n n := by
                  unfold ml2
                  by_cases h : n < 8
                  · rw [if_pos h, if_pos h, show i = n by omega]
                  · rw [if_neg h, if_neg h]
                rw [hm2]
                repeat' (first | (apply JcE; exact rfl; exact rfl; exact rfl; infer_instance; (exact placesS_gives n X O bX bO g); (intro vp H' hV; obtain ⟨L, hL, rfl⟩ := hV)) | (apply Jq_move; exact rfl; exact rfl) | (apply Jq_assign; exact rfl; exact rfl) | (apply Jq_cmp; exact rfl; exact rfl; exact rfl; exact rfl) | (apply Jq_pick_true; exact rfl; exact rfl; exact rfl) | (apply Jq_pick_false; exact rfl; exact rfl; exact rfl) | (apply J_on; exact rfl; exact rfl) | (apply J_skip; exact rfl; exact rfl; exact rfl; exact rfl) | (apply Jq_loadW; exact rfl; exact rfl; (exact mb); (omega)) | refine thenQ_normal ?_ | refine thenQ_exit ?_ | refine inBlockQ_here ?_ | refine JC_seq ?_ | refine JC_region ?_ | refine J_nil ?_ | refine JC_block ?_ | refine JC_exit ?_ | (apply JC_if_false; exact rfl) | (apply JC_dec_false; exact rfl; omega) | refine J_gd rfl rfl (fun _ => ?_) (fun _ => ?_))
                all_goals
                  have hLl : L.length = (pl n X O (n - 1)).length := by
                    have := congrArg List.length hL
                    rwa [List.length_map, List.length_map] at this
                  have hlm : (L.map (·.1)).length = L.length := List.length_map _
                  have L2 := l2 n
                  refine JC_loop (X := Nat × Value) (fun p => p.1 ≤ L.length) (fun p => [(10, .int .i64 (p.1 : Int)), (9, vp), (3, p.2)])
                    (fun p => .row vp 94 1 (L.map (·.1)) :: (rwI L ++ [.row p.2 73 6 (((ml0 n X O (n - 1)).map e4 ++ (ml1 n X O (n - 1)).map e4 ++ ml2 n n ++ ((pl n X O (n - 1)).take p.1).map fun p => ((3, p.1, p.2, 0) : MvS)).flatMap encMs)])) (fun p => L.length - p.1) (0, v) (Nat.zero_le _) ?_ ?_
                  · rw [List.take_zero, List.map_nil, List.append_nil]
                    refine entP (ent ?_ (List.nil_sublist _)) (sp_rows (List.Perm.refl _) (.cons_cons _ (List.nil_sublist _)))
                    (repeat refine fr_cons rfl ?_); exact fr_nil
                  · clear v
                    rintro ⟨k, v⟩ hk
                    dsimp only at hk ⊢
                    by_cases hlk : k < L.length
                    · obtain ⟨⟨u, xs⟩, hu⟩ : ∃ q, L[k]? = some q := ⟨_, List.getElem?_eq_getElem hlk⟩
                      obtain ⟨p, hp⟩ : ∃ p, (pl n X O (n - 1))[k]? = some p := ⟨_, List.getElem?_eq_getElem (by omega)⟩
                      obtain rfl : xs = encPl p := by
                        have h1 : (L.map (·.2))[k]? = some xs := by rw [List.getElem?_map, hu]; rfl
                        rw [hL, List.getElem?_map, hp] at h1
                        exact (Option.some.inj h1).symm
                      have hmem : It.row u 2 1 (encPl p) ∈ rwI L := List.mem_map.2 ⟨(u, encPl p), List.mem_of_getElem? hu, rfl⟩
                      have hv1 : (L.map (·.1))[k]? = some u := by rw [List.getElem?_map, hu]; rfl
                      have htk : (pl n X O (n - 1)).take (k + 1) = (pl n X O (n - 1)).take k ++ [p] := by rw [List.take_add_one, hp]; rfl
                      have hfl := flatMs_len ((ml0 n X O (n - 1)).map e4 ++ (ml1 n X O (n - 1)).map e4 ++ ml2 n n ++ ((pl n X O (n - 1)).take k).map fun p => ((3, p.1, p.2, 0) : MvS))
                      rw [List.length_append, List.length_append, List.length_append, List.length_map, List.length_map, List.length_map, List.length_take] at hfl
                      have hsn : ((ml0 n X O (n - 1)).map e4 ++ (ml1 n X O (n - 1)).map e4 ++ ml2 n n ++ ((pl n X O (n - 1)).take k).map fun p => ((3, p.1, p.2, 0) : MvS)).flatMap encMs ++ encMo 3 p.1 p.2 0 0 0 = ((ml0 n X O (n - 1)).map e4 ++ (ml1 n X O (n - 1)).map e4 ++ ml2 n n ++ ((pl n X O (n - 1)).take (k + 1)).map fun p => ((3, p.1, p.2, 0) : MvS)).flatMap encMs := by
                        have := flatMs_snoc ((ml0 n X O (n - 1)).map e4 ++ (ml1 n X O (n - 1)).map e4 ++ ml2 n n ++ ((pl n X O (n - 1)).take k).map fun p => ((3, p.1, p.2, 0) : MvS)) (e4 (3, p.1, p.2))
                        rw [encMs_e4] at this
                        rw [htk, List.map_append, ← List.append_assoc]
                        exact this
                      have hm1 : It.row u 2 1 (encPl p) ∈ It.row vp 94 1 (L.map (·.1)) :: (rwI L ++ [.row v 73 6 (((ml0 n X O (n - 1)).map e4 ++ (ml1 n X O (n - 1)).map e4 ++ ml2 n n ++ ((pl n X O (n - 1)).take k).map fun p => ((3, p.1, p.2, 0) : MvS)).flatMap encMs)]) := mS (List.mem_append.2 (.inl hmem))
                      repeat' (first | (apply Jq_move; exact rfl; exact rfl) | (apply Jq_cmp; exact rfl; exact rfl; exact rfl; exact rfl) | (apply Jq_lenR; exact rfl; exact rfl; (exact rb)) | refine thenQ_normal ?_ | refine JC_seq ?_ | refine JC_region ?_ | refine J_nil ?_ | refine JC_block ?_ | refine JC_skip ?_ | (apply JC_dec_true; exact rfl; omega))
                      refine JC_any (m := 17) rfl [.row vp 94 1 (L.map (·.1)), .row u 2 1 (encPl p)] mixed (by ((repeat (apply sub_cons; ((focus ((with_reducible (repeat (first | exact m0 | assumption))); done))))); exact sub_nil)) ?_
                      (apply JF_q 0; exact rfl; kernel_rfl; exact rfl; (intro E hE; (apply q_move; exact rfl)))
                      (apply JF_q 1; exact rfl; kernel_rfl; exact rfl; (intro E hE; (apply q_move; exact rfl)))
                      (apply JF_q 2; exact rfl; kernel_rfl; exact rfl; (intro E hE; (apply q_move; exact rfl)))
                      (apply JF_q 3; exact rfl; kernel_rfl; exact rfl; (intro E hE; (apply q_indexRN (i := k); exact rfl; exact rfl; (refine hE _ ?_; exact m0); omega)))
                      (apply JF_q 4; exact rfl; kernel_rfl; exact rfl; (intro E hE; (apply q_loadR; exact rfl; (refine hE _ ?_; exact m0); exact hv1)))
                      (apply JF_q 5; exact rfl; kernel_rfl; exact rfl; (intro E hE; (apply q_indexRN (i := 0); exact rfl; exact rfl; (refine hE _ ?_; exact mS m0); (exact (show 0 < 2 by decide)))))
                      (apply JF_q 6; exact rfl; kernel_rfl; exact rfl; (intro E hE; (apply q_loadR; exact rfl; (refine hE _ ?_; exact mS m0); exact rfl)))
                      (apply JF_q 7; exact rfl; kernel_rfl; exact rfl; (intro E hE; (apply q_move; exact rfl)))
                      (apply JF_q 8; exact rfl; kernel_rfl; exact rfl; (intro E hE; (apply q_move; exact rfl)))
                      (apply JF_q 9; exact rfl; kernel_rfl; exact rfl; (intro E hE; (apply q_indexRN (i := k); exact rfl; exact rfl; (refine hE _ ?_; exact m0); omega)))
                      (apply JF_q 10; exact rfl; kernel_rfl; exact rfl; (intro E hE; (apply q_loadR; exact rfl; (refine hE _ ?_; exact m0); exact hv1)))
                      (apply JF_q 11; exact rfl; kernel_rfl; exact rfl; (intro E hE; (apply q_indexRN (i := 1); exact rfl; exact rfl; (refine hE _ ?_; exact mS m0); (exact (show 1 < 2 by decide)))))
                      (apply JF_q 12; exact rfl; kernel_rfl; exact rfl; (intro E hE; (apply q_loadR; exact rfl; (refine hE _ ?_; exact mS m0); exact rfl)))
                      (apply JF_q 13; exact rfl; kernel_rfl; exact rfl; (intro E hE; (apply q_buildE; exact rfl; exact built_move3 p.1 p.2)))
                      (apply JF_all [14]; kernel_rfl)
                      (apply JFs_cons; exact rfl)
                      · (apply J_lit1s; exact rfl; exact rfl; (exact rfl); decide; decide; (intro _))
                        (apply J_nil; apply JF_end; ((repeat (apply sub_cons; ((focus ((with_reducible (repeat (first | exact m0 | assumption | refine mS ?_))); done))))); exact sub_nil))
                        (apply JF_all [15]; kernel_rfl)
                        (apply JFs_cons; exact rfl)
                        · ((apply J_ap; decide; exact rfl; exact rfl; exact rfl; infer_instance; exact rb; exact (List.cons_ne_nil _ _ : encMo 3 p.1 p.2 0 0 0 ≠ []); exact encMo_one _ _ _ _ _ _; ((show (_ + 6) * _ ≤ _); omega); decide; exact hsn; (intro v')))
                          (apply J_nil; apply JF_end; ((repeat (apply sub_cons; (first | (focus ((with_reducible (repeat (first | exact m0 | refine mS ?_))); done)) | exact mS (mS (List.mem_append.2 (.inl hmem)))))); exact sub_nil))
                          (apply JF_q 16; exact rfl; kernel_rfl; exact rfl; (intro E hE; (apply q_assign; exact rfl)))
                          (apply JF_done; kernel_rfl)
                          ((repeat' (first | (apply Jq_move; exact rfl; exact rfl) | (apply Jq_assign; exact rfl; exact rfl) | (apply Jq_add; exact rfl; exact rfl; exact rfl; omega) | refine thenQ_normal ?_ | refine inBlockQ_normal ?_ | refine JC_region ?_ | refine J_nil ?_)); refine ⟨(k + 1, v'), by (dsimp only; omega), by (dsimp only; omega), ?_⟩; dsimp only; (refine entP (ent ?_ (List.nil_sublist _)) ?_; (repeat refine fr_cons rfl ?_); exact fr_nil; (repeat (exact sp_end))))
                        exact JFs_nil
                      exact JFs_nil
                    · have ekl : k = (pl n X O (n - 1)).length := by omega
                      rw [ekl, List.take_length]
                      repeat' (first | (apply Jq_move; exact rfl; exact rfl) | (apply Jq_assign; exact rfl; exact rfl) | (apply Jq_cmp; exact rfl; exact rfl; exact rfl; exact rfl) | (apply Jq_lenR; exact rfl; exact rfl; (exact rb)) | refine thenQ_normal ?_ | refine thenQ_exit ?_ | refine inBlockQ_here ?_ | refine JC_seq ?_ | refine JC_region ?_ | refine J_nil ?_ | refine JC_ret ?_ | refine JC_exit ?_ | (apply JC_dec_false; exact rfl; omega))
                      refine n1 rfl rfl rfl ?_ rfl
                      exact ent fr_nil (.cons _ (List.sublist_append_of_sublist_right (.refl _)))
end Go.Proofs.Ytflleelfkknfaaa
