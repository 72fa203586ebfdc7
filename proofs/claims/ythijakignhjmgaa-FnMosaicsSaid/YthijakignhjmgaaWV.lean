/- Walks: crossings and the writhe of a grid. -/
import Derived.Test.YthijakignhjmgaaPG
import Derived.Test.YthijakignhjmgaaWC
import Derived.Test.YthijakignhjmgaaST
import Derived.Test.YthijakignhjmgaaWP
namespace Go.Proofs.Ythijakignhjmgaa
open Go Go.RowKit SL
def sg4 (a b c d i r : Nat) : Int := (ind (a < r ∧ r < b) - ind (b < r ∧ r < a)) * (ind (c < i ∧ i < d) - ind (d < i ∧ i < c))
theorem sg4_no {a b c d i r : Nat} (h : ¬ (btw r a b ∧ btw i c d)) : sg4 a b c d i r = 0 := by
  unfold sg4 btw at *
  by_cases k : min a b < r ∧ r < max a b
  · rw [show ind (c < i ∧ i < d) = 0 from ind_no (by omega), show ind (d < i ∧ i < c) = 0 from ind_no (by omega)]; simp
  · rw [show ind (a < r ∧ r < b) = 0 from ind_no (by omega), show ind (b < r ∧ r < a) = 0 from ind_no (by omega)]; simp
theorem sg4_yes {a b c d i r : Nat} {q : Bool} (h : btw r a b) (k : btw i c d) (e : (decide ((a : Int) < b) == decide ((d : Int) < c)) = q) : sg4 a b c d i r = if q then -1 else 1 := by
  unfold sg4 btw at *
  subst e
  by_cases x : a < b <;> by_cases y : d < c
  · rw [show ind (a < r ∧ r < b) = 1 from ind_yes (by omega), show ind (b < r ∧ r < a) = 0 from ind_no (by omega), show ind (c < i ∧ i < d) = 0 from ind_no (by omega), show ind (d < i ∧ i < c) = 1 from ind_yes (by omega)]
    simp [show (a : Int) < b by omega, show (d : Int) < c by omega]
  · rw [show ind (a < r ∧ r < b) = 1 from ind_yes (by omega), show ind (b < r ∧ r < a) = 0 from ind_no (by omega), show ind (c < i ∧ i < d) = 1 from ind_yes (by omega), show ind (d < i ∧ i < c) = 0 from ind_no (by omega)]
    simp [show (a : Int) < b by omega, show ¬ (d : Int) < c by omega]
  · rw [show ind (a < r ∧ r < b) = 0 from ind_no (by omega), show ind (b < r ∧ r < a) = 1 from ind_yes (by omega), show ind (c < i ∧ i < d) = 0 from ind_no (by omega), show ind (d < i ∧ i < c) = 1 from ind_yes (by omega)]
    simp [show ¬ (a : Int) < b by omega, show (d : Int) < c by omega]
  · rw [show ind (a < r ∧ r < b) = 0 from ind_no (by omega), show ind (b < r ∧ r < a) = 1 from ind_yes (by omega), show ind (c < i ∧ i < d) = 1 from ind_yes (by omega), show ind (d < i ∧ i < c) = 0 from ind_no (by omega)]
    simp [show ¬ (a : Int) < b by omega, show ¬ (d : Int) < c by omega]
def sgN (n : Nat) (X O : List Nat) (i r : Nat) : Int := sg4 (X.getD i 0) (O.getD i 0) (posF X n r) (posF O n r) i r
def crR (n : Nat) (X O : List Nat) (i : Nat) : Nat → List (Nat × Nat × Int)
  | 0 => []
  | r + 1 => if sgN n X O i r = 0 then crR n X O i r else crR n X O i r ++ [(i, r, sgN n X O i r)]
def crA (n : Nat) (X O : List Nat) : Nat → List (Nat × Nat × Int)
  | 0 => []
  | i + 1 => crA n X O i ++ crR n X O i n
theorem crR_len (n : Nat) (X O : List Nat) (i : Nat) : ∀ r, (crR n X O i r).length ≤ r
  | 0 => Nat.le_refl _
  | r + 1 => by
    have := crR_len n X O i r
    rw [crR]
    split
    · omega
    · simp; omega
theorem crA_len (n : Nat) (X O : List Nat) : ∀ i, (crA n X O i).length ≤ n * i
  | 0 => Nat.le_refl _
  | i + 1 => by
    have := crA_len n X O i
    have := crR_len n X O i n
    rw [crA, List.length_append, Nat.mul_add]
    omega
def crc (L : List (Nat × Nat × Int)) : List Value := L.flatMap fun p => [.int .i64 (p.1 : Int), .int .i64 (p.2.1 : Int), .int .i64 p.2.2]
theorem crc_len : ∀ L, (crc L).length = L.length * 3
  | [] => rfl
  | p :: L => by
    have := crc_len L
    unfold crc at this ⊢
    simp [List.flatMap_cons] at this ⊢
    omega
theorem crc_snoc {L : List (Nat × Nat × Int)} {a b : Nat} {c : Int} : crc L ++ [.int .i64 (a : Int), .int .i64 (b : Int), .int .i64 c] = crc (L ++ [(a, b, c)]) := by simp [crc]
theorem built_crossing (a b c : Int) : Try.prog.built 184 [(0, .int .i64 a), (1, .int .i64 b), (2, .int .i64 c)] = some [.int .i64 a, .int .i64 b, .int .i64 c].toArray := by kernel_rfl
set_option maxRecDepth 100000 in
theorem crossings_gives (n : Nat) (X O : List Nat) (bX : isB X) (bO : isB O) (g : okG (n : Int) X O) (w : World) :
    GivesN Try.prog 79 #[.agg (gv n X O).toArray] (isRow 184 3 (crc (crA n X O n))) w := by
  obtain ⟨⟨h2, h8⟩, pX, pO, hne⟩ := g
  simp only [Int.toNat_natCast] at pX pO hne
  have h64 := nn_le (n := n) (by omega)
  have ug := gv_len (n := n) bX.1 bO.1
  have lX := plc_len X n
  have lO := plc_len O n
  have uX := i64s_len (plc X n)
  have uO := i64s_len (plc O n)
  have vX := u8s_len X
  have vO := u8s_len O
  have kX := bX.1
  have kO := bO.1
  refine givesN_of (args := [.agg (gv n X O).toArray]) [(0, .agg (gv n X O).toArray)] [] Try.func79 rfl Try.ntmps79 rfl (argsF_cons rfl argsF_nil) (Holds.start w) ?_
  repeat' (first | (apply Jq_move; exact rfl; exact rfl) | (apply Jq_assign; exact rfl; exact rfl) | (apply Jq_load; exact rfl; exact rfl; (exact mb); (first | exact rfl)) | (apply Jq_fieldAddr; exact rfl; exact rfl) | (apply Jq_indexN; exact rfl; exact rfl; exact rfl; omega) | (apply Jq_index; exact rfl; exact rfl; exact rfl; omega; omega) | (apply Jq_indexSN; exact rfl; exact rfl; exact rfl; omega) | (apply Jq_cmp; exact rfl; exact rfl; exact rfl; exact rfl) | (apply Jq_add; exact rfl; exact rfl; exact rfl; omega) | (apply Jq_not; exact rfl; exact rfl) | (apply Jq_pick_true; exact rfl; exact rfl; exact rfl) | (apply Jq_pick_false; exact rfl; exact rfl; exact rfl) | (apply J_on; exact rfl; exact rfl) | (apply J_skip; exact rfl; exact rfl; exact rfl; exact rfl) | (apply Jq_loadW; exact rfl; exact rfl; (exact mb); (first | exact rfl | omega)) | (apply Jq_loadA; exact rfl; exact rfl; (exact mb); (first | exact rfl); (first | exact rfl | omega)) | (apply J_s1; exact rfl; exact rfl; exact rfl; infer_instance; (first | exact rfl | omega); (first | exact rfl); infer_instance) | (apply J_sW; exact rfl; exact rfl; infer_instance; (first | exact rfl | omega); (first | exact rfl | omega); (first | exact ones_of rfl | exact u8s_one _ | exact i64s_one _ | exact bls_one _ | exact gv_one _ _ _ | exact dv_one _ _ _ _ _ _); infer_instance) | (apply J_sR; exact rfl; exact rfl; exact rfl; infer_instance; (first | exact rfl | omega); (first | exact i64s_setR)) | (apply J_lit1; exact rfl; exact rfl; exact rfl; (intro _)) | (apply J_ap; exact Nat.one_pos; exact rfl; exact rfl; exact rfl; infer_instance; (first | exact rb | assumption); exact List.cons_ne_nil _ _; exact ones_of rfl; ((show (_ + 1) * _ ≤ _); omega); decide; (first | exact i64s_snoc | exact u8s_snoc | exact rfl); (intro _)) | (apply Jq_indexRN; exact rfl; exact rfl; exact rfl; (first | exact rb | assumption); omega) | (apply Jq_loadR; exact rfl; exact rfl; (first | exact rb | assumption); (first | exact rfl)) | (apply J_box; exact rfl; exact rfl; exact rfl; (intro _)) | (apply J_alloc (cs := gv 0 Z8 Z8); exact rfl; exact rfl; (intro _)) | (apply J_alloc (cs := dv 0 Z8 Z8 0 Z8 Z8); exact rfl; exact rfl; (intro _)) | (apply J_alloc (cs := u8s Z8); exact rfl; exact rfl; (intro _)) | (apply J_alloc (cs := i64s Z8); exact rfl; exact rfl; (intro _)) | (apply J_alloc (cs := bls F8); exact rfl; exact rfl; (intro _)) | (apply J_alloc; exact rfl; exact rfl; (intro _)) | (apply J_lit0; exact rfl; (intro _)) | refine thenQ_normal ?_ | refine thenQ_exit ?_ | refine thenQ_ret ?_ | refine inBlockQ_normal ?_ | refine inBlockQ_ret ?_ | refine inBlockQ_here ?_ | (apply inBlockQ_on; exact rfl) | refine JC_seq ?_ | refine JC_region ?_ | refine J_nil ?_ | refine JC_block ?_ | refine JC_skip ?_ | refine JC_ret ?_ | refine JC_exit ?_ | (apply JC_if_true; exact rfl) | (apply JC_if_false; exact rfl) | (apply JC_dec_true; exact rfl; omega) | (apply JC_dec_false; exact rfl; omega) | (apply JC_ndec_true; exact rfl; omega) | (apply JC_ndec_false; exact rfl; omega) | (apply J_gdT; exact rfl; exact rfl; omega) | (apply J_gdF; exact rfl; exact rfl; omega) | (apply J_gnT; exact rfl; exact rfl; omega) | (apply J_gnF; exact rfl; exact rfl; omega) | refine JC_dec rfl (fun _ => ?_) (fun _ => ?_) | refine JC_ndec rfl (fun _ => ?_) (fun _ => ?_) | refine JC_if rfl (fun _ => ?_) (fun _ => ?_) | refine J_gd rfl rfl (fun _ => ?_) (fun _ => ?_) | refine J_gn rfl rfl (fun _ => ?_) (fun _ => ?_) | refine J_gb rfl rfl (fun _ => ?_) (fun _ => ?_))
  rename_i b1
  refine JC_cutT (Y := Nat × Nat × Nat) (fun _ => True) (fun p => [(1, .pointer (some ⟨b1, 0, none⟩)), (3, .pointer (some ⟨p.1, 0, none⟩)), (4, .pointer (some ⟨p.2.1, 0, none⟩)), (5, .slice (some ⟨p.2.2, 0, none⟩) 0 0)])
    (fun p => [.row (.slice (some ⟨p.2.2, 0, none⟩) 0 0) 184 3 [], .blk p.1 (i64s (plc X n)) 143, .blk p.2.1 (i64s (plc O n)) 143, .blk b1 (gv n X O) 27]) ?_ ?_
  ·
    refine JC_any (m := 14) rfl _ mixed (fun _ h => h) ?_
    (apply JF_q 0; exact rfl; kernel_rfl; exact rfl; (intro E hE; (first | (apply q_load; exact rfl; (refine hE _ ?_; exact mb); (first | exact rfl | exact gv_arrX bX.1 | exact gv_arrO bX.1 bO.1)) | (apply q_loadW; exact rfl; (refine hE _ ?_; exact mb); (first | exact rfl | omega)) | (apply q_loadA; exact rfl; (refine hE _ ?_; exact mb); (first | exact gv_arrX bX.1 | exact gv_arrO bX.1 bO.1 | exact rfl); (first | exact rfl | omega)) | (apply q_loadR; exact rfl; (refine hE _ ?_; exact rb); (first | exact rfl | exact gv_arrX bX.1 | exact gv_arrO bX.1 bO.1)))))
    (apply JF_q 1; exact rfl; kernel_rfl; exact rfl; (intro E hE; (first | (apply q_fieldAddr; exact rfl))))
    (apply JF_q 2; exact rfl; kernel_rfl; exact rfl; (intro E hE; (first | (apply q_load; exact rfl; (refine hE _ ?_; exact mb); (first | exact rfl | exact gv_arrX bX.1 | exact gv_arrO bX.1 bO.1)) | (apply q_loadW; exact rfl; (refine hE _ ?_; exact mb); (first | exact rfl | omega)) | (apply q_loadA; exact rfl; (refine hE _ ?_; exact mb); (first | exact gv_arrX bX.1 | exact gv_arrO bX.1 bO.1 | exact rfl); (first | exact rfl | omega)) | (apply q_loadR; exact rfl; (refine hE _ ?_; exact rb); (first | exact rfl | exact gv_arrX bX.1 | exact gv_arrO bX.1 bO.1)))))
    (apply JF_q 3; exact rfl; kernel_rfl; exact rfl; (intro E hE; (first | (apply q_callE; exact rfl; exact rfl; infer_instance; ((intro w hw); first | exact places_gives n X O X (by omega) bX.1 bO.1 bX.1 (fun i hi => by have := pX.1 i hi; omega) w | exact places_gives n X O O (by omega) bX.1 bO.1 bO.1 (fun i hi => by have := pO.1 i hi; omega) w)))))
    (apply JF_q 4; exact rfl; kernel_rfl; exact rfl; (intro E hE; (first | (apply q_load; exact rfl; (refine hE _ ?_; exact mb); (first | exact rfl | exact gv_arrX bX.1 | exact gv_arrO bX.1 bO.1)) | (apply q_loadW; exact rfl; (refine hE _ ?_; exact mb); (first | exact rfl | omega)) | (apply q_loadA; exact rfl; (refine hE _ ?_; exact mb); (first | exact gv_arrX bX.1 | exact gv_arrO bX.1 bO.1 | exact rfl); (first | exact rfl | omega)) | (apply q_loadR; exact rfl; (refine hE _ ?_; exact rb); (first | exact rfl | exact gv_arrX bX.1 | exact gv_arrO bX.1 bO.1)))))
    (apply JF_q 5; exact rfl; kernel_rfl; exact rfl; (intro E hE; (first | (apply q_fieldAddr; exact rfl))))
    (apply JF_q 6; exact rfl; kernel_rfl; exact rfl; (intro E hE; (first | (apply q_load; exact rfl; (refine hE _ ?_; exact mb); (first | exact rfl | exact gv_arrX bX.1 | exact gv_arrO bX.1 bO.1)) | (apply q_loadW; exact rfl; (refine hE _ ?_; exact mb); (first | exact rfl | omega)) | (apply q_loadA; exact rfl; (refine hE _ ?_; exact mb); (first | exact gv_arrX bX.1 | exact gv_arrO bX.1 bO.1 | exact rfl); (first | exact rfl | omega)) | (apply q_loadR; exact rfl; (refine hE _ ?_; exact rb); (first | exact rfl | exact gv_arrX bX.1 | exact gv_arrO bX.1 bO.1)))))
    (apply JF_q 7; exact rfl; kernel_rfl; exact rfl; (intro E hE; (first | (apply q_callE; exact rfl; exact rfl; infer_instance; ((intro w hw); first | exact places_gives n X O X (by omega) bX.1 bO.1 bX.1 (fun i hi => by have := pX.1 i hi; omega) w | exact places_gives n X O O (by omega) bX.1 bO.1 bO.1 (fun i hi => by have := pO.1 i hi; omega) w)))))
    (apply JF_all [8, 9, 10]; kernel_rfl)
    (apply JFs_cons; exact rfl)
    · (first | (apply J_lit0; exact rfl; (intro _)))
      (apply J_nil; apply JF_end; ((repeat (apply sub_cons; (focus ((with_reducible (repeat (first | exact m0 | assumption | refine mS ?_))); done)))); exact sub_nil))
      (apply JF_all [9, 10]; kernel_rfl)
      (apply JFs_cons; exact rfl)
      · (first | (apply J_alloc (cs := gv 0 Z8 Z8); exact rfl; exact rfl; (intro _)) | (apply J_alloc (cs := dv 0 Z8 Z8 0 Z8 Z8); exact rfl; exact rfl; (intro _)) | (apply J_alloc (cs := u8s Z8); exact rfl; exact rfl; (intro _)) | (apply J_alloc (cs := i64s Z8); exact rfl; exact rfl; (intro _)) | (apply J_alloc (cs := bls F8); exact rfl; exact rfl; (intro _)) | (apply J_alloc; exact rfl; exact rfl; (intro _)))
        (apply J_nil; apply JF_end; ((repeat (apply sub_cons; (focus ((with_reducible (repeat (first | exact m0 | assumption | refine mS ?_))); done)))); exact sub_nil))
        (apply JF_all [10]; kernel_rfl)
        (apply JFs_cons; exact rfl)
        · (first | (apply J_alloc (cs := gv 0 Z8 Z8); exact rfl; exact rfl; (intro _)) | (apply J_alloc (cs := dv 0 Z8 Z8 0 Z8 Z8); exact rfl; exact rfl; (intro _)) | (apply J_alloc (cs := u8s Z8); exact rfl; exact rfl; (intro _)) | (apply J_alloc (cs := i64s Z8); exact rfl; exact rfl; (intro _)) | (apply J_alloc (cs := bls F8); exact rfl; exact rfl; (intro _)) | (apply J_alloc; exact rfl; exact rfl; (intro _)))
          (apply J_nil; apply JF_end; ((repeat (apply sub_cons; (focus ((with_reducible (repeat (first | exact m0 | assumption | refine mS ?_))); done)))); exact sub_nil))
          (apply JF_all [11]; kernel_rfl)
          (apply JFs_cons; exact rfl)
          · (first | (apply J_s1; exact rfl; exact rfl; exact rfl; infer_instance; (first | exact rfl | omega); (first | exact rfl); infer_instance) | (apply J_sW; exact rfl; exact rfl; infer_instance; (first | exact rfl | omega); (first | exact rfl | omega); (first | exact ones_of rfl | exact u8s_one _ | exact i64s_one _ | exact bls_one _ | exact gv_one _ _ _ | exact dv_one _ _ _ _ _ _); infer_instance) | (apply J_sR; exact rfl; exact rfl; exact rfl; infer_instance; (first | exact rfl | omega); (first | exact i64s_setR)))
            (apply J_nil; apply JF_end; ((repeat (apply sub_cons; (focus ((with_reducible (repeat (first | exact m0 | assumption | refine mS ?_))); done)))); exact sub_nil))
            (apply JF_all [12]; kernel_rfl)
            (apply JFs_cons; exact rfl)
            · (first | (apply J_s1; exact rfl; exact rfl; exact rfl; infer_instance; (first | exact rfl | omega); (first | exact rfl); infer_instance) | (apply J_sW; exact rfl; exact rfl; infer_instance; (first | exact rfl | omega); (first | exact rfl | omega); (first | exact ones_of rfl | exact u8s_one _ | exact i64s_one _ | exact bls_one _ | exact gv_one _ _ _ | exact dv_one _ _ _ _ _ _); infer_instance) | (apply J_sR; exact rfl; exact rfl; exact rfl; infer_instance; (first | exact rfl | omega); (first | exact i64s_setR)))
              (apply J_nil; apply JF_end; ((repeat (apply sub_cons; (focus ((with_reducible (repeat (first | exact m0 | assumption | refine mS ?_))); done)))); exact sub_nil))
              (apply JF_q 13; exact rfl; kernel_rfl; exact rfl; (intro E hE; (first | (apply q_assign; exact rfl))))
              (apply JF_done; kernel_rfl)
              (apply thenQ_normal; apply ex3; refine ⟨trivial, ?_⟩; (refine entP (ent ?_ (List.nil_sublist _)) ?_; (repeat refine fr_cons rfl ?_); exact fr_nil; (repeat (first | exact sp_nil | exact sp_refl | exact sp_end | (with_reducible apply sp0) | (with_reducible apply sp1) | (with_reducible apply sp2) | (with_reducible apply sp3) | (with_reducible apply sp4) | (with_reducible apply sp5) | (with_reducible apply sp6) | (with_reducible apply sp7) | apply sp0 | apply sp1 | apply sp2 | apply sp3 | apply sp4 | apply sp5))))
            exact JFs_nil
          exact JFs_nil
        exact JFs_nil
      (apply JFs_cons; exact rfl)
      · (first | (apply J_alloc (cs := gv 0 Z8 Z8); exact rfl; exact rfl; (intro _)) | (apply J_alloc (cs := dv 0 Z8 Z8 0 Z8 Z8); exact rfl; exact rfl; (intro _)) | (apply J_alloc (cs := u8s Z8); exact rfl; exact rfl; (intro _)) | (apply J_alloc (cs := i64s Z8); exact rfl; exact rfl; (intro _)) | (apply J_alloc (cs := bls F8); exact rfl; exact rfl; (intro _)) | (apply J_alloc; exact rfl; exact rfl; (intro _)))
        (apply J_nil; apply JF_end; ((repeat (apply sub_cons; (focus ((with_reducible (repeat (first | exact m0 | assumption | refine mS ?_))); done)))); exact sub_nil))
        (apply JF_all [9]; kernel_rfl)
        (apply JFs_cons; exact rfl)
        · (first | (apply J_alloc (cs := gv 0 Z8 Z8); exact rfl; exact rfl; (intro _)) | (apply J_alloc (cs := dv 0 Z8 Z8 0 Z8 Z8); exact rfl; exact rfl; (intro _)) | (apply J_alloc (cs := u8s Z8); exact rfl; exact rfl; (intro _)) | (apply J_alloc (cs := i64s Z8); exact rfl; exact rfl; (intro _)) | (apply J_alloc (cs := bls F8); exact rfl; exact rfl; (intro _)) | (apply J_alloc; exact rfl; exact rfl; (intro _)))
          (apply J_nil; apply JF_end; ((repeat (apply sub_cons; (focus ((with_reducible (repeat (first | exact m0 | assumption | refine mS ?_))); done)))); exact sub_nil))
          (apply JF_all [11]; kernel_rfl)
          (apply JFs_cons; exact rfl)
          · (first | (apply J_s1; exact rfl; exact rfl; exact rfl; infer_instance; (first | exact rfl | omega); (first | exact rfl); infer_instance) | (apply J_sW; exact rfl; exact rfl; infer_instance; (first | exact rfl | omega); (first | exact rfl | omega); (first | exact ones_of rfl | exact u8s_one _ | exact i64s_one _ | exact bls_one _ | exact gv_one _ _ _ | exact dv_one _ _ _ _ _ _); infer_instance) | (apply J_sR; exact rfl; exact rfl; exact rfl; infer_instance; (first | exact rfl | omega); (first | exact i64s_setR)))
            (apply J_nil; apply JF_end; ((repeat (apply sub_cons; (focus ((with_reducible (repeat (first | exact m0 | assumption | refine mS ?_))); done)))); exact sub_nil))
            (apply JF_all [12]; kernel_rfl)
            (apply JFs_cons; exact rfl)
            · (first | (apply J_s1; exact rfl; exact rfl; exact rfl; infer_instance; (first | exact rfl | omega); (first | exact rfl); infer_instance) | (apply J_sW; exact rfl; exact rfl; infer_instance; (first | exact rfl | omega); (first | exact rfl | omega); (first | exact ones_of rfl | exact u8s_one _ | exact i64s_one _ | exact bls_one _ | exact gv_one _ _ _ | exact dv_one _ _ _ _ _ _); infer_instance) | (apply J_sR; exact rfl; exact rfl; exact rfl; infer_instance; (first | exact rfl | omega); (first | exact i64s_setR)))
              (apply J_nil; apply JF_end; ((repeat (apply sub_cons; (focus ((with_reducible (repeat (first | exact m0 | assumption | refine mS ?_))); done)))); exact sub_nil))
              (apply JF_q 13; exact rfl; kernel_rfl; exact rfl; (intro E hE; (first | (apply q_assign; exact rfl))))
              (apply JF_done; kernel_rfl)
              (apply thenQ_normal; apply ex3; refine ⟨trivial, ?_⟩; (refine entP (ent ?_ (List.nil_sublist _)) ?_; (repeat refine fr_cons rfl ?_); exact fr_nil; (repeat (first | exact sp_nil | exact sp_refl | exact sp_end | (with_reducible apply sp0) | (with_reducible apply sp1) | (with_reducible apply sp2) | (with_reducible apply sp3) | (with_reducible apply sp4) | (with_reducible apply sp5) | (with_reducible apply sp6) | (with_reducible apply sp7) | apply sp0 | apply sp1 | apply sp2 | apply sp3 | apply sp4 | apply sp5))))
            exact JFs_nil
          exact JFs_nil
        exact JFs_nil
      exact JFs_nil
    (apply JFs_cons; exact rfl)
    · (first | (apply J_alloc (cs := gv 0 Z8 Z8); exact rfl; exact rfl; (intro _)) | (apply J_alloc (cs := dv 0 Z8 Z8 0 Z8 Z8); exact rfl; exact rfl; (intro _)) | (apply J_alloc (cs := u8s Z8); exact rfl; exact rfl; (intro _)) | (apply J_alloc (cs := i64s Z8); exact rfl; exact rfl; (intro _)) | (apply J_alloc (cs := bls F8); exact rfl; exact rfl; (intro _)) | (apply J_alloc; exact rfl; exact rfl; (intro _)))
      (apply J_nil; apply JF_end; ((repeat (apply sub_cons; (focus ((with_reducible (repeat (first | exact m0 | assumption | refine mS ?_))); done)))); exact sub_nil))
      (apply JF_all [8, 10]; kernel_rfl)
      (apply JFs_cons; exact rfl)
      · (first | (apply J_lit0; exact rfl; (intro _)))
        (apply J_nil; apply JF_end; ((repeat (apply sub_cons; (focus ((with_reducible (repeat (first | exact m0 | assumption | refine mS ?_))); done)))); exact sub_nil))
        (apply JF_all [10]; kernel_rfl)
        (apply JFs_cons; exact rfl)
        · (first | (apply J_alloc (cs := gv 0 Z8 Z8); exact rfl; exact rfl; (intro _)) | (apply J_alloc (cs := dv 0 Z8 Z8 0 Z8 Z8); exact rfl; exact rfl; (intro _)) | (apply J_alloc (cs := u8s Z8); exact rfl; exact rfl; (intro _)) | (apply J_alloc (cs := i64s Z8); exact rfl; exact rfl; (intro _)) | (apply J_alloc (cs := bls F8); exact rfl; exact rfl; (intro _)) | (apply J_alloc; exact rfl; exact rfl; (intro _)))
          (apply J_nil; apply JF_end; ((repeat (apply sub_cons; (focus ((with_reducible (repeat (first | exact m0 | assumption | refine mS ?_))); done)))); exact sub_nil))
          (apply JF_all [11]; kernel_rfl)
          (apply JFs_cons; exact rfl)
          · (first | (apply J_s1; exact rfl; exact rfl; exact rfl; infer_instance; (first | exact rfl | omega); (first | exact rfl); infer_instance) | (apply J_sW; exact rfl; exact rfl; infer_instance; (first | exact rfl | omega); (first | exact rfl | omega); (first | exact ones_of rfl | exact u8s_one _ | exact i64s_one _ | exact bls_one _ | exact gv_one _ _ _ | exact dv_one _ _ _ _ _ _); infer_instance) | (apply J_sR; exact rfl; exact rfl; exact rfl; infer_instance; (first | exact rfl | omega); (first | exact i64s_setR)))
            (apply J_nil; apply JF_end; ((repeat (apply sub_cons; (focus ((with_reducible (repeat (first | exact m0 | assumption | refine mS ?_))); done)))); exact sub_nil))
            (apply JF_all [12]; kernel_rfl)
            (apply JFs_cons; exact rfl)
            · (first | (apply J_s1; exact rfl; exact rfl; exact rfl; infer_instance; (first | exact rfl | omega); (first | exact rfl); infer_instance) | (apply J_sW; exact rfl; exact rfl; infer_instance; (first | exact rfl | omega); (first | exact rfl | omega); (first | exact ones_of rfl | exact u8s_one _ | exact i64s_one _ | exact bls_one _ | exact gv_one _ _ _ | exact dv_one _ _ _ _ _ _); infer_instance) | (apply J_sR; exact rfl; exact rfl; exact rfl; infer_instance; (first | exact rfl | omega); (first | exact i64s_setR)))
              (apply J_nil; apply JF_end; ((repeat (apply sub_cons; (focus ((with_reducible (repeat (first | exact m0 | assumption | refine mS ?_))); done)))); exact sub_nil))
              (apply JF_q 13; exact rfl; kernel_rfl; exact rfl; (intro E hE; (first | (apply q_assign; exact rfl))))
              (apply JF_done; kernel_rfl)
              (apply thenQ_normal; apply ex3; refine ⟨trivial, ?_⟩; (refine entP (ent ?_ (List.nil_sublist _)) ?_; (repeat refine fr_cons rfl ?_); exact fr_nil; (repeat (first | exact sp_nil | exact sp_refl | exact sp_end | (with_reducible apply sp0) | (with_reducible apply sp1) | (with_reducible apply sp2) | (with_reducible apply sp3) | (with_reducible apply sp4) | (with_reducible apply sp5) | (with_reducible apply sp6) | (with_reducible apply sp7) | apply sp0 | apply sp1 | apply sp2 | apply sp3 | apply sp4 | apply sp5))))
            exact JFs_nil
          exact JFs_nil
        exact JFs_nil
      (apply JFs_cons; exact rfl)
      · (first | (apply J_alloc (cs := gv 0 Z8 Z8); exact rfl; exact rfl; (intro _)) | (apply J_alloc (cs := dv 0 Z8 Z8 0 Z8 Z8); exact rfl; exact rfl; (intro _)) | (apply J_alloc (cs := u8s Z8); exact rfl; exact rfl; (intro _)) | (apply J_alloc (cs := i64s Z8); exact rfl; exact rfl; (intro _)) | (apply J_alloc (cs := bls F8); exact rfl; exact rfl; (intro _)) | (apply J_alloc; exact rfl; exact rfl; (intro _)))
        (apply J_nil; apply JF_end; ((repeat (apply sub_cons; (focus ((with_reducible (repeat (first | exact m0 | assumption | refine mS ?_))); done)))); exact sub_nil))
        (apply JF_all [8, 11]; kernel_rfl)
        (apply JFs_cons; exact rfl)
        · (first | (apply J_lit0; exact rfl; (intro _)))
          (apply J_nil; apply JF_end; ((repeat (apply sub_cons; (focus ((with_reducible (repeat (first | exact m0 | assumption | refine mS ?_))); done)))); exact sub_nil))
          (apply JF_all [11]; kernel_rfl)
          (apply JFs_cons; exact rfl)
          · (first | (apply J_s1; exact rfl; exact rfl; exact rfl; infer_instance; (first | exact rfl | omega); (first | exact rfl); infer_instance) | (apply J_sW; exact rfl; exact rfl; infer_instance; (first | exact rfl | omega); (first | exact rfl | omega); (first | exact ones_of rfl | exact u8s_one _ | exact i64s_one _ | exact bls_one _ | exact gv_one _ _ _ | exact dv_one _ _ _ _ _ _); infer_instance) | (apply J_sR; exact rfl; exact rfl; exact rfl; infer_instance; (first | exact rfl | omega); (first | exact i64s_setR)))
            (apply J_nil; apply JF_end; ((repeat (apply sub_cons; (focus ((with_reducible (repeat (first | exact m0 | assumption | refine mS ?_))); done)))); exact sub_nil))
            (apply JF_all [12]; kernel_rfl)
            (apply JFs_cons; exact rfl)
            · (first | (apply J_s1; exact rfl; exact rfl; exact rfl; infer_instance; (first | exact rfl | omega); (first | exact rfl); infer_instance) | (apply J_sW; exact rfl; exact rfl; infer_instance; (first | exact rfl | omega); (first | exact rfl | omega); (first | exact ones_of rfl | exact u8s_one _ | exact i64s_one _ | exact bls_one _ | exact gv_one _ _ _ | exact dv_one _ _ _ _ _ _); infer_instance) | (apply J_sR; exact rfl; exact rfl; exact rfl; infer_instance; (first | exact rfl | omega); (first | exact i64s_setR)))
              (apply J_nil; apply JF_end; ((repeat (apply sub_cons; (focus ((with_reducible (repeat (first | exact m0 | assumption | refine mS ?_))); done)))); exact sub_nil))
              (apply JF_q 13; exact rfl; kernel_rfl; exact rfl; (intro E hE; (first | (apply q_assign; exact rfl))))
              (apply JF_done; kernel_rfl)
              (apply thenQ_normal; apply ex3; refine ⟨trivial, ?_⟩; (refine entP (ent ?_ (List.nil_sublist _)) ?_; (repeat refine fr_cons rfl ?_); exact fr_nil; (repeat (first | exact sp_nil | exact sp_refl | exact sp_end | (with_reducible apply sp0) | (with_reducible apply sp1) | (with_reducible apply sp2) | (with_reducible apply sp3) | (with_reducible apply sp4) | (with_reducible apply sp5) | (with_reducible apply sp6) | (with_reducible apply sp7) | apply sp0 | apply sp1 | apply sp2 | apply sp3 | apply sp4 | apply sp5))))
            exact JFs_nil
          exact JFs_nil
        (apply JFs_cons; exact rfl)
        · (first | (apply J_s1; exact rfl; exact rfl; exact rfl; infer_instance; (first | exact rfl | omega); (first | exact rfl); infer_instance) | (apply J_sW; exact rfl; exact rfl; infer_instance; (first | exact rfl | omega); (first | exact rfl | omega); (first | exact ones_of rfl | exact u8s_one _ | exact i64s_one _ | exact bls_one _ | exact gv_one _ _ _ | exact dv_one _ _ _ _ _ _); infer_instance) | (apply J_sR; exact rfl; exact rfl; exact rfl; infer_instance; (first | exact rfl | omega); (first | exact i64s_setR)))
          (apply J_nil; apply JF_end; ((repeat (apply sub_cons; (focus ((with_reducible (repeat (first | exact m0 | assumption | refine mS ?_))); done)))); exact sub_nil))
          (apply JF_all [8, 12]; kernel_rfl)
          (apply JFs_cons; exact rfl)
          · (first | (apply J_lit0; exact rfl; (intro _)))
            (apply J_nil; apply JF_end; ((repeat (apply sub_cons; (focus ((with_reducible (repeat (first | exact m0 | assumption | refine mS ?_))); done)))); exact sub_nil))
            (apply JF_all [12]; kernel_rfl)
            (apply JFs_cons; exact rfl)
            · (first | (apply J_s1; exact rfl; exact rfl; exact rfl; infer_instance; (first | exact rfl | omega); (first | exact rfl); infer_instance) | (apply J_sW; exact rfl; exact rfl; infer_instance; (first | exact rfl | omega); (first | exact rfl | omega); (first | exact ones_of rfl | exact u8s_one _ | exact i64s_one _ | exact bls_one _ | exact gv_one _ _ _ | exact dv_one _ _ _ _ _ _); infer_instance) | (apply J_sR; exact rfl; exact rfl; exact rfl; infer_instance; (first | exact rfl | omega); (first | exact i64s_setR)))
              (apply J_nil; apply JF_end; ((repeat (apply sub_cons; (focus ((with_reducible (repeat (first | exact m0 | assumption | refine mS ?_))); done)))); exact sub_nil))
              (apply JF_q 13; exact rfl; kernel_rfl; exact rfl; (intro E hE; (first | (apply q_assign; exact rfl))))
              (apply JF_done; kernel_rfl)
              (apply thenQ_normal; apply ex3; refine ⟨trivial, ?_⟩; (refine entP (ent ?_ (List.nil_sublist _)) ?_; (repeat refine fr_cons rfl ?_); exact fr_nil; (repeat (first | exact sp_nil | exact sp_refl | exact sp_end | (with_reducible apply sp0) | (with_reducible apply sp1) | (with_reducible apply sp2) | (with_reducible apply sp3) | (with_reducible apply sp4) | (with_reducible apply sp5) | (with_reducible apply sp6) | (with_reducible apply sp7) | apply sp0 | apply sp1 | apply sp2 | apply sp3 | apply sp4 | apply sp5))))
            exact JFs_nil
          (apply JFs_cons; exact rfl)
          · (first | (apply J_s1; exact rfl; exact rfl; exact rfl; infer_instance; (first | exact rfl | omega); (first | exact rfl); infer_instance) | (apply J_sW; exact rfl; exact rfl; infer_instance; (first | exact rfl | omega); (first | exact rfl | omega); (first | exact ones_of rfl | exact u8s_one _ | exact i64s_one _ | exact bls_one _ | exact gv_one _ _ _ | exact dv_one _ _ _ _ _ _); infer_instance) | (apply J_sR; exact rfl; exact rfl; exact rfl; infer_instance; (first | exact rfl | omega); (first | exact i64s_setR)))
            (apply J_nil; apply JF_end; ((repeat (apply sub_cons; (focus ((with_reducible (repeat (first | exact m0 | assumption | refine mS ?_))); done)))); exact sub_nil))
            (apply JF_all [8]; kernel_rfl)
            (apply JFs_cons; exact rfl)
            · (first | (apply J_lit0; exact rfl; (intro _)))
              (apply J_nil; apply JF_end; ((repeat (apply sub_cons; (focus ((with_reducible (repeat (first | exact m0 | assumption | refine mS ?_))); done)))); exact sub_nil))
              (apply JF_q 13; exact rfl; kernel_rfl; exact rfl; (intro E hE; (first | (apply q_assign; exact rfl))))
              (apply JF_done; kernel_rfl)
              (apply thenQ_normal; apply ex3; refine ⟨trivial, ?_⟩; (refine entP (ent ?_ (List.nil_sublist _)) ?_; (repeat refine fr_cons rfl ?_); exact fr_nil; (repeat (first | exact sp_nil | exact sp_refl | exact sp_end | (with_reducible apply sp0) | (with_reducible apply sp1) | (with_reducible apply sp2) | (with_reducible apply sp3) | (with_reducible apply sp4) | (with_reducible apply sp5) | (with_reducible apply sp6) | (with_reducible apply sp7) | apply sp0 | apply sp1 | apply sp2 | apply sp3 | apply sp4 | apply sp5))))
            exact JFs_nil
          exact JFs_nil
        exact JFs_nil
      exact JFs_nil
    (apply JFs_cons; exact rfl)
    · (first | (apply J_alloc (cs := gv 0 Z8 Z8); exact rfl; exact rfl; (intro _)) | (apply J_alloc (cs := dv 0 Z8 Z8 0 Z8 Z8); exact rfl; exact rfl; (intro _)) | (apply J_alloc (cs := u8s Z8); exact rfl; exact rfl; (intro _)) | (apply J_alloc (cs := i64s Z8); exact rfl; exact rfl; (intro _)) | (apply J_alloc (cs := bls F8); exact rfl; exact rfl; (intro _)) | (apply J_alloc; exact rfl; exact rfl; (intro _)))
      (apply J_nil; apply JF_end; ((repeat (apply sub_cons; (focus ((with_reducible (repeat (first | exact m0 | assumption | refine mS ?_))); done)))); exact sub_nil))
      (apply JF_all [8, 9]; kernel_rfl)
      (apply JFs_cons; exact rfl)
      · (first | (apply J_lit0; exact rfl; (intro _)))
        (apply J_nil; apply JF_end; ((repeat (apply sub_cons; (focus ((with_reducible (repeat (first | exact m0 | assumption | refine mS ?_))); done)))); exact sub_nil))
        (apply JF_all [9]; kernel_rfl)
        (apply JFs_cons; exact rfl)
        · (first | (apply J_alloc (cs := gv 0 Z8 Z8); exact rfl; exact rfl; (intro _)) | (apply J_alloc (cs := dv 0 Z8 Z8 0 Z8 Z8); exact rfl; exact rfl; (intro _)) | (apply J_alloc (cs := u8s Z8); exact rfl; exact rfl; (intro _)) | (apply J_alloc (cs := i64s Z8); exact rfl; exact rfl; (intro _)) | (apply J_alloc (cs := bls F8); exact rfl; exact rfl; (intro _)) | (apply J_alloc; exact rfl; exact rfl; (intro _)))
          (apply J_nil; apply JF_end; ((repeat (apply sub_cons; (focus ((with_reducible (repeat (first | exact m0 | assumption | refine mS ?_))); done)))); exact sub_nil))
          (apply JF_all [11]; kernel_rfl)
          (apply JFs_cons; exact rfl)
          · (first | (apply J_s1; exact rfl; exact rfl; exact rfl; infer_instance; (first | exact rfl | omega); (first | exact rfl); infer_instance) | (apply J_sW; exact rfl; exact rfl; infer_instance; (first | exact rfl | omega); (first | exact rfl | omega); (first | exact ones_of rfl | exact u8s_one _ | exact i64s_one _ | exact bls_one _ | exact gv_one _ _ _ | exact dv_one _ _ _ _ _ _); infer_instance) | (apply J_sR; exact rfl; exact rfl; exact rfl; infer_instance; (first | exact rfl | omega); (first | exact i64s_setR)))
            (apply J_nil; apply JF_end; ((repeat (apply sub_cons; (focus ((with_reducible (repeat (first | exact m0 | assumption | refine mS ?_))); done)))); exact sub_nil))
            (apply JF_all [12]; kernel_rfl)
            (apply JFs_cons; exact rfl)
            · (first | (apply J_s1; exact rfl; exact rfl; exact rfl; infer_instance; (first | exact rfl | omega); (first | exact rfl); infer_instance) | (apply J_sW; exact rfl; exact rfl; infer_instance; (first | exact rfl | omega); (first | exact rfl | omega); (first | exact ones_of rfl | exact u8s_one _ | exact i64s_one _ | exact bls_one _ | exact gv_one _ _ _ | exact dv_one _ _ _ _ _ _); infer_instance) | (apply J_sR; exact rfl; exact rfl; exact rfl; infer_instance; (first | exact rfl | omega); (first | exact i64s_setR)))
              (apply J_nil; apply JF_end; ((repeat (apply sub_cons; (focus ((with_reducible (repeat (first | exact m0 | assumption | refine mS ?_))); done)))); exact sub_nil))
              (apply JF_q 13; exact rfl; kernel_rfl; exact rfl; (intro E hE; (first | (apply q_assign; exact rfl))))
              (apply JF_done; kernel_rfl)
              (apply thenQ_normal; apply ex3; refine ⟨trivial, ?_⟩; (refine entP (ent ?_ (List.nil_sublist _)) ?_; (repeat refine fr_cons rfl ?_); exact fr_nil; (repeat (first | exact sp_nil | exact sp_refl | exact sp_end | (with_reducible apply sp0) | (with_reducible apply sp1) | (with_reducible apply sp2) | (with_reducible apply sp3) | (with_reducible apply sp4) | (with_reducible apply sp5) | (with_reducible apply sp6) | (with_reducible apply sp7) | apply sp0 | apply sp1 | apply sp2 | apply sp3 | apply sp4 | apply sp5))))
            exact JFs_nil
          exact JFs_nil
        exact JFs_nil
      (apply JFs_cons; exact rfl)
      · (first | (apply J_alloc (cs := gv 0 Z8 Z8); exact rfl; exact rfl; (intro _)) | (apply J_alloc (cs := dv 0 Z8 Z8 0 Z8 Z8); exact rfl; exact rfl; (intro _)) | (apply J_alloc (cs := u8s Z8); exact rfl; exact rfl; (intro _)) | (apply J_alloc (cs := i64s Z8); exact rfl; exact rfl; (intro _)) | (apply J_alloc (cs := bls F8); exact rfl; exact rfl; (intro _)) | (apply J_alloc; exact rfl; exact rfl; (intro _)))
        (apply J_nil; apply JF_end; ((repeat (apply sub_cons; (focus ((with_reducible (repeat (first | exact m0 | assumption | refine mS ?_))); done)))); exact sub_nil))
        (apply JF_all [8, 11]; kernel_rfl)
        (apply JFs_cons; exact rfl)
        · (first | (apply J_lit0; exact rfl; (intro _)))
          (apply J_nil; apply JF_end; ((repeat (apply sub_cons; (focus ((with_reducible (repeat (first | exact m0 | assumption | refine mS ?_))); done)))); exact sub_nil))
          (apply JF_all [11]; kernel_rfl)
          (apply JFs_cons; exact rfl)
          · (first | (apply J_s1; exact rfl; exact rfl; exact rfl; infer_instance; (first | exact rfl | omega); (first | exact rfl); infer_instance) | (apply J_sW; exact rfl; exact rfl; infer_instance; (first | exact rfl | omega); (first | exact rfl | omega); (first | exact ones_of rfl | exact u8s_one _ | exact i64s_one _ | exact bls_one _ | exact gv_one _ _ _ | exact dv_one _ _ _ _ _ _); infer_instance) | (apply J_sR; exact rfl; exact rfl; exact rfl; infer_instance; (first | exact rfl | omega); (first | exact i64s_setR)))
            (apply J_nil; apply JF_end; ((repeat (apply sub_cons; (focus ((with_reducible (repeat (first | exact m0 | assumption | refine mS ?_))); done)))); exact sub_nil))
            (apply JF_all [12]; kernel_rfl)
            (apply JFs_cons; exact rfl)
            · (first | (apply J_s1; exact rfl; exact rfl; exact rfl; infer_instance; (first | exact rfl | omega); (first | exact rfl); infer_instance) | (apply J_sW; exact rfl; exact rfl; infer_instance; (first | exact rfl | omega); (first | exact rfl | omega); (first | exact ones_of rfl | exact u8s_one _ | exact i64s_one _ | exact bls_one _ | exact gv_one _ _ _ | exact dv_one _ _ _ _ _ _); infer_instance) | (apply J_sR; exact rfl; exact rfl; exact rfl; infer_instance; (first | exact rfl | omega); (first | exact i64s_setR)))
              (apply J_nil; apply JF_end; ((repeat (apply sub_cons; (focus ((with_reducible (repeat (first | exact m0 | assumption | refine mS ?_))); done)))); exact sub_nil))
              (apply JF_q 13; exact rfl; kernel_rfl; exact rfl; (intro E hE; (first | (apply q_assign; exact rfl))))
              (apply JF_done; kernel_rfl)
              (apply thenQ_normal; apply ex3; refine ⟨trivial, ?_⟩; (refine entP (ent ?_ (List.nil_sublist _)) ?_; (repeat refine fr_cons rfl ?_); exact fr_nil; (repeat (first | exact sp_nil | exact sp_refl | exact sp_end | (with_reducible apply sp0) | (with_reducible apply sp1) | (with_reducible apply sp2) | (with_reducible apply sp3) | (with_reducible apply sp4) | (with_reducible apply sp5) | (with_reducible apply sp6) | (with_reducible apply sp7) | apply sp0 | apply sp1 | apply sp2 | apply sp3 | apply sp4 | apply sp5))))
            exact JFs_nil
          exact JFs_nil
        (apply JFs_cons; exact rfl)
        · (first | (apply J_s1; exact rfl; exact rfl; exact rfl; infer_instance; (first | exact rfl | omega); (first | exact rfl); infer_instance) | (apply J_sW; exact rfl; exact rfl; infer_instance; (first | exact rfl | omega); (first | exact rfl | omega); (first | exact ones_of rfl | exact u8s_one _ | exact i64s_one _ | exact bls_one _ | exact gv_one _ _ _ | exact dv_one _ _ _ _ _ _); infer_instance) | (apply J_sR; exact rfl; exact rfl; exact rfl; infer_instance; (first | exact rfl | omega); (first | exact i64s_setR)))
          (apply J_nil; apply JF_end; ((repeat (apply sub_cons; (focus ((with_reducible (repeat (first | exact m0 | assumption | refine mS ?_))); done)))); exact sub_nil))
          (apply JF_all [8, 12]; kernel_rfl)
          (apply JFs_cons; exact rfl)
          · (first | (apply J_lit0; exact rfl; (intro _)))
            (apply J_nil; apply JF_end; ((repeat (apply sub_cons; (focus ((with_reducible (repeat (first | exact m0 | assumption | refine mS ?_))); done)))); exact sub_nil))
            (apply JF_all [12]; kernel_rfl)
            (apply JFs_cons; exact rfl)
            · (first | (apply J_s1; exact rfl; exact rfl; exact rfl; infer_instance; (first | exact rfl | omega); (first | exact rfl); infer_instance) | (apply J_sW; exact rfl; exact rfl; infer_instance; (first | exact rfl | omega); (first | exact rfl | omega); (first | exact ones_of rfl | exact u8s_one _ | exact i64s_one _ | exact bls_one _ | exact gv_one _ _ _ | exact dv_one _ _ _ _ _ _); infer_instance) | (apply J_sR; exact rfl; exact rfl; exact rfl; infer_instance; (first | exact rfl | omega); (first | exact i64s_setR)))
              (apply J_nil; apply JF_end; ((repeat (apply sub_cons; (focus ((with_reducible (repeat (first | exact m0 | assumption | refine mS ?_))); done)))); exact sub_nil))
              (apply JF_q 13; exact rfl; kernel_rfl; exact rfl; (intro E hE; (first | (apply q_assign; exact rfl))))
              (apply JF_done; kernel_rfl)
              (apply thenQ_normal; apply ex3; refine ⟨trivial, ?_⟩; (refine entP (ent ?_ (List.nil_sublist _)) ?_; (repeat refine fr_cons rfl ?_); exact fr_nil; (repeat (first | exact sp_nil | exact sp_refl | exact sp_end | (with_reducible apply sp0) | (with_reducible apply sp1) | (with_reducible apply sp2) | (with_reducible apply sp3) | (with_reducible apply sp4) | (with_reducible apply sp5) | (with_reducible apply sp6) | (with_reducible apply sp7) | apply sp0 | apply sp1 | apply sp2 | apply sp3 | apply sp4 | apply sp5))))
            exact JFs_nil
          (apply JFs_cons; exact rfl)
          · (first | (apply J_s1; exact rfl; exact rfl; exact rfl; infer_instance; (first | exact rfl | omega); (first | exact rfl); infer_instance) | (apply J_sW; exact rfl; exact rfl; infer_instance; (first | exact rfl | omega); (first | exact rfl | omega); (first | exact ones_of rfl | exact u8s_one _ | exact i64s_one _ | exact bls_one _ | exact gv_one _ _ _ | exact dv_one _ _ _ _ _ _); infer_instance) | (apply J_sR; exact rfl; exact rfl; exact rfl; infer_instance; (first | exact rfl | omega); (first | exact i64s_setR)))
            (apply J_nil; apply JF_end; ((repeat (apply sub_cons; (focus ((with_reducible (repeat (first | exact m0 | assumption | refine mS ?_))); done)))); exact sub_nil))
            (apply JF_all [8]; kernel_rfl)
            (apply JFs_cons; exact rfl)
            · (first | (apply J_lit0; exact rfl; (intro _)))
              (apply J_nil; apply JF_end; ((repeat (apply sub_cons; (focus ((with_reducible (repeat (first | exact m0 | assumption | refine mS ?_))); done)))); exact sub_nil))
              (apply JF_q 13; exact rfl; kernel_rfl; exact rfl; (intro E hE; (first | (apply q_assign; exact rfl))))
              (apply JF_done; kernel_rfl)
              (apply thenQ_normal; apply ex3; refine ⟨trivial, ?_⟩; (refine entP (ent ?_ (List.nil_sublist _)) ?_; (repeat refine fr_cons rfl ?_); exact fr_nil; (repeat (first | exact sp_nil | exact sp_refl | exact sp_end | (with_reducible apply sp0) | (with_reducible apply sp1) | (with_reducible apply sp2) | (with_reducible apply sp3) | (with_reducible apply sp4) | (with_reducible apply sp5) | (with_reducible apply sp6) | (with_reducible apply sp7) | apply sp0 | apply sp1 | apply sp2 | apply sp3 | apply sp4 | apply sp5))))
            exact JFs_nil
          exact JFs_nil
        exact JFs_nil
      exact JFs_nil
    exact JFs_nil
  · rintro ⟨b3, b4, b5⟩ _
    dsimp only
    repeat' (first | (apply Jq_move; exact rfl; exact rfl) | (apply Jq_assign; exact rfl; exact rfl) | (apply Jq_load; exact rfl; exact rfl; (exact mb); (first | exact rfl)) | (apply Jq_fieldAddr; exact rfl; exact rfl) | (apply Jq_indexN; exact rfl; exact rfl; exact rfl; omega) | (apply Jq_index; exact rfl; exact rfl; exact rfl; omega; omega) | (apply Jq_indexSN; exact rfl; exact rfl; exact rfl; omega) | (apply Jq_cmp; exact rfl; exact rfl; exact rfl; exact rfl) | (apply Jq_add; exact rfl; exact rfl; exact rfl; omega) | (apply Jq_not; exact rfl; exact rfl) | (apply Jq_pick_true; exact rfl; exact rfl; exact rfl) | (apply Jq_pick_false; exact rfl; exact rfl; exact rfl) | (apply J_on; exact rfl; exact rfl) | (apply J_skip; exact rfl; exact rfl; exact rfl; exact rfl) | (apply Jc; exact rfl; exact rfl; exact rfl; infer_instance; ((intro w hw); first | exact n_gives n X O w)) | (apply Jq_loadW; exact rfl; exact rfl; (exact mb); (first | exact rfl | omega)) | (apply Jq_loadA; exact rfl; exact rfl; (exact mb); (first | exact rfl); (first | exact rfl | omega)) | (apply J_s1; exact rfl; exact rfl; exact rfl; infer_instance; (first | exact rfl | omega); (first | exact rfl); infer_instance) | (apply J_sW; exact rfl; exact rfl; infer_instance; (first | exact rfl | omega); (first | exact rfl | omega); (first | exact ones_of rfl | exact u8s_one _ | exact i64s_one _ | exact bls_one _ | exact gv_one _ _ _ | exact dv_one _ _ _ _ _ _); infer_instance) | (apply J_sR; exact rfl; exact rfl; exact rfl; infer_instance; (first | exact rfl | omega); (first | exact i64s_setR)) | (apply J_lit1; exact rfl; exact rfl; exact rfl; (intro _)) | (apply J_ap; exact Nat.one_pos; exact rfl; exact rfl; exact rfl; infer_instance; (first | exact rb | assumption); exact List.cons_ne_nil _ _; exact ones_of rfl; ((show (_ + 1) * _ ≤ _); omega); decide; (first | exact i64s_snoc | exact u8s_snoc | exact rfl); (intro _)) | (apply Jq_indexRN; exact rfl; exact rfl; exact rfl; (first | exact rb | assumption); omega) | (apply Jq_loadR; exact rfl; exact rfl; (first | exact rb | assumption); (first | exact rfl)) | (apply J_box; exact rfl; exact rfl; exact rfl; (intro _)) | (apply J_alloc (cs := gv 0 Z8 Z8); exact rfl; exact rfl; (intro _)) | (apply J_alloc (cs := dv 0 Z8 Z8 0 Z8 Z8); exact rfl; exact rfl; (intro _)) | (apply J_alloc (cs := u8s Z8); exact rfl; exact rfl; (intro _)) | (apply J_alloc (cs := i64s Z8); exact rfl; exact rfl; (intro _)) | (apply J_alloc (cs := bls F8); exact rfl; exact rfl; (intro _)) | (apply J_alloc; exact rfl; exact rfl; (intro _)) | (apply J_lit0; exact rfl; (intro _)) | refine thenQ_normal ?_ | refine thenQ_exit ?_ | refine thenQ_ret ?_ | refine inBlockQ_normal ?_ | refine inBlockQ_ret ?_ | refine inBlockQ_here ?_ | (apply inBlockQ_on; exact rfl) | refine JC_seq ?_ | refine JC_region ?_ | (apply JC_draw mixed; kernel_rfl) | refine J_nil ?_ | refine JC_block ?_ | refine JC_skip ?_ | refine JC_ret ?_ | refine JC_exit ?_ | (apply JC_if_true; exact rfl) | (apply JC_if_false; exact rfl) | (apply JC_dec_true; exact rfl; omega) | (apply JC_dec_false; exact rfl; omega) | (apply JC_ndec_true; exact rfl; omega) | (apply JC_ndec_false; exact rfl; omega) | (apply J_gdT; exact rfl; exact rfl; omega) | (apply J_gdF; exact rfl; exact rfl; omega) | (apply J_gnT; exact rfl; exact rfl; omega) | (apply J_gnF; exact rfl; exact rfl; omega) | refine JC_dec rfl (fun _ => ?_) (fun _ => ?_) | refine JC_ndec rfl (fun _ => ?_) (fun _ => ?_) | refine JC_if rfl (fun _ => ?_) (fun _ => ?_) | refine J_gd rfl rfl (fun _ => ?_) (fun _ => ?_) | refine J_gn rfl rfl (fun _ => ?_) (fun _ => ?_) | refine J_gb rfl rfl (fun _ => ?_) (fun _ => ?_))
    refine JC_loop (X := Nat × Value) (fun p => p.1 ≤ n) (fun p => [(22, .int .i64 (p.1 : Int)), (21, .int .i64 (n : Int)), (1, .pointer (some ⟨b1, 0, none⟩)), (3, .pointer (some ⟨b3, 0, none⟩)), (4, .pointer (some ⟨b4, 0, none⟩)), (5, p.2)])
      (fun p => [.row p.2 184 3 (crc (crA n X O p.1)), .blk b3 (i64s (plc X n)) 143, .blk b4 (i64s (plc O n)) 143, .blk b1 (gv n X O) 27]) (fun p => n - p.1) (0, .slice (some ⟨b5, 0, none⟩) 0 0) (Nat.zero_le _) ?_ ?_
    · (refine ent ?_ ?_; (repeat refine fr_cons rfl ?_); exact fr_nil; (repeat (first | exact List.nil_sublist _ | exact List.Sublist.refl _ | refine List.Sublist.cons_cons _ ?_ | refine List.Sublist.cons _ ?_)))
    · rintro ⟨i, v⟩ hi
      dsimp only at hi ⊢
      by_cases hlt : i < n
      · have lA := crA_len n X O i
        have lA2 : n * i ≤ n * n := Nat.mul_le_mul_left n (by omega)
        have bx := bX.2 i
        have bo := bO.2 i
        repeat' (first | (apply Jq_move; exact rfl; exact rfl) | (apply Jq_assign; exact rfl; exact rfl) | (apply Jq_load; exact rfl; exact rfl; (exact mb); (first | exact rfl)) | (apply Jq_fieldAddr; exact rfl; exact rfl) | (apply Jq_indexN; exact rfl; exact rfl; exact rfl; omega) | (apply Jq_index; exact rfl; exact rfl; exact rfl; omega; omega) | (apply Jq_indexSN; exact rfl; exact rfl; exact rfl; omega) | (apply Jq_cmp; exact rfl; exact rfl; exact rfl; exact rfl) | (apply Jq_add; exact rfl; exact rfl; exact rfl; omega) | (apply Jq_not; exact rfl; exact rfl) | (apply Jq_pick_true; exact rfl; exact rfl; exact rfl) | (apply Jq_pick_false; exact rfl; exact rfl; exact rfl) | (apply J_on; exact rfl; exact rfl) | (apply J_skip; exact rfl; exact rfl; exact rfl; exact rfl) | (apply Jc; exact rfl; exact rfl; exact rfl; infer_instance; ((intro w hw); first | exact n_gives n X O w)) | (apply Jq_loadW; exact rfl; exact rfl; (exact mb); (first | exact rfl | omega)) | (apply Jq_loadA; exact rfl; exact rfl; (exact mb); (first | exact rfl); (first | exact rfl | omega)) | (apply J_s1; exact rfl; exact rfl; exact rfl; infer_instance; (first | exact rfl | omega); (first | exact rfl); infer_instance) | (apply J_sW; exact rfl; exact rfl; infer_instance; (first | exact rfl | omega); (first | exact rfl | omega); (first | exact ones_of rfl | exact u8s_one _ | exact i64s_one _ | exact bls_one _ | exact gv_one _ _ _ | exact dv_one _ _ _ _ _ _); infer_instance) | (apply J_sR; exact rfl; exact rfl; exact rfl; infer_instance; (first | exact rfl | omega); (first | exact i64s_setR)) | (apply J_lit1; exact rfl; exact rfl; exact rfl; (intro _)) | (apply J_ap; exact Nat.one_pos; exact rfl; exact rfl; exact rfl; infer_instance; (first | exact rb | assumption); exact List.cons_ne_nil _ _; exact ones_of rfl; ((show (_ + 1) * _ ≤ _); omega); decide; (first | exact i64s_snoc | exact u8s_snoc | exact rfl); (intro _)) | (apply Jq_indexRN; exact rfl; exact rfl; exact rfl; (first | exact rb | assumption); omega) | (apply Jq_loadR; exact rfl; exact rfl; (first | exact rb | assumption); (first | exact rfl)) | (apply J_box; exact rfl; exact rfl; exact rfl; (intro _)) | (apply J_alloc (cs := gv 0 Z8 Z8); exact rfl; exact rfl; (intro _)) | (apply J_alloc (cs := dv 0 Z8 Z8 0 Z8 Z8); exact rfl; exact rfl; (intro _)) | (apply J_alloc (cs := u8s Z8); exact rfl; exact rfl; (intro _)) | (apply J_alloc (cs := i64s Z8); exact rfl; exact rfl; (intro _)) | (apply J_alloc (cs := bls F8); exact rfl; exact rfl; (intro _)) | (apply J_alloc; exact rfl; exact rfl; (intro _)) | (apply J_lit0; exact rfl; (intro _)) | refine thenQ_normal ?_ | refine thenQ_exit ?_ | refine thenQ_ret ?_ | refine inBlockQ_normal ?_ | refine inBlockQ_ret ?_ | refine inBlockQ_here ?_ | (apply inBlockQ_on; exact rfl) | refine JC_seq ?_ | refine JC_region ?_ | (apply JC_draw mixed; kernel_rfl) | refine J_nil ?_ | refine JC_block ?_ | refine JC_skip ?_ | refine JC_ret ?_ | refine JC_exit ?_ | (apply JC_if_true; exact rfl) | (apply JC_if_false; exact rfl) | (apply JC_dec_true; exact rfl; omega) | (apply JC_dec_false; exact rfl; omega) | (apply JC_ndec_true; exact rfl; omega) | (apply JC_ndec_false; exact rfl; omega) | (apply J_gdT; exact rfl; exact rfl; omega) | (apply J_gdF; exact rfl; exact rfl; omega) | (apply J_gnT; exact rfl; exact rfl; omega) | (apply J_gnF; exact rfl; exact rfl; omega) | refine JC_dec rfl (fun _ => ?_) (fun _ => ?_) | refine JC_ndec rfl (fun _ => ?_) (fun _ => ?_) | refine JC_if rfl (fun _ => ?_) (fun _ => ?_) | refine J_gd rfl rfl (fun _ => ?_) (fun _ => ?_) | refine J_gn rfl rfl (fun _ => ?_) (fun _ => ?_) | refine J_gb rfl rfl (fun _ => ?_) (fun _ => ?_))
        refine JC_loop (X := Nat × Value) (fun p => p.1 ≤ n) (fun p => [(27, .int .i64 (p.1 : Int)), (26, .int .i64 (n : Int)), (22, .int .i64 (i : Int)), (6, .int .i64 (i : Int)), (21, .int .i64 (n : Int)), (1, .pointer (some ⟨b1, 0, none⟩)), (3, .pointer (some ⟨b3, 0, none⟩)), (4, .pointer (some ⟨b4, 0, none⟩)), (5, p.2)])
          (fun p => [.row p.2 184 3 (crc (crA n X O i ++ crR n X O i p.1)), .blk b3 (i64s (plc X n)) 143, .blk b4 (i64s (plc O n)) 143, .blk b1 (gv n X O) 27]) (fun p => n - p.1) (0, v) (Nat.zero_le _) ?_ ?_
        · rw [show crA n X O i ++ crR n X O i 0 = crA n X O i from List.append_nil _]
          (refine ent ?_ ?_; (repeat refine fr_cons rfl ?_); exact fr_nil; (repeat (first | exact List.nil_sublist _ | exact List.Sublist.refl _ | refine List.Sublist.cons_cons _ ?_ | refine List.Sublist.cons _ ?_)))
        · rintro ⟨r, v⟩ hr
          dsimp only at hr ⊢
          by_cases hlr : r < n
          · have eX := plc_pos pX (by omega) hlr
            have eO := plc_pos pO (by omega) hlr
            have lR := crR_len n X O i r
            have lc := crc_len (crA n X O i ++ crR n X O i r)
            rw [List.length_append] at lc
            have hs : crR n X O i (r + 1) = if sgN n X O i r = 0 then crR n X O i r else crR n X O i r ++ [(i, r, sgN n X O i r)] := rfl
            have hsg : sgN n X O i r = sg4 (X.getD i 0) (O.getD i 0) (posF X n r) (posF O n r) i r := rfl
            rw [← eX, ← eO] at hsg
            repeat' (first | (apply Jq_move; exact rfl; exact rfl) | (apply Jq_assign; exact rfl; exact rfl) | (apply Jq_load; exact rfl; exact rfl; (exact mb); (first | exact rfl | (refine gv_X kX ?_; omega) | (refine gv_O kX kO ?_; omega) | (refine i64s_at ?_; omega))) | (apply Jq_fieldAddr; exact rfl; exact rfl) | (apply Jq_indexN; exact rfl; exact rfl; exact rfl; omega) | (apply Jq_index; exact rfl; exact rfl; exact rfl; omega; omega) | (apply Jq_indexSN; exact rfl; exact rfl; exact rfl; omega) | (apply Jq_cmp; exact rfl; exact rfl; exact rfl; exact rfl) | (apply Jq_add; exact rfl; exact rfl; exact rfl; omega) | (apply Jq_not; exact rfl; exact rfl) | (apply Jq_pick_true; exact rfl; exact rfl; exact rfl) | (apply Jq_pick_false; exact rfl; exact rfl; exact rfl) | (apply J_on; exact rfl; exact rfl) | (apply J_skip; exact rfl; exact rfl; exact rfl; exact rfl) | (apply Jc; exact rfl; exact rfl; exact rfl; infer_instance; ((intro w hw); first | exact between_gives r (X.getD i 0) (O.getD i 0) w | exact between_gives i ((plc X n).getD r 0) ((plc O n).getD r 0) w)) | (apply Jq_loadW; exact rfl; exact rfl; (exact mb); (first | exact rfl | omega)) | (apply Jq_loadA; exact rfl; exact rfl; (exact mb); (first | (refine gv_X kX ?_; omega) | (refine gv_O kX kO ?_; omega) | (refine i64s_at ?_; omega) | exact rfl); (first | exact rfl | omega)) | (apply J_s1; exact rfl; exact rfl; exact rfl; infer_instance; (first | exact rfl | omega); (first | exact rfl); infer_instance) | (apply J_sW; exact rfl; exact rfl; infer_instance; (first | exact rfl | omega); (first | exact rfl | omega); (first | exact ones_of rfl | exact u8s_one _ | exact i64s_one _ | exact bls_one _ | exact gv_one _ _ _ | exact dv_one _ _ _ _ _ _); infer_instance) | (apply J_sR; exact rfl; exact rfl; exact rfl; infer_instance; (first | exact rfl | omega); (first | exact i64s_setR)) | (apply J_lit1; exact rfl; exact rfl; exact rfl; (intro _)) | (apply J_ap; exact Nat.one_pos; exact rfl; exact rfl; exact rfl; infer_instance; (first | exact rb | assumption); exact List.cons_ne_nil _ _; exact ones_of rfl; ((show (_ + 1) * _ ≤ _); omega); decide; (first | exact crc_snoc | exact i64s_snoc | exact u8s_snoc | exact rfl); (intro _)) | (apply Jq_indexRN; exact rfl; exact rfl; exact rfl; (first | exact rb | assumption); omega) | (apply Jq_loadR; exact rfl; exact rfl; (first | exact rb | assumption); (first | exact rfl | (refine gv_X kX ?_; omega) | (refine gv_O kX kO ?_; omega) | (refine i64s_at ?_; omega))) | (apply J_box; exact rfl; exact rfl; exact rfl; (intro _)) | (apply Jq_buildE; exact rfl; exact rfl; exact built_crossing _ _ _) | (apply Jq_indexRs; exact rfl; exact rfl; exact rfl; (first | exact rb | assumption); omega) | (apply Jq_loadRA; exact rfl; exact rfl; (first | exact rb | assumption); (first | (refine gv_X kX ?_; omega) | (refine gv_O kX kO ?_; omega) | (refine i64s_at ?_; omega) | exact rfl); (first | exact rfl | omega); decide) | (apply J_lit1s; exact rfl; exact rfl; (first | exact rfl | omega); decide; decide; (intro _)) | (apply J_ap; decide; exact rfl; exact rfl; exact rfl; infer_instance; (first | exact rb | assumption); exact List.cons_ne_nil _ _; exact ones_of rfl; ((show (_ + _) * _ ≤ _); (simp only [List.length_cons, List.length_nil]); omega); decide; (first | exact crc_snoc | exact rfl); (intro _)) | (apply J_alloc (cs := gv 0 Z8 Z8); exact rfl; exact rfl; (intro _)) | (apply J_alloc (cs := dv 0 Z8 Z8 0 Z8 Z8); exact rfl; exact rfl; (intro _)) | (apply J_alloc (cs := u8s Z8); exact rfl; exact rfl; (intro _)) | (apply J_alloc (cs := i64s Z8); exact rfl; exact rfl; (intro _)) | (apply J_alloc (cs := bls F8); exact rfl; exact rfl; (intro _)) | (apply J_alloc; exact rfl; exact rfl; (intro _)) | (apply J_lit0; exact rfl; (intro _)) | refine thenQ_normal ?_ | refine thenQ_exit ?_ | refine thenQ_ret ?_ | refine inBlockQ_normal ?_ | refine inBlockQ_ret ?_ | refine inBlockQ_here ?_ | (apply inBlockQ_on; exact rfl) | refine JC_seq ?_ | refine JC_region ?_ | (apply JC_draw mixed; kernel_rfl) | refine J_nil ?_ | refine JC_block ?_ | refine JC_skip ?_ | refine JC_ret ?_ | refine JC_exit ?_ | (apply JC_if_true; exact rfl) | (apply JC_if_false; exact rfl) | (apply JC_dec_true; exact rfl; omega) | (apply JC_dec_false; exact rfl; omega) | (apply JC_ndec_true; exact rfl; omega) | (apply JC_ndec_false; exact rfl; omega) | (apply J_gdT; exact rfl; exact rfl; omega) | (apply J_gdF; exact rfl; exact rfl; omega) | (apply J_gnT; exact rfl; exact rfl; omega) | (apply J_gnF; exact rfl; exact rfl; omega) | (apply Jq_conv; exact rfl; exact rfl; exact wrap64_nat bx) | (apply Jq_conv; exact rfl; exact rfl; exact wrap64_nat bo) | (apply Jq_neb; exact rfl; exact rfl; exact rfl) | refine JC_dec rfl (fun _ => ?_) (fun _ => ?_) | refine JC_ndec rfl (fun _ => ?_) (fun _ => ?_) | refine JC_if rfl (fun _ => ?_) (fun _ => ?_) | refine J_gd rfl rfl (fun _ => ?_) (fun _ => ?_) | refine J_gn rfl rfl (fun _ => ?_) (fun _ => ?_) | refine J_gb rfl rfl (fun _ => ?_) (fun _ => ?_))
            · rename_i hb
              have e := hs.trans (if_pos (hsg.trans (sg4_no fun k => hb k.1)))
              refine ⟨(r + 1, v), by dsimp only; omega, by dsimp only; omega, ?_⟩
              dsimp only
              rw [e]
              (refine ent ?_ ?_; (repeat refine fr_cons rfl ?_); exact fr_nil; (repeat (first | exact List.nil_sublist _ | exact List.Sublist.refl _ | refine List.Sublist.cons_cons _ ?_ | refine List.Sublist.cons _ ?_)))
            · rename_i ha hb
              have e := hs.trans (if_pos (hsg.trans (sg4_no fun k => hb k.2)))
              refine ⟨(r + 1, v), by dsimp only; omega, by dsimp only; omega, ?_⟩
              dsimp only
              rw [e]
              (refine ent ?_ ?_; (repeat refine fr_cons rfl ?_); exact fr_nil; (repeat (first | exact List.nil_sublist _ | exact List.Sublist.refl _ | refine List.Sublist.cons_cons _ ?_ | refine List.Sublist.cons _ ?_)))
            · rename_i ha hb hc b v'
              have h1 : sgN n X O i r = 1 := hsg.trans (sg4_yes (q := false) ha hb (by simpa using hc))
              have e := hs.trans (if_neg (by rw [h1]; decide))
              refine ⟨(r + 1, v'), by dsimp only; omega, by dsimp only; omega, ?_⟩
              dsimp only
              rw [e, h1, ← List.append_assoc]
              (refine ent ?_ ?_; (repeat refine fr_cons rfl ?_); exact fr_nil; (repeat (first | exact List.nil_sublist _ | exact List.Sublist.refl _ | refine List.Sublist.cons_cons _ ?_ | refine List.Sublist.cons _ ?_)))
            · rename_i ha hb hc b v'
              have h1 : sgN n X O i r = -1 := hsg.trans (sg4_yes (q := true) ha hb (by simpa using hc))
              have e := hs.trans (if_neg (by rw [h1]; decide))
              refine ⟨(r + 1, v'), by dsimp only; omega, by dsimp only; omega, ?_⟩
              dsimp only
              rw [e, h1, ← List.append_assoc]
              (refine ent ?_ ?_; (repeat refine fr_cons rfl ?_); exact fr_nil; (repeat (first | exact List.nil_sublist _ | exact List.Sublist.refl _ | refine List.Sublist.cons_cons _ ?_ | refine List.Sublist.cons _ ?_)))
          · obtain rfl : r = n := by omega
            repeat' (first | (apply Jq_move; exact rfl; exact rfl) | (apply Jq_assign; exact rfl; exact rfl) | (apply Jq_load; exact rfl; exact rfl; (exact mb); (first | exact rfl)) | (apply Jq_fieldAddr; exact rfl; exact rfl) | (apply Jq_indexN; exact rfl; exact rfl; exact rfl; omega) | (apply Jq_index; exact rfl; exact rfl; exact rfl; omega; omega) | (apply Jq_indexSN; exact rfl; exact rfl; exact rfl; omega) | (apply Jq_cmp; exact rfl; exact rfl; exact rfl; exact rfl) | (apply Jq_add; exact rfl; exact rfl; exact rfl; omega) | (apply Jq_not; exact rfl; exact rfl) | (apply Jq_pick_true; exact rfl; exact rfl; exact rfl) | (apply Jq_pick_false; exact rfl; exact rfl; exact rfl) | (apply J_on; exact rfl; exact rfl) | (apply J_skip; exact rfl; exact rfl; exact rfl; exact rfl) | (apply Jq_loadW; exact rfl; exact rfl; (exact mb); (first | exact rfl | omega)) | (apply Jq_loadA; exact rfl; exact rfl; (exact mb); (first | exact rfl); (first | exact rfl | omega)) | (apply J_s1; exact rfl; exact rfl; exact rfl; infer_instance; (first | exact rfl | omega); (first | exact rfl); infer_instance) | (apply J_sW; exact rfl; exact rfl; infer_instance; (first | exact rfl | omega); (first | exact rfl | omega); (first | exact ones_of rfl | exact u8s_one _ | exact i64s_one _ | exact bls_one _ | exact gv_one _ _ _ | exact dv_one _ _ _ _ _ _); infer_instance) | (apply J_sR; exact rfl; exact rfl; exact rfl; infer_instance; (first | exact rfl | omega); (first | exact i64s_setR)) | (apply J_lit1; exact rfl; exact rfl; exact rfl; (intro _)) | (apply J_ap; exact Nat.one_pos; exact rfl; exact rfl; exact rfl; infer_instance; (first | exact rb | assumption); exact List.cons_ne_nil _ _; exact ones_of rfl; ((show (_ + 1) * _ ≤ _); omega); decide; (first | exact i64s_snoc | exact u8s_snoc | exact rfl); (intro _)) | (apply Jq_indexRN; exact rfl; exact rfl; exact rfl; (first | exact rb | assumption); omega) | (apply Jq_loadR; exact rfl; exact rfl; (first | exact rb | assumption); (first | exact rfl)) | (apply J_box; exact rfl; exact rfl; exact rfl; (intro _)) | (apply J_alloc (cs := gv 0 Z8 Z8); exact rfl; exact rfl; (intro _)) | (apply J_alloc (cs := dv 0 Z8 Z8 0 Z8 Z8); exact rfl; exact rfl; (intro _)) | (apply J_alloc (cs := u8s Z8); exact rfl; exact rfl; (intro _)) | (apply J_alloc (cs := i64s Z8); exact rfl; exact rfl; (intro _)) | (apply J_alloc (cs := bls F8); exact rfl; exact rfl; (intro _)) | (apply J_alloc; exact rfl; exact rfl; (intro _)) | (apply J_lit0; exact rfl; (intro _)) | refine thenQ_normal ?_ | refine thenQ_exit ?_ | refine thenQ_ret ?_ | refine inBlockQ_normal ?_ | refine inBlockQ_ret ?_ | refine inBlockQ_here ?_ | (apply inBlockQ_on; exact rfl) | refine JC_seq ?_ | refine JC_region ?_ | (apply JC_draw mixed; kernel_rfl) | refine J_nil ?_ | refine JC_block ?_ | refine JC_skip ?_ | refine JC_ret ?_ | refine JC_exit ?_ | (apply JC_if_true; exact rfl) | (apply JC_if_false; exact rfl) | (apply JC_dec_true; exact rfl; omega) | (apply JC_dec_false; exact rfl; omega) | (apply JC_ndec_true; exact rfl; omega) | (apply JC_ndec_false; exact rfl; omega) | (apply J_gdT; exact rfl; exact rfl; omega) | (apply J_gdF; exact rfl; exact rfl; omega) | (apply J_gnT; exact rfl; exact rfl; omega) | (apply J_gnF; exact rfl; exact rfl; omega) | refine JC_dec rfl (fun _ => ?_) (fun _ => ?_) | refine JC_ndec rfl (fun _ => ?_) (fun _ => ?_) | refine JC_if rfl (fun _ => ?_) (fun _ => ?_) | refine J_gd rfl rfl (fun _ => ?_) (fun _ => ?_) | refine J_gn rfl rfl (fun _ => ?_) (fun _ => ?_) | refine J_gb rfl rfl (fun _ => ?_) (fun _ => ?_))
            refine ⟨(i + 1, v), by dsimp only; omega, by dsimp only; omega, ?_⟩
            (refine ent ?_ ?_; (repeat refine fr_cons rfl ?_); exact fr_nil; (repeat (first | exact List.nil_sublist _ | exact List.Sublist.refl _ | refine List.Sublist.cons_cons _ ?_ | refine List.Sublist.cons _ ?_)))
      · obtain rfl : i = n := by omega
        repeat' (first | (apply Jq_move; exact rfl; exact rfl) | (apply Jq_assign; exact rfl; exact rfl) | (apply Jq_load; exact rfl; exact rfl; (exact mb); (first | exact rfl)) | (apply Jq_fieldAddr; exact rfl; exact rfl) | (apply Jq_indexN; exact rfl; exact rfl; exact rfl; omega) | (apply Jq_index; exact rfl; exact rfl; exact rfl; omega; omega) | (apply Jq_indexSN; exact rfl; exact rfl; exact rfl; omega) | (apply Jq_cmp; exact rfl; exact rfl; exact rfl; exact rfl) | (apply Jq_add; exact rfl; exact rfl; exact rfl; omega) | (apply Jq_not; exact rfl; exact rfl) | (apply Jq_pick_true; exact rfl; exact rfl; exact rfl) | (apply Jq_pick_false; exact rfl; exact rfl; exact rfl) | (apply J_on; exact rfl; exact rfl) | (apply J_skip; exact rfl; exact rfl; exact rfl; exact rfl) | (apply Jq_loadW; exact rfl; exact rfl; (exact mb); (first | exact rfl | omega)) | (apply Jq_loadA; exact rfl; exact rfl; (exact mb); (first | exact rfl); (first | exact rfl | omega)) | (apply J_s1; exact rfl; exact rfl; exact rfl; infer_instance; (first | exact rfl | omega); (first | exact rfl); infer_instance) | (apply J_sW; exact rfl; exact rfl; infer_instance; (first | exact rfl | omega); (first | exact rfl | omega); (first | exact ones_of rfl | exact u8s_one _ | exact i64s_one _ | exact bls_one _ | exact gv_one _ _ _ | exact dv_one _ _ _ _ _ _); infer_instance) | (apply J_sR; exact rfl; exact rfl; exact rfl; infer_instance; (first | exact rfl | omega); (first | exact i64s_setR)) | (apply J_lit1; exact rfl; exact rfl; exact rfl; (intro _)) | (apply J_ap; exact Nat.one_pos; exact rfl; exact rfl; exact rfl; infer_instance; (first | exact rb | assumption); exact List.cons_ne_nil _ _; exact ones_of rfl; ((show (_ + 1) * _ ≤ _); omega); decide; (first | exact i64s_snoc | exact u8s_snoc | exact rfl); (intro _)) | (apply Jq_indexRN; exact rfl; exact rfl; exact rfl; (first | exact rb | assumption); omega) | (apply Jq_loadR; exact rfl; exact rfl; (first | exact rb | assumption); (first | exact rfl)) | (apply J_box; exact rfl; exact rfl; exact rfl; (intro _)) | (apply J_alloc (cs := gv 0 Z8 Z8); exact rfl; exact rfl; (intro _)) | (apply J_alloc (cs := dv 0 Z8 Z8 0 Z8 Z8); exact rfl; exact rfl; (intro _)) | (apply J_alloc (cs := u8s Z8); exact rfl; exact rfl; (intro _)) | (apply J_alloc (cs := i64s Z8); exact rfl; exact rfl; (intro _)) | (apply J_alloc (cs := bls F8); exact rfl; exact rfl; (intro _)) | (apply J_alloc; exact rfl; exact rfl; (intro _)) | (apply J_lit0; exact rfl; (intro _)) | refine thenQ_normal ?_ | refine thenQ_exit ?_ | refine thenQ_ret ?_ | refine inBlockQ_normal ?_ | refine inBlockQ_ret ?_ | refine inBlockQ_here ?_ | (apply inBlockQ_on; exact rfl) | refine JC_seq ?_ | refine JC_region ?_ | (apply JC_draw mixed; kernel_rfl) | refine J_nil ?_ | refine JC_block ?_ | refine JC_skip ?_ | refine JC_ret ?_ | refine JC_exit ?_ | (apply JC_if_true; exact rfl) | (apply JC_if_false; exact rfl) | (apply JC_dec_true; exact rfl; omega) | (apply JC_dec_false; exact rfl; omega) | (apply JC_ndec_true; exact rfl; omega) | (apply JC_ndec_false; exact rfl; omega) | (apply J_gdT; exact rfl; exact rfl; omega) | (apply J_gdF; exact rfl; exact rfl; omega) | (apply J_gnT; exact rfl; exact rfl; omega) | (apply J_gnF; exact rfl; exact rfl; omega) | refine JC_dec rfl (fun _ => ?_) (fun _ => ?_) | refine JC_ndec rfl (fun _ => ?_) (fun _ => ?_) | refine JC_if rfl (fun _ => ?_) (fun _ => ?_) | refine J_gd rfl rfl (fun _ => ?_) (fun _ => ?_) | refine J_gn rfl rfl (fun _ => ?_) (fun _ => ?_) | refine J_gb rfl rfl (fun _ => ?_) (fun _ => ?_))
        refine n1 rfl rfl rfl ?_ rfl
        (refine ent ?_ ?_; (repeat refine fr_cons rfl ?_); exact fr_nil; (repeat (first | exact List.nil_sublist _ | exact List.Sublist.refl _ | refine List.Sublist.cons_cons _ ?_ | refine List.Sublist.cons _ ?_)))
end Go.Proofs.Ythijakignhjmgaa
