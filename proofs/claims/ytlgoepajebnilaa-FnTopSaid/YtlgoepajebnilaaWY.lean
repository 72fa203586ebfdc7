/- Walks: the self-linking numbers of a knot. -/
import Derived.Test.YtlgoepajebnilaaWX
namespace Go.Proofs.Ytlgoepajebnilaa
open Go Go.RowKit SL
namespace SL
section
variable {P : Program} {B : Nat} {w0 : World} {n : Nat} {Q : Po} {F : Fr} {H : Hp} {ops : Array Oper} {l : List Oper} {ty : TypeId} {pos : String} {af : Array Edge} {d : Nat}
theorem JcComp {f : Operand} {xs : List Operand} {Ts : Array TypeId} {k : FuncId} {args : List Value} {caps : Array Value} {m c : Nat} (hd : Nat.blt d n = true) (hf : ev F f = some (.func (.func k) #[] caps)) (hxs : evs F xs = some args) (hk : Runs P k)
    (h : ∀ w, Holds B w0 H w → GivesN P k (args ++ caps.toList).toArray (compV m c) w)
    (K : ∀ L : List Nat, (i64s L).length = 8 → L.length = 8 → (∀ j, j < m → L.getD j 0 < c) → J false P B w0 n ops Q l ((d, .tuple #[.agg (i64s L).toArray, .int .i64 (c : Int)]) :: F) H) :
    J false P B w0 n ops Q (⟨some d, .call { callee := .value f, args := xs.toArray, argTypes := Ts }, ty, pos, af, none⟩ :: l) F H :=
  JcN hd hf hxs hk h (fun v its hN => by
    obtain ⟨rfl, _⟩ := hN
    intro x hx; cases hx) fun v its hN => by
    obtain ⟨rfl, L, rfl, h1, h2⟩ := hN
    exact K L (by rw [i64s_len, h1]) h1 h2
end
end SL
/-! The numbers. -/
theorem add2 {a b c d : Int} (h : a = c) (k : b = d) : a + b = c + d := by rw [h, k]
theorem sm_two (f : Nat → Int) : ∀ n, sm f (2 * n) = sm (fun i => f (2 * i) + f (2 * i + 1)) n
  | 0 => rfl
  | n + 1 => by
    rw [show 2 * (n + 1) = 2 * n + 1 + 1 by omega, sm, sm, sm_two f n, sm]
    omega
theorem invF_of {n : Nat} {X : List Nat} (p : isPerm X n) : invF (fun i => X.getD i 0) (posF X n) n := by
  refine ⟨permF_of p, ⟨fun r hr => (p.posF_spec hr).1, fun r s hr hs e => ?_⟩, fun r hr => (p.posF_spec hr).2, fun i hi => p.posF_eq hi⟩
  have a := (p.posF_spec hr).2
  have b := (p.posF_spec hs).2
  rw [e] at a
  exact a.symm.trans b
theorem mk2_of {n : Nat} {X O : List Nat} (g : okG (n : Int) X O) : mk2 n (fun i => X.getD i 0) (posF X n) (fun i => O.getD i 0) (posF O n) := by
  obtain ⟨_, pX, pO, hne⟩ := g
  simp only [Int.toNat_natCast] at pX pO hne
  exact ⟨invF_of pX, invF_of pO, hne⟩
theorem kind0 {col row orow ocol : Nat} (h1 : orow ≠ row) (h2 : ocol ≠ col) : kindI col row orow ocol = 0 ↔ row < orow ∧ col < ocol := by
  unfold kindI; split <;> split <;> omega
theorem kind3 {col row orow ocol : Nat} : kindI col row orow ocol = 3 ↔ orow < row ∧ ocol < col := by
  unfold kindI; split <;> split <;> omega
theorem lz1T (k : Nat) : lz 1 k true = ind (k = 0) := by
  unfold lz lett ind; split <;> split <;> simp_all <;> omega
theorem lz1F (k : Nat) : lz 1 k false = ind (k = 3) := by
  unfold lz lett ind; split <;> split <;> simp_all <;> omega
theorem lz2T (k : Nat) : lz 2 k true = ind (k = 3) := by
  unfold lz lett ind; split <;> split <;> simp_all <;> omega
theorem lz2F (k : Nat) : lz 2 k false = ind (k = 0) := by
  unfold lz lett ind; split <;> split <;> simp_all <;> omega
section
variable {n : Nat} {X O : List Nat}
theorem kJ_even (n : Nat) (X O : List Nat) (i : Nat) : kJ n X O (2 * i) = kindI i (X.getD i 0) (O.getD i 0) (posF O n (X.getD i 0)) ∧ bJ (2 * i) = true := by
  rw [kJ, bJ, if_pos (by omega), show 2 * i / 2 = i by omega, decide_eq_true (by omega)]
  exact ⟨rfl, rfl⟩
theorem kJ_odd (n : Nat) (X O : List Nat) (i : Nat) : kJ n X O (2 * i + 1) = kindI i (O.getD i 0) (X.getD i 0) (posF X n (O.getD i 0)) ∧ bJ (2 * i + 1) = false := by
  rw [kJ, bJ, if_neg (by omega), show (2 * i + 1) / 2 = i by omega, decide_eq_false (by omega)]
  exact ⟨rfl, rfl⟩
theorem cL1_eq (g : okG (n : Int) X O) : cL 1 n X O (2 * n) = cU n (fun i => X.getD i 0) (posF X n) (fun i => O.getD i 0) (posF O n) := by
  have h := mk2_of g
  unfold cL cU cXSW cXNE
  rw [sm_two, ← sm_add]
  refine sm_congr fun i hi => ?_
  have a := h.ne1 hi
  have b := h.swap.ne1 hi
  have c := h.ne i hi
  rw [(kJ_even n X O i).1, (kJ_even n X O i).2, (kJ_odd n X O i).1, (kJ_odd n X O i).2, lz1T, lz1F]
  exact add2 (ind_iff (kind0 c.symm a)) (ind_iff kind3)
theorem cL2_eq (g : okG (n : Int) X O) : cL 2 n X O (2 * n) = cD n (fun i => X.getD i 0) (posF X n) (fun i => O.getD i 0) (posF O n) := by
  have h := mk2_of g
  unfold cL cD cXSW cXNE
  rw [sm_two, ← sm_add]
  refine sm_congr fun i hi => ?_
  have a := h.ne1 hi
  have b := h.swap.ne1 hi
  have c := h.ne i hi
  rw [(kJ_even n X O i).1, (kJ_even n X O i).2, (kJ_odd n X O i).1, (kJ_odd n X O i).2, lz2T, lz2F]
  exact add2 (ind_iff kind3) (ind_iff (kind0 c b))
theorem cC_eq : cC n X O (2 * n) = cL 1 n X O (2 * n) + cL 2 n X O (2 * n) := by
  unfold cC cL
  rw [← sm_add]
  refine sm_congr fun j _ => ?_
  generalize kJ n X O j = k
  cases bJ j
  · rw [lz1F, lz2F]; unfold cz ind; split <;> split <;> split <;> omega
  · rw [lz1T, lz2T]; unfold cz ind; split <;> split <;> split <;> omega
def wrG (n : Nat) (X O : List Nat) : Int := sm (fun i => sm (sgN n X O i) n) n
theorem wrG_bd (h8 : n ≤ 8) : -64 ≤ wrG n X O ∧ wrG n X O ≤ 64 := by
  have h64 := nn_le h8
  have hl := crA_len n X O n
  have := sgs_bd (crA_small n X O n) _ (Nat.le_refl _)
  rw [List.take_length, crA_sum] at this
  unfold wrG
  omega
def mX (n : Nat) (X O : List Nat) : Int := mas n (fun i => X.getD i 0) (fun i => O.getD i 0)
/-- What the numbers are. -/
theorem selfs (g : okG (n : Int) X O) : ∃ h q : Int, (cC n X O (2 * n)).tdiv 2 = h ∧ (cL 2 n X O (2 * n) - cL 1 n X O (2 * n)).tdiv 2 = q ∧ -16 ≤ h ∧ h ≤ 16 ∧ -16 ≤ q ∧ q ≤ 16 ∧
    (- wrG n X O - h) - q = mX n O X - 1 ∧ (- wrG n X O - h) + q = mX n X O - 1 := by
  have m := mk2_of g
  have hn := g.1
  obtain ⟨k, hk⟩ := even_eq m
  have a := cL1_eq g
  have b := cL2_eq g
  have c := cC_eq (n := n) (X := X) (O := O)
  have d := wu_eq m
  have e := wd_eq m
  have f : wrG n X O = wr n (fun i => X.getD i 0) (posF X n) (fun i => O.getD i 0) (posF O n) := rfl
  have c1 := cL_bd 1 n X O (2 * n)
  have c2 := cL_bd 2 n X O (2 * n)
  unfold mX
  rw [f]
  rw [← a, ← b] at hk
  rw [← a] at d
  rw [← b] at e
  rw [c, hk]
  generalize cL 1 n X O (2 * n) = U at *
  generalize cL 2 n X O (2 * n) = D at *
  have e1 : (2 * k).tdiv 2 = k := Int.mul_tdiv_cancel_left k (by decide)
  have e2 : (D - U).tdiv 2 = k - U := by
    rw [show D - U = 2 * (k - U) by omega]
    exact Int.mul_tdiv_cancel_left _ (by decide)
  exact ⟨k, k - U, e1, e2, by omega, by omega, by omega, by omega, by omega, by omega⟩
end
set_option maxRecDepth 100000 in
theorem fnumbers_gives (c u d v h q : Int) (bw : -1000 ≤ v ∧ v ≤ 1000) (bu : 0 ≤ u ∧ u ≤ 1000) (bd : 0 ≤ d ∧ d ≤ 1000) (hh : c.tdiv 2 = h) (hq : (d - u).tdiv 2 = q) (bh : -1000 ≤ h ∧ h ≤ 1000) (bq : -1000 ≤ q ∧ q ≤ 1000) (w : World) :
    GivesN Try.prog 116 #[.agg [.int .i64 c, .int .i64 u, .int .i64 d].toArray, .int .i64 v] (isRow 2 1 [.int .i64 (-v - h), .int .i64 q]) w := by
  generalize hl : [Value.int .i64 c, .int .i64 u, .int .i64 d] = l at *
  refine givesN_of (args := [.agg l.toArray, .int .i64 v]) [(0, .agg l.toArray), (1, .int .i64 v)] [] Try.func116 rfl Try.ntmps116 rfl (argsF_cons rfl (argsF_cons rfl argsF_nil)) (Holds.start w) ?_
  subst hl
  repeat' (first | (apply Jq_quoR; exact rfl; exact rfl; exact rfl; decide; (first | exact hh | exact hq); omega) | (apply J_lit2; exact rfl; exact rfl; exact rfl; exact rfl; exact rfl; (intro _)) | (apply Jq_move; exact rfl; exact rfl) | (apply Jq_assign; exact rfl; exact rfl) | (apply Jq_load; exact rfl; exact rfl; (exact mb); (first | exact rfl)) | (apply Jq_fieldAddr; exact rfl; exact rfl) | (apply Jq_sub; exact rfl; exact rfl; exact rfl; omega) | (apply Jq_loadW; exact rfl; exact rfl; (exact mb); (first | exact rfl | omega)) | (apply Jq_loadA; exact rfl; exact rfl; (exact mb); (first | exact rfl); (first | exact rfl | omega)) | (apply Jq_loadR; exact rfl; exact rfl; (first | exact rb | assumption); (first | exact rfl)) | (apply J_box; exact rfl; exact rfl; exact rfl; (intro _)) | (apply Jq_neg; exact rfl; exact rfl; omega) | refine thenQ_normal ?_ | refine thenQ_exit ?_ | refine thenQ_ret ?_ | refine inBlockQ_normal ?_ | refine inBlockQ_ret ?_ | refine inBlockQ_here ?_ | (apply inBlockQ_on; exact rfl) | refine JC_seq ?_ | refine JC_region ?_ | refine J_nil ?_ | refine JC_block ?_ | refine JC_skip ?_ | refine JC_ret ?_ | refine JC_exit ?_)
  refine n1 rfl rfl rfl ?_ rfl
  (refine ent ?_ ?_; (repeat refine fr_cons rfl ?_); exact fr_nil; (repeat (first | exact List.nil_sublist _ | exact List.Sublist.refl _ | refine List.Sublist.cons_cons _ ?_ | refine List.Sublist.cons _ ?_)))
set_option maxRecDepth 100000 in
theorem numbers_gives (n : Nat) (X O : List Nat) (h q : Int) (bX : isB X) (bO : isB O) (g : okG (n : Int) X O) (hh : (cC n X O (2 * n)).tdiv 2 = h) (hq : (cL 2 n X O (2 * n) - cL 1 n X O (2 * n)).tdiv 2 = q) (bh : -16 ≤ h ∧ h ≤ 16) (bq : -16 ≤ q ∧ q ≤ 16) (w : World) :
    GivesN Try.prog 87 #[.agg (gv n X O).toArray] (isRow 2 1 [.int .i64 (-wrG n X O - h), .int .i64 q]) w := by
  have hn := g.1
  have ug := gv_len (n := n) bX.1 bO.1
  have c1 := cL_bd 1 n X O (2 * n)
  have c2 := cL_bd 2 n X O (2 * n)
  have hw := wrG_bd (n := n) (X := X) (O := O) (by omega)
  unfold wrG at *
  refine givesN_of (args := [.agg (gv n X O).toArray]) [(0, .agg (gv n X O).toArray)] [] Try.func87 rfl Try.ntmps87 rfl (argsF_cons rfl argsF_nil) (Holds.start w) ?_
  repeat' (first | (apply Jq_assign; exact rfl; exact rfl) | (apply Jq_load; exact rfl; exact rfl; (exact mb); (first | exact rfl)) | (apply Jq_loadW; exact rfl; exact rfl; (exact mb); (first | exact rfl | omega)) | (apply Jq_loadA; exact rfl; exact rfl; (exact mb); (first | exact rfl); (first | exact rfl | omega)) | (apply Jq_loadR; exact rfl; exact rfl; (first | exact rb | assumption); (first | exact rfl)) | (apply J_box; exact rfl; exact rfl; exact rfl; (intro _)) | refine thenQ_normal ?_ | refine thenQ_exit ?_ | refine thenQ_ret ?_ | refine inBlockQ_normal ?_ | refine inBlockQ_ret ?_ | refine inBlockQ_here ?_ | (apply inBlockQ_on; exact rfl) | refine JC_seq ?_ | refine JC_region ?_ | refine J_nil ?_ | refine JC_block ?_ | refine JC_skip ?_ | refine JC_ret ?_ | refine JC_exit ?_)
  rename_i b1
  refine JC_cutT (Y := Value) (fun _ => True) (fun v => [(2, v)]) (fun v => [.row v 2 1 [.int .i64 (-wrG n X O - h), .int .i64 q]]) ?_ ?_
  ·
    refine JC_any (m := 6) rfl _ mixed (fun _ h => h) ?_
    (apply JF_q 0; exact rfl; kernel_rfl; exact rfl; (intro E hE; (first | (apply q_load; exact rfl; (refine hE _ ?_; exact mb); (first | exact rfl)) | (apply q_loadW; exact rfl; (refine hE _ ?_; exact mb); (first | exact rfl | omega)) | (apply q_loadA; exact rfl; (refine hE _ ?_; exact mb); (first | exact rfl); (first | exact rfl | omega)) | (apply q_loadR; exact rfl; (refine hE _ ?_; exact rb); (first | exact rfl)))))
    (apply JF_q 1; exact rfl; kernel_rfl; exact rfl; (intro E hE; (first | (apply q_callE; exact rfl; exact rfl; infer_instance; ((intro w hw); first | exact front_gives n X O bX bO g w | exact writhe_gives n X O bX bO g w)))))
    (apply JF_q 2; exact rfl; kernel_rfl; exact rfl; (intro E hE; (first | (apply q_load; exact rfl; (refine hE _ ?_; exact mb); (first | exact rfl)) | (apply q_loadW; exact rfl; (refine hE _ ?_; exact mb); (first | exact rfl | omega)) | (apply q_loadA; exact rfl; (refine hE _ ?_; exact mb); (first | exact rfl); (first | exact rfl | omega)) | (apply q_loadR; exact rfl; (refine hE _ ?_; exact rb); (first | exact rfl)))))
    (apply JF_q 3; exact rfl; kernel_rfl; exact rfl; (intro E hE; (first | (apply q_callE; exact rfl; exact rfl; infer_instance; ((intro w hw); first | exact front_gives n X O bX bO g w | exact writhe_gives n X O bX bO g w)))))
    (apply JF_all [4]; kernel_rfl)
    (apply JFs_cons; exact rfl)
    · (first | (apply Jc; exact rfl; exact rfl; exact rfl; infer_instance; ((intro w hw); first | exact front_gives n X O bX bO g w | exact writhe_gives n X O bX bO g w)) | (apply JcR; exact rfl; exact rfl; exact rfl; infer_instance; ((intro w hw); first | exact fnumbers_gives _ _ _ _ _ _ (by omega) (by omega) (by omega) hh hq (by omega) (by omega) w); (intro _)))
      (apply J_nil; apply JF_end; ((repeat (apply sub_cons; (focus ((with_reducible (repeat (first | exact m0 | assumption | refine mS ?_))); done)))); exact sub_nil))
      (apply JF_q 5; exact rfl; kernel_rfl; exact rfl; (intro E hE; (first | (apply q_assign; exact rfl))))
      (apply JF_done; kernel_rfl)
      (apply thenQ_normal; apply ex1; refine ⟨trivial, ?_⟩; (refine entP (ent ?_ (List.nil_sublist _)) ?_; (repeat refine fr_cons rfl ?_); exact fr_nil; (repeat (first | exact sp_nil | (with_reducible apply sp0) | (with_reducible apply sp1) | (with_reducible apply sp2) | (with_reducible apply sp3) | (with_reducible apply sp4) | (with_reducible apply sp5) | (with_reducible apply sp6) | (with_reducible apply sp7) | apply sp0 | apply sp1 | apply sp2 | apply sp3 | apply sp4 | apply sp5))))
    exact JFs_nil
  · intro v _
    repeat' (first | (apply Jq_assign; exact rfl; exact rfl) | (apply Jq_load; exact rfl; exact rfl; (exact mb); (first | exact rfl)) | (apply Jq_loadW; exact rfl; exact rfl; (exact mb); (first | exact rfl | omega)) | (apply Jq_loadA; exact rfl; exact rfl; (exact mb); (first | exact rfl); (first | exact rfl | omega)) | (apply Jq_loadR; exact rfl; exact rfl; (first | exact rb | assumption); (first | exact rfl)) | (apply J_box; exact rfl; exact rfl; exact rfl; (intro _)) | refine thenQ_normal ?_ | refine thenQ_exit ?_ | refine thenQ_ret ?_ | refine inBlockQ_normal ?_ | refine inBlockQ_ret ?_ | refine inBlockQ_here ?_ | (apply inBlockQ_on; exact rfl) | refine JC_seq ?_ | refine JC_region ?_ | (apply JC_draw mixed; kernel_rfl) | refine J_nil ?_ | refine JC_block ?_ | refine JC_skip ?_ | refine JC_ret ?_ | refine JC_exit ?_)
    refine n1 rfl rfl rfl ?_ rfl
    (refine ent ?_ ?_; (repeat refine fr_cons rfl ?_); exact fr_nil; (repeat (first | exact List.nil_sublist _ | exact List.Sublist.refl _ | refine List.Sublist.cons_cons _ ?_ | refine List.Sublist.cons _ ?_)))
end Go.Proofs.Ytlgoepajebnilaa
