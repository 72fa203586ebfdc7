/- Walks: all states of a size: a closure that calls itself and appends to a row. Walks: states. -/
import Derived.Test.YtmbbcmebdefggaaGreatDoorYB
import Derived.Test.YtmbbcmebdefggaaGreatDoorAP
namespace Go.Proofs.YtmbbcmebdefggaaGreatDoor
open Go Go.RowKit SL
namespace SL
section
variable {P : Program} {B : Nat} {w0 : World} {n : Nat} {Q : Po} {F : Fr} {H H' : Hp} {ops : Array Oper} {l : List Oper} {ty : TypeId} {pos : String} {af : Array Edge} {d : Nat} {dst : Option Tmp} {g : Option (Nat × Bool)} {fn : Func} {v : Value} {e : Exit}
/-- A slice stored, behind which a row lies. -/
theorem J_s1r {T : TypeId} {x y : Operand} {b o : Nat} {cs cs' : List Value} {E : TypeId} {v : Value} {e' sz : Nat} {xs : List Value} [hT : IsSc P T] (hx : ev F x = some (.pointer (some ⟨b, o, none⟩))) (hy : ev F y = some v) (hr : It.row v e' sz xs ∈ H) (_hm : MB b H cs E)
    (hl : o < cs.length) (hcs : cs.set o v = cs') (hu : MU b H cs E cs' H') (k : J false P B w0 n ops Q l F H') : J false P B w0 n ops Q (⟨none, .store T x y, ty, pos, af, none⟩ :: l) F H := by
  unfold J at *
  intro a w ha hw
  have hv : v.oneCell' = true := by
    obtain ⟨m, _, h2⟩ := hw.row_slice hr
    rcases h2 with ⟨rfl, _⟩ | ⟨_, _, _, rfl, _⟩ <;> rfl
  have h1 := J_s1 (P := P) (B := B) (w0 := w0) (n := n) (Q := Q) (F := F) (H := H) (ops := ops) (l := l) (ty := ty) (pos := pos) (af := af) (hT := hT) hx hy hv _hm hl hcs hu (by unfold J; exact k)
  unfold J at h1
  exact h1 a w ha hw
theorem q_shrN {T T' : TypeId} {x y : Operand} {k : IntKind} {a i q : Nat} (hx : ev F x = some (.int .i64 (a : Int))) (hy : ev F y = some (.int k (i : Int))) (hi : i ≤ 64) (hq : a / 2 ^ i = q) :
    OpQ P B w0 n H F ⟨dst, .binOp .shr T x y T', ty, pos, af, g⟩ (.int .i64 (q : Int)) := by
  subst hq
  have h := q_shr (P := P) (B := B) (w0 := w0) (n := n) (H := H) (F := F) (T := T) (T' := T') (ty := ty) (pos := pos) (af := af) (dst := dst) (g := g) hx hy
  have e : ((a : Int).fdiv (2 ^ (min i IntKind.i64.bits))) = ((a / 2 ^ i : Nat) : Int) := by
    have h2 : (2 : Int) ^ i = ((2 ^ i : Nat) : Int) := by simp
    rw [show min i IntKind.i64.bits = i from Nat.min_eq_left hi, h2, Int.fdiv_eq_ediv_of_nonneg _ (Int.natCast_nonneg _)]
    exact (Int.natCast_ediv a (2 ^ i)).symm
  rwa [e] at h
theorem Jq_shrN {dr : Bool} {T T' : TypeId} {x y : Operand} {k : IntKind} {a i q : Nat} (hdn : Nat.blt d n = true) (hx : ev F x = some (.int .i64 (a : Int))) (hy : ev F y = some (.int k (i : Int))) (hi : i ≤ 64) (hq : a / 2 ^ i = q) (kk : J dr P B w0 n ops Q l ((d, .int .i64 (q : Int)) :: F) H) :
    J dr P B w0 n ops Q (⟨some d, .binOp .shr T x y T', ty, pos, af, none⟩ :: l) F H := J_q hdn (q_shrN hx hy hi hq) kk
theorem q_and1 {T T' : TypeId} {x y : Operand} {a : Nat} (hx : ev F x = some (.int .i64 (a : Int))) (hy : ev F y = some (.int .i64 1)) (ha : a < 2 ^ 63) :
    OpQ P B w0 n H F ⟨dst, .binOp .and T x y T', ty, pos, af, g⟩ (.int .i64 ((a % 2 : Nat) : Int)) :=
  q_bin hx hy fun w => by
    have h2 : IntKind.i64.wrap ((a % 2 : Nat) : Int) = ((a % 2 : Nat) : Int) := wrap_in (by omega)
    have e : (BitVec.ofInt 64 (a : Int) &&& BitVec.ofInt 64 1).toNat = a % 2 := by
      rw [BitVec.toNat_and, BitVec.ofInt_natCast, BitVec.toNat_ofNat, Nat.mod_eq_of_lt (by omega)]
      exact Nat.and_one_is_mod a
    rw [eqGuard_int]
    simp only [binOp_and, Op.intBits, Sem.run_bind, Sem.run_pure, Result.andThen_ok]
    show Result.ok (Value.int .i64 (IntKind.i64.wrap ((BitVec.ofInt 64 (a : Int) &&& BitVec.ofInt 64 1).toNat : Int))) w = _
    rw [e, h2]
theorem Jq_and1 {dr : Bool} {T T' : TypeId} {x y : Operand} {a : Nat} (hdn : Nat.blt d n = true) (hx : ev F x = some (.int .i64 (a : Int))) (hy : ev F y = some (.int .i64 1)) (ha : a < 2 ^ 63) (kk : J dr P B w0 n ops Q l ((d, .int .i64 ((a % 2 : Nat) : Int)) :: F) H) :
    J dr P B w0 n ops Q (⟨some d, .binOp .and T x y T', ty, pos, af, none⟩ :: l) F H := J_q hdn (q_and1 hx hy ha) kk
end
end SL
/-- The states that go on from the first entries of x, in order. -/
def stF (n : Nat) : Nat → List Nat → Nat → Nat → List (List Nat)
  | 0, x, _, _ => [x]
  | f + 1, x, i, used => (List.range n).flatMap fun r => if used / 2 ^ r % 2 = 0 then stF n f (x.set i r) (i + 1) (used ||| 2 ^ r) else []
def flatS (l : List (List Nat)) : List Value := l.flatMap u8s
theorem stF_count (n : Nat) : ∀ (f : Nat) (x : List Nat) (i used : Nat), (stF n f x i used).length ≤ n ^ f
  | 0, x, _, _ => by simp [stF]
  | f + 1, x, i, used => by
    rw [stF, List.length_flatMap]
    have h : ∀ k, ((List.range k).map fun r => (if used / 2 ^ r % 2 = 0 then stF n f (x.set i r) (i + 1) (used ||| 2 ^ r) else []).length).sum ≤ k * n ^ f := by
      intro k
      induction k with
      | zero => simp
      | succ k ih =>
        rw [List.range_succ, List.map_append, List.sum_append, Nat.succ_mul]
        refine Nat.add_le_add ih ?_
        simp only [List.map_cons, List.map_nil, List.sum_cons, List.sum_nil, Nat.add_zero]
        split
        · exact stF_count n f _ _ _
        · exact Nat.zero_le _
    have := h n
    rw [Nat.pow_succ, Nat.mul_comm]
    exact this
theorem pre_mono (G : Nat → List Value) {k n : Nat} (h : k ≤ n) : ((List.range k).flatMap G).length ≤ ((List.range n).flatMap G).length := by
  have e : n = k + (n - k) := by omega
  rw [List.range_eq_range', List.range_eq_range', e, ← List.range'_append_1, List.flatMap_append, List.length_append]
  omega
theorem pre_succ (G : Nat → List Value) (k : Nat) : (List.range (k + 1)).flatMap G = (List.range k).flatMap G ++ G k := by
  rw [List.range_succ, List.flatMap_append]; simp
set_option maxRecDepth 100000 in
theorem put_gives (n : Nat) (h8 : n ≤ 8) (B : Nat) (w0 : World) (bn bo bp : Nat) (E1 E2 E3 : TypeId) : ∀ (f i : Nat), i + f = n → ∀ (x : List Nat) (used : Nat), isB x → used < 256 → ∀ (xs : List Value) (H2 : Hp) (v : Value), xs.length + (flatS (stF n f x i used)).length ≤ 1000000000 →
    GivesE Tryz.prog 124 #[.agg (u8s x).toArray, .int .i64 (i : Int), .int .i64 (used : Int), .pointer (some ⟨bn, 0, none⟩), .pointer (some ⟨bo, 0, none⟩), .pointer (some ⟨bp, 0, none⟩)] B w0
      (.blk bo [v] E2 :: .row v 72 8 xs :: .blk bp [.func (.func 124) #[] #[.pointer (some ⟨bn, 0, none⟩), .pointer (some ⟨bo, 0, none⟩), .pointer (some ⟨bp, 0, none⟩)]] E3 :: .blk bn [.int .i64 (n : Int)] E1 :: H2)
      (fun v' H' => v' = .tuple #[] ∧ ∃ u, H' = .blk bo [u] E2 :: .row u 72 8 (xs ++ flatS (stF n f x i used)) :: .blk bp [.func (.func 124) #[] #[.pointer (some ⟨bn, 0, none⟩), .pointer (some ⟨bo, 0, none⟩), .pointer (some ⟨bp, 0, none⟩)]] E3 :: .blk bn [.int .i64 (n : Int)] E1 :: H2) := by
  intro f
  induction f with
  | zero =>
    intro i hi x used bx hu xs H2 v hl
    obtain rfl : i = n := by omega
    have ux := (u8s_len x).trans bx.1
    have hxl : xs.length ≤ 1000000000 := by omega
    refine givesE_of (args := [.agg (u8s x).toArray, .int .i64 (i : Int), .int .i64 (used : Int), .pointer (some ⟨bn, 0, none⟩), .pointer (some ⟨bo, 0, none⟩), .pointer (some ⟨bp, 0, none⟩)]) [(0, .agg (u8s x).toArray), (1, .int .i64 (i : Int)), (2, .int .i64 (used : Int)), (3, .pointer (some ⟨bn, 0, none⟩)), (4, .pointer (some ⟨bo, 0, none⟩)), (5, .pointer (some ⟨bp, 0, none⟩))] Tryz.func124 rfl Tryz.ntmps124 rfl (argsF_cons rfl (argsF_cons rfl (argsF_cons rfl (argsF_cons rfl (argsF_cons rfl (argsF_cons rfl argsF_nil)))))) ?_
    have hne : u8s x ≠ [] := fun e => by rw [e] at ux; cases ux
    repeat' (first | (apply J_ap; decide; exact rfl; exact rfl; exact rfl; infer_instance; exact rb; exact hne; exact u8s_one _; ((show (_ + _) * _ ≤ _); omega); decide; exact rfl; (intro _)) | (apply J_s1r; exact rfl; exact rfl; (focus (repeat (first | exact m0 | refine mS ?_))); infer_instance; exact Nat.one_pos; exact rfl; infer_instance) | (apply Jq_move; exact rfl; exact rfl) | (apply Jq_load; exact rfl; exact rfl; (exact mb); (exact rfl)) | (apply Jq_cmp; exact rfl; exact rfl; exact rfl; exact rfl) | (apply Jq_loadW; exact rfl; exact rfl; (exact mb); (omega)) | (apply J_box; exact rfl; exact rfl; exact rfl; (intro _)) | (apply J_lit1s; exact rfl; exact rfl; (omega); decide; decide; (intro _)) | refine thenQ_normal ?_ | refine thenQ_ret ?_ | refine JC_seq ?_ | refine JC_region ?_ | refine J_nil ?_ | refine JC_ret ?_ | (apply JC_dec_true; exact rfl; omega))
    rename_i u
    have e : flatS (stF i 0 x i used) = u8s x := by simp [flatS, stF]
    rw [e]
    refine e0 (H' := .blk bo [u] E2 :: .row u 72 8 (xs ++ u8s x) :: .blk bp [.func (.func 124) #[] #[.pointer (some ⟨bn, 0, none⟩), .pointer (some ⟨bo, 0, none⟩), .pointer (some ⟨bp, 0, none⟩)]] E3 :: .blk bn [.int .i64 (i : Int)] E1 :: H2) rfl rfl ?_ ⟨rfl, u, rfl⟩
    (refine ent ?_ ?_; (repeat refine fr_cons rfl ?_); exact fr_nil; (repeat (first | exact List.nil_sublist _ | exact List.Sublist.refl _ | refine List.Sublist.cons_cons _ ?_ | refine List.Sublist.cons _ ?_)))
  | succ f ih =>
    intro i hi x used bx hu xs H2 v hl
    have ux := (u8s_len x).trans bx.1
    obtain ⟨G, hG⟩ : ∃ G : Nat → List Value, G = fun r => flatS (if used / 2 ^ r % 2 = 0 then stF n f (x.set i r) (i + 1) (used ||| 2 ^ r) else []) := ⟨_, rfl⟩
    have he0 : flatS (stF n (f + 1) x i used) = (List.range n).flatMap G := by
      rw [hG, stF, flatS, List.flatMap_assoc]; rfl
    rw [he0] at hl ⊢
    refine givesE_of (args := [.agg (u8s x).toArray, .int .i64 (i : Int), .int .i64 (used : Int), .pointer (some ⟨bn, 0, none⟩), .pointer (some ⟨bo, 0, none⟩), .pointer (some ⟨bp, 0, none⟩)]) [(0, .agg (u8s x).toArray), (1, .int .i64 (i : Int)), (2, .int .i64 (used : Int)), (3, .pointer (some ⟨bn, 0, none⟩)), (4, .pointer (some ⟨bo, 0, none⟩)), (5, .pointer (some ⟨bp, 0, none⟩))] Tryz.func124 rfl Tryz.ntmps124 rfl (argsF_cons rfl (argsF_cons rfl (argsF_cons rfl (argsF_cons rfl (argsF_cons rfl (argsF_cons rfl argsF_nil)))))) ?_
    repeat' (first | (apply Jq_move; exact rfl; exact rfl) | (apply Jq_load; exact rfl; exact rfl; (exact mb); (exact rfl)) | (apply Jq_cmp; exact rfl; exact rfl; exact rfl; exact rfl) | (apply J_box; exact rfl; exact rfl; exact rfl; (intro _)) | refine thenQ_normal ?_ | refine JC_seq ?_ | refine JC_region ?_ | refine J_nil ?_ | refine JC_block ?_ | refine JC_skip ?_ | (apply JC_dec_false; exact rfl; omega))
    rename_i b6
    refine JC_loop (X := Nat × Value × List Nat) (fun p => p.1 ≤ n ∧ isB p.2.2 ∧ ∀ q, p.2.2.set i q = x.set i q) (fun p => [(18, .int .i64 (p.1 : Int)), (17, .int .i64 (n : Int)), (1, .int .i64 (i : Int)), (2, .int .i64 (used : Int)), (3, .pointer (some ⟨bn, 0, none⟩)), (4, .pointer (some ⟨bo, 0, none⟩)), (5, .pointer (some ⟨bp, 0, none⟩)), (6, .pointer (some ⟨b6, 0, none⟩))]) (fun p => .blk bo [p.2.1] E2 :: .row p.2.1 72 8 (xs ++ (List.range p.1).flatMap G) :: .blk bp [.func (.func 124) #[] #[.pointer (some ⟨bn, 0, none⟩), .pointer (some ⟨bo, 0, none⟩), .pointer (some ⟨bp, 0, none⟩)]] E3 :: .blk bn [.int .i64 (n : Int)] E1 :: .blk b6 (u8s p.2.2) 72 :: H2) (fun p => n - p.1) (0, v, x) ⟨Nat.zero_le _, bx, fun q => rfl⟩ ?_ ?_
    · dsimp only
      rw [List.range_zero, List.flatMap_nil, List.append_nil]
      (refine entP (ent ?_ (List.nil_sublist _)) ?_; (repeat refine fr_cons rfl ?_); exact fr_nil; (repeat (first | exact sp_refl | (with_reducible apply sp1))))
    · rintro ⟨r, u, y⟩ ⟨hr, by', hy⟩
      dsimp only at hr by' hy ⊢
      have uy := (u8s_len y).trans by'.1
      by_cases hlt : r < n
      · have h2r : 2 ^ r < 256 := (Nat.pow_lt_pow_right (by decide) (by omega) : 2 ^ r < 2 ^ 8)
        have hmono := pre_mono G (show r + 1 ≤ n by omega)
        rw [pre_succ, List.length_append] at hmono
        by_cases hfree : used / 2 ^ r % 2 = 0
        · have hGr : G r = flatS (stF n f (x.set i r) (i + 1) (used ||| 2 ^ r)) := by rw [hG]; simp only [hfree, if_true]
          have hor : used ||| 2 ^ r < 256 := Nat.or_lt_two_pow (n := 8) hu h2r
          have e : xs ++ (List.range (r + 1)).flatMap G = xs ++ (List.range r).flatMap G ++ flatS (stF n f (x.set i r) (i + 1) (used ||| 2 ^ r)) := by rw [pre_succ, hGr, List.append_assoc]
          have hbd : (xs ++ (List.range r).flatMap G).length + (flatS (stF n f (x.set i r) (i + 1) (used ||| 2 ^ r))).length ≤ 1000000000 := by
            rw [List.length_append, ← hGr]; omega
          have bx' : isB (x.set i r) := isB_set bx (by omega)
          have ux' := (u8s_len (x.set i r)).trans bx'.1
          have hdv : used / 2 ^ r < 2 ^ 63 := Nat.lt_of_le_of_lt (Nat.div_le_self _ _) (by omega)
          generalize hq : used / 2 ^ r = qq at hfree hdv
          repeat' (first | (apply Jq_shrN; exact rfl; exact rfl; exact rfl; omega; exact hq) | (apply Jq_and1; exact rfl; exact rfl; exact rfl; omega) | (apply Jq_conv; exact rfl; exact rfl; exact wrap8 (by omega)) | (apply Jq_move; exact rfl; exact rfl) | (apply Jq_assign; exact rfl; exact rfl) | (apply Jq_indexN; exact rfl; exact rfl; exact rfl; omega) | (apply Jq_cmp; exact rfl; exact rfl; exact rfl; exact rfl) | (apply J_s1; exact rfl; exact rfl; exact rfl; infer_instance; (omega); (exact u8s_set.trans (congrArg u8s (hy r))); infer_instance) | refine thenQ_normal ?_ | refine JC_seq ?_ | refine JC_region ?_ | refine J_nil ?_ | refine JC_block ?_ | refine JC_skip ?_ | (apply JC_dec_true; exact rfl; omega))
          refine JC_any (m := 9) rfl [.blk b6 (u8s (x.set i r)) 72, .blk bp [.func (.func 124) #[] #[.pointer (some ⟨bn, 0, none⟩), .pointer (some ⟨bo, 0, none⟩), .pointer (some ⟨bp, 0, none⟩)]] E3] mixed (by ((repeat (apply sub_cons; (focus ((with_reducible (repeat (first | exact m0 | refine mS ?_))); done)))); exact sub_nil)) ?_
          (apply JF_q 0; exact rfl; kernel_rfl; exact rfl; (intro E hE; (apply q_load; exact rfl; (refine hE _ ?_; exact mb); (exact rfl))))
          (apply JF_q 1; exact rfl; kernel_rfl; exact rfl; (intro E hE; (apply q_loadW; exact rfl; (refine hE _ ?_; exact mb); (omega))))
          (apply JF_q 2; exact rfl; kernel_rfl; exact rfl; (intro E hE; (apply q_move; exact rfl)))
          (apply JF_q 3; exact rfl; kernel_rfl; exact rfl; (intro E hE; (apply q_add; exact rfl; exact rfl; omega)))
          (apply JF_q 4; exact rfl; kernel_rfl; exact rfl; (intro E hE; (apply q_move; exact rfl)))
          (apply JF_q 5; exact rfl; kernel_rfl; exact rfl; (intro E hE; (apply q_move; exact rfl)))
          (apply JF_q 6; exact rfl; kernel_rfl; exact rfl; (intro E hE; (apply q_shl1; exact rfl; exact rfl; omega)))
          (apply JF_q 7; exact rfl; kernel_rfl; exact rfl; (intro E hE; (apply q_or; exact rfl; exact rfl; omega; omega)))
          (apply JF_all [8]; kernel_rfl)
          (apply JFs_cons; exact rfl)
          · ((apply JcEcP (H1 := .blk bo [u] E2 :: .row u 72 8 (xs ++ (List.range r).flatMap G) :: .blk bp [.func (.func 124) #[] #[.pointer (some ⟨bn, 0, none⟩), .pointer (some ⟨bo, 0, none⟩), .pointer (some ⟨bp, 0, none⟩)]] E3 :: .blk bn [.int .i64 (n : Int)] E1 :: .blk b6 (u8s (x.set i r)) 72 :: H2); exact rfl; exact rfl; exact rfl; infer_instance; (refine entP (ent ?_ (List.nil_sublist _)) ?_; (repeat refine fr_cons rfl ?_); exact fr_nil; (repeat (exact sp_refl))); (exact ih (i + 1) (by omega) (x.set i r) _ bx' hor _ _ _ hbd); (intro v' H' hV; obtain ⟨rfl, u', rfl⟩ := hV)))
            (apply J_nil; apply JF_end; ((repeat (apply sub_cons; (focus ((with_reducible (repeat (first | exact m0 | refine mS ?_))); done)))); exact sub_nil))
            (apply JF_done; kernel_rfl)
            ((repeat' (first | (apply Jq_move; exact rfl; exact rfl) | (apply Jq_add; exact rfl; exact rfl; exact rfl; omega) | refine thenQ_normal ?_ | refine inBlockQ_normal ?_ | refine JC_region ?_ | refine J_nil ?_)); refine ⟨(r + 1, u', x.set i r), ⟨by (dsimp only; omega), bx', fun q => List.set_set _⟩, by (dsimp only; omega), ?_⟩; dsimp only; rw [e]; (refine entP (ent ?_ (List.nil_sublist _)) ?_; (repeat refine fr_cons rfl ?_); exact fr_nil; (repeat (exact sp_refl))))
          exact JFs_nil
        · have hGr : G r = [] := by rw [hG]; simp only [hfree, if_false]; rfl
          have e : xs ++ (List.range (r + 1)).flatMap G = xs ++ (List.range r).flatMap G := by rw [pre_succ, hGr, List.append_nil]
          have hdv : used / 2 ^ r < 2 ^ 63 := Nat.lt_of_le_of_lt (Nat.div_le_self _ _) (by omega)
          generalize hq : used / 2 ^ r = qq at hfree hdv
          repeat' (first | (apply Jq_shrN; exact rfl; exact rfl; exact rfl; omega; exact hq) | (apply Jq_and1; exact rfl; exact rfl; exact rfl; omega) | (apply Jq_move; exact rfl; exact rfl) | (apply Jq_assign; exact rfl; exact rfl) | (apply Jq_cmp; exact rfl; exact rfl; exact rfl; exact rfl) | (apply Jq_add; exact rfl; exact rfl; exact rfl; omega) | refine thenQ_normal ?_ | refine inBlockQ_normal ?_ | refine JC_seq ?_ | refine JC_region ?_ | refine J_nil ?_ | refine JC_block ?_ | refine JC_skip ?_ | (apply JC_dec_true; exact rfl; omega) | (apply JC_dec_false; exact rfl; omega))
          refine ⟨(r + 1, u, y), ⟨by dsimp only; omega, by', hy⟩, by dsimp only; omega, ?_⟩
          dsimp only
          rw [e]
          (refine entP (ent ?_ (List.nil_sublist _)) ?_; (repeat refine fr_cons rfl ?_); exact fr_nil; (repeat (exact sp_refl)))
      · obtain rfl : r = n := by omega
        repeat' (first | (apply Jq_cmp; exact rfl; exact rfl; exact rfl; exact rfl) | refine thenQ_normal ?_ | refine thenQ_exit ?_ | refine inBlockQ_here ?_ | refine JC_seq ?_ | refine JC_region ?_ | refine J_nil ?_ | refine JC_exit ?_ | (apply JC_dec_false; exact rfl; omega))
        refine e0 (H' := .blk bo [u] E2 :: .row u 72 8 (xs ++ (List.range r).flatMap G) :: .blk bp [.func (.func 124) #[] #[.pointer (some ⟨bn, 0, none⟩), .pointer (some ⟨bo, 0, none⟩), .pointer (some ⟨bp, 0, none⟩)]] E3 :: .blk bn [.int .i64 (r : Int)] E1 :: H2) rfl rfl ?_ ⟨rfl, u, rfl⟩
        (refine ent ?_ ?_; (repeat refine fr_cons rfl ?_); exact fr_nil; (repeat (first | exact List.Sublist.refl _ | refine List.Sublist.cons_cons _ ?_ | refine List.Sublist.cons _ ?_)))
end Go.Proofs.YtmbbcmebdefggaaGreatDoor
namespace Go.Proofs.YtmbbcmebdefggaaGreatDoor
open Go Go.RowKit SL
instance : Zr Tryz.prog 147 .nilFunc := Zr_mk (by kernel_rfl)
theorem stF_isB {n : Nat} (h8 : n ≤ 8) : ∀ (f : Nat) (x : List Nat) (i used : Nat), isB x → ∀ y ∈ stF n f x i used, isB y
  | 0, x, i, used, bx, y, hy => by
    rw [stF, List.mem_singleton] at hy
    rw [hy]; exact bx
  | f + 1, x, i, used, bx, y, hy => by
    rw [stF, List.mem_flatMap] at hy
    obtain ⟨r, hr, hy⟩ := hy
    have := List.mem_range.1 hr
    split at hy
    · exact stF_isB h8 f _ _ _ (isB_set bx (by omega)) y hy
    · cases hy
theorem flatS_len : ∀ {l : List (List Nat)}, (∀ y ∈ l, isB y) → (flatS l).length = 8 * l.length
  | [], _ => rfl
  | y :: l, h => by
    have ih := flatS_len (l := l) fun z hz => h z (List.mem_cons_of_mem _ hz)
    unfold flatS at ih ⊢
    rw [List.flatMap_cons, List.length_append, ih, u8s_len, (h y (List.mem_cons_self)).1, List.length_cons]
    omega
theorem states_len {n : Nat} (h8 : n ≤ 8) : (flatS (stF n n Z8 0 0)).length ≤ 134217728 := by
  rw [flatS_len (stF_isB h8 n Z8 0 0 isB_Z8)]
  have h1 := stF_count n n Z8 0 0
  have h2 : n ^ n ≤ 8 ^ n := Nat.pow_le_pow_left h8 n
  have h3 : 8 ^ n ≤ 8 ^ 8 := Nat.pow_le_pow_right (by decide) h8
  have h4 : (8 : Nat) ^ 8 = 16777216 := by decide
  omega
set_option maxRecDepth 100000 in
theorem states_gives (n : Nat) (h8 : n ≤ 8) (w : World) : GivesN Tryz.prog 72 #[.int .i64 (n : Int)] (isRow 72 8 (flatS (stF n n Z8 0 0))) w := by
  have hb := states_len h8
  refine givesN_of (args := [.int .i64 (n : Int)]) [(0, .int .i64 (n : Int))] [] Tryz.func72 rfl Tryz.ntmps72 rfl (argsF_cons rfl argsF_nil) (Holds.start w) ?_
  repeat' (first | (apply Jq_func3; exact rfl; exact rfl; exact rfl; exact rfl) | (apply Jq_assign; exact rfl; exact rfl) | (apply Jq_load; exact rfl; exact rfl; (exact mb); (exact rfl)) | (apply J_s1; exact rfl; exact rfl; exact rfl; infer_instance; (exact Nat.le_of_ble_eq_true rfl); (exact rfl); infer_instance) | (apply J_box; exact rfl; exact rfl; exact rfl; (intro _)) | (apply J_alloc; exact rfl; exact rfl; (intro _)) | (apply Jz (cs := u8s Z8); exact rfl; exact rfl) | (apply J_lit0; exact rfl; (intro _)) | refine thenQ_normal ?_ | refine JC_seq ?_ | refine JC_region ?_ | refine J_nil ?_)
  rename_i bn br bo bp
  repeat' (first | (apply JcEcP (H1 := .blk bo [.slice (some ⟨br, 0, none⟩) 0 0] 35 :: .row (.slice (some ⟨br, 0, none⟩) 0 0) 72 8 [] :: .blk bp [.func (.func 124) #[] #[.pointer (some ⟨bn, 0, none⟩), .pointer (some ⟨bo, 0, none⟩), .pointer (some ⟨bp, 0, none⟩)]] 147 :: .blk bn [.int .i64 (n : Int)] 3 :: []); exact rfl; exact rfl; exact rfl; infer_instance; (refine entP (ent ?_ (List.nil_sublist _)) ?_; (repeat refine fr_cons rfl ?_); exact fr_nil; (repeat (first | exact sp_refl | (with_reducible apply sp1) | apply sp1))); (exact put_gives n h8 w.heap.size w bn bo bp _ _ _ n 0 (by omega) Z8 0 isB_Z8 (by decide) [] [] _ (by rw [List.length_nil]; omega)); (intro v' H' hV; obtain ⟨rfl, u, rfl⟩ := hV)) | (apply Jq_assign; exact rfl; exact rfl) | (apply Jq_load; exact rfl; exact rfl; (exact mb); (exact rfl)) | refine thenQ_normal ?_ | refine JC_seq ?_ | refine JC_region ?_ | refine J_nil ?_ | refine JC_ret ?_)
  rw [List.nil_append]
  refine n1 (its := [.row u 72 8 (flatS (stF n n Z8 0 0))]) rfl rfl rfl ?_ (by unfold isRow; rfl)
  (refine ent ?_ ?_; (repeat refine fr_cons rfl ?_); exact fr_nil; (repeat (first | exact List.nil_sublist _ | refine List.Sublist.cons_cons _ ?_ | refine List.Sublist.cons _ ?_)))
end Go.Proofs.YtmbbcmebdefggaaGreatDoor
