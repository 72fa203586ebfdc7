/- Walks: words of bits, the first place of a row. -/
import Derived.Test.YtmbbcmebdefggaaGreatDoorVA
import Derived.Test.YtmbbcmebdefggaaGreatDoorTH
import Derived.Shelf.Spec.TrailingZeros
namespace Go.Proofs.YtmbbcmebdefggaaGreatDoor
open Go Go.RowKit SL
namespace SL
section
variable {P : Program} {B : Nat} {w0 : World} {n : Nat} {F : Fr} {H : Hp} {dst : Option Tmp} {ty : TypeId} {pos : String} {af : Array Edge} {g : Option (Nat × Bool)} {T T' : TypeId} {x y : Operand} {a b r : Nat}
theorem q_negu (hx : ev F x = some (.int .u64 (a : Int))) (h0 : 0 < a) (ha : a < 18446744073709551616) (hr : 18446744073709551616 - a = r) : OpQ P B w0 n H F ⟨dst, .unOp .neg T x, ty, pos, af, g⟩ (.int .u64 (r : Int)) :=
  opq_run fun A hA w _ => by
    have e : IntKind.u64.wrap (-(a : Int)) = (r : Int) := by rw [IntKind.wrap_u64]; omega
    simp only [execOp, hA.ev hx, Op.unary, Op.intArith, Int.zero_sub, e]; rfl
theorem q_andu (hx : ev F x = some (.int .u64 (a : Int))) (hy : ev F y = some (.int .u64 (b : Int))) (ha : a < 18446744073709551616) (hb : b < 18446744073709551616) (hr : a &&& b = r) : OpQ P B w0 n H F ⟨dst, .binOp .and T x y T', ty, pos, af, g⟩ (.int .u64 (r : Int)) :=
  q_bin hx hy fun w => by
    have h1 : a &&& b < 2 ^ 64 := Nat.and_lt_two_pow _ hb
    have h2 : IntKind.u64.wrap ((a &&& b : Nat) : Int) = ((a &&& b : Nat) : Int) := by rw [IntKind.wrap_u64]; omega
    have e : (BitVec.ofInt 64 (a : Int) &&& BitVec.ofInt 64 (b : Int)).toNat = a &&& b := by
      rw [BitVec.toNat_and, BitVec.ofInt_natCast, BitVec.ofInt_natCast, BitVec.toNat_ofNat, BitVec.toNat_ofNat, Nat.mod_eq_of_lt (by omega), Nat.mod_eq_of_lt (by omega)]
    rw [eqGuard_int]
    simp only [binOp_and, Op.intBits, Sem.run_bind, Sem.run_pure, Result.andThen_ok]
    show Result.ok (Value.int .u64 (IntKind.u64.wrap ((BitVec.ofInt 64 (a : Int) &&& BitVec.ofInt 64 (b : Int)).toNat : Int))) w = _
    rw [e, h2, hr]
theorem q_xoru (hx : ev F x = some (.int .u64 (a : Int))) (hy : ev F y = some (.int .u64 (b : Int))) (ha : a < 18446744073709551616) (hb : b < 18446744073709551616) (hr : a ^^^ b = r) : OpQ P B w0 n H F ⟨dst, .binOp .xor T x y T', ty, pos, af, g⟩ (.int .u64 (r : Int)) :=
  q_bin hx hy fun w => by
    have h1 : a ^^^ b < 2 ^ 64 := Nat.xor_lt_two_pow ha hb
    have h2 : IntKind.u64.wrap ((a ^^^ b : Nat) : Int) = ((a ^^^ b : Nat) : Int) := by rw [IntKind.wrap_u64]; omega
    have e : (BitVec.ofInt 64 (a : Int) ^^^ BitVec.ofInt 64 (b : Int)).toNat = a ^^^ b := by
      rw [BitVec.toNat_xor, BitVec.ofInt_natCast, BitVec.ofInt_natCast, BitVec.toNat_ofNat, BitVec.toNat_ofNat, Nat.mod_eq_of_lt (by omega), Nat.mod_eq_of_lt (by omega)]
    rw [eqGuard_int]
    simp only [binOp_xor, Op.intBits, Sem.run_bind, Sem.run_pure, Result.andThen_ok]
    show Result.ok (Value.int .u64 (IntKind.u64.wrap ((BitVec.ofInt 64 (a : Int) ^^^ BitVec.ofInt 64 (b : Int)).toNat : Int))) w = _
    rw [e, h2, hr]
theorem q_mulu (hx : ev F x = some (.int .u64 (a : Int))) (hy : ev F y = some (.int .u64 (b : Int))) (hr : a * b % 18446744073709551616 = r) : OpQ P B w0 n H F ⟨dst, .binOp .mul T x y T', ty, pos, af, g⟩ (.int .u64 (r : Int)) := by
  have h := q_mulw (P := P) (B := B) (w0 := w0) (n := n) (H := H) (dst := dst) (ty := ty) (pos := pos) (af := af) (g := g) (T := T) (T' := T') hx hy
  have e : IntKind.u64.wrap ((a : Int) * (b : Int)) = (r : Int) := by
    rw [IntKind.wrap_u64, ← hr, ← Int.natCast_mul]; rfl
  rw [e] at h
  exact h
theorem q_shru {i : Nat} (hx : ev F x = some (.int .u64 (a : Int))) (hy : ev F y = some (.int .u64 (i : Int))) (hi : i ≤ 64) (hr : a / 2 ^ i = r) : OpQ P B w0 n H F ⟨dst, .binOp .shr T x y T', ty, pos, af, g⟩ (.int .u64 (r : Int)) :=
  q_bin hx hy fun w => by
    have h5 : min i 64 = i := by omega
    have e : ((a : Int).fdiv (2 ^ i)) = (r : Int) := by
      rw [← hr, Int.fdiv_eq_ediv_of_nonneg _ (by exact_mod_cast Nat.zero_le (2 ^ i))]
      rw [show ((2 : Int) ^ i) = ((2 ^ i : Nat) : Int) by simp]; rfl
    rw [eqGuard_int]
    simp only [binOp_shr, Op.shift, Sem.run_bind, Sem.run_pure, Result.andThen_ok, Int.toNat_natCast]
    rw [if_neg (by omega)]
    simp only [show IntKind.u64.bits = 64 from rfl, h5, e, Sem.run_pure]
theorem q_shlu {k : IntKind} {i : Nat} (hx : ev F x = some (.int .u64 1)) (hy : ev F y = some (.int k (i : Int))) (hi : i < 64) (hr : 2 ^ i = r) : OpQ P B w0 n H F ⟨dst, .binOp .shl T x y T', ty, pos, af, g⟩ (.int .u64 (r : Int)) :=
  q_bin hx hy fun w => by
    have h1 : (2 : Nat) ^ i ≤ 2 ^ 63 := Nat.pow_le_pow_right (by decide) (by omega)
    have h4 : (2 : Nat) ^ 63 = 9223372036854775808 := by decide
    have h2 : IntKind.u64.wrap (1 * 2 ^ i) = (r : Int) := by
      rw [Int.one_mul, show ((2 : Int) ^ i) = ((2 ^ i : Nat) : Int) by simp, hr, IntKind.wrap_u64]
      rw [hr] at h1
      omega
    have h5 : min i 64 = i := by omega
    rw [eqGuard_int]
    simp only [binOp_shl, Op.shift, Sem.run_bind, Sem.run_pure, Result.andThen_ok, Int.toNat_natCast]
    rw [if_neg (by omega)]
    simp only [show IntKind.u64.bits = 64 from rfl, h5, h2, Sem.run_pure]
theorem q_quoN (hx : ev F x = some (.int .i64 (a : Int))) (hy : ev F y = some (.int .i64 (b : Int))) (hb : 0 < b) (ha : a < 1000000000) (hr : a / b = r) : OpQ P B w0 n H F ⟨dst, .binOp .quo T x y T', ty, pos, af, g⟩ (.int .i64 (r : Int)) :=
  q_bin hx hy fun w => by
    have e : ((a : Int).tdiv (b : Int)) = ((a / b : Nat) : Int) := rfl
    have h1 : a / b ≤ a := Nat.div_le_self a b
    have h2 : IntKind.i64.wrap ((a / b : Nat) : Int) = ((a / b : Nat) : Int) := wrap_in (by omega)
    rw [eqGuard_int]
    simp only [binOp_quo, Op.intDiv, Sem.run_bind, Sem.run_pure, Result.andThen_ok]
    rw [if_neg (by omega)]
    simp only [e, hr, Sem.run_pure]
    rw [← hr, h2]
variable {dr : Bool} {ops : Array Oper} {Q : Po} {l : List Oper} {d : Nat}
theorem Jq_negu (hdn : Nat.blt d n = true) (hx : ev F x = some (.int .u64 (a : Int))) (h0 : 0 < a) (ha : a < 18446744073709551616) (hr : 18446744073709551616 - a = r) (kk : J dr P B w0 n ops Q l ((d, .int .u64 (r : Int)) :: F) H) : J dr P B w0 n ops Q (⟨some d, .unOp .neg T x, ty, pos, af, none⟩ :: l) F H := J_q hdn (q_negu hx h0 ha hr) kk
theorem Jq_andu (hdn : Nat.blt d n = true) (hx : ev F x = some (.int .u64 (a : Int))) (hy : ev F y = some (.int .u64 (b : Int))) (ha : a < 18446744073709551616) (hb : b < 18446744073709551616) (hr : a &&& b = r) (kk : J dr P B w0 n ops Q l ((d, .int .u64 (r : Int)) :: F) H) : J dr P B w0 n ops Q (⟨some d, .binOp .and T x y T', ty, pos, af, none⟩ :: l) F H := J_q hdn (q_andu hx hy ha hb hr) kk
theorem Jq_mulu (hdn : Nat.blt d n = true) (hx : ev F x = some (.int .u64 (a : Int))) (hy : ev F y = some (.int .u64 (b : Int))) (hr : a * b % 18446744073709551616 = r) (kk : J dr P B w0 n ops Q l ((d, .int .u64 (r : Int)) :: F) H) : J dr P B w0 n ops Q (⟨some d, .binOp .mul T x y T', ty, pos, af, none⟩ :: l) F H := J_q hdn (q_mulu hx hy hr) kk
theorem Jq_shru {i : Nat} (hdn : Nat.blt d n = true) (hx : ev F x = some (.int .u64 (a : Int))) (hy : ev F y = some (.int .u64 (i : Int))) (hi : i ≤ 64) (hr : a / 2 ^ i = r) (kk : J dr P B w0 n ops Q l ((d, .int .u64 (r : Int)) :: F) H) : J dr P B w0 n ops Q (⟨some d, .binOp .shr T x y T', ty, pos, af, none⟩ :: l) F H := J_q hdn (q_shru hx hy hi hr) kk
end
end SL
/-- The table. -/
def tabI : It := .rd 0 0 (u8s Lib.deBruijn64tab)
theorem tab_at {k : Nat} (hk : k < 64) : (u8s Lib.deBruijn64tab)[2 ^ k * 285870213051353865 % 18446744073709551616 / 288230376151711744]? = some (.int .u8 (k : Int)) := by
  obtain ⟨h1, h2⟩ := Lib.deBruijn64_at k hk
  generalize 2 ^ k * 285870213051353865 % 18446744073709551616 / 288230376151711744 = i at *
  have hl : Lib.deBruijn64tab.length = 64 := by decide
  have h3 := u8s_at (l := Lib.deBruijn64tab) (k := i) (by rw [hl]; exact h1)
  rw [Nat.zero_add, Nat.mul_one, h2] at h3
  exact h3
set_option maxRecDepth 100000 in
theorem tz_gives {B : Nat} {w0 : World} {H : Hp} (x : Nat) (hx : x < 18446744073709551616) (h0 : x ≠ 0) (hT : tabI ∈ H) :
    GivesE Tryz.prog 158 #[.int .u64 (x : Int)] B w0 H (fun v' H' => v' = .int .i64 (Lib.ctz 64 x : Int) ∧ H' = H) := by
  obtain ⟨hlow, hk⟩ := Lib.lowest_bit 64 x h0 hx
  have h64 : (2 : Nat) ^ 64 = 18446744073709551616 := by decide
  rw [h64] at hlow
  obtain ⟨hi, _⟩ := Lib.deBruijn64_at _ hk
  have hc := tab_at hk
  have hpk : 2 ^ Lib.ctz 64 x < 18446744073709551616 := Nat.pow_lt_pow_right (a := 2) (by decide) hk
  generalize Lib.ctz 64 x = k at *
  refine givesE_of (args := [.int .u64 (x : Int)]) [(0, .int .u64 (x : Int))] Tryz.func158 rfl Tryz.ntmps158 rfl (argsF_cons rfl argsF_nil) ?_
  repeat' (first | (apply Jq_negu; exact rfl; exact rfl; omega; exact hx; exact rfl) | (apply Jq_andu; exact rfl; exact rfl; exact rfl; exact hx; omega; exact hlow) | (apply Jq_mulu (b := 285870213051353865); exact rfl; exact rfl; exact rfl; exact rfl) | (apply Jq_shru (i := 58); exact rfl; exact rfl; exact rfl; omega; exact rfl) | (apply Jq_indexN; exact rfl; exact rfl; exact rfl; exact hi) | (apply Jq_loadD (b := 0) (off := 0); exact rfl; exact rfl; exact hT; exact rfl; rw [Nat.mul_one]; exact hc) | (apply Jq_conv; exact rfl; exact rfl; exact wrap_in (by omega)) | (apply Jq_move; exact rfl; exact rfl) | (apply Jq_assign; exact rfl; exact rfl) | (apply Jq_cmp; exact rfl; exact rfl; exact rfl; exact rfl) | refine thenQ_normal ?_ | refine JC_seq ?_ | refine JC_region ?_ | refine J_nil ?_ | refine JC_skip ?_ | refine JC_ret ?_ | (apply JC_dec_false; exact rfl; omega))
  refine e1 (H' := H) rfl rfl rfl ?_ ⟨rfl, rfl⟩
  (refine ent ?_ ?_; (repeat refine fr_cons rfl ?_); exact fr_nil; (repeat (exact List.Sublist.refl _)))
/-- Words as values. -/
def u64s (l : List Nat) : List Value := l.map fun (a : Nat) => .int .u64 (a : Int)
theorem u64s_len (l : List Nat) : (u64s l).length = l.length := List.length_map _
theorem u64s_get {l : List Nat} {i a : Nat} (h : l[i]? = some a) : (u64s l)[i]? = some (.int .u64 (a : Int)) := by unfold u64s; rw [List.getElem?_map, h]; rfl
theorem u64s_one (l : List Nat) : ∀ u ∈ u64s l, u.oneCell' = true := fun u hu => by
  obtain ⟨a, _, rfl⟩ := List.mem_map.1 hu
  rfl
theorem u64s_set (l : List Nat) (i a : Nat) : (u64s l).set i (.int .u64 (a : Int)) = u64s (l.set i a) := by unfold u64s; rw [List.map_set]
/-- A row as cells. -/
def wC (f : Nat → Bool) : List Value := u64s (wds f)
theorem wC_len (f : Nat → Bool) : (wC f).length = 12 := (u64s_len _).trans (wds_len f)
theorem wC_get (f : Nat → Bool) {i : Nat} (h : i < 12) : (wC f)[i]? = some (.int .u64 (wd f i : Int)) := u64s_get (wds_get f h)
theorem wC_at (f : Nat → Bool) {i : Nat} (h : i < 12) : (wC f)[0 + i * 1]? = some (.int .u64 (wd f i : Int)) := by rw [Nat.zero_add, Nat.mul_one]; exact wC_get f h
theorem wC_one (f : Nat → Bool) : ∀ u ∈ wC f, u.oneCell' = true := u64s_one _
theorem wC_set {f h : Nat → Bool} {i v : Nat} (hi : i < 12) (hv : v = wd h i) (ho : ∀ k, k < 768 → k / 64 ≠ i → h k = f k) : (wC f).set i (.int .u64 (v : Int)) = wC h := by
  unfold wC
  rw [u64s_set, wds_set hi hv ho]
theorem wC_zero : wC (fun _ => false) = List.replicate 12 (.int .u64 0) := by unfold wC; rw [wds_zero]; rfl
theorem wC_cong {f g : Nat → Bool} (h : wds f = wds g) : wC f = wC g := by unfold wC; rw [h]
attribute [irreducible] wC
set_option maxRecDepth 100000 in
theorem first_gives {B : Nat} {w0 : World} {H : Hp} (f : Nat → Bool) (hT : tabI ∈ H) :
    GivesE Tryz.prog 127 #[.agg (wC f).toArray] B w0 H (fun v' H' => v' = .int .i64 (fstB f) ∧ H' = H) := by
  have uf := wC_len f
  refine givesE_of (args := [.agg (wC f).toArray]) [(0, .agg (wC f).toArray)] Tryz.func127 rfl Tryz.ntmps127 rfl (argsF_cons rfl argsF_nil) ?_
  repeat' (first | (apply Jq_move; exact rfl; exact rfl) | (apply Jq_assign; exact rfl; exact rfl) | (apply Jq_loadW; exact rfl; exact rfl; (exact mb); (omega)) | (apply J_box; exact rfl; exact rfl; exact rfl; (intro _)) | refine thenQ_normal ?_ | refine JC_seq ?_ | refine JC_region ?_ | refine J_nil ?_ | refine JC_block ?_)
  rename_i b1
  refine JC_loop (X := Nat) (fun i => i ≤ 12 ∧ ∀ k, k < 64 * i → f k = false) (fun i => [(6, .int .i64 (i : Int)), (5, .agg (wC f).toArray), (1, .pointer (some ⟨b1, 0, none⟩))]) (fun _ => .blk b1 (wC f) 92 :: H) (fun i => 12 - i) 0 ⟨Nat.zero_le _, fun k hk => absurd hk (by omega)⟩ ?_ ?_
  · (refine ent ?_ ?_; (repeat refine fr_cons rfl ?_); exact fr_nil; (repeat (exact List.Sublist.refl _)))
  · rintro i ⟨hi, hz⟩
    by_cases hlt : i < 12
    · have hc := wC_get f hlt
      by_cases h0 : wd f i = 0
      · have hn : ∀ k, k < 64 * (i + 1) → f k = false := fun k hk => by
          by_cases h1 : k < 64 * i
          · exact hz k h1
          · have := wd_zero h0 (j := k - 64 * i) (by omega)
            rwa [show 64 * i + (k - 64 * i) = k by omega] at this
        rw [h0] at hc
        repeat' (first | (apply Jq_indexV; exact rfl; exact rfl; exact rfl; exact hlt; exact hc) | (apply Jq_move; exact rfl; exact rfl) | (apply Jq_assign; exact rfl; exact rfl) | (apply Jq_cmp; exact rfl; exact rfl; exact rfl; exact rfl) | (apply Jq_add; exact rfl; exact rfl; exact rfl; omega) | refine thenQ_normal ?_ | refine inBlockQ_normal ?_ | refine JC_seq ?_ | refine JC_region ?_ | refine J_nil ?_ | refine JC_block ?_ | refine JC_skip ?_ | (apply JC_if_false; exact rfl) | (apply JC_dec_true; exact rfl; omega))
        refine ⟨i + 1, ⟨by omega, hn⟩, by omega, ?_⟩
        (refine ent ?_ ?_; (repeat refine fr_cons rfl ?_); exact fr_nil; (repeat (exact List.Sublist.refl _)))
      · have hlw := wd_lt f i
        obtain ⟨h1, h2, h3⟩ := wd_ctz h0
        have hfs : fstB f = ((64 * i + Lib.ctz 64 (wd f i) : Nat) : Int) := fstB_some (by omega) h2 fun j hj => by
          by_cases h4 : j < 64 * i
          · exact hz j h4
          · have := h3 (j - 64 * i) (by omega)
            rwa [show 64 * i + (j - 64 * i) = j by omega] at this
        have htz := fun H2 hT2 => tz_gives (B := B) (w0 := w0) (H := H2) (wd f i) hlw h0 hT2
        generalize wd f i = x at *
        generalize Lib.ctz 64 x = c at *
        repeat' (first | (apply Jq_indexV; exact rfl; exact rfl; exact rfl; exact hlt; exact hc) | (apply JcE; exact rfl; exact rfl; exact rfl; infer_instance; (exact htz _ (mS hT)); (intro v' H' hV; obtain ⟨rfl, rfl⟩ := hV)) | (apply Jq_move; exact rfl; exact rfl) | (apply Jq_assign; exact rfl; exact rfl) | (apply Jq_cmp; exact rfl; exact rfl; exact rfl; exact rfl) | (apply Jq_add; exact rfl; exact rfl; exact rfl; omega) | (apply Jq_mul; exact rfl; exact rfl; exact rfl; omega) | refine thenQ_normal ?_ | refine thenQ_ret ?_ | refine inBlockQ_ret ?_ | refine JC_seq ?_ | refine JC_region ?_ | refine J_nil ?_ | refine JC_block ?_ | refine JC_skip ?_ | refine JC_ret ?_ | (apply JC_dec_true; exact rfl; omega) | (apply JC_ndec_true; exact rfl; omega))
        refine e1 (H' := H) rfl rfl rfl ?_ ⟨by rw [hfs, Int.natCast_add, Int.natCast_mul]; rfl, rfl⟩
        (refine ent ?_ ?_; (repeat refine fr_cons rfl ?_); exact fr_nil; (repeat (first | exact List.Sublist.refl _ | refine List.Sublist.cons _ ?_)))
    · obtain rfl : i = 12 := by omega
      repeat' (first | (apply Jq_assign; exact rfl; exact rfl) | (apply Jq_cmp; exact rfl; exact rfl; exact rfl; exact rfl) | refine thenQ_normal ?_ | refine thenQ_exit ?_ | refine inBlockQ_here ?_ | refine JC_seq ?_ | refine JC_region ?_ | refine J_nil ?_ | refine JC_ret ?_ | refine JC_exit ?_ | (apply JC_if_false; exact rfl))
      refine e1 (H' := H) rfl rfl rfl ?_ ⟨by rw [fstB_none fun k hk => hz k (by omega)], rfl⟩
      (refine ent ?_ ?_; (repeat refine fr_cons rfl ?_); exact fr_nil; (repeat (first | exact List.Sublist.refl _ | refine List.Sublist.cons _ ?_)))
end Go.Proofs.YtmbbcmebdefggaaGreatDoor
