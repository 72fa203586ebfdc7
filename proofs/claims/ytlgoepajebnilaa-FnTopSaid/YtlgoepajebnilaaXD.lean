/- What does not change if a grid is shifted; lists told to be alike; the components as the law asks for them. -/
import Derived.Test.YtlgoepajebnilaaXC
import Derived.Test.YtlgoepajebnilaaPN
import Derived.Test.YtlgoepajebnilaaWD
namespace Go.Proofs.Ytlgoepajebnilaa
open Go Go.RowKit SL
set_option maxRecDepth 100000 in
theorem like_gives {B : Nat} {w0 : World} {H : Hp} {v u : Value} {xs : List Value} (hv : It.row v 2 1 xs ∈ H) (hu : It.row u 2 1 xs ∈ H) (hx : isNums xs) (hl : xs.length < 1000000) :
    GivesM Try.prog 41 #[v, u] B w0 H (.bool true) H := by
  refine givesM_of (args := [v, u]) [(0, v), (1, u)] Try.func41 rfl Try.ntmps41 rfl (argsF_cons rfl (argsF_cons rfl argsF_nil)) ?_
  repeat' (first | (apply Jq_move; exact rfl; exact rfl) | (apply Jq_assign; exact rfl; exact rfl) | (apply Jq_load; exact rfl; exact rfl; (exact mb); (first | exact rfl)) | (apply Jq_indexN; exact rfl; exact rfl; exact rfl; omega) | (apply Jq_index; exact rfl; exact rfl; exact rfl; omega; omega) | (apply Jq_indexSN; exact rfl; exact rfl; exact rfl; omega) | (apply Jq_cmp; exact rfl; exact rfl; exact rfl; exact rfl) | (apply Jq_add; exact rfl; exact rfl; exact rfl; omega) | (apply Jq_loadW; exact rfl; exact rfl; (exact mb); (first | exact rfl | omega)) | (apply Jq_loadA; exact rfl; exact rfl; (exact mb); (first | exact rfl); (first | exact rfl | omega)) | (apply Jq_lenR; exact rfl; exact rfl; (first | exact rb | assumption)) | (apply Jq_indexRN; exact rfl; exact rfl; exact rfl; (first | exact rb | assumption); omega) | (apply Jq_loadR; exact rfl; exact rfl; (first | exact rb | assumption); (first | exact rfl)) | (apply Jq_len; exact rfl; exact rfl) | refine thenQ_normal ?_ | refine thenQ_exit ?_ | refine thenQ_ret ?_ | refine inBlockQ_normal ?_ | refine inBlockQ_ret ?_ | refine inBlockQ_here ?_ | (apply inBlockQ_on; exact rfl) | refine JC_seq ?_ | refine JC_region ?_ | (apply JC_draw mixed; kernel_rfl) | refine J_nil ?_ | refine JC_block ?_ | refine JC_skip ?_ | refine JC_ret ?_ | refine JC_exit ?_ | (apply JC_if_true; exact rfl) | (apply JC_if_false; exact rfl) | (apply JC_dec_true; exact rfl; omega) | (apply JC_dec_false; exact rfl; omega) | (apply JC_ndec_true; exact rfl; omega) | (apply JC_ndec_false; exact rfl; omega) | refine JC_dec rfl (fun _ => ?_) (fun _ => ?_) | refine JC_ndec rfl (fun _ => ?_) (fun _ => ?_) | refine JC_if rfl (fun _ => ?_) (fun _ => ?_))
  refine JC_loop (X := Nat) (fun k => k ≤ xs.length) (fun k => [(5, .int .i64 (k : Int)), (0, v), (1, u)]) (fun _ => H) (fun k => xs.length - k) 0 (Nat.zero_le _) ?_ ?_
  · (refine ent ?_ ?_; (repeat refine fr_cons rfl ?_); exact fr_nil; (repeat (first | exact List.nil_sublist _ | exact List.Sublist.refl _ | refine List.Sublist.cons_cons _ ?_ | refine List.Sublist.cons _ ?_)))
  · intro k hk
    by_cases hlt : k < xs.length
    · obtain ⟨z, hz⟩ := hx k hlt
      repeat' (first | (apply Jq_move; exact rfl; exact rfl) | (apply Jq_assign; exact rfl; exact rfl) | (apply Jq_load; exact rfl; exact rfl; (exact mb); (first | exact rfl | exact hz)) | (apply Jq_indexN; exact rfl; exact rfl; exact rfl; omega) | (apply Jq_index; exact rfl; exact rfl; exact rfl; omega; omega) | (apply Jq_indexSN; exact rfl; exact rfl; exact rfl; omega) | (apply Jq_cmp; exact rfl; exact rfl; exact rfl; exact rfl) | (apply Jq_add; exact rfl; exact rfl; exact rfl; omega) | (apply Jq_loadW; exact rfl; exact rfl; (exact mb); (first | exact rfl | omega)) | (apply Jq_loadA; exact rfl; exact rfl; (exact mb); (first | exact hz | exact rfl); (first | exact rfl | omega)) | (apply Jq_lenR; exact rfl; exact rfl; (first | exact rb | assumption)) | (apply Jq_indexRN; exact rfl; exact rfl; exact rfl; (first | exact rb | assumption); omega) | (apply Jq_loadR; exact rfl; exact rfl; (first | exact rb | assumption); (first | exact rfl | exact hz)) | (apply Jq_len; exact rfl; exact rfl) | refine thenQ_normal ?_ | refine thenQ_exit ?_ | refine thenQ_ret ?_ | refine inBlockQ_normal ?_ | refine inBlockQ_ret ?_ | refine inBlockQ_here ?_ | (apply inBlockQ_on; exact rfl) | refine JC_seq ?_ | refine JC_region ?_ | (apply JC_draw mixed; kernel_rfl) | refine J_nil ?_ | refine JC_block ?_ | refine JC_skip ?_ | refine JC_ret ?_ | refine JC_exit ?_ | (apply JC_if_true; exact rfl) | (apply JC_if_false; exact rfl) | (apply JC_dec_true; exact rfl; omega) | (apply JC_dec_false; exact rfl; omega) | (apply JC_ndec_true; exact rfl; omega) | (apply JC_ndec_false; exact rfl; omega) | refine JC_dec rfl (fun _ => ?_) (fun _ => ?_) | refine JC_ndec rfl (fun _ => ?_) (fun _ => ?_) | refine JC_if rfl (fun _ => ?_) (fun _ => ?_))
      refine ⟨k + 1, by omega, by omega, ?_⟩
      (refine ent ?_ ?_; (repeat refine fr_cons rfl ?_); exact fr_nil; (repeat (first | exact List.nil_sublist _ | exact List.Sublist.refl _ | refine List.Sublist.cons_cons _ ?_ | refine List.Sublist.cons _ ?_)))
    · repeat' (first | (apply Jq_move; exact rfl; exact rfl) | (apply Jq_assign; exact rfl; exact rfl) | (apply Jq_load; exact rfl; exact rfl; (exact mb); (first | exact rfl)) | (apply Jq_indexN; exact rfl; exact rfl; exact rfl; omega) | (apply Jq_index; exact rfl; exact rfl; exact rfl; omega; omega) | (apply Jq_indexSN; exact rfl; exact rfl; exact rfl; omega) | (apply Jq_cmp; exact rfl; exact rfl; exact rfl; exact rfl) | (apply Jq_add; exact rfl; exact rfl; exact rfl; omega) | (apply Jq_loadW; exact rfl; exact rfl; (exact mb); (first | exact rfl | omega)) | (apply Jq_loadA; exact rfl; exact rfl; (exact mb); (first | exact rfl); (first | exact rfl | omega)) | (apply Jq_lenR; exact rfl; exact rfl; (first | exact rb | assumption)) | (apply Jq_indexRN; exact rfl; exact rfl; exact rfl; (first | exact rb | assumption); omega) | (apply Jq_loadR; exact rfl; exact rfl; (first | exact rb | assumption); (first | exact rfl)) | (apply Jq_len; exact rfl; exact rfl) | refine thenQ_normal ?_ | refine thenQ_exit ?_ | refine thenQ_ret ?_ | refine inBlockQ_normal ?_ | refine inBlockQ_ret ?_ | refine inBlockQ_here ?_ | (apply inBlockQ_on; exact rfl) | refine JC_seq ?_ | refine JC_region ?_ | (apply JC_draw mixed; kernel_rfl) | refine J_nil ?_ | refine JC_block ?_ | refine JC_skip ?_ | refine JC_ret ?_ | refine JC_exit ?_ | (apply JC_if_true; exact rfl) | (apply JC_if_false; exact rfl) | (apply JC_dec_true; exact rfl; omega) | (apply JC_dec_false; exact rfl; omega) | (apply JC_ndec_true; exact rfl; omega) | (apply JC_ndec_false; exact rfl; omega) | refine JC_dec rfl (fun _ => ?_) (fun _ => ?_) | refine JC_ndec rfl (fun _ => ?_) (fun _ => ?_) | refine JC_if rfl (fun _ => ?_) (fun _ => ?_))
      refine m1 rfl rfl rfl rfl ?_
      (refine ent ?_ ?_; (repeat refine fr_cons rfl ?_); exact fr_nil; (repeat (first | exact List.nil_sublist _ | exact List.Sublist.refl _ | refine List.Sublist.cons_cons _ ?_ | refine List.Sublist.cons _ ?_)))
/-- A row of so many cells, and a number. -/
def rowLenI (e c : Nat) (k : Int) (v : Value) (its : Hp) : Prop := ∃ (u : Value) (vals : List Value), v = .tuple #[u, .int .i64 k] ∧ vals.length = c ∧ its = [.row u e 1 vals]
namespace SL
section
variable {P : Program} {B : Nat} {w0 : World} {n : Nat} {Q : Po} {F : Fr} {H : Hp} {ops : Array Oper} {l : List Oper} {ty : TypeId} {pos : String} {af : Array Edge} {d : Nat}
theorem JcLen {f : Operand} {xs : List Operand} {Ts : Array TypeId} {k : FuncId} {args : List Value} {caps : Array Value} {e c : Nat} (hd : Nat.blt d n = true) (hf : ev F f = some (.func (.func k) #[] caps)) (hxs : evs F xs = some args) (hk : Runs P k)
    (h : ∀ w, Holds B w0 H w → GivesN P k (args ++ caps.toList).toArray (rowLen e c) w)
    (K : ∀ v vals, vals.length = c → J false P B w0 n ops Q l ((d, v) :: F) (.row v e 1 vals :: H)) :
    J false P B w0 n ops Q (⟨some d, .call { callee := .value f, args := xs.toArray, argTypes := Ts }, ty, pos, af, none⟩ :: l) F H :=
  JcN hd hf hxs hk h (fun v its hN => by
    obtain ⟨vals, _, rfl⟩ := hN
    intro x hx; simp at hx; subst hx; rfl) fun v its hN => by
    obtain ⟨vals, h1, rfl⟩ := hN
    exact K v vals h1
theorem JcLenI {f : Operand} {xs : List Operand} {Ts : Array TypeId} {k : FuncId} {args : List Value} {caps : Array Value} {e c : Nat} {z : Int} (hd : Nat.blt d n = true) (hf : ev F f = some (.func (.func k) #[] caps)) (hxs : evs F xs = some args) (hk : Runs P k)
    (h : ∀ w, Holds B w0 H w → GivesN P k (args ++ caps.toList).toArray (rowLenI e c z) w)
    (K : ∀ u vals, vals.length = c → J false P B w0 n ops Q l ((d, .tuple #[u, .int .i64 z]) :: F) (.row u e 1 vals :: H)) :
    J false P B w0 n ops Q (⟨some d, .call { callee := .value f, args := xs.toArray, argTypes := Ts }, ty, pos, af, none⟩ :: l) F H :=
  JcN hd hf hxs hk h (fun v its hN => by
    obtain ⟨u, vals, _, _, rfl⟩ := hN
    intro x hx; simp at hx; subst hx; rfl) fun v its hN => by
    obtain ⟨u, vals, rfl, h1, rfl⟩ := hN
    exact K u vals h1
end
end SL
set_option maxRecDepth 100000 in
theorem wholeLL_good (k : FuncId) (hk : Runs Try.prog k) (n : Int) (X O : List Nat) (bX : isB X) (bO : isB O) (g : okG n X O) (c : Nat) (h : ∀ w, GivesN Try.prog k #[.agg (gv n X O).toArray] (rowLen 48 c) w) (w : World) :
    GivesN Try.prog 81 #[.agg (gv n X O).toArray, .func (.func k) #[] #[]] (rowLenI 48 c 0) w := by
  have ug := gv_len (n := n) bX.1 bO.1
  refine givesN_of (args := [.agg (gv n X O).toArray, .func (.func k) #[] #[]]) [(0, .agg (gv n X O).toArray), (1, .func (.func k) #[] #[])] [] Try.func81 rfl Try.ntmps81 rfl (argsF_cons rfl (argsF_cons rfl argsF_nil)) (Holds.start w) ?_
  repeat' (first | (apply JC_ndec_false; exact rfl; exact g) | (apply JcLen; exact rfl; exact rfl; exact rfl; exact hk; ((intro w hw); exact h w); (intro _ vals hvals)) | (apply Jq_move; exact rfl; exact rfl) | (apply Jq_assign; exact rfl; exact rfl) | (apply Jq_load; exact rfl; exact rfl; (exact mb); (first | exact rfl)) | (apply Jq_not; exact rfl; exact rfl) | (apply Jc; exact rfl; exact rfl; exact rfl; infer_instance; ((intro w hw); first | exact IsGrid_gives n X O bX bO w)) | (apply Jq_loadW; exact rfl; exact rfl; (exact mb); (first | exact rfl | omega)) | (apply Jq_loadA; exact rfl; exact rfl; (exact mb); (first | exact rfl); (first | exact rfl | omega)) | (apply Jq_loadR; exact rfl; exact rfl; (first | exact rb | assumption); (first | exact rfl)) | (apply J_box; exact rfl; exact rfl; exact rfl; (intro _)) | refine thenQ_normal ?_ | refine thenQ_exit ?_ | refine thenQ_ret ?_ | refine inBlockQ_normal ?_ | refine inBlockQ_ret ?_ | refine inBlockQ_here ?_ | (apply inBlockQ_on; exact rfl) | refine JC_seq ?_ | refine JC_region ?_ | refine J_nil ?_ | refine JC_block ?_ | refine JC_skip ?_ | refine JC_ret ?_ | refine JC_exit ?_ | (apply JC_if_true; exact rfl) | (apply JC_if_false; exact rfl) | (apply JC_dec_true; exact rfl; omega) | (apply JC_dec_false; exact rfl; omega) | (apply JC_ndec_true; exact rfl; omega) | (apply JC_ndec_false; exact rfl; omega) | refine JC_dec rfl (fun _ => ?_) (fun _ => ?_) | refine JC_ndec rfl (fun _ => ?_) (fun _ => ?_) | refine JC_if rfl (fun _ => ?_) (fun _ => ?_))
  refine n2 rfl rfl rfl rfl ?_ ⟨_, vals, rfl, hvals, rfl⟩
  (refine ent ?_ ?_; (repeat refine fr_cons rfl ?_); exact fr_nil; (repeat (first | exact List.nil_sublist _ | exact List.Sublist.refl _ | refine List.Sublist.cons_cons _ ?_ | refine List.Sublist.cons _ ?_)))
set_option maxRecDepth 100000 in
theorem compsOf_good (n : Nat) (X O : List Nat) (bX : isB X) (bO : isB O) (g : okG (n : Int) X O) (w : World) :
    GivesN Try.prog 39 #[.agg (gv n X O).toArray] (rowLenI 48 (comps n X O) 0) w := by
  have ug := gv_len (n := n) bX.1 bO.1
  refine givesN_of (args := [.agg (gv n X O).toArray]) [(0, .agg (gv n X O).toArray)] [] Try.func39 rfl Try.ntmps39 rfl (argsF_cons rfl argsF_nil) (Holds.start w) ?_
  repeat' (first | (apply JcLenI; exact rfl; exact rfl; exact rfl; infer_instance; ((intro w hw); exact wholeLL_good 82 inferInstance n X O bX bO g _ (compsOf1_gives n X O bX bO g) w); (intro _ vals hvals)) | (apply Jq_assign; exact rfl; exact rfl) | (apply Jq_load; exact rfl; exact rfl; (exact mb); (first | exact rfl)) | (apply Jq_loadW; exact rfl; exact rfl; (exact mb); (first | exact rfl | omega)) | (apply Jq_loadA; exact rfl; exact rfl; (exact mb); (first | exact rfl); (first | exact rfl | omega)) | (apply Jq_loadR; exact rfl; exact rfl; (first | exact rb | assumption); (first | exact rfl)) | (apply Jq_extract; exact rfl; exact rfl; exact rfl) | (apply J_box; exact rfl; exact rfl; exact rfl; (intro _)) | refine thenQ_normal ?_ | refine thenQ_exit ?_ | refine thenQ_ret ?_ | refine inBlockQ_normal ?_ | refine inBlockQ_ret ?_ | refine inBlockQ_here ?_ | (apply inBlockQ_on; exact rfl) | refine JC_seq ?_ | refine JC_region ?_ | refine J_nil ?_ | refine JC_block ?_ | refine JC_skip ?_ | refine JC_ret ?_ | refine JC_exit ?_)
  refine n2 rfl rfl rfl rfl ?_ ⟨_, vals, rfl, hvals, rfl⟩
  (refine ent ?_ ?_; (repeat refine fr_cons rfl ?_); exact fr_nil; (repeat (first | exact List.nil_sublist _ | exact List.Sublist.refl _ | refine List.Sublist.cons_cons _ ?_ | refine List.Sublist.cons _ ?_)))
/-! What does not change. -/
theorem rol_fn {n v u : Nat} {X : List Nat} (hn : 0 < n) (h8 : n ≤ 8) {i : Nat} (hi : i < n) : (rol n v u X n).getD i 0 = rolf n v u (fun i => X.getD i 0) i := rol_at hn h8 hi
theorem comps_eq {n : Nat} {X O : List Nat} (g : okG (n : Int) X O) : comps n X O = ncomp n (fun i => X.getD i 0) (fun i => O.getD i 0) := by
  have pX := g.2.1
  have pO := g.2.2.1
  simp only [Int.toNat_natCast] at pX pO
  exact ncomp_eq (permF_of pX) (permF_of pO) (nxt_next g)
theorem comps_rol {n v u : Nat} {X O : List Nat} (g : okG (n : Int) X O) : comps n (rol n v u X n) (rol n v u O n) = comps n X O := by
  have hn := g.1
  have pX := g.2.1
  have pO := g.2.2.1
  simp only [Int.toNat_natCast] at pX pO
  rw [comps_eq g, comps_eq (okG_rol g)]
  obtain ⟨m, rfl⟩ : ∃ m, n = m + 1 := ⟨n - 1, by omega⟩
  rw [← ncomp_shift (permF_of pX) (permF_of pO) v u]
  exact ncomp_congr (permF_rolf (permF_of pX) v u) (permF_rolf (permF_of pO) v u) (fun i hi => rol_fn (by omega) (by omega) hi) (fun i hi => rol_fn (by omega) (by omega) hi)
theorem comps_pos {n : Nat} {X O : List Nat} (g : okG (n : Int) X O) : 1 ≤ comps n X O := by
  have hn := g.1
  unfold comps nrep
  have : 0 ∈ repsU (nxt n X O) n := mem_reps.2 ⟨by omega, fun t => Nat.zero_le _⟩
  exact List.length_pos_of_mem this
theorem mX_rol {n v u : Nat} {x o : List Nat} (h2 : 2 ≤ n) (h8 : n ≤ 8) (px : isPerm x n) (po : isPerm o n) : mX n (rol n v u x n) (rol n v u o n) = mX n x o := by
  unfold mX
  obtain ⟨m, rfl⟩ : ∃ m, n = m + 1 := ⟨n - 1, by omega⟩
  rw [← mas_shift (permF_of px) (permF_of po) v u]
  exact mas_congr (fun i hi => rol_fn (by omega) h8 hi) (fun i hi => rol_fn (by omega) h8 hi)
theorem lenS {n : Nat} {X O : List Nat} {i : Nat} : ∀ k, (((strS n X O i k).length : Nat) : Int) = sm (fun r => ind (covS n (posF X n r) (posF O n r) i)) k
  | 0 => rfl
  | k + 1 => by
    rw [strS_succ, sm, ← lenS k]
    unfold ind
    split
    · simp
    · simp
theorem posF_rol {n v u r : Nat} {X : List Nat} (h2 : 2 ≤ n) (h8 : n ≤ 8) (p : isPerm X n) (hr : r < n) : posF (rol n v u X n) n ((r + v) % n) = (posF X n r + u) % n := by
  have hs := p.posF_spec hr
  have := (isPerm_rol (v := v) (u := u) h2 h8 p).posF_eq (k := (posF X n r + u) % n) (Nat.mod_lt _ (by omega))
  rw [rol_to (by omega) h8 hs.1, hs.2] at this
  exact this
theorem covS_shift {n x o i u : Nat} (h2 : 2 ≤ n) (h8 : n ≤ 8) (hx : x < n) (ho : o < n) (hi : i < n) (hu : u < n) : covS n ((x + u) % n) ((o + u) % n) ((i + u) % n) ↔ covS n x o i := by
  unfold covS
  rw [addmod hx, addmod ho, addmod hi, Nat.mod_eq_of_lt hu]
  obtain rfl | rfl | rfl | rfl | rfl | rfl | rfl : n = 2 ∨ n = 3 ∨ n = 4 ∨ n = 5 ∨ n = 6 ∨ n = 7 ∨ n = 8 := by omega
  all_goals (split <;> split <;> split <;> omega)
theorem braid_rol {n v u : Nat} {X O : List Nat} (g : okG (n : Int) X O) (hu : u < n) : (strS n (rol n v u X n) (rol n v u O n) 0 n).length = (strS n X O 0 n).length := by
  have hn := g.1
  have pX := g.2.1
  have pO := g.2.2.1
  simp only [Int.toNat_natCast] at pX pO
  have h1 := strS_len (okG_rol (v := v) (u := u) g) u hu
  rw [← h1]
  have e : (((strS n (rol n v u X n) (rol n v u O n) u n).length : Nat) : Int) = ((strS n X O 0 n).length : Nat) := by
    rw [lenS, lenS]
    have hp : permF (fun r => (r + v) % n) n := ⟨fun r hr => Nat.mod_lt _ (by omega), fun r s hr hs e => addmod_inj hr hs e⟩
    rw [← sm_perm hp (fun r => ind (covS n (posF (rol n v u X n) n r) (posF (rol n v u O n) n r) u))]
    refine sm_congr fun r hr => ind_iff ?_
    rw [posF_rol (by omega) (by omega) pX hr, posF_rol (by omega) (by omega) pO hr]
    have := covS_shift (i := 0) (by omega) (by omega) (pX.posF_spec hr).1 (pO.posF_spec hr).1 (by omega) hu
    rw [Nat.zero_add, Nat.mod_eq_of_lt hu] at this
    exact this
  omega
end Go.Proofs.Ytlgoepajebnilaa
