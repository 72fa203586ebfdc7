/- Walks: slices.Compact at a list of grids in order. -/
import Derived.Test.YtflleelfkknfaaaSH
import Derived.Test.YtflleelfkknfaaaNI
import Derived.Test.YtflleelfkknfaaaTF
import Derived.Test.YtflleelfkknfaaaFL
import Derived.Test.YtflleelfkknfaaaPO
import Derived.Test.YtflleelfkknfaaaPC
import Derived.Test.YtflleelfkknfaaaV
import Derived.Test.YtflleelfkknfaaaWB
import Derived.Test.YtflleelfkknfaaaGE
namespace Go.Proofs.Ytflleelfkknfaaa
open Go Go.RowKit SL
/-! Plain. -/
theorem lt_next {l : List GridB} (hs : l.Pairwise fun x y => rkG x ≤ rkG y) {j : Nat} {x y : GridB} (h1 : 1 ≤ j) (hx : l[j]? = some x) (hp : l[j - 1]? = some y) (hne : x ≠ y) : ∀ z ∈ l.take j, rkG z < rkG x := by
  intro z hz
  obtain ⟨i, hi, e⟩ := List.getElem_of_mem hz
  rw [List.length_take] at hi
  rw [List.getElem_take] at e
  obtain ⟨hj, e1⟩ := List.getElem?_eq_some_iff.1 hx
  obtain ⟨hj', e2⟩ := List.getElem?_eq_some_iff.1 hp
  have a1 : rkG z ≤ rkG y := by
    by_cases h : i = j - 1
    · subst h
      rw [← e, e2]
      exact Int.le_refl _
    · have := List.pairwise_iff_getElem.1 hs i (j - 1) (by omega) hj' (by omega)
      rwa [e, e2] at this
  have a2 := List.pairwise_iff_getElem.1 hs (j - 1) j hj' hj (by omega)
  rw [e1, e2] at a2
  have a3 : rkG y ≠ rkG x := fun h => hne (rkG_inj h).symm
  omega
theorem asc_snoc {L : List GridB} {x : GridB} (h : Asc rkG L) (hx : ∀ z ∈ L, rkG z < rkG x) : Asc rkG (L ++ [x]) :=
  List.pairwise_append.2 ⟨h, List.pairwise_singleton _ _, fun a ha b hb => by rw [List.mem_singleton] at hb; subst hb; exact hx a ha⟩
theorem take_succ' {l : List GridB} {k : Nat} {x : GridB} (h : l[k]? = some x) : l.take (k + 1) = l.take k ++ [x] := by rw [List.take_add_one, h]; rfl
/-- The second half of the work: A is the row, k has been kept, j been read. -/
structure CI (l A : List GridB) (k j : Nat) : Prop where
  len : A.length = l.length
  kj : k + 1 ≤ j
  jl : j ≤ l.length
  keep : ∀ i, j - 1 ≤ i → A[i]? = l[i]?
  asc : Asc rkG (A.take k)
  mem : ∀ y, y ∈ A.take k ↔ y ∈ l.take j
theorem CI.start {l : List GridB} {k : Nat} {x : GridB} (h1 : 1 ≤ k) (ha : Asc rkG (l.take k)) (hx : l[k]? = some x) (hp : l[k - 1]? = some x) : CI l l k (k + 1) := by
  obtain ⟨hk, _⟩ := List.getElem?_eq_some_iff.1 hx
  refine ⟨rfl, Nat.le_refl _, hk, fun _ _ => rfl, ha, fun y => ?_⟩
  rw [take_succ' hx, List.mem_append, List.mem_singleton]
  refine ⟨.inl, fun h => h.elim id fun e => ?_⟩
  subst e
  have h2 : (l.take k)[k - 1]? = some y := by rw [List.getElem?_take_of_lt (by omega)]; exact hp
  exact List.mem_of_getElem? h2
theorem CI.same {l A : List GridB} {k j : Nat} {x : GridB} (h : CI l A k j) (h1 : 1 ≤ j) (hx : l[j]? = some x) (hp : l[j - 1]? = some x) : CI l A k (j + 1) := by
  obtain ⟨hj, _⟩ := List.getElem?_eq_some_iff.1 hx
  refine ⟨h.len, by have := h.kj; omega, hj, fun i hi => h.keep i (by omega), h.asc, fun y => ?_⟩
  rw [take_succ' hx, List.mem_append, List.mem_singleton, h.mem]
  refine ⟨.inl, fun k => k.elim id fun e => ?_⟩
  subst e
  have h2 : (l.take j)[j - 1]? = some y := by rw [List.getElem?_take_of_lt (by omega)]; exact hp
  exact List.mem_of_getElem? h2
theorem CI.more {l A : List GridB} {k j : Nat} {x y : GridB} (h : CI l A k j) (hs : l.Pairwise fun x y => rkG x ≤ rkG y) (h1 : 1 ≤ j) (hx : l[j]? = some x) (hp : l[j - 1]? = some y) (hne : x ≠ y) : CI l (A.set k x) (k + 1) (j + 1) := by
  obtain ⟨hj, _⟩ := List.getElem?_eq_some_iff.1 hx
  have hkj := h.kj
  have hlen := h.len
  have ht : (A.set k x).take (k + 1) = A.take k ++ [x] := by
    have e : (A.set k x)[k]? = some x := by rw [List.getElem?_set_self (by omega)]
    rw [take_succ' e, List.take_set_of_le (Nat.le_refl _)]
  have hlt := lt_next hs h1 hx hp hne
  refine ⟨by rw [List.length_set]; exact hlen, by omega, hj, fun i hi => ?_, ?_, fun z => ?_⟩
  · rw [List.getElem?_set_ne (by omega)]
    exact h.keep i (by omega)
  · rw [ht]
    exact asc_snoc h.asc fun z hz => hlt z ((h.mem z).1 hz)
  · rw [ht, take_succ' hx, List.mem_append, List.mem_append, h.mem]
theorem flat_set {A : List GridB} {k : Nat} {x : GridB} (hk : k < A.length) : (A.flatMap encG).take (0 + k * 17) ++ encG x ++ (A.flatMap encG).drop (0 + k * 17 + 17) = (A.set k x).flatMap encG := by
  have e : A.set k x = A.take k ++ x :: A.drop (k + 1) := List.set_eq_take_append_cons_drop ▸ (by rw [if_pos hk])
  rw [e, List.flatMap_append, List.flatMap_cons, Nat.zero_add, ← flat_take, show k * 17 + 17 = (k + 1) * 17 by omega, ← flat_drop, List.append_assoc]
namespace SL
section
variable {P : Program} {B : Nat} {w0 : World} {n : Nat} {Q : Po} {F : Fr} {H : Hp} {ops : Array Oper} {l : List Oper} {ty : TypeId} {pos : String} {af : Array Edge} {d : Nat} {dst : Option Tmp} {g : Option (Nat × Bool)}
/-- A row that is not empty lies behind a slice of its own. -/
theorem JC_rowV {c : Code} {v : Value} {e sz : Nat} {xs : List Value} (hm : It.row v e sz xs ∈ H) (hne : xs ≠ []) (k : ∀ gg m cap, v = .slice (some ⟨gg, 0, none⟩) m cap → m ≤ cap → xs.length = m * sz → JC P B w0 n c Q F H) : JC P B w0 n c Q F H := by
  unfold JC at *
  intro a w ha hw
  obtain ⟨m, h1, h2⟩ := hw.row_slice hm
  rcases h2 with ⟨rfl, rfl⟩ | ⟨gg, cap, _, rfl, _, _, hc, _⟩
  · rw [Nat.zero_mul] at h1
    exact absurd (List.eq_nil_of_length_eq_zero h1) hne
  · exact k gg m cap rfl hc h1 a w ha hw
theorem run_partE {T e s by' : Nat} {z : Value} [hS : IS P T e s by' z] {w : World} {a : Option Addr} {m cap i j : Nat} {lo hi : Option Value} (hmc : m ≤ cap)
    (hlo : (lo = none ∧ i = 0) ∨ ∃ k : IntKind, lo = some (.int k (i : Int))) (hhi : (hi = none ∧ j = m) ∨ ∃ k : IntKind, hi = some (.int k (j : Int))) (hij : i ≤ j) (hjm : j ≤ m) : (Instr.sliceAt T (.slice a m cap) lo hi none).run P w = .ok (partV s (.slice a m cap) i j) w := by
  obtain ⟨hu, inf, hi', hsz, -, -, -⟩ := hS.out
  have hz : (sizeOf e).run P w = .ok s w := by simp [sizeOf, typeInfo, hi', hsz]
  have hb : (Instr.sliceBounds true m cap lo hi none).run P w = .ok (i, j, cap) w := by
    rcases hlo with ⟨rfl, rfl⟩ | ⟨k, rfl⟩ <;> rcases hhi with ⟨rfl, rfl⟩ | ⟨k', rfl⟩ <;>
      simp [Instr.sliceBounds, sliceBound_run (P := P) (w := w) hij, sliceBound_run (P := P) (w := w) (show j ≤ cap by omega)]
  simp only [Instr.sliceAt, Instr.slice, Sem.run_bind, run_underlying hu, Result.andThen_ok, hb, hz, Sem.run_pure, partV]
theorem Jq_cutLo {dr : Bool} {T e s by' : Nat} {z : Value} [hS : IS P T e s by' z] {x y : Operand} {gg m cap i : Nat} {k : IntKind} (hdn : Nat.blt d n = true) (hx : ev F x = some (.slice (some ⟨gg, 0, none⟩) m cap)) (hy : ev F y = some (.int k (i : Int))) (hmc : m ≤ cap) (him : i < m)
    (kk : J dr P B w0 n ops Q l ((d, .slice (some ⟨gg, i * s, none⟩) (m - i) (cap - i)) :: F) H) : J dr P B w0 n ops Q (⟨some d, .slice T x (some y) none none, ty, pos, af, none⟩ :: l) F H :=
  J_q hdn (opq_run fun A ha w hw => by
    have h := run_partE (P := P) (T := T) (e := e) (s := s) (w := w) (a := some ⟨gg, 0, none⟩) (m := m) (cap := cap) (i := i) (j := m) (lo := some (.int k (i : Int))) (hi := none) hmc (.inr ⟨k, rfl⟩) (.inl ⟨rfl, rfl⟩) (by omega) (Nat.le_refl _)
    have e1 : partV s (.slice (some ⟨gg, 0, none⟩) m cap) i m = .slice (some ⟨gg, i * s, none⟩) (m - i) (cap - i) := by
      simp only [partV, if_neg (show ¬ cap = i by omega), Option.map_some, add_eq, Nat.zero_add]
    rw [e1] at h
    simp only [execOp, ha.ev hx, ha.ev hy, Option.map_some, Option.map_none]
    rw [Sem.run_bind, h]; rfl) kk
theorem Jq_cutHi {dr : Bool} {T e s by' : Nat} {z : Value} [hS : IS P T e s by' z] {x y : Operand} {gg m cap j : Nat} {k : IntKind} (hdn : Nat.blt d n = true) (hx : ev F x = some (.slice (some ⟨gg, 0, none⟩) m cap)) (hy : ev F y = some (.int k (j : Int))) (hmc : m ≤ cap) (h0 : 0 < cap) (hjm : j ≤ m)
    (kk : J dr P B w0 n ops Q l ((d, .slice (some ⟨gg, 0, none⟩) j cap) :: F) H) : J dr P B w0 n ops Q (⟨some d, .slice T x none (some y) none, ty, pos, af, none⟩ :: l) F H :=
  J_q hdn (opq_run fun A ha w hw => by
    have h := run_partE (P := P) (T := T) (e := e) (s := s) (w := w) (a := some ⟨gg, 0, none⟩) (m := m) (cap := cap) (i := 0) (j := j) (lo := none) (hi := some (.int k (j : Int))) hmc (.inl ⟨rfl, rfl⟩) (.inr ⟨k, rfl⟩) (Nat.zero_le _) hjm
    have e1 : partV s (.slice (some ⟨gg, 0, none⟩) m cap) 0 j = .slice (some ⟨gg, 0, none⟩) j cap := by
      simp only [partV, if_neg (show ¬ cap = 0 by omega), Option.map_some, add_eq, Nat.zero_add, Nat.zero_mul, Nat.sub_zero]
    rw [e1] at h
    simp only [execOp, ha.ev hx, ha.ev hy, Option.map_some, Option.map_none]
    rw [Sem.run_bind, h]; rfl) kk
theorem zeroCells_len (z : Value) (q : Nat) : (Go.Builtin.zeroCells z.cells q).toList.length = q * z.cells.size := by simp [Go.Builtin.zeroCells]
/-- The rest of a row is cleared: the row is cut. -/
theorem J_clear {T e s by' : Nat} {z : Value} {x : Operand} {gg cap N k c : Nat} {xs : List Value} {H' : Value → List Value → Hp} [hS : IS P T e s by' z] (hs : 0 < s) (hx : ev F x = some (.slice (some ⟨gg, k * s, none⟩) (N - k) c)) (hu : RF (.slice (some ⟨gg, 0, none⟩) N cap) H e s xs H') (hk : k < N) (hone : ∀ u ∈ z.cells, u.oneCell' = true)
    (kk : J false P B w0 n ops Q l F (H' (.slice (some ⟨gg, 0, none⟩) k cap) (xs.take (k * s)))) : J false P B w0 n ops Q (⟨none, .call { callee := .builtin .clear, args := #[x], argTypes := #[T] }, ty, pos, af, none⟩ :: l) F H := by
  obtain ⟨H1, H2, rfl, h2⟩ := hu.out
  rw [h2] at kk
  clear hu
  refine J_do _ fun a w ha hw => ?_
  obtain ⟨hu', i, hi, hsz, hby1, hz, hzc⟩ := hS.out
  obtain ⟨m, hown⟩ := hw.row_slice (v := .slice (some ⟨gg, 0, none⟩) N cap) (e := e) (sz := s) (xs := xs) (by simp)
  rcases hown.2 with ⟨h, _⟩ | ⟨g', cap', cur, hv, hB, hg, hnc, hcm, hszc, htake⟩
  · cases h
  · injection hv with e1 e2 e3
    injection e1 with e1
    injection e1 with e1
    subst e1 e2 e3
    obtain ⟨q, hq⟩ : ∃ q, N - k = q + 1 := ⟨N - k - 1, by omega⟩
    have hzl : (Go.Builtin.zeroCells z.cells (N - k)).toList.length = (N - k) * s := by rw [zeroCells_len, hzc]
    have hle : k * s + (N - k) * s = N * s := by rw [← Nat.add_mul]; congr 1; omega
    have hNs : N * s ≤ cap * s := Nat.mul_le_mul_right _ hnc
    have hst := run_storeCells_at P gg (k * s) e (Go.Builtin.zeroCells z.cells (N - k)).toList 0 cur w hg (by rw [hzl]; omega) (fun u hu => by
      simp only [Go.Builtin.zeroCells, Array.toList_map, List.mem_map] at hu
      obtain ⟨i, _, rfl⟩ := hu
      have hlt : i % z.cells.size < z.cells.size := Nat.mod_lt _ (by omega)
      rw [getElem!_pos z.cells _ hlt]
      exact hone _ (Array.getElem_mem hlt))
    obtain ⟨w', hw'⟩ : ∃ w', w' = w.setRow gg (cur.toList.take (k * s + 0) ++ (Go.Builtin.zeroCells z.cells (N - k)).toList ++ cur.toList.drop (k * s + 0 + (Go.Builtin.zeroCells z.cells (N - k)).toList.length)).toArray := ⟨_, rfl⟩
    rw [← hw'] at hst
    refine ⟨.tuple #[], w', F, H1 ++ .row (.slice (some ⟨gg, 0, none⟩) k cap) e s (xs.take (k * s)) :: H2, ?_, ha.none _, ?_, kk⟩
    · simp only [execOp, resolve, invoke, builtin, Sem.run_bind, Sem.run_pure, Result.andThen_ok, List.map_toArray, List.map_cons, List.map_nil, ha.ev hx]
      rw [hq] at hst ⊢
      have hzv : (zeroValue e).run P w = .ok z w := by simp [zeroValue, typeInfo, hi, hz]
      simp [Builtin.clear_, run_underlying hu', hzv]
      rw [hst]
      rfl
    · subst hw'
      refine hw.swap rfl rfl rfl (by simp) (Nat.le_refl _) (fun k' _ hk' => setRow_other w gg k' _ (fun e' => hk' (by rw [e']; rfl))) ⟨k, ?_, .inr ⟨gg, cap, _, rfl, hB, setRow_heap w gg _ _ e _ hg, by omega, hcm, ?_, ?_⟩⟩ (fun k hk => .inl hk)
      · rw [List.length_take, hown.1]
        exact Nat.min_eq_left (by omega)
      · simp only [List.size_toArray, List.length_append, List.length_take, List.length_drop, Array.length_toList, hzl, Nat.add_zero]
        rw [hszc]; omega
      · simp only [Nat.add_zero]
        rw [List.append_assoc, List.take_append, List.length_take, Array.length_toList, Nat.min_eq_left (by omega), Nat.sub_self, List.take_zero, List.append_nil, List.take_take, Nat.min_self, ← htake, List.take_take, Nat.min_eq_left (by omega)]
end
end SL
theorem flat_at0 {l : List GridB} {k j : Nat} {x : GridB} (e : k = j * 17) (h : l[j]? = some x) : ((l.flatMap encG).drop k).take 17 = encG x := by subst e; exact flat_at h
theorem eq_row (x y : GridB) (b : Bool) (h : b = true ↔ x = y) (w : World) : (Op.equalIn 10000 27 (.agg (encG x).toArray) (.agg (encG y).toArray)).run Try.prog w = .ok b w := by
  rw [eqG_run x y w]
  congr 1
  cases b with
  | true => exact @decide_eq_true _ (Classical.propDecidable _) (h.1 rfl)
  | false => exact @decide_eq_false _ (Classical.propDecidable _) fun e => by cases h.2 e
set_option maxRecDepth 100000 in
theorem compact_gives {B : Nat} {w0 : World} {H2 : Hp} (l : List GridB) (v : Value) (hl : l.length ≤ 1000000) (hs : l.Pairwise fun x y => rkG x ≤ rkG y) :
    GivesE Try.prog 52 #[v] B w0 (.row v 27 17 (l.flatMap encG) :: H2)
      (fun v' H' => ∃ l', Asc rkG l' ∧ (∀ y, y ∈ l' ↔ y ∈ l) ∧ l'.length ≤ l.length ∧ H' = .row v' 27 17 (l'.flatMap encG) :: H2) := by
  have lf := flat_len l
  refine givesE_of (args := [v]) [(0, v)] Try.func52 rfl Try.ntmps52 rfl (argsF_cons rfl argsF_nil) ?_
  by_cases h2 : l.length < 2
  · repeat' (first | (apply Jq_move; exact rfl; exact rfl) | (apply Jq_assign; exact rfl; exact rfl) | (apply Jq_cmp; exact rfl; exact rfl; exact rfl; exact rfl) | (apply Jq_lenRs; exact rfl; exact rfl; (exact rb); exact lf; decide) | refine thenQ_normal ?_ | refine thenQ_ret ?_ | refine JC_seq ?_ | refine JC_region ?_ | refine J_nil ?_ | refine JC_ret ?_ | (apply JC_dec_true; exact rfl; omega))
    refine e1 rfl rfl rfl ?_ ⟨l, ?_, fun _ => Iff.rfl, Nat.le_refl _, rfl⟩
    · (refine ent ?_ ?_; (repeat refine fr_cons rfl ?_); exact fr_nil; (repeat (exact List.Sublist.refl _)))
    · match l, h2 with
      | [], _ => exact List.Pairwise.nil
      | [x], _ => exact List.pairwise_singleton _ _
  · refine JC_rowV (v := v) (e := 27) (sz := 17) (xs := l.flatMap encG) (by simp) (fun h => by rw [h] at lf; simp only [List.length_nil] at lf; omega) ?_
    intro gg m cap hv hmc hm
    subst hv
    obtain rfl : m = l.length := by omega
    repeat' (first | (apply Jq_move; exact rfl; exact rfl) | (apply Jq_assign; exact rfl; exact rfl) | (apply Jq_cmp; exact rfl; exact rfl; exact rfl; exact rfl) | (apply Jq_len; exact rfl; exact rfl) | refine thenQ_normal ?_ | refine JC_seq ?_ | refine JC_region ?_ | refine J_nil ?_ | refine JC_block ?_ | refine JC_skip ?_ | (apply JC_dec_false; exact rfl; omega))
    refine JC_loop (X := Nat) (fun k => 1 ≤ k ∧ k ≤ l.length ∧ Asc rkG (l.take k)) (fun k => [(3, .int .i64 (k : Int)), (0, .slice (some ⟨gg, 0, none⟩) l.length cap)]) (fun _ => .row (.slice (some ⟨gg, 0, none⟩) l.length cap) 27 17 (l.flatMap encG) :: H2) (fun k => l.length - k) 1 ⟨Nat.le_refl _, by omega, ?_⟩ ?_ ?_
    · match l, h2 with
      | x :: t, _ => exact List.pairwise_singleton _ _
    · (refine ent ?_ ?_; (repeat refine fr_cons rfl ?_); exact fr_nil; (repeat (exact List.Sublist.refl _)))
    · rintro k ⟨hk1, hk, ha⟩
      by_cases hlt : k < l.length
      · obtain ⟨x, hx⟩ : ∃ x, l[k]? = some x := ⟨_, List.getElem?_eq_getElem (by omega)⟩
        obtain ⟨y, hy⟩ : ∃ y, l[k - 1]? = some y := ⟨_, List.getElem?_eq_getElem (by omega)⟩
        have ux := encG_len x
        have uy := encG_len y
        have c1 : (k : Int) - 1 = ((k - 1 : Nat) : Int) := by omega
        have f1 := flat_at0 (show 0 + k * 17 = k * 17 by omega) hx
        have f2 := flat_at0 (show 0 + (k - 1) * 17 = (k - 1) * 17 by omega) hy
        by_cases hxy : x = y
        · have hq := eq_row x y true ⟨fun _ => hxy, fun _ => rfl⟩
          repeat' (first | (apply Jq_subR; exact rfl; exact rfl; exact rfl; omega; exact c1) | (apply Jq_loadRA (v := .slice (some ⟨gg, 0, none⟩) l.length cap); exact rfl; exact rfl; exact m0; exact f1; exact ux; decide) | (apply Jq_loadRA (v := .slice (some ⟨gg, 0, none⟩) l.length cap); exact rfl; exact rfl; exact m0; exact f2; exact uy; decide) | (apply Jq_eqA (r := true); exact rfl; exact rfl; exact rfl; kernel_rfl; exact hq) | (apply Jq_cutLo; exact rfl; exact rfl; exact rfl; exact hmc; exact hlt) | (apply Jq_move; exact rfl; exact rfl) | (apply Jq_assign; exact rfl; exact rfl) | (apply Jq_indexSN; exact rfl; exact rfl; exact rfl; omega) | (apply Jq_cmp; exact rfl; exact rfl; exact rfl; exact rfl) | (apply Jq_len; exact rfl; exact rfl) | refine thenQ_normal ?_ | refine JC_seq ?_ | refine JC_region ?_ | (apply JC_draw mixed; kernel_rfl) | refine J_nil ?_ | refine JC_block ?_ | refine JC_skip ?_ | (apply JC_if_true; exact rfl) | (apply JC_dec_true; exact rfl; omega))
          refine JC_loop (X := List GridB × Nat × Nat) (fun p => 1 ≤ p.2.2 ∧ p.2.2 ≤ l.length - k ∧ CI l p.1 p.2.1 (k + p.2.2)) (fun p => [(5, .int .i64 (p.2.2 : Int)), (4, .slice (some ⟨gg, k * 17, none⟩) (l.length - k) (cap - k)), (3, .int .i64 (p.2.1 : Int)), (0, .slice (some ⟨gg, 0, none⟩) l.length cap)]) (fun p => .row (.slice (some ⟨gg, 0, none⟩) l.length cap) 27 17 (p.1.flatMap encG) :: H2) (fun p => l.length - p.2.2) (l, k, 1) ⟨Nat.le_refl _, by (dsimp only; omega), CI.start hk1 ha hx (hxy ▸ hy)⟩ ?_ ?_
          · (refine ent ?_ ?_; (repeat refine fr_cons rfl ?_); exact fr_nil; (repeat (exact List.Sublist.refl _)))
          · clear hx hy ux uy c1 f1 f2 hq hxy x y ha
            rintro ⟨A, k', j⟩ ⟨hj1, hjl, hc⟩
            dsimp only at hj1 hjl hc ⊢
            have lA := flat_len A
            have hAl := hc.len
            have hkj := hc.kj
            by_cases hlj : j < l.length - k
            · obtain ⟨x, hx⟩ : ∃ x, l[k + j]? = some x := ⟨_, List.getElem?_eq_getElem (by omega)⟩
              obtain ⟨y, hy⟩ : ∃ y, l[k + j - 1]? = some y := ⟨_, List.getElem?_eq_getElem (by omega)⟩
              have ux := encG_len x
              have uy := encG_len y
              have c1 : (j : Int) - 1 = ((j - 1 : Nat) : Int) := by omega
              have f1 := flat_at0 (show k * 17 + j * 17 = (k + j) * 17 by omega) ((hc.keep (k + j) (by omega)).trans hx)
              have f2 := flat_at0 (show k * 17 + (j - 1) * 17 = (k + j - 1) * 17 by omega) ((hc.keep (k + j - 1) (by omega)).trans hy)
              by_cases hxy : x = y
              · have hq := eq_row x y true ⟨fun _ => hxy, fun _ => rfl⟩
                repeat' (first | (apply Jq_subR; exact rfl; exact rfl; exact rfl; omega; exact c1) | (apply Jq_loadRA (v := .slice (some ⟨gg, 0, none⟩) l.length cap); exact rfl; exact rfl; exact m0; exact f1; exact ux; decide) | (apply Jq_loadRA (v := .slice (some ⟨gg, 0, none⟩) l.length cap); exact rfl; exact rfl; exact m0; exact f2; exact uy; decide) | (apply Jq_neA (r := true); exact rfl; exact rfl; exact rfl; kernel_rfl; exact hq) | (apply Jq_move; exact rfl; exact rfl) | (apply Jq_assign; exact rfl; exact rfl) | (apply Jq_indexSN; exact rfl; exact rfl; exact rfl; omega) | (apply Jq_cmp; exact rfl; exact rfl; exact rfl; exact rfl) | (apply Jq_add; exact rfl; exact rfl; exact rfl; omega) | (apply Jq_len; exact rfl; exact rfl) | refine thenQ_normal ?_ | refine inBlockQ_normal ?_ | refine JC_seq ?_ | refine JC_region ?_ | (apply JC_draw mixed; kernel_rfl) | refine J_nil ?_ | refine JC_block ?_ | refine JC_skip ?_ | (apply JC_if_false; exact rfl) | (apply JC_dec_true; exact rfl; omega))
                refine ⟨(A, k', j + 1), ⟨by (dsimp only; omega), by (dsimp only; omega), ?_⟩, by (dsimp only; omega), ?_⟩
                · exact hc.same (by omega) hx (hxy ▸ hy)
                · (refine ent ?_ ?_; (repeat refine fr_cons rfl ?_); exact fr_nil; (repeat (exact List.Sublist.refl _)))
              · have hq := eq_row x y false ⟨fun h => (by cases h), fun h => absurd h hxy⟩
                have hst := flat_set (A := A) (k := k') (x := x) (by omega)
                have hone : ∀ u ∈ encG x, u.oneCell' = true := encG_one x
                repeat' (first | (apply Jq_subR; exact rfl; exact rfl; exact rfl; omega; exact c1) | (apply Jq_loadRA (v := .slice (some ⟨gg, 0, none⟩) l.length cap); exact rfl; exact rfl; exact m0; exact f1; exact ux; decide) | (apply Jq_loadRA (v := .slice (some ⟨gg, 0, none⟩) l.length cap); exact rfl; exact rfl; exact m0; exact f2; exact uy; decide) | (apply Jq_neA (r := false); exact rfl; exact rfl; exact rfl; kernel_rfl; exact hq) | (apply J_sRA (v := .slice (some ⟨gg, 0, none⟩) l.length cap) (xs := A.flatMap encG); exact rfl; exact rfl; infer_instance; exact ux; exact hone; decide; omega; exact hst) | (apply Jq_move; exact rfl; exact rfl) | (apply Jq_assign; exact rfl; exact rfl) | (apply Jq_indexSN; exact rfl; exact rfl; exact rfl; omega) | (apply Jq_cmp; exact rfl; exact rfl; exact rfl; exact rfl) | (apply Jq_add; exact rfl; exact rfl; exact rfl; omega) | (apply Jq_len; exact rfl; exact rfl) | refine thenQ_normal ?_ | refine inBlockQ_normal ?_ | refine JC_seq ?_ | refine JC_region ?_ | (apply JC_draw mixed; kernel_rfl) | refine J_nil ?_ | refine JC_block ?_ | refine JC_skip ?_ | (apply JC_if_true; exact rfl) | (apply JC_dec_true; exact rfl; omega))
                refine ⟨(A.set k' x, k' + 1, j + 1), ⟨by (dsimp only; omega), by (dsimp only; omega), ?_⟩, by (dsimp only; omega), ?_⟩
                · exact hc.more hs (by omega) hx hy hxy
                · (refine ent ?_ ?_; (repeat refine fr_cons rfl ?_); exact fr_nil; (repeat (exact List.Sublist.refl _)))
            · obtain rfl : j = l.length - k := by omega
              have hkN : k' < l.length := by omega
              have e1' := flat_take A k'
              repeat' (first | (apply Jq_cutLo; exact rfl; exact rfl; exact rfl; exact hmc; exact hkN) | (apply J_clear (gg := gg) (cap := cap) (N := l.length) (k := k') (e := 27) (s := 17) (xs := A.flatMap encG); decide; exact rfl; infer_instance; exact hkN; exact (fun u hu => gv_one 0 Z8 Z8 u hu.val)) | (apply Jq_cutHi; exact rfl; exact rfl; exact rfl; exact hmc; omega; omega) | (apply Jq_move; exact rfl; exact rfl) | (apply Jq_assign; exact rfl; exact rfl) | (apply Jq_cmp; exact rfl; exact rfl; exact rfl; exact rfl) | (apply Jq_len; exact rfl; exact rfl) | refine thenQ_normal ?_ | refine thenQ_exit ?_ | refine thenQ_ret ?_ | refine inBlockQ_ret ?_ | refine inBlockQ_here ?_ | refine JC_seq ?_ | refine JC_region ?_ | refine J_nil ?_ | refine JC_ret ?_ | refine JC_exit ?_ | (apply JC_dec_false; exact rfl; omega))
              have ej : k + (l.length - k) = l.length := by omega
              rw [ej] at hc
              refine e1 rfl rfl rfl ?_ ⟨A.take k', hc.asc, fun y => by rw [hc.mem, List.take_length], by rw [List.length_take]; omega, rfl⟩
              rw [← e1']
              (refine ent ?_ ?_; (repeat refine fr_cons rfl ?_); exact fr_nil; (repeat (exact List.Sublist.refl _)))
        · have hq := eq_row x y false ⟨fun h => (by cases h), fun h => absurd h hxy⟩
          repeat' (first | (apply Jq_subR; exact rfl; exact rfl; exact rfl; omega; exact c1) | (apply Jq_loadRA (v := .slice (some ⟨gg, 0, none⟩) l.length cap); exact rfl; exact rfl; exact m0; exact f1; exact ux; decide) | (apply Jq_loadRA (v := .slice (some ⟨gg, 0, none⟩) l.length cap); exact rfl; exact rfl; exact m0; exact f2; exact uy; decide) | (apply Jq_eqA (r := false); exact rfl; exact rfl; exact rfl; kernel_rfl; exact hq) | (apply Jq_move; exact rfl; exact rfl) | (apply Jq_assign; exact rfl; exact rfl) | (apply Jq_indexSN; exact rfl; exact rfl; exact rfl; omega) | (apply Jq_cmp; exact rfl; exact rfl; exact rfl; exact rfl) | (apply Jq_add; exact rfl; exact rfl; exact rfl; omega) | (apply Jq_len; exact rfl; exact rfl) | refine thenQ_normal ?_ | refine inBlockQ_normal ?_ | refine JC_seq ?_ | refine JC_region ?_ | (apply JC_draw mixed; kernel_rfl) | refine J_nil ?_ | refine JC_block ?_ | refine JC_skip ?_ | (apply JC_if_false; exact rfl) | (apply JC_dec_true; exact rfl; omega))
          refine ⟨k + 1, ⟨by omega, by omega, ?_⟩, by omega, ?_⟩
          · rw [take_succ' hx]
            exact asc_snoc ha (lt_next hs hk1 hx hy hxy)
          · (refine ent ?_ ?_; (repeat refine fr_cons rfl ?_); exact fr_nil; (repeat (exact List.Sublist.refl _)))
      · obtain rfl : k = l.length := by omega
        repeat' (first | (apply Jq_move; exact rfl; exact rfl) | (apply Jq_assign; exact rfl; exact rfl) | (apply Jq_cmp; exact rfl; exact rfl; exact rfl; exact rfl) | (apply Jq_len; exact rfl; exact rfl) | refine thenQ_normal ?_ | refine thenQ_exit ?_ | refine inBlockQ_here ?_ | refine JC_seq ?_ | refine JC_region ?_ | refine J_nil ?_ | refine JC_ret ?_ | refine JC_exit ?_ | (apply JC_dec_false; exact rfl; omega))
        refine e1 rfl rfl rfl ?_ ⟨l, by rwa [List.take_length] at ha, fun _ => Iff.rfl, Nat.le_refl _, rfl⟩
        (refine ent ?_ ?_; (repeat refine fr_cons rfl ?_); exact fr_nil; (repeat (exact List.Sublist.refl _)))
end Go.Proofs.Ytflleelfkknfaaa
