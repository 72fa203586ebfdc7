/- Items found behind an unknown part of the memory. Walks: slices.Compact at a list of grids in order. -/
import Derived.Test.YtmbbcmebdefggaaGreatDoorGE
import Derived.Test.YtmbbcmebdefggaaGreatDoorSH
import Derived.Test.YtmbbcmebdefggaaGreatDoorV
import Derived.Test.YtmbbcmebdefggaaGreatDoorAP
import Derived.Test.YtmbbcmebdefggaaGreatDoorWC
import Derived.Test.YtmbbcmebdefggaaGreatDoorTG
namespace Go.Proofs.YtmbbcmebdefggaaGreatDoor
open Go Go.RowKit SL
namespace SL
instance (priority := low) RB_N {v : Value} {A H : Hp} {e sz : Nat} {xs : List Value} [h : RB v H e sz xs] : RB v (A ++ H) e sz xs := ⟨List.mem_append.2 (.inr h.out)⟩
instance (priority := low) MB_N {b : Nat} {A H : Hp} {cs : List Value} {E : TypeId} [h : MB b H cs E] : MB b (A ++ H) cs E := ⟨List.mem_append.2 (.inr h.out)⟩
instance (priority := low) RB_L {v : Value} {A H : Hp} {e sz : Nat} {xs : List Value} [h : RB v A e sz xs] : RB v (A ++ H) e sz xs := ⟨List.mem_append.2 (.inl h.out)⟩
instance (priority := low) MU_N {b : Nat} {A H H' : Hp} {cs cs' : List Value} {E : TypeId} [h : MU b H cs E cs' H'] : MU b (A ++ H) cs E cs' (A ++ H') := ⟨by
  obtain ⟨H1, H2, rfl, rfl⟩ := h.out
  exact ⟨A ++ H1, H2, (List.append_assoc ..).symm, (List.append_assoc ..).symm⟩⟩
instance (priority := low) RF_N {v : Value} {A H : Hp} {H' : Value → List Value → Hp} {e sz : Nat} {xs : List Value} [h : RF v H e sz xs H'] : RF v (A ++ H) e sz xs (fun v' xs' => A ++ H' v' xs') := ⟨by
  obtain ⟨H1, H2, rfl, h2⟩ := h.out
  exact ⟨A ++ H1, H2, (List.append_assoc ..).symm, fun v' xs' => by rw [h2, List.append_assoc]⟩⟩
section
variable {P : Program} {B : Nat} {w0 : World} {n : Nat} {Q : Po} {F : Fr} {H : Hp} {ops : Array Oper} {l : List Oper} {ty : TypeId} {pos : String} {af : Array Edge} {d : Nat} {dst : Option Tmp} {g : Option (Nat × Bool)}
theorem q_quoR {T T' : TypeId} {x y : Operand} {a b r : Int} (hx : ev F x = some (.int .i64 a)) (hy : ev F y = some (.int .i64 b)) (hb : b ≠ 0) (hr : a.tdiv b = r) (h : -9223372036854775808 ≤ r ∧ r ≤ 9223372036854775807) :
    OpQ P B w0 n H F ⟨dst, .binOp .quo T x y T', ty, pos, af, g⟩ (.int .i64 r) :=
  q_bin hx hy fun w => by
    subst hr
    rw [eqGuard_int]
    simp [binOp_quo, Op.intDiv, hb, wrap_in h]
theorem Jq_quoR {dr : Bool} {T T' : TypeId} {x y : Operand} {a b r : Int} (hdn : Nat.blt d n = true) (hx : ev F x = some (.int .i64 a)) (hy : ev F y = some (.int .i64 b)) (hb : b ≠ 0) (hr : a.tdiv b = r) (h : -9223372036854775808 ≤ r ∧ r ≤ 9223372036854775807) (kk : J dr P B w0 n ops Q l ((d, .int .i64 r) :: F) H) :
    J dr P B w0 n ops Q (⟨some d, .binOp .quo T x y T', ty, pos, af, none⟩ :: l) F H := J_q hdn (q_quoR hx hy hb hr h) kk
end
end SL
end Go.Proofs.YtmbbcmebdefggaaGreatDoor
namespace Go.Proofs.YtmbbcmebdefggaaGreatDoor
open Go Go.RowKit SL
/-! Plain. -/
namespace SL
section
variable {P : Program} {B : Nat} {w0 : World} {n : Nat} {Q : Po} {F : Fr} {H : Hp} {ops : Array Oper} {l : List Oper} {ty : TypeId} {pos : String} {af : Array Edge} {d : Nat} {dst : Option Tmp} {g : Option (Nat × Bool)}
/-- A row that is not empty lies behind a slice of its own. -/
theorem JC_rowV {c : Code} {v : Value} {e sz : Nat} {xs : List Value} (hm : It.row v e sz xs ∈ H) (hne : xs ≠ []) (k : ∀ gg m cap, v = .slice (some ⟨gg, 0, none⟩) m cap → m ≤ cap → xs.length = m * sz → JC P B w0 n c Q F H) : JC P B w0 n c Q F H := by
  unfold JC at *
  intro a w ha hw
  obtain ⟨m, h1, h2⟩ := hw.row_slice hm
  rcases h2 with ⟨rfl, rfl⟩ | ⟨gg, cap, _, rfl, _, _, hc, _⟩
  · rw [Nat.zero_mul] at h1
    exact absurd (List.eq_nil_of_length_eq_zero h1) hne
  · exact k gg m cap rfl hc h1 a w ha hw
theorem run_partE {T e s by' : Nat} {z : Value} [hS : IS P T e s by' z] {w : World} {a : Option Addr} {m cap i j : Nat} {lo hi : Option Value} (hmc : m ≤ cap)
    (hlo : (lo = none ∧ i = 0) ∨ ∃ k : IntKind, lo = some (.int k (i : Int))) (hhi : (hi = none ∧ j = m) ∨ ∃ k : IntKind, hi = some (.int k (j : Int))) (hij : i ≤ j) (hjm : j ≤ m) : (Instr.sliceAt T (.slice a m cap) lo hi none).run P w = .ok (partV s (.slice a m cap) i j) w := by
  obtain ⟨hu, inf, hi', hsz, -, -, -⟩ := hS.out
  have hz : (sizeOf e).run P w = .ok s w := by simp [sizeOf, typeInfo, hi', hsz]
  have hb : (Instr.sliceBounds true m cap lo hi none).run P w = .ok (i, j, cap) w := by
    rcases hlo with ⟨rfl, rfl⟩ | ⟨k, rfl⟩ <;> rcases hhi with ⟨rfl, rfl⟩ | ⟨k', rfl⟩ <;>
      simp [Instr.sliceBounds, sliceBound_run (P := P) (w := w) hij, sliceBound_run (P := P) (w := w) (show j ≤ cap by omega)]
  simp only [Instr.sliceAt, Instr.slice, Sem.run_bind, run_underlying hu, Result.andThen_ok, hb, hz, Sem.run_pure, partV]
theorem Jq_cutLo {dr : Bool} {T e s by' : Nat} {z : Value} [hS : IS P T e s by' z] {x y : Operand} {gg m cap i : Nat} {k : IntKind} (hdn : Nat.blt d n = true) (hx : ev F x = some (.slice (some ⟨gg, 0, none⟩) m cap)) (hy : ev F y = some (.int k (i : Int))) (hmc : m ≤ cap) (him : i < m)
    (kk : J dr P B w0 n ops Q l ((d, .slice (some ⟨gg, i * s, none⟩) (m - i) (cap - i)) :: F) H) : J dr P B w0 n ops Q (⟨some d, .slice T x (some y) none none, ty, pos, af, none⟩ :: l) F H :=
  J_q hdn (opq_run fun A ha w hw => by
    have h := run_partE (P := P) (T := T) (e := e) (s := s) (w := w) (a := some ⟨gg, 0, none⟩) (m := m) (cap := cap) (i := i) (j := m) (lo := some (.int k (i : Int))) (hi := none) hmc (.inr ⟨k, rfl⟩) (.inl ⟨rfl, rfl⟩) (by omega) (Nat.le_refl _)
    have e1 : partV s (.slice (some ⟨gg, 0, none⟩) m cap) i m = .slice (some ⟨gg, i * s, none⟩) (m - i) (cap - i) := by
      simp only [partV, if_neg (show ¬ cap = i by omega), Option.map_some, add_eq, Nat.zero_add]
    rw [e1] at h
    simp only [execOp, ha.ev hx, ha.ev hy, Option.map_some, Option.map_none]
    rw [Sem.run_bind, h]; rfl) kk
theorem Jq_cutHi {dr : Bool} {T e s by' : Nat} {z : Value} [hS : IS P T e s by' z] {x y : Operand} {gg m cap j : Nat} {k : IntKind} (hdn : Nat.blt d n = true) (hx : ev F x = some (.slice (some ⟨gg, 0, none⟩) m cap)) (hy : ev F y = some (.int k (j : Int))) (hmc : m ≤ cap) (h0 : 0 < cap) (hjm : j ≤ m)
    (kk : J dr P B w0 n ops Q l ((d, .slice (some ⟨gg, 0, none⟩) j cap) :: F) H) : J dr P B w0 n ops Q (⟨some d, .slice T x none (some y) none, ty, pos, af, none⟩ :: l) F H :=
  J_q hdn (opq_run fun A ha w hw => by
    have h := run_partE (P := P) (T := T) (e := e) (s := s) (w := w) (a := some ⟨gg, 0, none⟩) (m := m) (cap := cap) (i := 0) (j := j) (lo := none) (hi := some (.int k (j : Int))) hmc (.inl ⟨rfl, rfl⟩) (.inr ⟨k, rfl⟩) (Nat.zero_le _) hjm
    have e1 : partV s (.slice (some ⟨gg, 0, none⟩) m cap) 0 j = .slice (some ⟨gg, 0, none⟩) j cap := by
      simp only [partV, if_neg (show ¬ cap = 0 by omega), Option.map_some, add_eq, Nat.zero_add, Nat.zero_mul, Nat.sub_zero]
    rw [e1] at h
    simp only [execOp, ha.ev hx, ha.ev hy, Option.map_some, Option.map_none]
    rw [Sem.run_bind, h]; rfl) kk
theorem zeroCells_len (z : Value) (q : Nat) : (Go.Builtin.zeroCells z.cells q).toList.length = q * z.cells.size := by simp [Go.Builtin.zeroCells]
/-- The rest of a row is cleared: the row is cut. -/
theorem J_clear {T e s by' : Nat} {z : Value} {x : Operand} {gg cap N k c : Nat} {xs : List Value} {H' : Value → List Value → Hp} [hS : IS P T e s by' z] (hs : 0 < s) (hx : ev F x = some (.slice (some ⟨gg, k * s, none⟩) (N - k) c)) (hu : RF (.slice (some ⟨gg, 0, none⟩) N cap) H e s xs H') (hk : k < N) (hone : ∀ u ∈ z.cells, u.oneCell' = true)
    (kk : J false P B w0 n ops Q l F (H' (.slice (some ⟨gg, 0, none⟩) k cap) (xs.take (k * s)))) : J false P B w0 n ops Q (⟨none, .call { callee := .builtin .clear, args := #[x], argTypes := #[T] }, ty, pos, af, none⟩ :: l) F H := by
  obtain ⟨H1, H2, rfl, h2⟩ := hu.out
  rw [h2] at kk
  clear hu
  refine J_do _ fun a w ha hw => ?_
  obtain ⟨hu', i, hi, hsz, hby1, hz, hzc⟩ := hS.out
  obtain ⟨m, hown⟩ := hw.row_slice (v := .slice (some ⟨gg, 0, none⟩) N cap) (e := e) (sz := s) (xs := xs) (by simp)
  rcases hown.2 with ⟨h, _⟩ | ⟨g', cap', cur, hv, hB, hg, hnc, hcm, hszc, htake⟩
  · cases h
  · injection hv with e1 e2 e3
    injection e1 with e1
    injection e1 with e1
    subst e1 e2 e3
    obtain ⟨q, hq⟩ : ∃ q, N - k = q + 1 := ⟨N - k - 1, by omega⟩
    have hzl : (Go.Builtin.zeroCells z.cells (N - k)).toList.length = (N - k) * s := by rw [zeroCells_len, hzc]
    have hle : k * s + (N - k) * s = N * s := by rw [← Nat.add_mul]; congr 1; omega
    have hNs : N * s ≤ cap * s := Nat.mul_le_mul_right _ hnc
    have hst := run_storeCells_at P gg (k * s) e (Go.Builtin.zeroCells z.cells (N - k)).toList 0 cur w hg (by rw [hzl]; omega) (fun u hu => by
      simp only [Go.Builtin.zeroCells, Array.toList_map, List.mem_map] at hu
      obtain ⟨i, _, rfl⟩ := hu
      have hlt : i % z.cells.size < z.cells.size := Nat.mod_lt _ (by omega)
      rw [getElem!_pos z.cells _ hlt]
      exact hone _ (Array.getElem_mem hlt))
    obtain ⟨w', hw'⟩ : ∃ w', w' = w.setRow gg (cur.toList.take (k * s + 0) ++ (Go.Builtin.zeroCells z.cells (N - k)).toList ++ cur.toList.drop (k * s + 0 + (Go.Builtin.zeroCells z.cells (N - k)).toList.length)).toArray := ⟨_, rfl⟩
    rw [← hw'] at hst
    refine ⟨.tuple #[], w', F, H1 ++ .row (.slice (some ⟨gg, 0, none⟩) k cap) e s (xs.take (k * s)) :: H2, ?_, ha.none _, ?_, kk⟩
    · simp only [execOp, resolve, invoke, builtin, Sem.run_bind, Sem.run_pure, Result.andThen_ok, List.map_toArray, List.map_cons, List.map_nil, ha.ev hx]
      rw [hq] at hst ⊢
      have hzv : (zeroValue e).run P w = .ok z w := by simp [zeroValue, typeInfo, hi, hz]
      simp [Builtin.clear_, run_underlying hu', hzv]
      rw [hst]
      rfl
    · subst hw'
      refine hw.swap rfl rfl rfl (by simp) (Nat.le_refl _) (fun k' _ hk' => setRow_other w gg k' _ (fun e' => hk' (by rw [e']; rfl))) ⟨k, ?_, .inr ⟨gg, cap, _, rfl, hB, setRow_heap w gg _ _ e _ hg, by omega, hcm, ?_, ?_⟩⟩ (fun k hk => .inl hk)
      · rw [List.length_take, hown.1]
        exact Nat.min_eq_left (by omega)
      · simp only [List.size_toArray, List.length_append, List.length_take, List.length_drop, Array.length_toList, hzl, Nat.add_zero]
        rw [hszc]; omega
      · simp only [Nat.add_zero]
        rw [List.append_assoc, List.take_append, List.length_take, Array.length_toList, Nat.min_eq_left (by omega), Nat.sub_self, List.take_zero, List.append_nil, List.take_take, Nat.min_self, ← htake, List.take_take, Nat.min_eq_left (by omega)]
end
end SL
end Go.Proofs.YtmbbcmebdefggaaGreatDoor
