/- Rules: room for a slice's elements. Walks: lists of states joined. Walks: sums of states: impl.AddSums. Walks: FnExactAddSums. -/
import Derived.Test.YthijakignhjmgaaAP
import Derived.Test.YthijakignhjmgaaTG
import Derived.Test.YthijakignhjmgaaGB
import Derived.Test.YthijakignhjmgaaFL
import Derived.Test.YthijakignhjmgaaPC
import Derived.Test.YthijakignhjmgaaGE
import Derived.Lib.AppendZeros
import Derived.Shelf.SlSortCmp.WholeK
import Derived.Laws.IdiomRangeMap
import Derived.WideKeyRuns
namespace Go.Proofs.Ythijakignhjmgaa
open Go Go.RowKit
namespace SL
section
variable {P : Program} {B : Nat} {w0 : World} {n : Nat} {Q : Po} {F : Fr} {H H1 H2 : Hp} {ops : Array Oper} {l : List Oper} {ty : TypeId} {pos : String} {af : Array Edge} {d : Nat} {dst : Option Tmp} {g : Option (Nat × Bool)}
theorem q_cap {x : Operand} {T e : TypeId} {base : Option Addr} {m c : Nat} [hT : Un P T (.slice e)] (hx : ev F x = some (.slice base m c)) :
    OpQ P B w0 n H F ⟨dst, .call { callee := .builtin .cap, args := #[x], argTypes := #[T] }, ty, pos, af, g⟩ (.int .i64 c) :=
  opq_run fun a ha w _ => by simp [execOp, resolve, invoke, builtin, ha.ev hx, Builtin.cap_, run_underlying hT.out, goInt]
theorem Jq_cap {dr : Bool} {x : Operand} {T e : TypeId} {base : Option Addr} {m c : Nat} [hT : Un P T (.slice e)] (hdn : Nat.blt d n = true) (hx : ev F x = some (.slice base m c)) (kk : J dr P B w0 n ops Q l ((d, .int .i64 (c : Nat)) :: F) H) :
    J dr P B w0 n ops Q (⟨some d, .call { callee := .builtin .cap, args := #[x], argTypes := #[T] }, ty, pos, af, none⟩ :: l) F H := J_q hdn (q_cap hx) kk
/-- nil[:0]. -/
theorem Jq_nilPart {dr : Bool} {T e s by' : Nat} {z : Value} [hS : IS P T e s by' z] {x y : Operand} {k : IntKind} (hdn : Nat.blt d n = true) (hx : ev F x = some (.slice none 0 0)) (hy : ev F y = some (.int k 0)) (kk : J dr P B w0 n ops Q l ((d, .slice none 0 0) :: F) H) :
    J dr P B w0 n ops Q (⟨some d, .slice T x none (some y) none, ty, pos, af, none⟩ :: l) F H :=
  J_q hdn (opq_run fun a ha w _ => by
    obtain ⟨hu, inf, hi', hsz, -, -, -⟩ := hS.out
    simp [execOp, ha.ev hx, ha.ev hy, Instr.sliceAt, run_underlying hu, Instr.slice, Instr.sliceBounds, Instr.sliceBound, asIntOf, sizeOf, typeInfo, hi']) kk
/-- append(nil, make([]T, n)...). -/
theorem J_apZ {T tn e : TypeId} {x y : Operand} {s by' m : Nat} {z : Value} {k kn : IntKind} [hS : IS P T e s by' z] [hN : Un P tn (.int kn)] (hd : Nat.blt d n = true) (hx : ev F x = some (.slice none 0 0)) (hy : ev F y = some (.int k (m : Int))) (h0 : 0 < m) (hs : 0 < s) (hm : m ≤ maxLen) (hb : m * by' ≤ 281474976710656)
    (kk : ∀ (v' : Value) (xs : List Value), xs.length = m * s → J false P B w0 n ops Q l ((d, v') :: F) (.row v' e s xs :: H)) :
    J false P B w0 n ops Q (⟨some d, .call { callee := .builtin .append, args := #[x, y], argTypes := #[T, tn] }, ty, pos, af, none⟩ :: l) F H :=
  J_do _ fun a w ha hw => by
    obtain ⟨hu, i, hi, hsz, hby1, hz, hzc⟩ := hS.out
    have h63 : (m : Int) ≤ 9223372036854775807 := by simp [maxLen] at hm; omega
    have hr := Lib.run_append_nil_zeros (P := P) w T tn ty e i z k kn hu hN.out hi hz m h0 (by omega) h63 (by rw [hby1]; exact hb)
    have hge := grownCap_ge w m 0 e
    have hlm := grownCap_le_maxLen w m 0 e hm
    have l1 : (Builtin.zeroCells z.cells m).size = m * s := by rw [size_zeroCells, hzc]
    have l2 : (Builtin.zeroCells z.cells (grownCap w m 0 e - m)).size = (grownCap w m 0 e - m) * s := by rw [size_zeroCells, hzc]
    have hown : (w.drew.alloc (.cells (Builtin.zeroCells z.cells m ++ Builtin.zeroCells z.cells (grownCap w m 0 e - m)) e)).ownsRow w.heap.size e s (.slice (some ⟨w.heap.size, 0, none⟩) m (grownCap w m 0 e)) m (Builtin.zeroCells z.cells m).toList := by
      refine ⟨by simpa using l1, .inr ⟨w.heap.size, grownCap w m 0 e, _, rfl, Nat.le_refl _, heap_alloc_new w.drew _, hge, hlm, ?_, ?_⟩⟩
      · rw [Array.size_append, l1, l2, ← Nat.add_mul]
        congr 1
        omega
      · rw [Array.toList_append, List.take_left' (by simpa using l1)]
    refine ⟨_, _, _, _, ?_, ha.put (lt_of_blt hd) _, row_new hw hown (Blw.alloc (Blw.drew (Blw.refl _ _)) (Nat.le_refl _) _), kk _ _ (by simpa using l1)⟩
    simp only [execOp, resolve, invoke, builtin, Sem.run_bind, Sem.run_pure, Result.andThen_ok, List.map_toArray, List.map_cons, List.map_nil, ha.ev hx, ha.ev hy]
    rw [hr]; rfl
/-- A row is cut short. -/
theorem JH_cut {dr : Bool} {v : Value} {e s m j : Nat} {xs : List Value} {H' : Value → List Value → Hp} (hu : RF v H e s xs H') (hl : xs.length = m * s) (hs : 0 < s) (hm : 0 < m) (hj : j < m) (kk : J dr P B w0 n ops Q l F (H' (partV s v 0 j) (xs.take (j * s)))) (hdr : dr = false) : J dr P B w0 n ops Q l F H := by
  subst hdr
  obtain ⟨H1, H2, rfl, h2⟩ := hu.out
  unfold J at *
  intro a w ha hw
  rw [h2] at kk
  refine kk a w ha ?_
  obtain ⟨k, hown⟩ := hw.row_slice (v := v) (e := e) (sz := s) (xs := xs) (by simp)
  obtain rfl := own_m hs hown hl
  rcases hown.2 with ⟨rfl, h0⟩ | ⟨gg, cap, cur, rfl, hB, hg, hnc, hcm, hsz, htake⟩
  · omega
  · have e1 : partV s (.slice (some ⟨gg, 0, none⟩) k cap) 0 j = .slice (some ⟨gg, 0, none⟩) j cap := by
      have : ¬ cap = 0 := by omega
      simp [partV, this, add_eq]
    rw [e1]
    have hjs : j * s ≤ k * s := Nat.mul_le_mul_right _ (by omega)
    refine hw.swap rfl rfl rfl (Nat.le_refl _) (Nat.le_refl _) (fun _ _ _ => rfl) ⟨j, ?_, .inr ⟨gg, cap, cur, rfl, hB, hg, by omega, hcm, hsz, ?_⟩⟩ (fun k hk => .inl hk)
    · rw [List.length_take, hl]; omega
    · rw [← htake, List.take_take, Nat.min_eq_left hjs]
end
end SL
end Go.Proofs.Ythijakignhjmgaa
namespace Go.Proofs.Ythijakignhjmgaa
open Go Go.RowKit SL
end Go.Proofs.Ythijakignhjmgaa
namespace Go.Proofs.Ythijakignhjmgaa
open Go Go.RowKit SL
namespace SL
section
variable {P : Program} {B : Nat} {w0 : World} {n : Nat} {Q : Po} {F : Fr} {H H1 H2 : Hp} {ops : Array Oper} {l : List Oper} {ty : TypeId} {pos : String} {af : Array Edge} {d : Nat}
end
end SL
end Go.Proofs.Ythijakignhjmgaa
namespace Go.Proofs.Ythijakignhjmgaa
open Go Go.RowKit SL
end Go.Proofs.Ythijakignhjmgaa
