/- Rules: maps from things to things. -/
import Derived.Test.YthijakignhjmgaaMT
import Derived.Test.YthijakignhjmgaaKL
namespace Go.Proofs.Ythijakignhjmgaa
open Go Go.RowKit
namespace SL
/-- Keys told by their values. -/
structure KEnc (P : Program) (kt : TypeId) {K : Type} (eK : K → Value) : Prop where
  law : KLaw P kt (fun v => ∃ k, v = eK k)
  inj : ∀ a b, eK a = eK b → a = b
section
variable {P : Program} {B : Nat} {w0 : World} {n : Nat} {Q : Po} {F : Fr} {H H1 H2 : Hp} {ops : Array Oper} {l : List Oper} {ty : TypeId} {pos : String} {af : Array Edge} {d : Nat} {dst : Option Tmp} {g : Option (Nat × Bool)}
variable {K V : Type} [DecidableEq K] {eK : K → Value} {eV : V → Value} {T kt et : TypeId}
omit [DecidableEq K] in
theorem encM_ok (m : List (K × V)) : ∀ p ∈ encM eK eV m, ∃ k, p.1 = eK k := fun p hp => by
  obtain ⟨q, _, rfl⟩ := List.mem_map.1 hp
  exact ⟨q.1, rfl⟩
theorem q_lookT {x y : Operand} {a : Nat} {m : List (K × V)} {k : K} {z v : Value} [hT : Un P T (.map kt et)] [hz : Zr P et z] (E : KEnc P kt eK) (hx : ev F x = some (.map (some a))) (hy : ev F y = some (eK k)) (hm : It.obj a (mapO (encM eK eV m)) ∈ H) (hn : (m.map (·.1)).Nodup)
    (hv : ((lkM m k).map eV).getD z = v) : OpQ P B w0 n H F ⟨dst, .lookup T x y false, ty, pos, af, g⟩ v :=
  q_lookup E.law hx hy hm (encM_nodup E.inj hn) (encM_ok m) ⟨k, rfl⟩ (by rw [lkV_enc E.inj, hv])
theorem q_lookT2 {x y : Operand} {a : Nat} {m : List (K × V)} {k : K} {z v : Value} {b : Bool} [hT : Un P T (.map kt et)] [hz : Zr P et z] (E : KEnc P kt eK) (hx : ev F x = some (.map (some a))) (hy : ev F y = some (eK k)) (hm : It.obj a (mapO (encM eK eV m)) ∈ H) (hn : (m.map (·.1)).Nodup)
    (hv : ((lkM m k).map eV).getD z = v) (hb : (lkM m k).isSome = b) : OpQ P B w0 n H F ⟨dst, .lookup T x y true, ty, pos, af, g⟩ (.tuple #[v, .bool b]) :=
  q_lookup2 E.law hx hy hm (encM_nodup E.inj hn) (encM_ok m) ⟨k, rfl⟩ (by rw [lkV_enc E.inj, hv]) (by rw [lkV_enc E.inj, Option.isSome_map, hb])
theorem Jq_lookT {dr : Bool} {x y : Operand} {a : Nat} {m : List (K × V)} {k : K} {z v : Value} [hT : Un P T (.map kt et)] [hz : Zr P et z] (hdn : Nat.blt d n = true) (E : KEnc P kt eK) (hx : ev F x = some (.map (some a))) (hy : ev F y = some (eK k)) (hm : It.obj a (mapO (encM eK eV m)) ∈ H) (hn : (m.map (·.1)).Nodup)
    (hv : ((lkM m k).map eV).getD z = v) (kk : J dr P B w0 n ops Q l ((d, v) :: F) H) : J dr P B w0 n ops Q (⟨some d, .lookup T x y false, ty, pos, af, none⟩ :: l) F H := J_q hdn (q_lookT E hx hy hm hn hv) kk
theorem Jq_lookT2 {dr : Bool} {x y : Operand} {a : Nat} {m : List (K × V)} {k : K} {z v : Value} {b : Bool} [hT : Un P T (.map kt et)] [hz : Zr P et z] (hdn : Nat.blt d n = true) (E : KEnc P kt eK) (hx : ev F x = some (.map (some a))) (hy : ev F y = some (eK k)) (hm : It.obj a (mapO (encM eK eV m)) ∈ H) (hn : (m.map (·.1)).Nodup)
    (hv : ((lkM m k).map eV).getD z = v) (hb : (lkM m k).isSome = b) (kk : J dr P B w0 n ops Q l ((d, .tuple #[v, .bool b]) :: F) H) : J dr P B w0 n ops Q (⟨some d, .lookup T x y true, ty, pos, af, none⟩ :: l) F H := J_q hdn (q_lookT2 E hx hy hm hn hv hb) kk
omit [DecidableEq K] in
theorem Jq_lenT {dr : Bool} {x : Operand} {a : Nat} {m : List (K × V)} [hT : Un P T (.map kt et)] (hdn : Nat.blt d n = true) (hx : ev F x = some (.map (some a))) (hm : It.obj a (mapO (encM eK eV m)) ∈ H) (kk : J dr P B w0 n ops Q l ((d, .int .i64 (m.length : Nat)) :: F) H) :
    J dr P B w0 n ops Q (⟨some d, .call { callee := .builtin .len, args := #[x], argTypes := #[T] }, ty, pos, af, none⟩ :: l) F H := by
  rw [← encM_len (eK := eK) (eV := eV) m] at kk
  exact Jq_lenM hdn hx hm kk
theorem J_updT {x y t : Operand} {a : Nat} {m m' : List (K × V)} {k : K} {v : V} {H' : Obj → Hp} {o : Obj} [hT : Un P T (.map kt et)] (E : KEnc P kt eK) (hx : ev F x = some (.map (some a))) (hy : ev F y = some (eK k)) (ht : ev F t = some (eV v)) (hu : UO a H o H') (ho : o = mapO (encM eK eV m)) (hn : (m.map (·.1)).Nodup)
    (hm' : putM m k v = m') (kk : J false P B w0 n ops Q l F (H' (mapO (encM eK eV m')))) : J false P B w0 n ops Q (⟨none, .mapUpdate T x y t, ty, pos, af, none⟩ :: l) F H :=
  J_mapUpdate E.law hx hy ht hu ho (encM_nodup E.inj hn) (encM_ok m) ⟨k, rfl⟩ rfl (by rw [putV_enc E.inj, hm']; exact kk)
theorem J_entT {x y : Operand} {a : Nat} {m : List (K × V)} {k : K} {z : Value} {u0 : V} {H' : Obj → Hp} {o : Obj} [hT : Un P T (.map kt et)] [hz : Zr P et z] (hdn : Nat.blt d n = true) (E : KEnc P kt eK) (hx : ev F x = some (.map (some a))) (hy : ev F y = some (eK k)) (hu : UO a H o H') (ho : o = mapO (encM eK eV m)) (hn : (m.map (·.1)).Nodup) (hz0 : z = eV u0)
    (kk : ∀ j : Nat, (encM eK eV (putM m k ((lkM m k).getD u0)))[j]? = some (eK k, eV ((lkM m k).getD u0)) → J false P B w0 n ops Q l ((d, .tuple #[eV ((lkM m k).getD u0), .int .i64 (j : Int)]) :: F) (H' (mapO (encM eK eV (putM m k ((lkM m k).getD u0)))))) :
    J false P B w0 n ops Q (⟨some d, .mapEntry T x y, ty, pos, af, none⟩ :: l) F H :=
  J_mapEntry hdn E.law hx hy hu ho (encM_nodup E.inj hn) (encM_ok m) ⟨k, rfl⟩ fun m' j u e1 e2 e3 => by
    have e : u = eV ((lkM m k).getD u0) := by
      rw [e1, lkV_enc E.inj, hz0]
      cases lkM m k <;> rfl
    subst e
    rw [putV_enc E.inj] at e2
    subst e2
    exact kk j e3
theorem putM_twice (m : List (K × V)) (k : K) (u v : V) : putM (putM m k u) k v = putM m k v := by
  have h1 : k ∈ (putM m k u).map (·.1) := by
    rw [putM_keys]
    by_cases h : k ∈ m.map (·.1)
    · rw [if_pos h]; exact h
    · rw [if_neg h]; exact List.mem_append_right _ (List.mem_singleton.2 rfl)
  unfold putM at h1 ⊢
  by_cases h : k ∈ m.map (·.1)
  · simp only [if_pos h] at h1 ⊢
    rw [if_pos h1, List.map_map]
    refine List.map_congr_left fun p _ => ?_
    by_cases e : p.1 = k <;> simp [e]
  · simp only [if_neg h] at h1 ⊢
    rw [if_pos h1, List.map_append]
    have : (m.map fun p => if p.1 = k then (k, v) else p) = m := by
      refine (List.map_congr_left fun q hq => ?_).trans (List.map_id _)
      have : q.1 ≠ k := fun h' => h (List.mem_map.2 ⟨q, hq, h'⟩)
      simp [this]
    rw [this]
    simp
theorem J_estT {x y t : Operand} {a j : Nat} {m m' : List (K × V)} {k : K} {u v : V} {H' : Obj → Hp} {o : Obj} (E : KEnc P kt eK) (hx : ev F x = some (.map (some a))) (hy : ev F y = some (.int .i64 (j : Int))) (ht : ev F t = some (eV v)) (hu : UO a H o H') (ho : o = mapO (encM eK eV (putM m k u))) (hn : (m.map (·.1)).Nodup) (hj : (encM eK eV (putM m k u))[j]? = some (eK k, eV u))
    (hm' : putM m k v = m') (kk : J false P B w0 n ops Q l F (H' (mapO (encM eK eV m')))) : J false P B w0 n ops Q (⟨none, .entryStore T x y t, ty, pos, af, none⟩ :: l) F H :=
  J_entryStore hx hy ht hu ho (encM_nodup E.inj (putM_nodup hn k u)) hj rfl (by rw [putV_enc E.inj, putM_twice, hm']; exact kk)
omit [DecidableEq K] in
theorem J_rangeT {x : Operand} {a : Nat} {m : List (K × V)} [hT : Un P T (.map kt et)] (hdn : Nat.blt d n = true) (hx : ev F x = some (.map (some a))) (hm : It.obj a (mapO (encM eK eV m)) ∈ H)
    (k : ∀ b, J false P B w0 n ops Q l ((d, .pointer (some ⟨b, 0, none⟩)) :: F) (.obj b (itO a m.length []) :: H)) : J false P B w0 n ops Q (⟨some d, .range T x, ty, pos, af, none⟩ :: l) F H :=
  J_range hdn hx hm fun b => by rw [encM_len]; exact k b
omit [DecidableEq K] in
theorem J_nextT {x : Operand} {a b : Nat} {m : List (K × V)} {seen : List Nat} {H' : Obj → Hp} {o : Obj} (hdn : Nat.blt d n = true) (hx : ev F x = some (.pointer (some ⟨b, 0, none⟩))) (hu : UO b H o H') (ho : o = itO a m.length seen) (hm : It.obj a (mapO (encM eK eV m)) ∈ H) (hs : ∀ i ∈ seen, i < m.length)
    (k0 : (∀ i, i < m.length → i ∈ seen) → J false P B w0 n ops Q l ((d, .tuple #[.bool false]) :: F) (H' (itO a m.length seen)))
    (k1 : ∀ (i : Nat) (p : K × V), m[i]? = some p → i ∉ seen → J false P B w0 n ops Q l ((d, .tuple #[.bool true, eK p.1, eV p.2]) :: F) (H' (itO a m.length (seen ++ [i])))) :
    J false P B w0 n ops Q (⟨some d, .next x false, ty, pos, af, none⟩ :: l) F H := by
  have hl := encM_len (eK := eK) (eV := eV) m
  refine J_next hdn hx hu (by rw [hl]; exact ho) hm (by rw [hl]; exact hs) (by rw [hl]; exact k0) fun i p hi hn => ?_
  obtain ⟨q, hq, rfl⟩ := encM_get hi
  rw [hl]
  exact k1 i q hq hn
omit [DecidableEq K] in
theorem Jq_entryT {x : Operand} {a b i : Nat} {m : List (K × V)} {seen : List Nat} {p : K × V} (hdn : Nat.blt d n = true) (hx : ev F x = some (.pointer (some ⟨b, 0, none⟩))) (hb : It.obj b (itO a m.length (seen ++ [i])) ∈ H) (hm : It.obj a (mapO (encM eK eV m)) ∈ H) (hi : m[i]? = some p)
    {dr : Bool} (k : J dr P B w0 n ops Q l ((d, .tuple #[eK p.1, eV p.2]) :: F) H) : J dr P B w0 n ops Q (⟨some d, .entry x, ty, pos, af, none⟩ :: l) F H := by
  have hl := encM_len (eK := eK) (eV := eV) m
  refine Jq_entry (p := (eK p.1, eV p.2)) hdn hx (by rw [hl]; exact hb) hm ?_ k
  unfold encM
  rw [List.getElem?_map, hi]; rfl
end
end SL
open SL
/-- States as keys. -/
def stK (x : StB) : Value := .agg (encS x).toArray
theorem kencS : KEnc Try.prog 115 stK := ⟨klawS, fun _ _ h => encS_inj h⟩
def nV (a : Nat) : Value := .int .i64 (a : Int)
def zV (a : Int) : Value := .int .i64 a
theorem zV_inj {a b : Int} (h : zV a = zV b) : a = b := by injection h
theorem kencI : KEnc Try.prog 2 zV := ⟨klawI, fun _ _ h => zV_inj h⟩
/-- A map among the items. -/
theorem mo {a : Nat} {H : SL.Hp} {o : Obj} [h : SL.MO a H o] : SL.It.obj a o ∈ H := h.out
/-- A loop's way through a map: the places met, none twice. -/
theorem all_met {n : Nat} {seen : List Nat} (hn : seen.Nodup) (h1 : ∀ i ∈ seen, i < n) (h2 : ∀ i, i < n → i ∈ seen) : seen.Perm (List.range n) :=
  (List.perm_ext_iff_of_nodup hn List.nodup_range).2 fun i => ⟨fun h => List.mem_range.2 (h1 i h), fun h => h2 i (List.mem_range.1 h)⟩
end Go.Proofs.Ythijakignhjmgaa
