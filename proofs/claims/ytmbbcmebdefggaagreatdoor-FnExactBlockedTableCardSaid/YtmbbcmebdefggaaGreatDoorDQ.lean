/- Walks: maps of which entries have been deleted: entries with stamps. -/
import Derived.Test.YtmbbcmebdefggaaGreatDoorMR
namespace Go.Proofs.YtmbbcmebdefggaaGreatDoor
open Go Go.RowKit
namespace SL
/-- Entries with stamps. -/
def entsS (l : List (Value × Value)) (s : List Nat) : List MapEntry := List.zipWith (fun p b => ⟨p.1, p.2, b⟩) l s
def mapS (l : List (Value × Value)) (s : List Nat) (c : Nat) : Obj := .map (entsS l s).toArray c
/-- Stamps grow and are below the clock. -/
structure StOK (s : List Nat) (c k : Nat) : Prop where
  len : s.length = k
  asc : s.Pairwise (· < ·)
  lt : ∀ b ∈ s, b < c
/-- A loop over such a map, the entries at the places 'seen' met. -/
def itS (a : Nat) (s : List Nat) (c : Nat) (seen : List Nat) : Obj := .mapIter (some a) c (seen.map fun i => s.getD i 0).toArray c
theorem StOK.range (k : Nat) : StOK (List.range k) k k := ⟨List.length_range, List.pairwise_lt_range, fun b hb => List.mem_range.1 hb⟩
theorem StOK.getD {s : List Nat} {c k : Nat} (h : StOK s c k) {i : Nat} (hi : i < k) : s[i]? = some (s.getD i 0) := by
  have hl := h.len
  rw [List.getD_eq_getElem?_getD, List.getElem?_eq_getElem (by omega)]; rfl
theorem StOK.inj {s : List Nat} {c k : Nat} (h : StOK s c k) {i j : Nat} (hi : i < k) (hj : j < k) (e : s.getD i 0 = s.getD j 0) : i = j := by
  have h1 := h.getD hi
  have h2 := h.getD hj
  have hl := h.len
  rw [List.getElem?_eq_getElem (by omega), Option.some.injEq] at h1 h2
  have hp := List.pairwise_iff_getElem.1 h.asc
  rcases Nat.lt_trichotomy i j with q | q | q
  · have := hp i j (by omega) (by omega) q; omega
  · exact q
  · have := hp j i (by omega) (by omega) q; omega
theorem StOK.below {s : List Nat} {c k : Nat} (h : StOK s c k) {i : Nat} (hi : i < k) : s.getD i 0 < c := h.lt _ (List.mem_of_getElem? (h.getD hi))
theorem entsS_get {l : List (Value × Value)} {s : List Nat} {c : Nat} (h : StOK s c l.length) (j : Nat) : (entsS l s)[j]? = (l[j]?).map fun p => ⟨p.1, p.2, s.getD j 0⟩ := by
  unfold entsS
  rw [List.getElem?_zipWith]
  cases hl : l[j]? with
  | none => simp
  | some p =>
    have := h.getD (List.getElem?_eq_some_iff.1 hl).1
    rw [this]; rfl
theorem entsS_len {l : List (Value × Value)} {s : List Nat} {c : Nat} (h : StOK s c l.length) : (entsS l s).length = l.length := by
  unfold entsS
  rw [List.length_zipWith, h.len, Nat.min_self]
theorem entsS_mem {l : List (Value × Value)} {s : List Nat} {c : Nat} (h : StOK s c l.length) {e : MapEntry} (he : e ∈ entsS l s) : ∃ j, l[j]? = some (e.key, e.val) ∧ e.born = s.getD j 0 ∧ j < l.length := by
  obtain ⟨j, hj, h1⟩ := List.getElem_of_mem he
  have h2 := entsS_get h j
  rw [List.getElem?_eq_getElem hj, h1] at h2
  cases hl : l[j]? with
  | none => rw [hl] at h2; cases h2
  | some p =>
    rw [hl] at h2
    have h3 := Option.some.inj h2
    subst h3
    exact ⟨j, hl, rfl, (List.getElem?_eq_some_iff.1 hl).1⟩
theorem mapO_S (l : List (Value × Value)) : mapO l = mapS l (List.range l.length) l.length := by
  have : ents l 0 = entsS l (List.range l.length) := List.ext_getElem? fun i => by
    rw [ents_get, entsS_get (StOK.range _)]
    cases hl : l[i]? with
    | none => rfl
    | some p =>
      have hi := (List.getElem?_eq_some_iff.1 hl).1
      have := (StOK.range l.length).getD hi
      rw [List.getElem?_range hi, Option.some.injEq] at this
      rw [Option.map_some, Option.map_some, ← this, Nat.zero_add]
  unfold mapO mapS
  rw [this]
section
variable {P : Program} {B : Nat} {w0 : World} {n : Nat} {Q : Po} {F : Fr} {H H1 H2 : Hp} {ops : Array Oper} {l : List Oper} {ty : TypeId} {pos : String} {af : Array Edge} {d : Nat} {dst : Option Tmp} {g : Option (Nat × Bool)}
theorem J_rangeS {T kt et : TypeId} {x : Operand} {a : Nat} {m : List (Value × Value)} {s : List Nat} {c : Nat} [hT : Un P T (.map kt et)] (hdn : Nat.blt d n = true) (hx : ev F x = some (.map (some a))) (hm : It.obj a (mapS m s c) ∈ H)
    (k : ∀ b, J false P B w0 n ops Q l ((d, .pointer (some ⟨b, 0, none⟩)) :: F) (.obj b (itS a s c []) :: H)) : J false P B w0 n ops Q (⟨some d, .range T x, ty, pos, af, none⟩ :: l) F H :=
  J_do _ fun A w ha hw => ⟨_, _, _, _, by
    simp only [execOp, ha.ev hx, Instr.range, Sem.run_bind, run_underlying hT.out, Result.andThen_ok, run_getObj_of rfl (hw.obj_at hm), mapS, run_newObj_of, Sem.run_pure]; rfl, ha.put (lt_of_blt hdn) _, hw.newObj (itS a s c []), k w.heap.size⟩
theorem J_nextS {x : Operand} {a b : Nat} {m : List (Value × Value)} {s : List Nat} {c : Nat} {seen : List Nat} {H' : Obj → Hp} {o : Obj} (hst : StOK s c m.length) (hdn : Nat.blt d n = true) (hx : ev F x = some (.pointer (some ⟨b, 0, none⟩))) (hu : UO b H o H') (ho : o = itS a s c seen) (hm : It.obj a (mapS m s c) ∈ H) (hs : ∀ i ∈ seen, i < m.length)
    (k0 : (∀ i, i < m.length → i ∈ seen) → J false P B w0 n ops Q l ((d, .tuple #[.bool false]) :: F) (H' (itS a s c seen)))
    (k1 : ∀ (i : Nat) (p : Value × Value), m[i]? = some p → i ∉ seen → J false P B w0 n ops Q l ((d, .tuple #[.bool true, p.1, p.2]) :: F) (H' (itS a s c (seen ++ [i])))) :
    J false P B w0 n ops Q (⟨some d, .next x false, ty, pos, af, none⟩ :: l) F H := by
  obtain ⟨H1, H2, rfl, h2⟩ := hu.out
  subst ho
  refine J_do _ fun A w ha hw => ?_
  have hb := hw.obj_at (a := b) (o := itS a s c seen) (by simp)
  have hbm := hw.obj_at hm
  have hborn : ∀ e ∈ entsS m s, e.born < c := fun e he => by
    obtain ⟨j, hj, e1, hlt⟩ := entsS_mem hst he
    rw [e1]; exact hst.below hlt
  obtain ⟨sn, hsn⟩ : ∃ sn, sn = (seen.map fun i => s.getD i 0).toArray := ⟨_, rfl⟩
  have hc : ∀ i, i < m.length → (sn.contains (s.getD i 0) = true ↔ i ∈ seen) := fun i hi => by
    rw [hsn]
    simp only [List.contains_toArray, List.contains_eq_mem, decide_eq_true_eq, List.mem_map]
    constructor
    · rintro ⟨j, hj, e⟩
      rw [← hst.inj (hs j hj) hi e]; exact hj
    · exact fun h => ⟨i, h, rfl⟩
  have htest := next_test_false sn (entsS m s).toArray c c (fun e he => hborn e (by simpa using he)) (Nat.le_refl _)
  obtain ⟨L, hL⟩ : ∃ L, L = Array.filter (fun e : MapEntry => !sn.contains e.born) (entsS m s).toArray := ⟨_, rfl⟩
  have hLb : ∀ e ∈ L, e.born < c := fun e he => hborn e (by rw [hL] at he; simpa using (Array.mem_filter.1 he).1)
  have e1 : L.filter (fun x => decide (x.born < c)) = L := Array.filter_eq_self.2 (fun x hx => by simpa using hLb x hx)
  have e2 : L.filter (fun x => decide (x.born ≥ c)) = #[] := by
    rw [Array.filter_eq_empty_iff]
    intro x hx
    have := hLb x hx
    simp
    omega
  have hget : ∀ e ∈ L, ∃ i, m[i]? = some (e.key, e.val) ∧ e.born = s.getD i 0 ∧ i ∉ seen := fun e he => by
    rw [hL] at he
    obtain ⟨h3, h4⟩ := Array.mem_filter.1 he
    obtain ⟨j, hj, e5, hlt⟩ := entsS_mem hst (by simpa using h3)
    refine ⟨j, hj, e5, fun hcn => ?_⟩
    rw [e5, (hc j hlt).2 hcn] at h4
    cases h4
  by_cases h0 : L.size = 0
  · have hempty : L = #[] := Array.eq_empty_of_size_eq_zero h0
    have hall : ∀ i, i < m.length → i ∈ seen := fun i hi => by
      by_cases hcn : i ∈ seen
      · exact hcn
      · exfalso
        have h3 := entsS_get hst i
        rw [List.getElem?_eq_getElem hi] at h3
        have : (⟨m[i].1, m[i].2, s.getD i 0⟩ : MapEntry) ∈ L := by
          rw [hL, Array.mem_filter]
          refine ⟨by simpa using List.mem_of_getElem? h3, ?_⟩
          have hf : sn.contains (s.getD i 0) = false := by
            cases hq : sn.contains (s.getD i 0) with
            | false => rfl
            | true => exact absurd ((hc i hi).1 hq) hcn
          rw [hf]; rfl
        rw [hempty] at this
        simp at this
    have hkk := k0 hall
    rw [h2] at hkk
    refine ⟨_, w, _, _, ?_, ha.put (lt_of_blt hdn) _, hw, hkk⟩
    simp only [execOp, ha.ev hx, Instr.next, Sem.run_bind, run_getObj_of rfl hb, run_getObj_of rfl hbm, Result.andThen_ok, itS, mapS, ← hsn, htest, Bool.false_eq_true, if_false, ← hL, e1, e2, Array.append_empty, hempty]
    simp [choose, Sem.run, Question.forced]
  · have hne : L.isEmpty = false := by simp [Array.isEmpty, h0]
    have hch : ∃ (j : Nat) (w1 : World), j < L.size ∧ (w1 = w ∨ w1 = w.drew) ∧ (choose (Question.mapNext L.size)).run P w = .ok j w1 := by
      by_cases hf : L.size ≤ 1
      · exact ⟨0, w, by omega, .inl rfl, by simp [choose, Sem.run, Question.forced, hf]⟩
      · exact ⟨_, w.drew, Nat.mod_lt _ (by omega), .inr rfl, by
          simp only [choose, Sem.run, Question.forced, decide_eq_true_eq, hf, if_false, Question.cut]
          rfl⟩
    obtain ⟨j, w1, hj, hw1, hrun⟩ := hch
    have hw1' : Holds B w0 (H1 ++ .obj b (itS a s c seen) :: H2) w1 := by
      rcases hw1 with rfl | rfl
      · exact hw
      · exact hw.draw
    have hb1 := hw1'.obj_at (a := b) (o := itS a s c seen) (by simp)
    obtain ⟨i, hi, hbi, hns⟩ := hget L[j] (Array.getElem_mem hj)
    have hkk := k1 i _ hi hns
    rw [h2] at hkk
    have hpush : sn.push L[j].born = ((seen ++ [i]).map fun i => s.getD i 0).toArray := by
      rw [hsn, hbi]; simp
    refine ⟨_, _, _, H1 ++ .obj b (itS a s c (seen ++ [i])) :: H2, ?_, ha.put (lt_of_blt hdn) _, hw1'.setObj, hkk⟩
    simp only [execOp, ha.ev hx, Instr.next, Sem.run_bind, run_getObj_of rfl hb, run_getObj_of rfl hbm, Result.andThen_ok, itS, mapS, ← hsn, htest, Bool.false_eq_true, if_false, ← hL, e1, e2, Array.append_empty, hne, Array.empty_append, Array.size_map, hrun, Array.getElem?_map, Array.getElem?_eq_getElem hj, Option.map_some]
    rw [run_setObj_of rfl hb1, hpush]
    rfl
theorem Jq_entryS {x : Operand} {a b i : Nat} {m : List (Value × Value)} {s : List Nat} {c : Nat} {seen : List Nat} {p : Value × Value} (hst : StOK s c m.length) (hdn : Nat.blt d n = true) (hx : ev F x = some (.pointer (some ⟨b, 0, none⟩))) (hb : It.obj b (itS a s c (seen ++ [i])) ∈ H) (hm : It.obj a (mapS m s c) ∈ H) (hi : m[i]? = some p)
    {dr : Bool} (k : J dr P B w0 n ops Q l ((d, .tuple #[p.1, p.2]) :: F) H) : J dr P B w0 n ops Q (⟨some d, .entry x, ty, pos, af, none⟩ :: l) F H :=
  J_q hdn (opq_run fun A ha w hw => by
    have h1 := entsS_get hst i
    rw [hi] at h1
    have hil := (List.getElem?_eq_some_iff.1 hi).1
    have hf : (entsS m s).toArray.find? (fun e => e.born == s.getD i 0) = some ⟨p.1, p.2, s.getD i 0⟩ := by
      rw [List.find?_toArray, List.find?_eq_some_iff_getElem]
      have hlt : i < (entsS m s).length := by rw [entsS_len hst]; exact hil
      have key : ∀ j (hj : j < (entsS m s).length), (entsS m s)[j].born = s.getD j 0 := fun j hj => by
        have h1 := entsS_get hst j
        rw [List.getElem?_eq_getElem hj, List.getElem?_eq_getElem (by rw [entsS_len hst] at hj; exact hj)] at h1
        rw [Option.some.inj h1]
      refine ⟨by simp, i, hlt, ?_, fun j hj => ?_⟩
      · rw [List.getElem?_eq_getElem hlt] at h1
        rw [Option.some.inj h1]
      · rw [key]
        simp only [Bool.not_eq_eq_eq_not, Bool.not_true, beq_eq_false_iff_ne]
        intro e
        have := hst.inj (show j < m.length by omega) hil e
        omega
    have hbk : ((seen ++ [i]).map fun i => s.getD i 0).toArray.back? = some (s.getD i 0) := by simp
    have g2 := run_getObj_of (P := P) rfl (hw.obj_at hm)
    simp only [execOp, ha.ev hx, Instr.entry, Sem.run_bind, run_getObj_of rfl (hw.obj_at hb), itS, Result.andThen_ok, hbk]
    simp only [g2, mapS, Result.andThen_ok, bne_self_eq_false, Bool.false_eq_true, if_false, hf, Sem.run_bind, Sem.run_pure]) k
end
section
variable {P : Program} {B : Nat} {w0 : World} {n : Nat} {Q : Po} {F : Fr} {H H1 H2 : Hp} {ops : Array Oper} {l : List Oper} {ty : TypeId} {pos : String} {af : Array Edge} {d : Nat} {dst : Option Tmp} {g : Option (Nat × Bool)}
variable {K V : Type} [DecidableEq K] {eK : K → Value} {eV : V → Value} {T kt et : TypeId}
omit [DecidableEq K] in
theorem StOK.enc {s : List Nat} {c : Nat} {m : List (K × V)} (h : StOK s c m.length) : StOK s c (encM eK eV m).length := by rw [encM_len]; exact h
omit [DecidableEq K] in
theorem J_rangeTS {x : Operand} {a : Nat} {m : List (K × V)} {s : List Nat} {c : Nat} [hT : Un P T (.map kt et)] (hdn : Nat.blt d n = true) (hx : ev F x = some (.map (some a))) (hm : It.obj a (mapS (encM eK eV m) s c) ∈ H)
    (k : ∀ b, J false P B w0 n ops Q l ((d, .pointer (some ⟨b, 0, none⟩)) :: F) (.obj b (itS a s c []) :: H)) : J false P B w0 n ops Q (⟨some d, .range T x, ty, pos, af, none⟩ :: l) F H :=
  J_rangeS hdn hx hm k
omit [DecidableEq K] in
theorem J_nextTS {x : Operand} {a b : Nat} {m : List (K × V)} {s : List Nat} {c : Nat} {seen : List Nat} {H' : Obj → Hp} {o : Obj} (hst : StOK s c m.length) (hdn : Nat.blt d n = true) (hx : ev F x = some (.pointer (some ⟨b, 0, none⟩))) (hu : UO b H o H') (ho : o = itS a s c seen) (hm : It.obj a (mapS (encM eK eV m) s c) ∈ H) (hs : ∀ i ∈ seen, i < m.length)
    (k0 : (∀ i, i < m.length → i ∈ seen) → J false P B w0 n ops Q l ((d, .tuple #[.bool false]) :: F) (H' (itS a s c seen)))
    (k1 : ∀ (i : Nat) (p : K × V), m[i]? = some p → i ∉ seen → J false P B w0 n ops Q l ((d, .tuple #[.bool true, eK p.1, eV p.2]) :: F) (H' (itS a s c (seen ++ [i])))) :
    J false P B w0 n ops Q (⟨some d, .next x false, ty, pos, af, none⟩ :: l) F H := by
  have hl := encM_len (eK := eK) (eV := eV) m
  refine J_nextS hst.enc hdn hx hu ho hm (by rw [hl]; exact hs) (by rw [hl]; exact k0) fun i p hi hn => ?_
  obtain ⟨q, hq, rfl⟩ := encM_get hi
  exact k1 i q hq hn
omit [DecidableEq K] in
theorem Jq_entryTS {x : Operand} {a b i : Nat} {m : List (K × V)} {s : List Nat} {c : Nat} {seen : List Nat} {p : K × V} (hst : StOK s c m.length) (hdn : Nat.blt d n = true) (hx : ev F x = some (.pointer (some ⟨b, 0, none⟩))) (hb : It.obj b (itS a s c (seen ++ [i])) ∈ H) (hm : It.obj a (mapS (encM eK eV m) s c) ∈ H) (hi : m[i]? = some p)
    {dr : Bool} (k : J dr P B w0 n ops Q l ((d, .tuple #[eK p.1, eV p.2]) :: F) H) : J dr P B w0 n ops Q (⟨some d, .entry x, ty, pos, af, none⟩ :: l) F H := by
  refine Jq_entryS (p := (eK p.1, eV p.2)) hst.enc hdn hx hb hm ?_ k
  unfold encM
  rw [List.getElem?_map, hi]; rfl
end
end SL
end Go.Proofs.YtmbbcmebdefggaaGreatDoor
