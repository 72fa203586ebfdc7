/- Rules: maps out of which nothing has been taken, and loops over them. Plain: maps from things to things. The keys of maps: numbers, arrays of bytes, structs. Rules: maps from things to things. -/
import Derived.Test.YtmbbcmebdefggaaGreatDoorGE
import Derived.Test.YtmbbcmebdefggaaGreatDoorV
import Derived.Laws.IdiomRangeMap
import Derived.WideKeyRuns
namespace Go.Proofs.YtmbbcmebdefggaaGreatDoor
open Go Go.RowKit
namespace SL
/-- A map's entries: their stamps are their places. -/
def ents : List (Value × Value) → Nat → List MapEntry
  | [], _ => []
  | p :: l, i => ⟨p.1, p.2, i⟩ :: ents l (i + 1)
theorem ents_len : ∀ (l : List (Value × Value)) (i : Nat), (ents l i).length = l.length
  | [], _ => rfl
  | _ :: l, i => by rw [ents, List.length_cons, ents_len l, List.length_cons]
theorem ents_get : ∀ (l : List (Value × Value)) (i j : Nat), (ents l i)[j]? = (l[j]?).map fun p => ⟨p.1, p.2, i + j⟩
  | [], _, _ => rfl
  | p :: l, i, 0 => rfl
  | p :: l, i, j + 1 => by
    rw [ents, List.getElem?_cons_succ, ents_get l, List.getElem?_cons_succ, show i + 1 + j = i + (j + 1) by omega]
theorem ents_snoc : ∀ (l : List (Value × Value)) (p : Value × Value) (i : Nat), ents (l ++ [p]) i = ents l i ++ [⟨p.1, p.2, i + l.length⟩]
  | [], _, _ => rfl
  | q :: l, p, i => by
    rw [List.cons_append, ents, ents, ents_snoc l, List.length_cons, show i + 1 + l.length = i + (l.length + 1) by omega]; rfl
/-- The map with these entries, in the order in which they came. -/
def mapO (l : List (Value × Value)) : Obj := .map (ents l 0).toArray l.length
/-- A loop over a map of n entries, those at the places 'seen' met. -/
def itO (a n : Nat) (seen : List Nat) : Obj := .mapIter (some a) n seen.toArray n
theorem ents_mem {l : List (Value × Value)} {i : Nat} {e : MapEntry} (h : e ∈ ents l i) : ∃ j, l[j]? = some (e.key, e.val) ∧ e.born = i + j := by
  obtain ⟨j, hj, he⟩ := List.getElem_of_mem h
  have h1 := ents_get l i j
  rw [List.getElem?_eq_getElem hj, he] at h1
  cases hl : l[j]? with
  | none => rw [hl] at h1; cases h1
  | some p =>
    rw [hl] at h1
    have h2 := Option.some.inj h1
    subst h2
    exact ⟨j, hl, rfl⟩
/-- What the keys of a type allow. -/
structure KLaw (P : Program) (k : TypeId) (ok : Value → Prop) : Prop where
  check : ∀ (w : World) (em : Bool) {v : Value}, ok v → (Instr.checkKey em 10000 k v).run P w = .ok () w
  find : ∀ (w : World) {x : Value}, ok x → ∀ es : List MapEntry, (∀ e ∈ es, ok e.key) →
    ((Instr.findKey k x es).run P w = .ok none w ∧ ∀ e ∈ es, e.key ≠ x) ∨ ∃ j e, (Instr.findKey k x es).run P w = .ok (some (j, e.val)) w ∧ es[j]? = some e ∧ e.key = x
  stays : ∀ (w : World) {v : Value}, ok v → (Instr.keyThatStays v v).run P w = .ok v w
open Classical in
/-- What a map says of a key. -/
noncomputable def lkV (l : List (Value × Value)) (x : Value) : Option Value := (l.find? fun p => decide (p.1 = x)).map (·.2)
open Classical in
/-- The map with a key's value laid. -/
noncomputable def putV (l : List (Value × Value)) (x v : Value) : List (Value × Value) :=
  if ∃ p ∈ l, p.1 = x then l.map fun p => if p.1 = x then (x, v) else p else l ++ [(x, v)]
theorem lkV_none {l : List (Value × Value)} {x : Value} (h : ∀ p ∈ l, p.1 ≠ x) : lkV l x = none := by
  unfold lkV
  rw [List.find?_eq_none.2 (fun p hp => by simpa using h p hp)]; rfl
theorem keys_inj {l : List (Value × Value)} (hn : (l.map (·.1)).Nodup) {i j : Nat} {p q : Value × Value} (hi : l[i]? = some p) (hj : l[j]? = some q) (e : p.1 = q.1) : i = j := by
  obtain ⟨h1, h2⟩ := List.getElem?_eq_some_iff.1 hi
  obtain ⟨h3, h4⟩ := List.getElem?_eq_some_iff.1 hj
  have hp := List.pairwise_iff_getElem.1 hn
  rcases Nat.lt_trichotomy i j with h | h | h
  · exact absurd (show (l.map (·.1))[i]'(by simpa using h1) = (l.map (·.1))[j]'(by simpa using h3) by simp [h2, h4, e]) (hp i j (by simpa using h1) (by simpa using h3) h)
  · exact h
  · exact absurd (show (l.map (·.1))[j]'(by simpa using h3) = (l.map (·.1))[i]'(by simpa using h1) by simp [h2, h4, e]) (hp j i (by simpa using h3) (by simpa using h1) h)
theorem lkV_some {l : List (Value × Value)} (hn : (l.map (·.1)).Nodup) {j : Nat} {p : Value × Value} (hj : l[j]? = some p) : lkV l p.1 = some p.2 := by
  unfold lkV
  cases hf : l.find? fun q => @decide (q.1 = p.1) (Classical.propDecidable _) with
  | none =>
    have := List.find?_eq_none.1 hf p (List.mem_of_getElem? hj)
    simp at this
  | some q =>
    have h1 := List.find?_some hf
    obtain ⟨i, hi, hq⟩ := List.getElem_of_mem (List.mem_of_find?_eq_some hf)
    have hi' : l[i]? = some q := by rw [List.getElem?_eq_getElem hi, hq]
    have := keys_inj hn hi' hj (by simpa using h1)
    subst this
    rw [hi'] at hj
    cases hj; rfl
theorem find_ents {P : Program} {k : TypeId} {ok : Value → Prop} (K : KLaw P k ok) {l : List (Value × Value)} (hn : (l.map (·.1)).Nodup) (hall : ∀ p ∈ l, ok p.1) {x : Value} (hx : ok x) (w : World) :
    ((Instr.findKey k x (ents l 0)).run P w = .ok none w ∧ ∀ p ∈ l, p.1 ≠ x) ∨ ∃ j p, (Instr.findKey k x (ents l 0)).run P w = .ok (some (j, p.2)) w ∧ l[j]? = some p ∧ p.1 = x := by
  have _ := hn
  rcases K.find w hx (ents l 0) (fun e he => by obtain ⟨j, hj, _⟩ := ents_mem he; exact hall _ (List.mem_of_getElem? hj)) with ⟨h1, h2⟩ | ⟨j, e, h1, h2, h3⟩
  · refine .inl ⟨h1, fun p hp => ?_⟩
    obtain ⟨i, hi, hq⟩ := List.getElem_of_mem hp
    have h4 := ents_get l 0 i
    rw [List.getElem?_eq_getElem hi, hq] at h4
    exact h2 _ (List.mem_of_getElem? h4)
  · have h4 := ents_get l 0 j
    rw [h2] at h4
    cases hl : l[j]? with
    | none => rw [hl] at h4; cases h4
    | some p =>
      rw [hl] at h4
      have h5 := Option.some.inj h4
      subst h5
      exact .inr ⟨j, p, h1, hl, h3⟩
theorem ents_modify {l : List (Value × Value)} (hn : (l.map (·.1)).Nodup) {j : Nat} {p : Value × Value} (hj : l[j]? = some p) (f : MapEntry → MapEntry) (v : Value) (hf : f ⟨p.1, p.2, j⟩ = ⟨p.1, v, j⟩) :
    (ents l 0).toArray.modify j f = (ents (putV l p.1 v) 0).toArray := by
  have hmem := List.mem_of_getElem? hj
  have hput : putV l p.1 v = l.map fun q => @ite _ (q.1 = p.1) (Classical.propDecidable _) (p.1, v) q := by unfold putV; rw [if_pos ⟨p, hmem, rfl⟩]
  apply Array.ext'
  rw [Array.toList_modify, hput]
  refine List.ext_getElem? fun i => ?_
  rw [List.getElem?_modify, ents_get, ents_get, List.getElem?_map, Option.map_map]
  cases hl : l[i]? with
  | none => simp
  | some q =>
    by_cases e : j = i
    · subst e
      rw [hj] at hl
      cases hl
      simp [hf]
    · have hne : q.1 ≠ p.1 := fun h => e (keys_inj hn hl hj h).symm
      simp [e, hne]
theorem putV_new {l : List (Value × Value)} {x v : Value} (h : ∀ p ∈ l, p.1 ≠ x) : putV l x v = l ++ [(x, v)] := by
  unfold putV; rw [if_neg (fun ⟨p, hp, e⟩ => h p hp e)]
theorem putV_keys {l : List (Value × Value)} {x v : Value} : (putV l x v).map (·.1) = @ite _ (∃ p ∈ l, p.1 = x) (Classical.propDecidable _) (l.map (·.1)) (l.map (·.1) ++ [x]) := by
  unfold putV
  by_cases h : ∃ p ∈ l, p.1 = x
  · rw [if_pos h, if_pos h, List.map_map]
    refine List.map_congr_left fun p _ => ?_
    by_cases e : p.1 = x <;> simp [e]
  · rw [if_neg h, if_neg h, List.map_append]; rfl
/-- The object a among the items. -/
class MO (a : Nat) (H : Hp) (o : outParam Obj) : Prop where
  out : It.obj a o ∈ H
instance MO_0 {a : Nat} {H : Hp} {o : Obj} : MO a (.obj a o :: H) o := ⟨m0⟩
instance (priority := low) MO_S {a : Nat} {H : Hp} {o : Obj} {x : It} [h : MO a H o] : MO a (x :: H) o := ⟨mS h.out⟩
/-- The object turned. -/
class UO (a : Nat) (H : Hp) (o : outParam Obj) (H' : outParam (Obj → Hp)) : Prop where
  out : ∃ H1 H2, H = H1 ++ It.obj a o :: H2 ∧ ∀ o', H' o' = H1 ++ It.obj a o' :: H2
instance UO_0 {a : Nat} {H : Hp} {o : Obj} : UO a (.obj a o :: H) o (fun o' => .obj a o' :: H) := ⟨[], H, rfl, fun _ => rfl⟩
instance (priority := low) UO_S {a : Nat} {H : Hp} {H' : Obj → Hp} {o : Obj} {x : It} [h : UO a H o H'] : UO a (x :: H) o (fun o' => x :: H' o') := ⟨by
  obtain ⟨H1, H2, rfl, h2⟩ := h.out
  exact ⟨x :: H1, H2, rfl, fun o' => by rw [h2]; rfl⟩⟩
section
variable {P : Program} {B : Nat} {w0 : World} {n : Nat} {Q : Po} {F : Fr} {H H1 H2 : Hp} {ops : Array Oper} {l : List Oper} {ty : TypeId} {pos : String} {af : Array Edge} {d : Nat} {dst : Option Tmp} {g : Option (Nat × Bool)}
theorem Holds.obj_at {w : World} (hw : Holds B w0 H w) {a : Nat} {o : Obj} (hm : It.obj a o ∈ H) : w.heap[a]? = some o := (hw.ok _ hm).2
/-- No row of cells. -/
def noCells : Obj → Bool
  | .cells _ _ _ => false
  | _ => true
theorem run_getObj_of {w : World} {a : Nat} {o : Obj} (ho : noCells o = true) (h : w.heap[a]? = some o) : (getObj a).run P w = .ok o w := by
  cases o <;> first | (cases ho; done) | simp [getObj, Sem.run, h]
theorem run_setObj_of {w : World} {a : Nat} {o o' : Obj} (ho : noCells o = true) (h : w.heap[a]? = some o) : (setObj a o').run P w = .ok () { w with heap := w.heap.setIfInBounds a o' } := by
  cases o <;> first | (cases ho; done) | simp [setObj, Sem.run, h]
theorem Holds.setObj {w : World} {a : Nat} {o o' : Obj} (h : Holds B w0 (H1 ++ .obj a o :: H2) w) : Holds B w0 (H1 ++ .obj a o' :: H2) { w with heap := w.heap.setIfInBounds a o' } := by
  have hb := h.ok (.obj a o) (by simp)
  have hlt := (Array.getElem?_eq_some_iff.1 hb.2).1
  refine h.swap rfl rfl rfl (by simp) (Nat.le_refl _) (fun k _ hk => ?_) ⟨hb.1, ?_⟩ (fun k hk => .inl hk)
  · have : a ≠ k := fun e => hk (by rw [← e]; rfl)
    simp [Array.getElem?_setIfInBounds, this]
  · simp [Array.getElem?_setIfInBounds, hlt]
theorem Holds.newObj {w : World} (h : Holds B w0 H w) (o : Obj) : Holds B w0 (.obj w.heap.size o :: H) (w.alloc o) :=
  h.new (Blw.alloc (Blw.refl _ _) (Nat.le_refl _) _) _ ⟨h.size, heap_alloc_new w _⟩ (fun k hk => by simp [It.own] at hk; omega)
theorem run_newObj_of {w : World} (o : Obj) : (newObj o).run P w = .ok w.heap.size (w.alloc o) := by
  simp [newObj, Sem.run]
/-- make(map[K]V). -/
theorem J_makeMap {T : TypeId} (hd : Nat.blt d n = true) (k : ∀ b, J false P B w0 n ops Q l ((d, .map (some b)) :: F) (.obj b (mapO []) :: H)) : J false P B w0 n ops Q (⟨some d, .makeMap T none, ty, pos, af, none⟩ :: l) F H :=
  J_do _ fun a w ha hw => ⟨_, _, _, _, by
    simp only [execOp, Option.map_none, Instr.makeMap, Sem.run_bind, run_newObj_of, Result.andThen_ok, Sem.run_pure]; rfl, ha.put (lt_of_blt hd) _, hw.newObj (mapO []), k w.heap.size⟩
theorem run_lookup {T kt et : TypeId} {ok : Value → Prop} (K : KLaw P kt ok) (hT : P.underlying T = some (.map kt et)) {z : Value} (hz : ∀ w, (zeroValue et).run P w = .ok z w) {m : List (Value × Value)} (hn : (m.map (·.1)).Nodup) (hall : ∀ p ∈ m, ok p.1) {x : Value} (hx : ok x) {w : World} {a : Nat}
    (hb : w.heap[a]? = some (mapO m)) (c : Bool) : (Instr.lookup T (.map (some a)) x c).run P w = .ok (if c then .tuple #[(lkV m x).getD z, .bool (lkV m x).isSome] else (lkV m x).getD z) w := by
  rcases find_ents K hn hall hx w with ⟨h1, h2⟩ | ⟨j, p, h1, h2, h3⟩
  · rw [lkV_none h2]
    simp only [Instr.lookup, Sem.run_bind, run_underlying hT, Result.andThen_ok, run_getObj_of rfl hb, mapO, Sem.run_pure, K.check w _ hx, h1, hz]
    rfl
  · subst h3
    rw [lkV_some hn h2]
    simp only [Instr.lookup, Sem.run_bind, run_underlying hT, Result.andThen_ok, run_getObj_of rfl hb, mapO, Sem.run_pure, K.check w _ hx, h1]
    rfl
theorem q_lookup {T kt et : TypeId} {ok : Value → Prop} {x y : Operand} {a : Nat} {m : List (Value × Value)} {key z v : Value} [hT : Un P T (.map kt et)] [hz : Zr P et z] (K : KLaw P kt ok) (hx : ev F x = some (.map (some a))) (hy : ev F y = some key) (hm : It.obj a (mapO m) ∈ H) (hn : (m.map (·.1)).Nodup) (hall : ∀ p ∈ m, ok p.1) (hk : ok key)
    (hv : (lkV m key).getD z = v) : OpQ P B w0 n H F ⟨dst, .lookup T x y false, ty, pos, af, g⟩ v :=
  opq_run fun A ha w hw => by
    subst hv
    simp only [execOp, ha.ev hx, ha.ev hy]
    rw [Sem.run_bind, run_lookup K hT.out hz.out hn hall hk (hw.obj_at hm) false]; rfl
theorem q_lookup2 {T kt et : TypeId} {ok : Value → Prop} {x y : Operand} {a : Nat} {m : List (Value × Value)} {key z v : Value} {b : Bool} [hT : Un P T (.map kt et)] [hz : Zr P et z] (K : KLaw P kt ok) (hx : ev F x = some (.map (some a))) (hy : ev F y = some key) (hm : It.obj a (mapO m) ∈ H) (hn : (m.map (·.1)).Nodup) (hall : ∀ p ∈ m, ok p.1) (hk : ok key)
    (hv : (lkV m key).getD z = v) (hb : (lkV m key).isSome = b) : OpQ P B w0 n H F ⟨dst, .lookup T x y true, ty, pos, af, g⟩ (.tuple #[v, .bool b]) :=
  opq_run fun A ha w hw => by
    subst hv hb
    simp only [execOp, ha.ev hx, ha.ev hy]
    rw [Sem.run_bind, run_lookup K hT.out hz.out hn hall hk (hw.obj_at hm) true]; rfl
theorem q_lenM {x : Operand} {T kt et : TypeId} {a : Nat} {m : List (Value × Value)} [hT : Un P T (.map kt et)] (hx : ev F x = some (.map (some a))) (hm : It.obj a (mapO m) ∈ H) :
    OpQ P B w0 n H F ⟨dst, .call { callee := .builtin .len, args := #[x], argTypes := #[T] }, ty, pos, af, g⟩ (.int .i64 (m.length : Nat)) :=
  opq_run fun A ha w hw => by
    have hb := hw.obj_at hm
    simp [execOp, resolve, invoke, builtin, ha.ev hx, Builtin.len_, run_underlying hT.out, run_getObj_of rfl hb, mapO, ents_len, goInt]
theorem Jq_lenM {dr : Bool} {x : Operand} {T kt et : TypeId} {a : Nat} {m : List (Value × Value)} [hT : Un P T (.map kt et)] (hdn : Nat.blt d n = true) (hx : ev F x = some (.map (some a))) (hm : It.obj a (mapO m) ∈ H) (kk : J dr P B w0 n ops Q l ((d, .int .i64 (m.length : Nat)) :: F) H) :
    J dr P B w0 n ops Q (⟨some d, .call { callee := .builtin .len, args := #[x], argTypes := #[T] }, ty, pos, af, none⟩ :: l) F H := J_q hdn (q_lenM hx hm) kk
theorem run_mapUpdate {T kt et : TypeId} {ok : Value → Prop} (K : KLaw P kt ok) (hT : P.underlying T = some (.map kt et)) {m : List (Value × Value)} (hn : (m.map (·.1)).Nodup) (hall : ∀ p ∈ m, ok p.1) {x : Value} (hx : ok x) (v : Value) {w : World} {a : Nat}
    (hb : w.heap[a]? = some (mapO m)) : (Instr.mapUpdate T (.map (some a)) x v).run P w = .ok () { w with heap := w.heap.setIfInBounds a (mapO (putV m x v)) } := by
  rcases find_ents K hn hall hx w with ⟨h1, h2⟩ | ⟨j, p, h1, h2, h3⟩
  · have e : mapO (putV m x v) = .map ((ents m 0).toArray.push ⟨x, v, m.length⟩) (m.length + 1) := by
      rw [putV_new h2, mapO, ents_snoc]; simp
    simp only [Instr.mapUpdate, Sem.run_bind, run_underlying hT, Result.andThen_ok, run_getObj_of rfl hb, mapO, K.check w _ hx, h1]
    rw [run_setObj_of rfl hb, ← e]; rfl
  · subst h3
    have hj := ents_get m 0 j
    rw [h2] at hj
    have hj' : (ents m 0).toArray[j]? = some ⟨p.1, p.2, 0 + j⟩ := by rw [List.getElem?_toArray, hj]; rfl
    have hlen : (putV m p.1 v).length = m.length := by
      have := congrArg List.length (putV_keys (l := m) (x := p.1) (v := v))
      rw [if_pos ⟨p, List.mem_of_getElem? h2, rfl⟩] at this
      simpa using this
    simp only [Instr.mapUpdate, Sem.run_bind, run_underlying hT, Result.andThen_ok, run_getObj_of rfl hb, mapO, K.check w _ hx, h1, hj', Option.map_some, Option.getD_some, K.stays w hx]
    rw [run_setObj_of rfl hb, ents_modify hn h2 _ v (by simp), hlen]
theorem J_mapUpdate {T kt et : TypeId} {ok : Value → Prop} {x y t : Operand} {a : Nat} {m m' : List (Value × Value)} {key v : Value} {H' : Obj → Hp} {o : Obj} [hT : Un P T (.map kt et)] (K : KLaw P kt ok) (hx : ev F x = some (.map (some a))) (hy : ev F y = some key) (ht : ev F t = some v) (hu : UO a H o H') (ho : o = mapO m) (hn : (m.map (·.1)).Nodup) (hall : ∀ p ∈ m, ok p.1) (hk : ok key)
    (hm' : putV m key v = m') (k : J false P B w0 n ops Q l F (H' (mapO m'))) : J false P B w0 n ops Q (⟨none, .mapUpdate T x y t, ty, pos, af, none⟩ :: l) F H := by
  obtain ⟨H1, H2, rfl, h2⟩ := hu.out
  subst ho hm'
  refine J_doS fun A w ha hw => ?_
  have hb := hw.obj_at (a := a) (o := mapO m) (by simp)
  refine ⟨_, H1 ++ .obj a (mapO (putV m key v)) :: H2, ?_, hw.setObj, by rw [← h2]; exact k⟩
  simp only [execOp, ha.ev hx, ha.ev hy, ha.ev ht]
  rw [Sem.run_bind, run_mapUpdate K hT.out hn hall hk v hb]; rfl
/-! #### m[k] op= v: the entry is found or laid, then stored into -/
theorem J_mapEntry {T kt et : TypeId} {ok : Value → Prop} {x y : Operand} {a : Nat} {m : List (Value × Value)} {key z : Value} {H' : Obj → Hp} {o : Obj} [hT : Un P T (.map kt et)] [hz : Zr P et z] (hdn : Nat.blt d n = true) (K : KLaw P kt ok) (hx : ev F x = some (.map (some a))) (hy : ev F y = some key) (hu : UO a H o H') (ho : o = mapO m) (hn : (m.map (·.1)).Nodup) (hall : ∀ p ∈ m, ok p.1) (hk : ok key)
    (k : ∀ (m' : List (Value × Value)) (j : Nat) (u : Value), u = (lkV m key).getD z → m' = putV m key u → m'[j]? = some (key, u) → J false P B w0 n ops Q l ((d, .tuple #[u, .int .i64 (j : Int)]) :: F) (H' (mapO m'))) :
    J false P B w0 n ops Q (⟨some d, .mapEntry T x y, ty, pos, af, none⟩ :: l) F H := by
  obtain ⟨H1, H2, rfl, h2⟩ := hu.out
  subst ho
  refine J_do _ fun A w ha hw => ?_
  have hb := hw.obj_at (a := a) (o := mapO m) (by simp)
  rcases find_ents K hn hall hk w with ⟨f1, f2⟩ | ⟨j, p, f1, f2, f3⟩
  · have e : mapO (putV m key z) = .map ((ents m 0).toArray.push ⟨key, z, m.length⟩) (m.length + 1) := by
      rw [putV_new f2, mapO, ents_snoc]; simp
    have hkk := k (putV m key z) m.length z (by rw [lkV_none f2]; rfl) rfl (by rw [putV_new f2]; simp)
    rw [h2] at hkk
    refine ⟨_, _, _, H1 ++ .obj a (mapO (putV m key z)) :: H2, ?_, ha.put (lt_of_blt hdn) _, hw.setObj, hkk⟩
    simp only [execOp, ha.ev hx, ha.ev hy, Instr.mapEntry, Sem.run_bind, run_underlying hT.out, Result.andThen_ok, run_getObj_of rfl hb, mapO, K.check w _ hk, f1, hz.out]
    rw [run_setObj_of rfl hb, ← e]; rfl
  · subst f3
    have hj := ents_get m 0 j
    rw [f2] at hj
    have hj' : (ents m 0).toArray[j]? = some ⟨p.1, p.2, j⟩ := by rw [List.getElem?_toArray, hj]; simp
    have hlen : (putV m p.1 p.2).length = m.length := by
      have := congrArg List.length (putV_keys (l := m) (x := p.1) (v := p.2))
      rw [if_pos ⟨p, List.mem_of_getElem? f2, rfl⟩] at this
      simpa using this
    have hsame : putV m p.1 p.2 = m := by
      unfold putV
      rw [if_pos ⟨p, List.mem_of_getElem? f2, rfl⟩]
      refine (List.map_congr_left fun q hq => ?_).trans (List.map_id _)
      by_cases e : q.1 = p.1
      · rw [if_pos e]
        obtain ⟨i, hi, hqi⟩ := List.getElem_of_mem hq
        have hi' : m[i]? = some q := by rw [List.getElem?_eq_getElem hi, hqi]
        have := keys_inj hn hi' f2 e
        subst this
        rw [f2] at hi'
        cases hi'; rfl
      · rw [if_neg e]; rfl
    have hkk := k (putV m p.1 p.2) j p.2 (by rw [lkV_some hn f2]; rfl) rfl (by rw [hsame, f2])
    rw [h2] at hkk
    refine ⟨_, _, _, H1 ++ .obj a (mapO (putV m p.1 p.2)) :: H2, ?_, ha.put (lt_of_blt hdn) _, hw.setObj, hkk⟩
    simp only [execOp, ha.ev hx, ha.ev hy, Instr.mapEntry, Sem.run_bind, run_underlying hT.out, Result.andThen_ok, run_getObj_of rfl hb, mapO, K.check w _ hk, f1, hj', Option.map_some, Option.getD_some, K.stays w hk]
    rw [run_setObj_of rfl hb, ents_modify hn f2 _ p.2 (by simp), hlen]; rfl
theorem find_stamp {m : List (Value × Value)} {j : Nat} (hj : j < m.length) : (ents m 0).toArray.findIdx? (fun e => (e.born : Int) == (j : Int)) = some j := by
  rw [List.findIdx?_toArray, List.findIdx?_eq_some_iff_getElem]
  have hl := ents_len m 0
  have key : ∀ i (hi : i < (ents m 0).length), (ents m 0)[i].born = i := fun i hi => by
    have h1 := ents_get m 0 i
    rw [List.getElem?_eq_getElem hi, List.getElem?_eq_getElem (by omega)] at h1
    have h2 := Option.some.inj h1
    rw [h2]; simp
  refine ⟨by omega, by rw [key]; simp, fun i hi => ?_⟩
  rw [key]
  simp only [beq_iff_eq]
  omega
theorem J_entryStore {T : TypeId} {x y t : Operand} {a j : Nat} {m m' : List (Value × Value)} {key u v : Value} {H' : Obj → Hp} {o : Obj} (hx : ev F x = some (.map (some a))) (hy : ev F y = some (.int .i64 (j : Int))) (ht : ev F t = some v) (hu : UO a H o H') (ho : o = mapO m) (hn : (m.map (·.1)).Nodup) (hj : m[j]? = some (key, u))
    (hm' : putV m key v = m') (k : J false P B w0 n ops Q l F (H' (mapO m'))) : J false P B w0 n ops Q (⟨none, .entryStore T x y t, ty, pos, af, none⟩ :: l) F H := by
  obtain ⟨H1, H2, rfl, h2⟩ := hu.out
  subst ho hm'
  refine J_doS fun A w ha hw => ?_
  have hb := hw.obj_at (a := a) (o := mapO m) (by simp)
  have hlt := (List.getElem?_eq_some_iff.1 hj).1
  have hlen : (putV m key v).length = m.length := by
    have := congrArg List.length (putV_keys (l := m) (x := key) (v := v))
    rw [if_pos ⟨_, List.mem_of_getElem? hj, rfl⟩] at this
    simpa using this
  refine ⟨_, H1 ++ .obj a (mapO (putV m key v)) :: H2, ?_, hw.setObj, by rw [← h2]; exact k⟩
  simp only [execOp, ha.ev hx, ha.ev hy, ha.ev ht, Instr.entryStore, Sem.run_bind, Result.andThen_ok, run_getObj_of rfl hb, mapO, asInt, asIntOf, Sem.run_pure, find_stamp hlt]
  rw [run_setObj_of rfl hb, ents_modify hn hj _ v (by simp), hlen]; rfl
/-! #### loops over a map that is left as it is -/
theorem J_range {T kt et : TypeId} {x : Operand} {a : Nat} {m : List (Value × Value)} [hT : Un P T (.map kt et)] (hdn : Nat.blt d n = true) (hx : ev F x = some (.map (some a))) (hm : It.obj a (mapO m) ∈ H)
    (k : ∀ b, J false P B w0 n ops Q l ((d, .pointer (some ⟨b, 0, none⟩)) :: F) (.obj b (itO a m.length []) :: H)) : J false P B w0 n ops Q (⟨some d, .range T x, ty, pos, af, none⟩ :: l) F H :=
  J_do _ fun A w ha hw => ⟨_, _, _, _, by
    simp only [execOp, ha.ev hx, Instr.range, Sem.run_bind, run_underlying hT.out, Result.andThen_ok, run_getObj_of rfl (hw.obj_at hm), mapO, run_newObj_of, Sem.run_pure]; rfl, ha.put (lt_of_blt hdn) _, hw.newObj (itO a m.length []), k w.heap.size⟩
theorem J_next {x : Operand} {a b : Nat} {m : List (Value × Value)} {seen : List Nat} {H' : Obj → Hp} {o : Obj} (hdn : Nat.blt d n = true) (hx : ev F x = some (.pointer (some ⟨b, 0, none⟩))) (hu : UO b H o H') (ho : o = itO a m.length seen) (hm : It.obj a (mapO m) ∈ H) (hs : ∀ i ∈ seen, i < m.length)
    (k0 : (∀ i, i < m.length → i ∈ seen) → J false P B w0 n ops Q l ((d, .tuple #[.bool false]) :: F) (H' (itO a m.length seen)))
    (k1 : ∀ (i : Nat) (p : Value × Value), m[i]? = some p → i ∉ seen → J false P B w0 n ops Q l ((d, .tuple #[.bool true, p.1, p.2]) :: F) (H' (itO a m.length (seen ++ [i])))) :
    J false P B w0 n ops Q (⟨some d, .next x false, ty, pos, af, none⟩ :: l) F H := by
  obtain ⟨H1, H2, rfl, h2⟩ := hu.out
  subst ho
  refine J_do _ fun A w ha hw => ?_
  have hb := hw.obj_at (a := b) (o := itO a m.length seen) (by simp)
  have hbm := hw.obj_at hm
  have hborn : ∀ e ∈ ents m 0, e.born < m.length := fun e he => by
    obtain ⟨j, hj, e1⟩ := ents_mem he
    have := (List.getElem?_eq_some_iff.1 hj).1
    omega
  have htest := next_test_false seen.toArray (ents m 0).toArray m.length m.length (fun e he => hborn e (by simpa using he)) (Nat.le_refl _)
  obtain ⟨L, hL⟩ : ∃ L, L = Array.filter (fun e : MapEntry => !seen.toArray.contains e.born) (ents m 0).toArray := ⟨_, rfl⟩
  have hLb : ∀ e ∈ L, e.born < m.length := fun e he => hborn e (by rw [hL] at he; simpa using (Array.mem_filter.1 he).1)
  have e1 : L.filter (fun x => decide (x.born < m.length)) = L := Array.filter_eq_self.2 (fun x hx => by simpa using hLb x hx)
  have e2 : L.filter (fun x => decide (x.born ≥ m.length)) = #[] := by
    rw [Array.filter_eq_empty_iff]
    intro x hx
    have := hLb x hx
    simp
    omega
  have hget : ∀ e ∈ L, ∃ i, m[i]? = some (e.key, e.val) ∧ e.born = i ∧ i ∉ seen := fun e he => by
    rw [hL] at he
    obtain ⟨h3, h4⟩ := Array.mem_filter.1 he
    obtain ⟨j, hj, e5⟩ := ents_mem (by simpa using h3)
    refine ⟨j, hj, by omega, fun hc => ?_⟩
    have : e.born = j := by omega
    rw [this] at h4
    simp at h4
    exact h4 hc
  by_cases h0 : L.size = 0
  · have hempty : L = #[] := Array.eq_empty_of_size_eq_zero h0
    have hall : ∀ i, i < m.length → i ∈ seen := fun i hi => by
      by_cases hc : i ∈ seen
      · exact hc
      · exfalso
        have h3 := ents_get m 0 i
        rw [List.getElem?_eq_getElem hi] at h3
        have : (⟨m[i].1, m[i].2, 0 + i⟩ : MapEntry) ∈ L := by
          rw [hL, Array.mem_filter]
          refine ⟨by simpa using List.mem_of_getElem? h3, ?_⟩
          simp
          exact hc
        rw [hempty] at this
        simp at this
    have hkk := k0 hall
    rw [h2] at hkk
    refine ⟨_, w, _, _, ?_, ha.put (lt_of_blt hdn) _, hw, hkk⟩
    simp only [execOp, ha.ev hx, Instr.next, Sem.run_bind, run_getObj_of rfl hb, run_getObj_of rfl hbm, Result.andThen_ok, itO, mapO, htest, Bool.false_eq_true, if_false, ← hL, e1, e2, Array.append_empty, hempty]
    simp [choose, Sem.run, Question.forced]
  · have hne : L.isEmpty = false := by simp [Array.isEmpty, h0]
    have hch : ∃ (j : Nat) (w1 : World), j < L.size ∧ (w1 = w ∨ w1 = w.drew) ∧ (choose (Question.mapNext L.size)).run P w = .ok j w1 := by
      by_cases hf : L.size ≤ 1
      · exact ⟨0, w, by omega, .inl rfl, by simp [choose, Sem.run, Question.forced, hf]⟩
      · exact ⟨_, w.drew, Nat.mod_lt _ (by omega), .inr rfl, by
          simp only [choose, Sem.run, Question.forced, decide_eq_true_eq, hf, if_false, Question.cut]
          rfl⟩
    obtain ⟨j, w1, hj, hw1, hrun⟩ := hch
    have hw1' : Holds B w0 (H1 ++ .obj b (itO a m.length seen) :: H2) w1 := by
      rcases hw1 with rfl | rfl
      · exact hw
      · exact hw.draw
    have hb1 := hw1'.obj_at (a := b) (o := itO a m.length seen) (by simp)
    obtain ⟨i, hi, hbi, hns⟩ := hget L[j] (Array.getElem_mem hj)
    have hkk := k1 i _ hi hns
    rw [h2] at hkk
    refine ⟨_, _, _, H1 ++ .obj b (itO a m.length (seen ++ [i])) :: H2, ?_, ha.put (lt_of_blt hdn) _, hw1'.setObj, hkk⟩
    simp only [execOp, ha.ev hx, Instr.next, Sem.run_bind, run_getObj_of rfl hb, run_getObj_of rfl hbm, Result.andThen_ok, itO, mapO, htest, Bool.false_eq_true, if_false, ← hL, e1, e2, Array.append_empty, hne, Array.empty_append, Array.size_map, hrun, Array.getElem?_map, Array.getElem?_eq_getElem hj, Option.map_some]
    rw [run_setObj_of rfl hb1]
    simp [hbi]
/-- The round's key and value, read behind the step. -/
theorem Jq_entry {x : Operand} {a b i : Nat} {m : List (Value × Value)} {seen : List Nat} {p : Value × Value} (hdn : Nat.blt d n = true) (hx : ev F x = some (.pointer (some ⟨b, 0, none⟩))) (hb : It.obj b (itO a m.length (seen ++ [i])) ∈ H) (hm : It.obj a (mapO m) ∈ H) (hi : m[i]? = some p)
    {dr : Bool} (k : J dr P B w0 n ops Q l ((d, .tuple #[p.1, p.2]) :: F) H) : J dr P B w0 n ops Q (⟨some d, .entry x, ty, pos, af, none⟩ :: l) F H :=
  J_q hdn (opq_run fun A ha w hw => by
    have h1 := ents_get m 0 i
    rw [hi] at h1
    have hf : (ents m 0).toArray.find? (fun e => e.born == i) = some ⟨p.1, p.2, i⟩ := by
      rw [List.find?_toArray, List.find?_eq_some_iff_getElem]
      have hlt : i < (ents m 0).length := by rw [ents_len]; exact (List.getElem?_eq_some_iff.1 hi).1
      have key : ∀ j (hj : j < (ents m 0).length), (ents m 0)[j].born = j := fun j hj => by
        have h1 := ents_get m 0 j
        rw [List.getElem?_eq_getElem hj, List.getElem?_eq_getElem (by rw [ents_len] at hj; exact hj)] at h1
        rw [Option.some.inj h1]; simp
      refine ⟨by simp, i, hlt, ?_, fun j hj => ?_⟩
      · rw [List.getElem?_eq_getElem hlt] at h1
        rw [Option.some.inj h1]; simp
      · rw [key]; simp; omega
    have g2 := run_getObj_of (P := P) rfl (hw.obj_at hm)
    simp only [execOp, ha.ev hx, Instr.entry, Sem.run_bind, run_getObj_of rfl (hw.obj_at hb), itO, Result.andThen_ok]
    simp [g2, mapO, hf]) k
end
end SL
end Go.Proofs.YtmbbcmebdefggaaGreatDoor
namespace Go.Proofs.YtmbbcmebdefggaaGreatDoor
open Go SL
section
variable {K V : Type} {eK : K → Value} {eV : V → Value}
/-- The entries' values. -/
def encM (eK : K → Value) (eV : V → Value) (m : List (K × V)) : List (Value × Value) := m.map fun p => (eK p.1, eV p.2)
theorem encM_len (m : List (K × V)) : (encM eK eV m).length = m.length := by simp [encM]
theorem encM_get {m : List (K × V)} {i : Nat} {p : Value × Value} (h : (encM eK eV m)[i]? = some p) : ∃ q, m[i]? = some q ∧ p = (eK q.1, eV q.2) := by
  unfold encM at h
  rw [List.getElem?_map] at h
  cases hm : m[i]? with
  | none => rw [hm] at h; cases h
  | some q => rw [hm] at h; exact ⟨q, rfl, (Option.some.inj h).symm⟩
theorem encM_keys (m : List (K × V)) : (encM eK eV m).map (·.1) = (m.map (·.1)).map eK := by simp [encM]
theorem encM_nodup (hinj : ∀ a b, eK a = eK b → a = b) {m : List (K × V)} (h : (m.map (·.1)).Nodup) : ((encM eK eV m).map (·.1)).Nodup := by
  rw [encM_keys, List.nodup_iff_pairwise_ne, List.pairwise_map]
  exact List.Pairwise.imp (fun {a b} hab e => hab (hinj a b e)) (List.nodup_iff_pairwise_ne.1 h)
variable [DecidableEq K]
def lkM (m : List (K × V)) (k : K) : Option V := (m.find? fun p => p.1 = k).map (·.2)
def putM (m : List (K × V)) (k : K) (v : V) : List (K × V) := if k ∈ m.map (·.1) then m.map fun p => if p.1 = k then (k, v) else p else m ++ [(k, v)]
theorem lkV_enc (hinj : ∀ a b, eK a = eK b → a = b) (m : List (K × V)) (k : K) : lkV (encM eK eV m) (eK k) = (lkM m k).map eV := by
  unfold lkV lkM encM
  induction m with
  | nil => rfl
  | cons p m ih =>
    rw [List.map_cons, List.find?_cons, List.find?_cons]
    by_cases e : p.1 = k
    · subst e; simp
    · have : eK p.1 ≠ eK k := fun h => e (hinj _ _ h)
      simp only [this, e, decide_false]
      exact ih
theorem putV_enc (hinj : ∀ a b, eK a = eK b → a = b) (m : List (K × V)) (k : K) (v : V) : putV (encM eK eV m) (eK k) (eV v) = encM eK eV (putM m k v) := by
  unfold putV putM
  by_cases h : k ∈ m.map (·.1)
  · have h' : ∃ p ∈ encM eK eV m, p.1 = eK k := by
      obtain ⟨p, hp, rfl⟩ := List.mem_map.1 h
      exact ⟨_, List.mem_map.2 ⟨p, hp, rfl⟩, rfl⟩
    rw [if_pos h, if_pos h']
    unfold encM
    rw [List.map_map, List.map_map]
    refine List.map_congr_left fun p _ => ?_
    by_cases e : p.1 = k
    · subst e; simp
    · have : eK p.1 ≠ eK k := fun h => e (hinj _ _ h)
      simp [this, e]
  · have h' : ¬ ∃ p ∈ encM eK eV m, p.1 = eK k := fun ⟨p, hp, e⟩ => by
      obtain ⟨q, hq, rfl⟩ := List.mem_map.1 hp
      exact h (List.mem_map.2 ⟨q, hq, hinj _ _ e⟩)
    rw [if_neg h, if_neg h']
    unfold encM
    rw [List.map_append]; rfl
theorem putM_keys (m : List (K × V)) (k : K) (v : V) : (putM m k v).map (·.1) = if k ∈ m.map (·.1) then m.map (·.1) else m.map (·.1) ++ [k] := by
  unfold putM
  by_cases h : k ∈ m.map (·.1)
  · rw [if_pos h, if_pos h, List.map_map]
    refine List.map_congr_left fun p _ => ?_
    by_cases e : p.1 = k <;> simp [e]
  · rw [if_neg h, if_neg h, List.map_append]; rfl
theorem putM_nodup {m : List (K × V)} (hn : (m.map (·.1)).Nodup) (k : K) (v : V) : ((putM m k v).map (·.1)).Nodup := by
  rw [putM_keys]
  by_cases h : k ∈ m.map (·.1)
  · rw [if_pos h]; exact hn
  · rw [if_neg h]
    refine List.nodup_append.2 ⟨hn, by simp, fun a ha b hb e => h ?_⟩
    simp only [List.mem_singleton] at hb
    subst hb e
    exact ha
theorem putM_len (m : List (K × V)) (k : K) (v : V) : (putM m k v).length ≤ m.length + 1 := by
  unfold putM
  split <;> simp
theorem lkM_put (m : List (K × V)) (k k' : K) (v : V) : lkM (putM m k v) k' = if k' = k then some v else lkM m k' := by
  unfold lkM putM
  by_cases h : k ∈ m.map (·.1)
  · rw [if_pos h]
    induction m with
    | nil => simp at h
    | cons p m ih =>
      rw [List.map_cons, List.find?_cons, List.find?_cons]
      by_cases e : p.1 = k
      · by_cases e' : k' = k
        · subst e'; simp [e]
        · have h1 : ¬ k = k' := fun h => e' h.symm
          have h2 : ¬ p.1 = k' := fun h => e' (h.symm.trans e)
          simp only [e, if_true, h1, h2, e', decide_false, if_false]
          by_cases hm : k ∈ m.map (·.1)
          · have := ih hm
            rw [if_neg e'] at this
            exact this
          · have : (m.map fun p => if p.1 = k then (k, v) else p) = m := by
              refine (List.map_congr_left fun q hq => ?_).trans (List.map_id _)
              have : q.1 ≠ k := fun h => hm (List.mem_map.2 ⟨q, hq, h⟩)
              simp [this]
            rw [this]
      · have hm : k ∈ m.map (·.1) := by
          rcases List.mem_cons.1 (by simpa using h : k ∈ p.1 :: m.map (·.1)) with h | h
          · exact absurd h.symm e
          · exact h
        simp only [e, if_false]
        by_cases e2 : p.1 = k'
        · have h1 : ¬ k' = k := fun h => e (e2.trans h)
          simp [e2, h1]
        · simp only [e2, decide_false]
          exact ih hm
  · rw [if_neg h, List.find?_append]
    by_cases e : k' = k
    · subst e
      have : m.find? (fun p => decide (p.1 = k')) = none := List.find?_eq_none.2 fun p hp => by
        have : p.1 ≠ k' := fun h' => h (List.mem_map.2 ⟨p, hp, h'⟩)
        simpa using this
      rw [this, if_pos rfl]
      simp
    · rw [if_neg e]
      have h1 : ¬ k = k' := fun h => e h.symm
      cases hf : m.find? (fun p => decide (p.1 = k')) <;> simp [h1]
theorem lkM_get {m : List (K × V)} (hn : (m.map (·.1)).Nodup) {i : Nat} {p : K × V} (h : m[i]? = some p) : lkM m p.1 = some p.2 := by
  unfold lkM
  cases hf : m.find? fun q => decide (q.1 = p.1) with
  | none =>
    have := List.find?_eq_none.1 hf p (List.mem_of_getElem? h)
    simp at this
  | some q =>
    have h1 : q.1 = p.1 := by simpa using List.find?_some hf
    obtain ⟨j, hj, e⟩ := List.getElem_of_mem (List.mem_of_find?_eq_some hf)
    have hp := List.pairwise_iff_getElem.1 hn
    obtain ⟨hi, e2⟩ := List.getElem?_eq_some_iff.1 h
    have : i = j := by
      rcases Nat.lt_trichotomy i j with hl | hl | hl
      · exact absurd (show (m.map (·.1))[i]'(by simpa using hi) = (m.map (·.1))[j]'(by simpa using hj) by simp [e, e2, h1]) (hp i j _ _ hl)
      · exact hl
      · exact absurd (show (m.map (·.1))[j]'(by simpa using hj) = (m.map (·.1))[i]'(by simpa using hi) by simp [e, e2, h1]) (hp j i _ _ hl)
    subst this
    rw [e2] at e
    subst e; rfl
theorem lkM_mem {m : List (K × V)} {k : K} {v : V} (h : lkM m k = some v) : (k, v) ∈ m := by
  unfold lkM at h
  cases hf : m.find? fun q => decide (q.1 = k) with
  | none => rw [hf] at h; cases h
  | some q =>
    rw [hf] at h
    have h1 : q.1 = k := by simpa using List.find?_some hf
    have h2 : q.2 = v := Option.some.inj h
    subst h1 h2
    exact List.mem_of_find?_eq_some hf
theorem lkM_isSome (m : List (K × V)) (k : K) : (lkM m k).isSome = true ↔ k ∈ m.map (·.1) := by
  unfold lkM
  constructor
  · intro h
    rw [Option.isSome_map] at h
    obtain ⟨q, hq⟩ := Option.isSome_iff_exists.1 h
    have h1 : q.1 = k := by simpa using List.find?_some hq
    exact List.mem_map.2 ⟨q, List.mem_of_find?_eq_some hq, h1⟩
  · intro h
    obtain ⟨q, hq, e⟩ := List.mem_map.1 h
    rw [Option.isSome_map, List.find?_isSome]
    exact ⟨q, hq, by simpa using e⟩
end
end Go.Proofs.YtmbbcmebdefggaaGreatDoor
namespace Go.Proofs.YtmbbcmebdefggaaGreatDoor
open Go Go.RowKit SL
section
variable {P : Program}
theorem findAsking_of {k : TypeId} {x : Value} {w : World} : ∀ (es : List MapEntry) (i : Nat), (∀ e ∈ es, ∃ r : Bool, (Op.equal k x e.key).run P w = .ok r w ∧ (r = true ↔ x = e.key)) →
    ((Instr.findAsking k x es i).run P w = .ok none w ∧ ∀ e ∈ es, e.key ≠ x) ∨ ∃ j e, (Instr.findAsking k x es i).run P w = .ok (some (i + j, e.val)) w ∧ es[j]? = some e ∧ e.key = x
  | [], i, _ => .inl ⟨by simp [Instr.findAsking], by simp⟩
  | e :: es, i, hall => by
    obtain ⟨r, hr, hiff⟩ := hall e (by simp)
    cases r
    · have hne : e.key ≠ x := fun h => by have := hiff.2 h.symm; cases this
      rcases findAsking_of es (i + 1) (fun y hy => hall y (by simp [hy])) with ⟨h1, h2⟩ | ⟨j, e', h1, h2, h3⟩
      · left
        refine ⟨by simp [Instr.findAsking, hr, h1], fun y hy => ?_⟩
        rcases List.mem_cons.1 hy with rfl | hy
        · exact hne
        · exact h2 y hy
      · right
        exact ⟨j + 1, e', by simp [Instr.findAsking, hr, h1, Nat.add_assoc, Nat.add_comm 1 j], by simpa using h2, h3⟩
    · right
      exact ⟨0, e, by simp [Instr.findAsking, hr], rfl, (hiff.1 rfl).symm⟩
theorem sameBits_ints {xs : List Value} (h : ∀ u ∈ xs, ∃ (k : IntKind) (a : Int), u = .int k a) (n : Nat) : Instr.sameBits (n + 2) (.agg xs.toArray) (.agg xs.toArray) = true := by
  simp only [Instr.sameBits, beq_self_eq_true, Bool.true_and, List.all_eq_true]
  intro p hp
  obtain ⟨i, hi, e⟩ := List.getElem_of_mem hp
  rw [List.getElem_zip] at e
  rw [← e]
  obtain ⟨k, a, e2⟩ := h _ (List.getElem_mem (l := xs) (by simpa using hi))
  have e3 : (xs.toArray.toList)[i]'(by simpa using hi) = .int k a := by simpa using e2
  simp [e3, Instr.sameBits]
/-- Arrays and structs of numbers. -/
theorem klaw_wide {k : TypeId} {ok : Value → Prop} (hwide : (match P.underlying k with | some (.array _ _) | some (.struct _) => true | _ => false) = true) (hck : ∀ w em v, ok v → (Instr.checkKey em 10000 k v).run P w = .ok () w)
    (heq : ∀ w x y, ok x → ok y → ∃ r : Bool, (Op.equal k x y).run P w = .ok r w ∧ (r = true ↔ x = y)) (hint : ∀ v, ok v → ∃ xs : List Value, v = .agg xs.toArray ∧ ∀ u ∈ xs, ∃ (q : IntKind) (a : Int), u = .int q a) : KLaw P k ok where
  check := fun w em v h => hck w em v h
  find := fun w x hx es hall => by
    rw [run_findKey_eq w hwide]
    have := findAsking_of (P := P) (k := k) (x := x) (w := w) es 0 fun e he => heq w x e.key hx (hall e he)
    simpa using this
  stays := fun w v h => by
    obtain ⟨xs, rfl, hi⟩ := hint v h
    have hs := sameBits_ints hi 9998
    simp [Instr.keyThatStays, hs]
/-- Numbers. -/
theorem klaw_int {k : TypeId} {q : IntKind} (hu : P.underlying k = some (.int q)) : KLaw P k (fun v => ∃ a : Int, v = .int q a) where
  check := fun w em v ⟨a, h⟩ => by
    subst h
    exact MapKept.run_checkKey hu (by simp [MapKept.IsKey]) em 9999
  find := fun w x hx es hall => by
    obtain ⟨a, rfl⟩ := hx
    have hks : ∀ e ∈ es, MapKept.IsKey (.int q) e.key := fun e he => by
      obtain ⟨b, h⟩ := hall e he
      rw [h]; simp [MapKept.IsKey]
    rcases MapKept.findNow_spec (d := .int q) (k := .int q a) (by simp [MapKept.IsKey]) es 0 hks with ⟨h1, h2⟩ | ⟨j, e, h1, h2, h3⟩
    · exact .inl ⟨MapKept.run_findKey hu h1, h2⟩
    · exact .inr ⟨j, e, by have := MapKept.run_findKey (P := P) (w := w) hu h1; simpa using this, h2, h3⟩
  stays := fun w v ⟨a, h⟩ => by
    subst h
    exact MapKept.run_keyThatStays (d := .int q) (by simp [MapKept.IsKey])
theorem check_intAt {e : TypeId} {q : IntKind} (hu : P.underlying e = some (.int q)) (w : World) (em : Bool) (n : Nat) (a : Int) : (Instr.checkKey em (n + 1) e (.int q a)).run P w = .ok () w :=
  MapKept.run_checkKey hu (by simp [MapKept.IsKey]) em n
theorem check_u8s {t e : TypeId} {len : Nat} (ht : P.underlying t = some (.array len e)) (hu : P.underlying e = some (.int .u8)) (hc : P.cellsOf e = 1) (X : List Nat) (lX : X.length = len) (w : World) (em : Bool) (n : Nat) : (Instr.checkKey em (n + 2) t (.agg (u8s X).toArray)).run P w = .ok () w := by
  obtain ⟨i, hi⟩ := info_of_underlying hu
  rw [Instr.checkKey]
  simp only [Sem.run_bind, run_underlying ht, Result.andThen_ok]
  simp only [Std.Legacy.Range.forIn_eq_forIn_range', Std.Legacy.Range.size, Nat.sub_zero, Nat.add_one_sub_one, Nat.div_one]
  have each : ∀ j ∈ List.range' 0 len, j < X.length := fun j hj => by
    have := List.mem_range'_1.1 hj
    omega
  generalize List.range' 0 len = is at each
  induction is with
  | nil => simp
  | cons j is ih =>
    have hj := each j List.mem_cons_self
    have hp := part_u8 (P := P) w hu (xs := u8s X) (off := j) (u8s_get hj)
    simp only [List.forIn_cons, Sem.run_bind, run_sizeOf w hi, Result.andThen_ok, hc, Nat.mul_one, hp, check_intAt hu w em n, Sem.run_pure]
    exact ih fun y hy => each y (List.mem_cons_of_mem _ hy)
end
/-- What keys are. -/
def okSt (v : Value) : Prop := ∃ x : StB, v = .agg (encS x).toArray
theorem u8s_inj : ∀ {X Y : List Nat}, u8s X = u8s Y → X = Y
  | [], [], _ => rfl
  | [], _ :: _, h => by cases h
  | _ :: _, [], h => by cases h
  | a :: X, b :: Y, h => by
    unfold u8s at h
    rw [List.map_cons, List.map_cons] at h
    injection h with h1 h2
    injection h1 with _ h3
    have e1 : a = b := by omega
    rw [e1, u8s_inj (X := X) (Y := Y) h2]
theorem encS_inj {x y : StB} (h : Value.agg (encS x).toArray = .agg (encS y).toArray) : x = y := by
  injection h with h
  have h2 : encS x = encS y := by simpa using congrArg Array.toList h
  exact Subtype.ext (u8s_inj h2)
theorem klawS : KLaw Tryz.prog 72 okSt := by
  have a8 : Tryz.prog.underlying 72 = some (.array 8 5) := by kernel_rfl
  have u8 : Tryz.prog.underlying 5 = some (.int .u8) := by kernel_rfl
  have c1 : Tryz.prog.cellsOf 5 = 1 := by kernel_rfl
  refine klaw_wide (by rw [a8]) (fun w em v ⟨x, h⟩ => ?_) (fun w u v ⟨x, h⟩ ⟨y, k⟩ => ?_) fun v ⟨x, h⟩ => ⟨encS x, h, fun u hu => ?_⟩
  · subst h
    exact check_u8s a8 u8 c1 x.1 x.2.1 w em 9998
  · subst h k
    refine ⟨_, eqIn_u8 (P := Tryz.prog) w 9998 a8 u8 c1 x.1 y.1 x.2.1 y.2.1, ?_⟩
    rw [decide_eq_true_iff]
    exact ⟨fun h => by rw [Subtype.ext h], fun h => congrArg Subtype.val (encS_inj h)⟩
  · obtain ⟨a, _, rfl⟩ := List.mem_map.1 hu
    exact ⟨_, _, rfl⟩
end Go.Proofs.YtmbbcmebdefggaaGreatDoor
namespace Go.Proofs.YtmbbcmebdefggaaGreatDoor
open Go Go.RowKit
namespace SL
/-- Keys told by their values. -/
structure KEnc (P : Program) (kt : TypeId) {K : Type} (eK : K → Value) : Prop where
  law : KLaw P kt (fun v => ∃ k, v = eK k)
  inj : ∀ a b, eK a = eK b → a = b
section
variable {P : Program} {B : Nat} {w0 : World} {n : Nat} {Q : Po} {F : Fr} {H H1 H2 : Hp} {ops : Array Oper} {l : List Oper} {ty : TypeId} {pos : String} {af : Array Edge} {d : Nat} {dst : Option Tmp} {g : Option (Nat × Bool)}
variable {K V : Type} [DecidableEq K] {eK : K → Value} {eV : V → Value} {T kt et : TypeId}
omit [DecidableEq K] in
theorem encM_ok (m : List (K × V)) : ∀ p ∈ encM eK eV m, ∃ k, p.1 = eK k := fun p hp => by
  obtain ⟨q, _, rfl⟩ := List.mem_map.1 hp
  exact ⟨q.1, rfl⟩
theorem q_lookT {x y : Operand} {a : Nat} {m : List (K × V)} {k : K} {z v : Value} [hT : Un P T (.map kt et)] [hz : Zr P et z] (E : KEnc P kt eK) (hx : ev F x = some (.map (some a))) (hy : ev F y = some (eK k)) (hm : It.obj a (mapO (encM eK eV m)) ∈ H) (hn : (m.map (·.1)).Nodup)
    (hv : ((lkM m k).map eV).getD z = v) : OpQ P B w0 n H F ⟨dst, .lookup T x y false, ty, pos, af, g⟩ v :=
  q_lookup E.law hx hy hm (encM_nodup E.inj hn) (encM_ok m) ⟨k, rfl⟩ (by rw [lkV_enc E.inj, hv])
theorem q_lookT2 {x y : Operand} {a : Nat} {m : List (K × V)} {k : K} {z v : Value} {b : Bool} [hT : Un P T (.map kt et)] [hz : Zr P et z] (E : KEnc P kt eK) (hx : ev F x = some (.map (some a))) (hy : ev F y = some (eK k)) (hm : It.obj a (mapO (encM eK eV m)) ∈ H) (hn : (m.map (·.1)).Nodup)
    (hv : ((lkM m k).map eV).getD z = v) (hb : (lkM m k).isSome = b) : OpQ P B w0 n H F ⟨dst, .lookup T x y true, ty, pos, af, g⟩ (.tuple #[v, .bool b]) :=
  q_lookup2 E.law hx hy hm (encM_nodup E.inj hn) (encM_ok m) ⟨k, rfl⟩ (by rw [lkV_enc E.inj, hv]) (by rw [lkV_enc E.inj, Option.isSome_map, hb])
theorem Jq_lookT {dr : Bool} {x y : Operand} {a : Nat} {m : List (K × V)} {k : K} {z v : Value} [hT : Un P T (.map kt et)] [hz : Zr P et z] (hdn : Nat.blt d n = true) (E : KEnc P kt eK) (hx : ev F x = some (.map (some a))) (hy : ev F y = some (eK k)) (hm : It.obj a (mapO (encM eK eV m)) ∈ H) (hn : (m.map (·.1)).Nodup)
    (hv : ((lkM m k).map eV).getD z = v) (kk : J dr P B w0 n ops Q l ((d, v) :: F) H) : J dr P B w0 n ops Q (⟨some d, .lookup T x y false, ty, pos, af, none⟩ :: l) F H := J_q hdn (q_lookT E hx hy hm hn hv) kk
theorem Jq_lookT2 {dr : Bool} {x y : Operand} {a : Nat} {m : List (K × V)} {k : K} {z v : Value} {b : Bool} [hT : Un P T (.map kt et)] [hz : Zr P et z] (hdn : Nat.blt d n = true) (E : KEnc P kt eK) (hx : ev F x = some (.map (some a))) (hy : ev F y = some (eK k)) (hm : It.obj a (mapO (encM eK eV m)) ∈ H) (hn : (m.map (·.1)).Nodup)
    (hv : ((lkM m k).map eV).getD z = v) (hb : (lkM m k).isSome = b) (kk : J dr P B w0 n ops Q l ((d, .tuple #[v, .bool b]) :: F) H) : J dr P B w0 n ops Q (⟨some d, .lookup T x y true, ty, pos, af, none⟩ :: l) F H := J_q hdn (q_lookT2 E hx hy hm hn hv hb) kk
omit [DecidableEq K] in
theorem Jq_lenT {dr : Bool} {x : Operand} {a : Nat} {m : List (K × V)} [hT : Un P T (.map kt et)] (hdn : Nat.blt d n = true) (hx : ev F x = some (.map (some a))) (hm : It.obj a (mapO (encM eK eV m)) ∈ H) (kk : J dr P B w0 n ops Q l ((d, .int .i64 (m.length : Nat)) :: F) H) :
    J dr P B w0 n ops Q (⟨some d, .call { callee := .builtin .len, args := #[x], argTypes := #[T] }, ty, pos, af, none⟩ :: l) F H := by
  rw [← encM_len (eK := eK) (eV := eV) m] at kk
  exact Jq_lenM hdn hx hm kk
theorem J_updT {x y t : Operand} {a : Nat} {m m' : List (K × V)} {k : K} {v : V} {H' : Obj → Hp} {o : Obj} [hT : Un P T (.map kt et)] (E : KEnc P kt eK) (hx : ev F x = some (.map (some a))) (hy : ev F y = some (eK k)) (ht : ev F t = some (eV v)) (hu : UO a H o H') (ho : o = mapO (encM eK eV m)) (hn : (m.map (·.1)).Nodup)
    (hm' : putM m k v = m') (kk : J false P B w0 n ops Q l F (H' (mapO (encM eK eV m')))) : J false P B w0 n ops Q (⟨none, .mapUpdate T x y t, ty, pos, af, none⟩ :: l) F H :=
  J_mapUpdate E.law hx hy ht hu ho (encM_nodup E.inj hn) (encM_ok m) ⟨k, rfl⟩ rfl (by rw [putV_enc E.inj, hm']; exact kk)
theorem J_entT {x y : Operand} {a : Nat} {m : List (K × V)} {k : K} {z : Value} {u0 : V} {H' : Obj → Hp} {o : Obj} [hT : Un P T (.map kt et)] [hz : Zr P et z] (hdn : Nat.blt d n = true) (E : KEnc P kt eK) (hx : ev F x = some (.map (some a))) (hy : ev F y = some (eK k)) (hu : UO a H o H') (ho : o = mapO (encM eK eV m)) (hn : (m.map (·.1)).Nodup) (hz0 : z = eV u0)
    (kk : ∀ j : Nat, (encM eK eV (putM m k ((lkM m k).getD u0)))[j]? = some (eK k, eV ((lkM m k).getD u0)) → J false P B w0 n ops Q l ((d, .tuple #[eV ((lkM m k).getD u0), .int .i64 (j : Int)]) :: F) (H' (mapO (encM eK eV (putM m k ((lkM m k).getD u0)))))) :
    J false P B w0 n ops Q (⟨some d, .mapEntry T x y, ty, pos, af, none⟩ :: l) F H :=
  J_mapEntry hdn E.law hx hy hu ho (encM_nodup E.inj hn) (encM_ok m) ⟨k, rfl⟩ fun m' j u e1 e2 e3 => by
    have e : u = eV ((lkM m k).getD u0) := by
      rw [e1, lkV_enc E.inj, hz0]
      cases lkM m k <;> rfl
    subst e
    rw [putV_enc E.inj] at e2
    subst e2
    exact kk j e3
theorem putM_twice (m : List (K × V)) (k : K) (u v : V) : putM (putM m k u) k v = putM m k v := by
  have h1 : k ∈ (putM m k u).map (·.1) := by
    rw [putM_keys]
    by_cases h : k ∈ m.map (·.1)
    · rw [if_pos h]; exact h
    · rw [if_neg h]; exact List.mem_append_right _ (List.mem_singleton.2 rfl)
  unfold putM at h1 ⊢
  by_cases h : k ∈ m.map (·.1)
  · simp only [if_pos h] at h1 ⊢
    rw [if_pos h1, List.map_map]
    refine List.map_congr_left fun p _ => ?_
    by_cases e : p.1 = k <;> simp [e]
  · simp only [if_neg h] at h1 ⊢
    rw [if_pos h1, List.map_append]
    have : (m.map fun p => if p.1 = k then (k, v) else p) = m := by
      refine (List.map_congr_left fun q hq => ?_).trans (List.map_id _)
      have : q.1 ≠ k := fun h' => h (List.mem_map.2 ⟨q, hq, h'⟩)
      simp [this]
    rw [this]
    simp
theorem J_estT {x y t : Operand} {a j : Nat} {m m' : List (K × V)} {k : K} {u v : V} {H' : Obj → Hp} {o : Obj} (E : KEnc P kt eK) (hx : ev F x = some (.map (some a))) (hy : ev F y = some (.int .i64 (j : Int))) (ht : ev F t = some (eV v)) (hu : UO a H o H') (ho : o = mapO (encM eK eV (putM m k u))) (hn : (m.map (·.1)).Nodup) (hj : (encM eK eV (putM m k u))[j]? = some (eK k, eV u))
    (hm' : putM m k v = m') (kk : J false P B w0 n ops Q l F (H' (mapO (encM eK eV m')))) : J false P B w0 n ops Q (⟨none, .entryStore T x y t, ty, pos, af, none⟩ :: l) F H :=
  J_entryStore hx hy ht hu ho (encM_nodup E.inj (putM_nodup hn k u)) hj rfl (by rw [putV_enc E.inj, putM_twice, hm']; exact kk)
omit [DecidableEq K] in
theorem J_rangeT {x : Operand} {a : Nat} {m : List (K × V)} [hT : Un P T (.map kt et)] (hdn : Nat.blt d n = true) (hx : ev F x = some (.map (some a))) (hm : It.obj a (mapO (encM eK eV m)) ∈ H)
    (k : ∀ b, J false P B w0 n ops Q l ((d, .pointer (some ⟨b, 0, none⟩)) :: F) (.obj b (itO a m.length []) :: H)) : J false P B w0 n ops Q (⟨some d, .range T x, ty, pos, af, none⟩ :: l) F H :=
  J_range hdn hx hm fun b => by rw [encM_len]; exact k b
omit [DecidableEq K] in
theorem J_nextT {x : Operand} {a b : Nat} {m : List (K × V)} {seen : List Nat} {H' : Obj → Hp} {o : Obj} (hdn : Nat.blt d n = true) (hx : ev F x = some (.pointer (some ⟨b, 0, none⟩))) (hu : UO b H o H') (ho : o = itO a m.length seen) (hm : It.obj a (mapO (encM eK eV m)) ∈ H) (hs : ∀ i ∈ seen, i < m.length)
    (k0 : (∀ i, i < m.length → i ∈ seen) → J false P B w0 n ops Q l ((d, .tuple #[.bool false]) :: F) (H' (itO a m.length seen)))
    (k1 : ∀ (i : Nat) (p : K × V), m[i]? = some p → i ∉ seen → J false P B w0 n ops Q l ((d, .tuple #[.bool true, eK p.1, eV p.2]) :: F) (H' (itO a m.length (seen ++ [i])))) :
    J false P B w0 n ops Q (⟨some d, .next x false, ty, pos, af, none⟩ :: l) F H := by
  have hl := encM_len (eK := eK) (eV := eV) m
  refine J_next hdn hx hu (by rw [hl]; exact ho) hm (by rw [hl]; exact hs) (by rw [hl]; exact k0) fun i p hi hn => ?_
  obtain ⟨q, hq, rfl⟩ := encM_get hi
  rw [hl]
  exact k1 i q hq hn
omit [DecidableEq K] in
theorem Jq_entryT {x : Operand} {a b i : Nat} {m : List (K × V)} {seen : List Nat} {p : K × V} (hdn : Nat.blt d n = true) (hx : ev F x = some (.pointer (some ⟨b, 0, none⟩))) (hb : It.obj b (itO a m.length (seen ++ [i])) ∈ H) (hm : It.obj a (mapO (encM eK eV m)) ∈ H) (hi : m[i]? = some p)
    {dr : Bool} (k : J dr P B w0 n ops Q l ((d, .tuple #[eK p.1, eV p.2]) :: F) H) : J dr P B w0 n ops Q (⟨some d, .entry x, ty, pos, af, none⟩ :: l) F H := by
  have hl := encM_len (eK := eK) (eV := eV) m
  refine Jq_entry (p := (eK p.1, eV p.2)) hdn hx (by rw [hl]; exact hb) hm ?_ k
  unfold encM
  rw [List.getElem?_map, hi]; rfl
end
end SL
open SL
/-- States as keys. -/
def stK (x : StB) : Value := .agg (encS x).toArray
theorem kencS : KEnc Tryz.prog 72 stK := ⟨klawS, fun _ _ h => encS_inj h⟩
def nV (a : Nat) : Value := .int .i64 (a : Int)
def zV (a : Int) : Value := .int .i64 a
theorem zV_inj {a b : Int} (h : zV a = zV b) : a = b := by injection h
/-- A map among the items. -/
theorem mo {a : Nat} {H : SL.Hp} {o : Obj} [h : SL.MO a H o] : SL.It.obj a o ∈ H := h.out
/-- A loop's way through a map: the places met, none twice. -/
theorem all_met {n : Nat} {seen : List Nat} (hn : seen.Nodup) (h1 : ∀ i ∈ seen, i < n) (h2 : ∀ i, i < n → i ∈ seen) : seen.Perm (List.range n) :=
  (List.perm_ext_iff_of_nodup hn List.nodup_range).2 fun i => ⟨fun h => List.mem_range.2 (h1 i h), fun h => h2 i (List.mem_range.1 h)⟩
end Go.Proofs.YtmbbcmebdefggaaGreatDoor
