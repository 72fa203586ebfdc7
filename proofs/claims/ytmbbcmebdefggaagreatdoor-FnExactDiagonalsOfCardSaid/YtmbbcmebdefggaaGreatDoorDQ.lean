/- Walks: maps of which entries have been deleted: entries with stamps. -/
import Derived.Test.YtmbbcmebdefggaaGreatDoorMR
namespace Go.Proofs.YtmbbcmebdefggaaGreatDoor
open Go Go.RowKit
namespace SL
/-- Entries with stamps. -/
def entsS (l : List (Value × Value)) (s : List Nat) : List MapEntry := List.zipWith (fun p b => ⟨p.1, p.2, b⟩) l s
def mapS (l : List (Value × Value)) (s : List Nat) (c : Nat) : Obj := .map (entsS l s).toArray c
/-- Stamps grow and are below the clock. -/
structure StOK (s : List Nat) (c k : Nat) : Prop where
  len : s.length = k
  asc : s.Pairwise (· < ·)
  lt : ∀ b ∈ s, b < c
/-- A loop over such a map, the entries at the places 'seen' met. -/
def itS (a : Nat) (s : List Nat) (c : Nat) (seen : List Nat) : Obj := .mapIter (some a) c (seen.map fun i => s.getD i 0).toArray c
theorem StOK.range (k : Nat) : StOK (List.range k) k k := ⟨List.length_range, List.pairwise_lt_range, fun b hb => List.mem_range.1 hb⟩
theorem StOK.snoc {s : List Nat} {c k : Nat} (h : StOK s c k) : StOK (s ++ [c]) (c + 1) (k + 1) := ⟨by rw [List.length_append, h.len]; rfl, List.pairwise_append.2 ⟨h.asc, List.pairwise_singleton _ _, fun a ha _ hb => by rw [List.mem_singleton] at hb; subst hb; exact h.lt a ha⟩, fun b hb => by
  rcases List.mem_append.1 hb with hb | hb
  · have := h.lt b hb; omega
  · rw [List.mem_singleton] at hb; omega⟩
theorem StOK.erase {s : List Nat} {c k : Nat} (h : StOK s c (k + 1)) {j : Nat} (hj : j < k + 1) : StOK (s.eraseIdx j) c k := ⟨by rw [List.length_eraseIdx_of_lt (by rw [h.len]; exact hj), h.len]; rfl, h.asc.sublist (List.eraseIdx_sublist _ _), fun b hb => h.lt b (List.mem_of_mem_eraseIdx hb)⟩
theorem StOK.getD {s : List Nat} {c k : Nat} (h : StOK s c k) {i : Nat} (hi : i < k) : s[i]? = some (s.getD i 0) := by
  have hl := h.len
  rw [List.getD_eq_getElem?_getD, List.getElem?_eq_getElem (by omega)]; rfl
theorem StOK.inj {s : List Nat} {c k : Nat} (h : StOK s c k) {i j : Nat} (hi : i < k) (hj : j < k) (e : s.getD i 0 = s.getD j 0) : i = j := by
  have h1 := h.getD hi
  have h2 := h.getD hj
  have hl := h.len
  rw [List.getElem?_eq_getElem (by omega), Option.some.injEq] at h1 h2
  have hp := List.pairwise_iff_getElem.1 h.asc
  rcases Nat.lt_trichotomy i j with q | q | q
  · have := hp i j (by omega) (by omega) q; omega
  · exact q
  · have := hp j i (by omega) (by omega) q; omega
theorem StOK.below {s : List Nat} {c k : Nat} (h : StOK s c k) {i : Nat} (hi : i < k) : s.getD i 0 < c := h.lt _ (List.mem_of_getElem? (h.getD hi))
theorem entsS_get {l : List (Value × Value)} {s : List Nat} {c : Nat} (h : StOK s c l.length) (j : Nat) : (entsS l s)[j]? = (l[j]?).map fun p => ⟨p.1, p.2, s.getD j 0⟩ := by
  unfold entsS
  rw [List.getElem?_zipWith]
  cases hl : l[j]? with
  | none => simp
  | some p =>
    have := h.getD (List.getElem?_eq_some_iff.1 hl).1
    rw [this]; rfl
theorem entsS_len {l : List (Value × Value)} {s : List Nat} {c : Nat} (h : StOK s c l.length) : (entsS l s).length = l.length := by
  unfold entsS
  rw [List.length_zipWith, h.len, Nat.min_self]
theorem entsS_mem {l : List (Value × Value)} {s : List Nat} {c : Nat} (h : StOK s c l.length) {e : MapEntry} (he : e ∈ entsS l s) : ∃ j, l[j]? = some (e.key, e.val) ∧ e.born = s.getD j 0 ∧ j < l.length := by
  obtain ⟨j, hj, h1⟩ := List.getElem_of_mem he
  have h2 := entsS_get h j
  rw [List.getElem?_eq_getElem hj, h1] at h2
  cases hl : l[j]? with
  | none => rw [hl] at h2; cases h2
  | some p =>
    rw [hl] at h2
    have h3 := Option.some.inj h2
    subst h3
    exact ⟨j, hl, rfl, (List.getElem?_eq_some_iff.1 hl).1⟩
theorem mapO_S (l : List (Value × Value)) : mapO l = mapS l (List.range l.length) l.length := by
  have : ents l 0 = entsS l (List.range l.length) := List.ext_getElem? fun i => by
    rw [ents_get, entsS_get (StOK.range _)]
    cases hl : l[i]? with
    | none => rfl
    | some p =>
      have hi := (List.getElem?_eq_some_iff.1 hl).1
      have := (StOK.range l.length).getD hi
      rw [List.getElem?_range hi, Option.some.injEq] at this
      rw [Option.map_some, Option.map_some, ← this, Nat.zero_add]
  unfold mapO mapS
  rw [this]
theorem zip_erase {α β γ : Type} (f : α → β → γ) : ∀ (l : List α) (s : List β) (j : Nat), (List.zipWith f l s).eraseIdx j = List.zipWith f (l.eraseIdx j) (s.eraseIdx j)
  | [], s, j => by cases j <;> simp
  | a :: l, [], j => by cases j <;> simp
  | a :: l, b :: s, 0 => by simp
  | a :: l, b :: s, j + 1 => by
    rw [List.zipWith_cons_cons, List.eraseIdx_cons_succ, List.eraseIdx_cons_succ, List.eraseIdx_cons_succ, List.zipWith_cons_cons, zip_erase f l s j]
theorem map_erase {α β : Type} (f : α → β) : ∀ (l : List α) (j : Nat), (l.map f).eraseIdx j = (l.eraseIdx j).map f
  | [], j => by simp
  | a :: l, 0 => by simp
  | a :: l, j + 1 => by rw [List.map_cons, List.eraseIdx_cons_succ, List.eraseIdx_cons_succ, List.map_cons, map_erase f l j]
theorem findS {P : Program} {k : TypeId} {ok : Value → Prop} (K : KLaw P k ok) {l : List (Value × Value)} {s : List Nat} {c : Nat} (hs : StOK s c l.length) (hall : ∀ p ∈ l, ok p.1) {x : Value} (hx : ok x) (w : World) :
    ((Instr.findKey k x (entsS l s)).run P w = .ok none w ∧ ∀ p ∈ l, p.1 ≠ x) ∨ ∃ j p, (Instr.findKey k x (entsS l s)).run P w = .ok (some (j, p.2)) w ∧ l[j]? = some p ∧ p.1 = x := by
  rcases K.find w hx (entsS l s) (fun e he => by obtain ⟨j, hj, _⟩ := entsS_mem hs he; exact hall _ (List.mem_of_getElem? hj)) with ⟨h1, h2⟩ | ⟨j, e, h1, h2, h3⟩
  · refine .inl ⟨h1, fun p hp => ?_⟩
    obtain ⟨i, hi, hq⟩ := List.getElem_of_mem hp
    have h4 := entsS_get hs i
    rw [List.getElem?_eq_getElem hi, hq] at h4
    exact h2 _ (List.mem_of_getElem? h4)
  · have h4 := entsS_get hs j
    rw [h2] at h4
    cases hl : l[j]? with
    | none => rw [hl] at h4; cases h4
    | some p =>
      rw [hl] at h4
      have h5 := Option.some.inj h4
      subst h5
      exact .inr ⟨j, p, h1, hl, h3⟩
section
variable {P : Program} {B : Nat} {w0 : World} {n : Nat} {Q : Po} {F : Fr} {H H1 H2 : Hp} {ops : Array Oper} {l : List Oper} {ty : TypeId} {pos : String} {af : Array Edge} {d : Nat} {dst : Option Tmp} {g : Option (Nat × Bool)}
theorem q_lookS {T kt et : TypeId} {ok : Value → Prop} {x y : Operand} {a : Nat} {m : List (Value × Value)} {s : List Nat} {c : Nat} {key z v : Value} [hT : Un P T (.map kt et)] [hz : Zr P et z] (hs : StOK s c m.length) (K : KLaw P kt ok) (hx : ev F x = some (.map (some a))) (hy : ev F y = some key) (hm : It.obj a (mapS m s c) ∈ H) (hn : (m.map (·.1)).Nodup) (hall : ∀ p ∈ m, ok p.1) (hk : ok key)
    (hv : (lkV m key).getD z = v) : OpQ P B w0 n H F ⟨dst, .lookup T x y false, ty, pos, af, g⟩ v :=
  opq_run fun A ha w hw => by
    subst hv
    have hb := hw.obj_at hm
    simp only [execOp, ha.ev hx, ha.ev hy]
    rcases findS K hs hall hk w with ⟨h1, h2⟩ | ⟨j, p, h1, h2, h3⟩
    · rw [lkV_none h2]
      simp only [Instr.lookup, Sem.run_bind, run_underlying hT.out, Result.andThen_ok, run_getObj_of rfl hb, mapS, Sem.run_pure, K.check w _ hk, h1, hz.out]
      rfl
    · subst h3
      rw [lkV_some hn h2]
      simp only [Instr.lookup, Sem.run_bind, run_underlying hT.out, Result.andThen_ok, run_getObj_of rfl hb, mapS, Sem.run_pure, K.check w _ hk, h1]
      rfl
theorem q_lenS {x : Operand} {T kt et : TypeId} {a : Nat} {m : List (Value × Value)} {s : List Nat} {c : Nat} [hT : Un P T (.map kt et)] (hs : StOK s c m.length) (hx : ev F x = some (.map (some a))) (hm : It.obj a (mapS m s c) ∈ H) :
    OpQ P B w0 n H F ⟨dst, .call { callee := .builtin .len, args := #[x], argTypes := #[T] }, ty, pos, af, g⟩ (.int .i64 (m.length : Nat)) :=
  opq_run fun A ha w hw => by
    have hb := hw.obj_at hm
    simp [execOp, resolve, invoke, builtin, ha.ev hx, Builtin.len_, run_underlying hT.out, run_getObj_of rfl hb, mapS, entsS_len hs, goInt]
/-- delete: the entry is gone, with its stamp. -/
theorem J_deleteS {T kt et kt' : TypeId} {ok : Value → Prop} {x y : Operand} {a : Nat} {m : List (Value × Value)} {s : List Nat} {c : Nat} {key : Value} {H' : Obj → Hp} {o : Obj} [hT : Un P T (.map kt et)] (hs : StOK s c m.length) (K : KLaw P kt ok) (hx : ev F x = some (.map (some a))) (hy : ev F y = some key) (hu : UO a H o H') (ho : o = mapS m s c) (hall : ∀ p ∈ m, ok p.1) (hk : ok key)
    (k0 : (∀ p ∈ m, p.1 ≠ key) → J false P B w0 n ops Q l F (H' (mapS m s c)))
    (k1 : ∀ (j : Nat) (p : Value × Value), m[j]? = some p → p.1 = key → J false P B w0 n ops Q l F (H' (mapS (m.eraseIdx j) (s.eraseIdx j) c))) :
    J false P B w0 n ops Q (⟨none, .call { callee := .builtin .delete, args := #[x, y], argTypes := #[T, kt'] }, ty, pos, af, none⟩ :: l) F H := by
  obtain ⟨H1, H2, rfl, h2⟩ := hu.out
  subst ho
  refine J_do _ fun A w ha hw => ?_
  have hb := hw.obj_at (a := a) (o := mapS m s c) (by simp)
  rcases findS K hs hall hk w with ⟨f1, f2⟩ | ⟨j, p, f1, f2, f3⟩
  · have hkk := k0 f2
    rw [h2] at hkk
    refine ⟨.tuple #[], _, F, H1 ++ .obj a (mapS m s c) :: H2, ?_, ha.none _, hw.setObj, hkk⟩
    simp only [execOp, resolve, invoke, builtin, Sem.run_bind, Sem.run_pure, Result.andThen_ok, List.map_toArray, List.map_cons, List.map_nil, ha.ev hx, ha.ev hy]
    simp [Builtin.delete_, run_underlying hT.out, run_getObj_of rfl hb, mapS, K.check w _ hk, f1, run_setObj_of rfl hb]
  · have hkk := k1 j p f2 f3
    rw [h2] at hkk
    have he : (entsS m s).eraseIdx j = entsS (m.eraseIdx j) (s.eraseIdx j) := zip_erase _ m s j
    refine ⟨.tuple #[], _, F, H1 ++ .obj a (mapS (m.eraseIdx j) (s.eraseIdx j) c) :: H2, ?_, ha.none _, hw.setObj, hkk⟩
    simp only [execOp, resolve, invoke, builtin, Sem.run_bind, Sem.run_pure, Result.andThen_ok, List.map_toArray, List.map_cons, List.map_nil, ha.ev hx, ha.ev hy]
    simp [Builtin.delete_, run_underlying hT.out, run_getObj_of rfl hb, mapS, K.check w _ hk, f1, run_setObj_of rfl hb, he]
theorem J_mapEntryS {T kt et : TypeId} {ok : Value → Prop} {x y : Operand} {a : Nat} {m : List (Value × Value)} {s : List Nat} {c : Nat} {key z : Value} {H' : Obj → Hp} {o : Obj} [hT : Un P T (.map kt et)] [hz : Zr P et z] (hs : StOK s c m.length) (hdn : Nat.blt d n = true) (K : KLaw P kt ok) (hx : ev F x = some (.map (some a))) (hy : ev F y = some key) (hu : UO a H o H') (ho : o = mapS m s c) (hn : (m.map (·.1)).Nodup) (hall : ∀ p ∈ m, ok p.1) (hk : ok key)
    (k : ∀ (m' : List (Value × Value)) (s' : List Nat) (c' j : Nat) (u : Value), u = (lkV m key).getD z → m' = putV m key u → StOK s' c' m'.length → m'[j]? = some (key, u) → J false P B w0 n ops Q l ((d, .tuple #[u, .int .i64 ((s'.getD j 0 : Nat) : Int)]) :: F) (H' (mapS m' s' c'))) :
    J false P B w0 n ops Q (⟨some d, .mapEntry T x y, ty, pos, af, none⟩ :: l) F H := by
  obtain ⟨H1, H2, rfl, h2⟩ := hu.out
  subst ho
  refine J_do _ fun A w ha hw => ?_
  have hb := hw.obj_at (a := a) (o := mapS m s c) (by simp)
  rcases findS K hs hall hk w with ⟨f1, f2⟩ | ⟨j, p, f1, f2, f3⟩
  · have hz1 : entsS [(key, z)] [c] = [⟨key, z, c⟩] := rfl
    have e : mapS (putV m key z) (s ++ [c]) (c + 1) = .map ((entsS m s).toArray.push ⟨key, z, c⟩) (c + 1) := by
      rw [putV_new f2, mapS]
      unfold entsS at hz1 ⊢
      rw [List.zipWith_append (by rw [hs.len]), hz1]
      simp
    have hlen : (putV m key z).length = m.length + 1 := by rw [putV_new f2, List.length_append]; rfl
    have hgd : (s ++ [c]).getD m.length 0 = c := by
      rw [List.getD_eq_getElem?_getD, List.getElem?_append_right (by rw [hs.len]; exact Nat.le_refl _), hs.len, Nat.sub_self]; rfl
    have hkk := k (putV m key z) (s ++ [c]) (c + 1) m.length z (by rw [lkV_none f2]; rfl) rfl (by rw [hlen]; exact hs.snoc) (by rw [putV_new f2]; simp)
    rw [h2, hgd] at hkk
    refine ⟨_, _, _, H1 ++ .obj a (mapS (putV m key z) (s ++ [c]) (c + 1)) :: H2, ?_, ha.put (lt_of_blt hdn) _, hw.setObj, hkk⟩
    simp only [execOp, ha.ev hx, ha.ev hy, Instr.mapEntry, Sem.run_bind, run_underlying hT.out, Result.andThen_ok, run_getObj_of rfl hb, mapS, K.check w _ hk, f1, hz.out]
    rw [run_setObj_of rfl hb, ← e]; rfl
  · subst f3
    have hj := entsS_get hs j
    rw [f2] at hj
    have hj' : (entsS m s).toArray[j]? = some ⟨p.1, p.2, s.getD j 0⟩ := by rw [List.getElem?_toArray, hj]; rfl
    have hsame : putV m p.1 p.2 = m := by
      unfold putV
      rw [if_pos ⟨p, List.mem_of_getElem? f2, rfl⟩]
      refine (List.map_congr_left fun q hq => ?_).trans (List.map_id _)
      by_cases e : q.1 = p.1
      · rw [if_pos e]
        obtain ⟨i, hi, hqi⟩ := List.getElem_of_mem hq
        have hi' : m[i]? = some q := by rw [List.getElem?_eq_getElem hi, hqi]
        have := keys_inj hn hi' f2 e
        subst this
        rw [f2] at hi'
        cases hi'; rfl
      · rw [if_neg e]; rfl
    have hkk := k (putV m p.1 p.2) s c j p.2 (by rw [lkV_some hn f2]; rfl) rfl (by rw [hsame]; exact hs) (by rw [hsame, f2])
    rw [h2, hsame] at hkk
    have hmod : (entsS m s).toArray.modify j (fun e => { e with key := p.1 }) = (entsS m s).toArray := by
      apply Array.ext'
      rw [Array.toList_modify]
      refine List.ext_getElem? fun i => ?_
      rw [List.getElem?_modify]
      by_cases e : j = i
      · subst e
        rw [hj]; simp
      · simp [e]
    refine ⟨_, _, _, H1 ++ .obj a (mapS m s c) :: H2, ?_, ha.put (lt_of_blt hdn) _, hw.setObj, hkk⟩
    simp only [execOp, ha.ev hx, ha.ev hy, Instr.mapEntry, Sem.run_bind, run_underlying hT.out, Result.andThen_ok, run_getObj_of rfl hb, mapS, K.check w _ hk, f1, hj', Option.map_some, Option.getD_some, K.stays w hk]
    rw [hmod, run_setObj_of rfl hb]; rfl
theorem find_stampS {m : List (Value × Value)} {s : List Nat} {c j : Nat} (hs : StOK s c m.length) (hj : j < m.length) : (entsS m s).toArray.findIdx? (fun e => (e.born : Int) == ((s.getD j 0 : Nat) : Int)) = some j := by
  rw [List.findIdx?_toArray, List.findIdx?_eq_some_iff_getElem]
  have hl := entsS_len hs
  have key : ∀ i (hi : i < (entsS m s).length), (entsS m s)[i].born = s.getD i 0 := fun i hi => by
    have h1 := entsS_get hs i
    rw [List.getElem?_eq_getElem hi, List.getElem?_eq_getElem (by omega)] at h1
    rw [Option.some.inj h1]
  refine ⟨by omega, by rw [key]; simp, fun i hi => ?_⟩
  rw [key]
  simp only [beq_iff_eq]
  intro e
  have := hs.inj (show i < m.length by omega) hj (by omega)
  omega
theorem J_entryStoreS {T : TypeId} {x y t : Operand} {a j : Nat} {m m' : List (Value × Value)} {s : List Nat} {c : Nat} {key u v : Value} {H' : Obj → Hp} {o : Obj} (hs : StOK s c m.length) (hx : ev F x = some (.map (some a))) (hy : ev F y = some (.int .i64 ((s.getD j 0 : Nat) : Int))) (ht : ev F t = some v) (hu : UO a H o H') (ho : o = mapS m s c) (hn : (m.map (·.1)).Nodup) (hj : m[j]? = some (key, u))
    (hm' : putV m key v = m') (k : J false P B w0 n ops Q l F (H' (mapS m' s c))) : J false P B w0 n ops Q (⟨none, .entryStore T x y t, ty, pos, af, none⟩ :: l) F H := by
  obtain ⟨H1, H2, rfl, h2⟩ := hu.out
  subst ho hm'
  refine J_doS fun A w ha hw => ?_
  have hb := hw.obj_at (a := a) (o := mapS m s c) (by simp)
  have hlt := (List.getElem?_eq_some_iff.1 hj).1
  have hput : putV m key v = m.map fun q => @ite _ (q.1 = key) (Classical.propDecidable _) (key, v) q := by unfold putV; rw [if_pos ⟨_, List.mem_of_getElem? hj, rfl⟩]
  have hlen : (putV m key v).length = m.length := by rw [hput, List.length_map]
  have hmod : (entsS m s).toArray.modify j (fun e => { e with val := v }) = (entsS (putV m key v) s).toArray := by
    apply Array.ext'
    rw [Array.toList_modify]
    refine List.ext_getElem? fun i => ?_
    rw [List.getElem?_modify]
    rw [entsS_get hs, entsS_get (c := c) (by rw [hlen]; exact hs), hput, List.getElem?_map, Option.map_map]
    cases hl : m[i]? with
    | none => simp
    | some q =>
      by_cases e : j = i
      · subst e
        rw [hj] at hl
        cases hl
        simp
      · have hne : q.1 ≠ key := fun h => e (keys_inj hn hl hj h).symm
        simp [e, hne]
  refine ⟨_, H1 ++ .obj a (mapS (putV m key v) s c) :: H2, ?_, hw.setObj, by rw [← h2]; exact k⟩
  simp only [execOp, ha.ev hx, ha.ev hy, ha.ev ht, Instr.entryStore, Sem.run_bind, Result.andThen_ok, run_getObj_of rfl hb, mapS, asInt, asIntOf, Sem.run_pure, find_stampS hs hlt]
  rw [run_setObj_of rfl hb, hmod]; rfl
theorem J_rangeS {T kt et : TypeId} {x : Operand} {a : Nat} {m : List (Value × Value)} {s : List Nat} {c : Nat} [hT : Un P T (.map kt et)] (hdn : Nat.blt d n = true) (hx : ev F x = some (.map (some a))) (hm : It.obj a (mapS m s c) ∈ H)
    (k : ∀ b, J false P B w0 n ops Q l ((d, .pointer (some ⟨b, 0, none⟩)) :: F) (.obj b (itS a s c []) :: H)) : J false P B w0 n ops Q (⟨some d, .range T x, ty, pos, af, none⟩ :: l) F H :=
  J_do _ fun A w ha hw => ⟨_, _, _, _, by
    simp only [execOp, ha.ev hx, Instr.range, Sem.run_bind, run_underlying hT.out, Result.andThen_ok, run_getObj_of rfl (hw.obj_at hm), mapS, run_newObj_of, Sem.run_pure]; rfl, ha.put (lt_of_blt hdn) _, hw.newObj (itS a s c []), k w.heap.size⟩
theorem J_nextS {x : Operand} {a b : Nat} {m : List (Value × Value)} {s : List Nat} {c : Nat} {seen : List Nat} {H' : Obj → Hp} {o : Obj} (hst : StOK s c m.length) (hdn : Nat.blt d n = true) (hx : ev F x = some (.pointer (some ⟨b, 0, none⟩))) (hu : UO b H o H') (ho : o = itS a s c seen) (hm : It.obj a (mapS m s c) ∈ H) (hs : ∀ i ∈ seen, i < m.length)
    (k0 : (∀ i, i < m.length → i ∈ seen) → J false P B w0 n ops Q l ((d, .tuple #[.bool false]) :: F) (H' (itS a s c seen)))
    (k1 : ∀ (i : Nat) (p : Value × Value), m[i]? = some p → i ∉ seen → J false P B w0 n ops Q l ((d, .tuple #[.bool true, p.1, p.2]) :: F) (H' (itS a s c (seen ++ [i])))) :
    J false P B w0 n ops Q (⟨some d, .next x false, ty, pos, af, none⟩ :: l) F H := by
  obtain ⟨H1, H2, rfl, h2⟩ := hu.out
  subst ho
  refine J_do _ fun A w ha hw => ?_
  have hb := hw.obj_at (a := b) (o := itS a s c seen) (by simp)
  have hbm := hw.obj_at hm
  have hborn : ∀ e ∈ entsS m s, e.born < c := fun e he => by
    obtain ⟨j, hj, e1, hlt⟩ := entsS_mem hst he
    rw [e1]; exact hst.below hlt
  obtain ⟨sn, hsn⟩ : ∃ sn, sn = (seen.map fun i => s.getD i 0).toArray := ⟨_, rfl⟩
  have hc : ∀ i, i < m.length → (sn.contains (s.getD i 0) = true ↔ i ∈ seen) := fun i hi => by
    rw [hsn]
    simp only [List.contains_toArray, List.contains_eq_mem, decide_eq_true_eq, List.mem_map]
    constructor
    · rintro ⟨j, hj, e⟩
      rw [← hst.inj (hs j hj) hi e]; exact hj
    · exact fun h => ⟨i, h, rfl⟩
  have htest := next_test_false sn (entsS m s).toArray c c (fun e he => hborn e (by simpa using he)) (Nat.le_refl _)
  obtain ⟨L, hL⟩ : ∃ L, L = Array.filter (fun e : MapEntry => !sn.contains e.born) (entsS m s).toArray := ⟨_, rfl⟩
  have hLb : ∀ e ∈ L, e.born < c := fun e he => hborn e (by rw [hL] at he; simpa using (Array.mem_filter.1 he).1)
  have e1 : L.filter (fun x => decide (x.born < c)) = L := Array.filter_eq_self.2 (fun x hx => by simpa using hLb x hx)
  have e2 : L.filter (fun x => decide (x.born ≥ c)) = #[] := by
    rw [Array.filter_eq_empty_iff]
    intro x hx
    have := hLb x hx
    simp
    omega
  have hget : ∀ e ∈ L, ∃ i, m[i]? = some (e.key, e.val) ∧ e.born = s.getD i 0 ∧ i ∉ seen := fun e he => by
    rw [hL] at he
    obtain ⟨h3, h4⟩ := Array.mem_filter.1 he
    obtain ⟨j, hj, e5, hlt⟩ := entsS_mem hst (by simpa using h3)
    refine ⟨j, hj, e5, fun hcn => ?_⟩
    rw [e5, (hc j hlt).2 hcn] at h4
    cases h4
  by_cases h0 : L.size = 0
  · have hempty : L = #[] := Array.eq_empty_of_size_eq_zero h0
    have hall : ∀ i, i < m.length → i ∈ seen := fun i hi => by
      by_cases hcn : i ∈ seen
      · exact hcn
      · exfalso
        have h3 := entsS_get hst i
        rw [List.getElem?_eq_getElem hi] at h3
        have : (⟨m[i].1, m[i].2, s.getD i 0⟩ : MapEntry) ∈ L := by
          rw [hL, Array.mem_filter]
          refine ⟨by simpa using List.mem_of_getElem? h3, ?_⟩
          have hf : sn.contains (s.getD i 0) = false := by
            cases hq : sn.contains (s.getD i 0) with
            | false => rfl
            | true => exact absurd ((hc i hi).1 hq) hcn
          rw [hf]; rfl
        rw [hempty] at this
        simp at this
    have hkk := k0 hall
    rw [h2] at hkk
    refine ⟨_, w, _, _, ?_, ha.put (lt_of_blt hdn) _, hw, hkk⟩
    simp only [execOp, ha.ev hx, Instr.next, Sem.run_bind, run_getObj_of rfl hb, run_getObj_of rfl hbm, Result.andThen_ok, itS, mapS, ← hsn, htest, Bool.false_eq_true, if_false, ← hL, e1, e2, Array.append_empty, hempty]
    simp [choose, Sem.run, Question.forced]
  · have hne : L.isEmpty = false := by simp [Array.isEmpty, h0]
    have hch : ∃ (j : Nat) (w1 : World), j < L.size ∧ (w1 = w ∨ w1 = w.drew) ∧ (choose (Question.mapNext L.size)).run P w = .ok j w1 := by
      by_cases hf : L.size ≤ 1
      · exact ⟨0, w, by omega, .inl rfl, by simp [choose, Sem.run, Question.forced, hf]⟩
      · exact ⟨_, w.drew, Nat.mod_lt _ (by omega), .inr rfl, by
          simp only [choose, Sem.run, Question.forced, decide_eq_true_eq, hf, if_false, Question.cut]
          rfl⟩
    obtain ⟨j, w1, hj, hw1, hrun⟩ := hch
    have hw1' : Holds B w0 (H1 ++ .obj b (itS a s c seen) :: H2) w1 := by
      rcases hw1 with rfl | rfl
      · exact hw
      · exact hw.draw
    have hb1 := hw1'.obj_at (a := b) (o := itS a s c seen) (by simp)
    obtain ⟨i, hi, hbi, hns⟩ := hget L[j] (Array.getElem_mem hj)
    have hkk := k1 i _ hi hns
    rw [h2] at hkk
    have hpush : sn.push L[j].born = ((seen ++ [i]).map fun i => s.getD i 0).toArray := by
      rw [hsn, hbi]; simp
    refine ⟨_, _, _, H1 ++ .obj b (itS a s c (seen ++ [i])) :: H2, ?_, ha.put (lt_of_blt hdn) _, hw1'.setObj, hkk⟩
    simp only [execOp, ha.ev hx, Instr.next, Sem.run_bind, run_getObj_of rfl hb, run_getObj_of rfl hbm, Result.andThen_ok, itS, mapS, ← hsn, htest, Bool.false_eq_true, if_false, ← hL, e1, e2, Array.append_empty, hne, Array.empty_append, Array.size_map, hrun, Array.getElem?_map, Array.getElem?_eq_getElem hj, Option.map_some]
    rw [run_setObj_of rfl hb1, hpush]
    rfl
theorem Jq_entryS {x : Operand} {a b i : Nat} {m : List (Value × Value)} {s : List Nat} {c : Nat} {seen : List Nat} {p : Value × Value} (hst : StOK s c m.length) (hdn : Nat.blt d n = true) (hx : ev F x = some (.pointer (some ⟨b, 0, none⟩))) (hb : It.obj b (itS a s c (seen ++ [i])) ∈ H) (hm : It.obj a (mapS m s c) ∈ H) (hi : m[i]? = some p)
    {dr : Bool} (k : J dr P B w0 n ops Q l ((d, .tuple #[p.1, p.2]) :: F) H) : J dr P B w0 n ops Q (⟨some d, .entry x, ty, pos, af, none⟩ :: l) F H :=
  J_q hdn (opq_run fun A ha w hw => by
    have h1 := entsS_get hst i
    rw [hi] at h1
    have hil := (List.getElem?_eq_some_iff.1 hi).1
    have hf : (entsS m s).toArray.find? (fun e => e.born == s.getD i 0) = some ⟨p.1, p.2, s.getD i 0⟩ := by
      rw [List.find?_toArray, List.find?_eq_some_iff_getElem]
      have hlt : i < (entsS m s).length := by rw [entsS_len hst]; exact hil
      have key : ∀ j (hj : j < (entsS m s).length), (entsS m s)[j].born = s.getD j 0 := fun j hj => by
        have h1 := entsS_get hst j
        rw [List.getElem?_eq_getElem hj, List.getElem?_eq_getElem (by rw [entsS_len hst] at hj; exact hj)] at h1
        rw [Option.some.inj h1]
      refine ⟨by simp, i, hlt, ?_, fun j hj => ?_⟩
      · rw [List.getElem?_eq_getElem hlt] at h1
        rw [Option.some.inj h1]
      · rw [key]
        simp only [Bool.not_eq_eq_eq_not, Bool.not_true, beq_eq_false_iff_ne]
        intro e
        have := hst.inj (show j < m.length by omega) hil e
        omega
    have hbk : ((seen ++ [i]).map fun i => s.getD i 0).toArray.back? = some (s.getD i 0) := by simp
    have g2 := run_getObj_of (P := P) rfl (hw.obj_at hm)
    simp only [execOp, ha.ev hx, Instr.entry, Sem.run_bind, run_getObj_of rfl (hw.obj_at hb), itS, Result.andThen_ok, hbk]
    simp only [g2, mapS, Result.andThen_ok, bne_self_eq_false, Bool.false_eq_true, if_false, hf, Sem.run_bind, Sem.run_pure]) k
end
section
variable {P : Program} {B : Nat} {w0 : World} {n : Nat} {Q : Po} {F : Fr} {H H1 H2 : Hp} {ops : Array Oper} {l : List Oper} {ty : TypeId} {pos : String} {af : Array Edge} {d : Nat} {dst : Option Tmp} {g : Option (Nat × Bool)}
variable {K V : Type} [DecidableEq K] {eK : K → Value} {eV : V → Value} {T kt et : TypeId}
omit [DecidableEq K] in
theorem StOK.enc {s : List Nat} {c : Nat} {m : List (K × V)} (h : StOK s c m.length) : StOK s c (encM eK eV m).length := by rw [encM_len]; exact h
theorem q_lookTS {x y : Operand} {a : Nat} {m : List (K × V)} {s : List Nat} {c : Nat} {k : K} {z v : Value} [hT : Un P T (.map kt et)] [hz : Zr P et z] (hs : StOK s c m.length) (E : KEnc P kt eK) (hx : ev F x = some (.map (some a))) (hy : ev F y = some (eK k)) (hm : It.obj a (mapS (encM eK eV m) s c) ∈ H) (hn : (m.map (·.1)).Nodup)
    (hv : ((lkM m k).map eV).getD z = v) : OpQ P B w0 n H F ⟨dst, .lookup T x y false, ty, pos, af, g⟩ v :=
  q_lookS hs.enc E.law hx hy hm (encM_nodup E.inj hn) (encM_ok m) ⟨k, rfl⟩ (by rw [lkV_enc E.inj, hv])
theorem Jq_lookTS {dr : Bool} {x y : Operand} {a : Nat} {m : List (K × V)} {s : List Nat} {c : Nat} {k : K} {z v : Value} [hT : Un P T (.map kt et)] [hz : Zr P et z] (hs : StOK s c m.length) (hdn : Nat.blt d n = true) (E : KEnc P kt eK) (hx : ev F x = some (.map (some a))) (hy : ev F y = some (eK k)) (hm : It.obj a (mapS (encM eK eV m) s c) ∈ H) (hn : (m.map (·.1)).Nodup)
    (hv : ((lkM m k).map eV).getD z = v) (kk : J dr P B w0 n ops Q l ((d, v) :: F) H) : J dr P B w0 n ops Q (⟨some d, .lookup T x y false, ty, pos, af, none⟩ :: l) F H := J_q hdn (q_lookTS hs E hx hy hm hn hv) kk
omit [DecidableEq K] in
theorem Jq_lenTS {dr : Bool} {x : Operand} {a : Nat} {m : List (K × V)} {s : List Nat} {c : Nat} [hT : Un P T (.map kt et)] (hs : StOK s c m.length) (hdn : Nat.blt d n = true) (hx : ev F x = some (.map (some a))) (hm : It.obj a (mapS (encM eK eV m) s c) ∈ H) (kk : J dr P B w0 n ops Q l ((d, .int .i64 (m.length : Nat)) :: F) H) :
    J dr P B w0 n ops Q (⟨some d, .call { callee := .builtin .len, args := #[x], argTypes := #[T] }, ty, pos, af, none⟩ :: l) F H := by
  have h := q_lenS (P := P) (B := B) (w0 := w0) (n := n) (H := H) (F := F) (ty := ty) (pos := pos) (af := af) (dst := some d) (g := none) (hT := hT) (hs.enc (eK := eK) (eV := eV)) hx hm
  rw [encM_len] at h
  exact J_q hdn h kk
/-- A map without a key. -/
def delM (m : List (K × V)) (k : K) : List (K × V) := m.filter fun p => decide (p.1 ≠ k)
theorem delM_mem {m : List (K × V)} {k : K} {e : K × V} : e ∈ delM m k ↔ e ∈ m ∧ e.1 ≠ k := by unfold delM; rw [List.mem_filter, decide_eq_true_iff]
theorem delM_keys {m : List (K × V)} {k : K} (h : (m.map (·.1)).Nodup) : ((delM m k).map (·.1)).Nodup := h.sublist (List.filter_sublist.map _)
theorem delM_none {m : List (K × V)} {k : K} (h : ∀ p ∈ m, p.1 ≠ k) : delM m k = m := List.filter_eq_self.2 fun p hp => by simpa using h p hp
theorem delM_erase : ∀ {m : List (K × V)} {k : K} {j : Nat} {p : K × V}, (m.map (·.1)).Nodup → m[j]? = some p → p.1 = k → m.eraseIdx j = delM m k
  | q :: m, k, 0, p, hn, hj, hk => by
    simp only [List.getElem?_cons_zero, Option.some.injEq] at hj
    subst hj
    rw [List.map_cons, List.nodup_cons] at hn
    have h1 : delM m k = m := delM_none fun x hx e => hn.1 (List.mem_map.2 ⟨x, hx, by rw [e, hk]⟩)
    rw [List.eraseIdx_cons_zero]
    unfold delM at h1 ⊢
    rw [List.filter_cons_of_neg (by simp [hk]), h1]
  | q :: m, k, j + 1, p, hn, hj, hk => by
    rw [List.getElem?_cons_succ] at hj
    rw [List.map_cons, List.nodup_cons] at hn
    have hne : q.1 ≠ k := fun e => hn.1 (List.mem_map.2 ⟨p, List.mem_of_getElem? hj, by rw [hk, e]⟩)
    rw [List.eraseIdx_cons_succ, delM_erase hn.2 hj hk]
    unfold delM
    rw [List.filter_cons_of_pos (by simp [hne])]
theorem J_delTS {x y : Operand} {a : Nat} {m : List (K × V)} {s : List Nat} {c : Nat} {k : K} {kt' : TypeId} {H' : Obj → Hp} {o : Obj} [hT : Un P T (.map kt et)] (hs : StOK s c m.length) (E : KEnc P kt eK) (hx : ev F x = some (.map (some a))) (hy : ev F y = some (eK k)) (hu : UO a H o H') (ho : o = mapS (encM eK eV m) s c) (hn : (m.map (·.1)).Nodup)
    (kk : ∀ s' : List Nat, StOK s' c (delM m k).length → J false P B w0 n ops Q l F (H' (mapS (encM eK eV (delM m k)) s' c))) :
    J false P B w0 n ops Q (⟨none, .call { callee := .builtin .delete, args := #[x, y], argTypes := #[T, kt'] }, ty, pos, af, none⟩ :: l) F H := by
  refine J_deleteS hs.enc E.law hx hy hu ho (encM_ok m) ⟨k, rfl⟩ (fun h => ?_) (fun j p hj hp => ?_)
  · have e : delM m k = m := delM_none fun q hq e => h (eK q.1, eV q.2) (List.mem_map.2 ⟨q, hq, rfl⟩) (by rw [e])
    have := kk s (by rw [e]; exact hs)
    rwa [e] at this
  · obtain ⟨q, hq, rfl⟩ := encM_get hj
    have e := delM_erase hn hq (E.inj _ _ hp)
    have hjl := (List.getElem?_eq_some_iff.1 hq).1
    have hlen : (delM m k).length + 1 = m.length := by
      rw [← e, List.length_eraseIdx_of_lt hjl]; omega
    have := kk (s.eraseIdx j) (StOK.erase (by rw [hlen]; exact hs) (by omega))
    rw [← e] at this
    have e2 : (encM eK eV m).eraseIdx j = encM eK eV (m.eraseIdx j) := map_erase _ m j
    rw [e2]
    exact this
theorem J_entTS {x y : Operand} {a : Nat} {m : List (K × V)} {s : List Nat} {c : Nat} {k : K} {z : Value} {u0 : V} {H' : Obj → Hp} {o : Obj} [hT : Un P T (.map kt et)] [hz : Zr P et z] (hs : StOK s c m.length) (hdn : Nat.blt d n = true) (E : KEnc P kt eK) (hx : ev F x = some (.map (some a))) (hy : ev F y = some (eK k)) (hu : UO a H o H') (ho : o = mapS (encM eK eV m) s c) (hn : (m.map (·.1)).Nodup) (hz0 : z = eV u0)
    (kk : ∀ (s' : List Nat) (c' j : Nat), StOK s' c' (putM m k ((lkM m k).getD u0)).length → (encM eK eV (putM m k ((lkM m k).getD u0)))[j]? = some (eK k, eV ((lkM m k).getD u0)) → J false P B w0 n ops Q l ((d, .tuple #[eV ((lkM m k).getD u0), .int .i64 ((s'.getD j 0 : Nat) : Int)]) :: F) (H' (mapS (encM eK eV (putM m k ((lkM m k).getD u0))) s' c'))) :
    J false P B w0 n ops Q (⟨some d, .mapEntry T x y, ty, pos, af, none⟩ :: l) F H :=
  J_mapEntryS hs.enc hdn E.law hx hy hu ho (encM_nodup E.inj hn) (encM_ok m) ⟨k, rfl⟩ fun m' s' c' j u e1 e2 e3 e4 => by
    have e : u = eV ((lkM m k).getD u0) := by
      rw [e1, lkV_enc E.inj, hz0]
      cases lkM m k <;> rfl
    subst e
    rw [putV_enc E.inj] at e2
    subst e2
    rw [encM_len] at e3
    exact kk s' c' j e3 e4
theorem J_estTS {x y t : Operand} {a j : Nat} {m m' : List (K × V)} {s : List Nat} {c : Nat} {k : K} {u v : V} {H' : Obj → Hp} {o : Obj} (hs : StOK s c (putM m k u).length) (E : KEnc P kt eK) (hx : ev F x = some (.map (some a))) (hy : ev F y = some (.int .i64 ((s.getD j 0 : Nat) : Int))) (ht : ev F t = some (eV v)) (hu : UO a H o H') (ho : o = mapS (encM eK eV (putM m k u)) s c) (hn : (m.map (·.1)).Nodup) (hj : (encM eK eV (putM m k u))[j]? = some (eK k, eV u))
    (hm' : putM m k v = m') (kk : J false P B w0 n ops Q l F (H' (mapS (encM eK eV m') s c))) : J false P B w0 n ops Q (⟨none, .entryStore T x y t, ty, pos, af, none⟩ :: l) F H :=
  J_entryStoreS hs.enc hx hy ht hu ho (encM_nodup E.inj (putM_nodup hn k u)) hj rfl (by rw [putV_enc E.inj, putM_twice, hm']; exact kk)
omit [DecidableEq K] in
theorem J_rangeTS {x : Operand} {a : Nat} {m : List (K × V)} {s : List Nat} {c : Nat} [hT : Un P T (.map kt et)] (hdn : Nat.blt d n = true) (hx : ev F x = some (.map (some a))) (hm : It.obj a (mapS (encM eK eV m) s c) ∈ H)
    (k : ∀ b, J false P B w0 n ops Q l ((d, .pointer (some ⟨b, 0, none⟩)) :: F) (.obj b (itS a s c []) :: H)) : J false P B w0 n ops Q (⟨some d, .range T x, ty, pos, af, none⟩ :: l) F H :=
  J_rangeS hdn hx hm k
omit [DecidableEq K] in
theorem J_nextTS {x : Operand} {a b : Nat} {m : List (K × V)} {s : List Nat} {c : Nat} {seen : List Nat} {H' : Obj → Hp} {o : Obj} (hst : StOK s c m.length) (hdn : Nat.blt d n = true) (hx : ev F x = some (.pointer (some ⟨b, 0, none⟩))) (hu : UO b H o H') (ho : o = itS a s c seen) (hm : It.obj a (mapS (encM eK eV m) s c) ∈ H) (hs : ∀ i ∈ seen, i < m.length)
    (k0 : (∀ i, i < m.length → i ∈ seen) → J false P B w0 n ops Q l ((d, .tuple #[.bool false]) :: F) (H' (itS a s c seen)))
    (k1 : ∀ (i : Nat) (p : K × V), m[i]? = some p → i ∉ seen → J false P B w0 n ops Q l ((d, .tuple #[.bool true, eK p.1, eV p.2]) :: F) (H' (itS a s c (seen ++ [i])))) :
    J false P B w0 n ops Q (⟨some d, .next x false, ty, pos, af, none⟩ :: l) F H := by
  have hl := encM_len (eK := eK) (eV := eV) m
  refine J_nextS hst.enc hdn hx hu ho hm (by rw [hl]; exact hs) (by rw [hl]; exact k0) fun i p hi hn => ?_
  obtain ⟨q, hq, rfl⟩ := encM_get hi
  exact k1 i q hq hn
omit [DecidableEq K] in
theorem Jq_entryTS {x : Operand} {a b i : Nat} {m : List (K × V)} {s : List Nat} {c : Nat} {seen : List Nat} {p : K × V} (hst : StOK s c m.length) (hdn : Nat.blt d n = true) (hx : ev F x = some (.pointer (some ⟨b, 0, none⟩))) (hb : It.obj b (itS a s c (seen ++ [i])) ∈ H) (hm : It.obj a (mapS (encM eK eV m) s c) ∈ H) (hi : m[i]? = some p)
    {dr : Bool} (k : J dr P B w0 n ops Q l ((d, .tuple #[eK p.1, eV p.2]) :: F) H) : J dr P B w0 n ops Q (⟨some d, .entry x, ty, pos, af, none⟩ :: l) F H := by
  refine Jq_entryS (p := (eK p.1, eV p.2)) hst.enc hdn hx hb hm ?_ k
  unfold encM
  rw [List.getElem?_map, hi]; rfl
end
end SL
end Go.Proofs.YtmbbcmebdefggaaGreatDoor
