/- The keys of maps: numbers, arrays of bytes, structs. -/
import Derived.Test.YthijakignhjmgaaMP
import Derived.Test.YthijakignhjmgaaFL
import Derived.Test.YthijakignhjmgaaEQ
import Derived.WideKeyRuns
namespace Go.Proofs.Ythijakignhjmgaa
open Go Go.RowKit SL
section
variable {P : Program}
theorem findAsking_of {k : TypeId} {x : Value} {w : World} : ∀ (es : List MapEntry) (i : Nat), (∀ e ∈ es, ∃ r : Bool, (Op.equal k x e.key).run P w = .ok r w ∧ (r = true ↔ x = e.key)) →
    ((Instr.findAsking k x es i).run P w = .ok none w ∧ ∀ e ∈ es, e.key ≠ x) ∨ ∃ j e, (Instr.findAsking k x es i).run P w = .ok (some (i + j, e.val)) w ∧ es[j]? = some e ∧ e.key = x
  | [], i, _ => .inl ⟨by simp [Instr.findAsking], by simp⟩
  | e :: es, i, hall => by
    obtain ⟨r, hr, hiff⟩ := hall e (by simp)
    cases r
    · have hne : e.key ≠ x := fun h => by have := hiff.2 h.symm; cases this
      rcases findAsking_of es (i + 1) (fun y hy => hall y (by simp [hy])) with ⟨h1, h2⟩ | ⟨j, e', h1, h2, h3⟩
      · left
        refine ⟨by simp [Instr.findAsking, hr, h1], fun y hy => ?_⟩
        rcases List.mem_cons.1 hy with rfl | hy
        · exact hne
        · exact h2 y hy
      · right
        exact ⟨j + 1, e', by simp [Instr.findAsking, hr, h1, Nat.add_assoc, Nat.add_comm 1 j], by simpa using h2, h3⟩
    · right
      exact ⟨0, e, by simp [Instr.findAsking, hr], rfl, (hiff.1 rfl).symm⟩
theorem sameBits_ints {xs : List Value} (h : ∀ u ∈ xs, ∃ (k : IntKind) (a : Int), u = .int k a) (n : Nat) : Instr.sameBits (n + 2) (.agg xs.toArray) (.agg xs.toArray) = true := by
  simp only [Instr.sameBits, beq_self_eq_true, Bool.true_and, List.all_eq_true]
  intro p hp
  obtain ⟨i, hi, e⟩ := List.getElem_of_mem hp
  rw [List.getElem_zip] at e
  rw [← e]
  obtain ⟨k, a, e2⟩ := h _ (List.getElem_mem (l := xs) (by simpa using hi))
  have e3 : (xs.toArray.toList)[i]'(by simpa using hi) = .int k a := by simpa using e2
  simp [e3, Instr.sameBits]
/-- Arrays and structs of numbers. -/
theorem klaw_wide {k : TypeId} {ok : Value → Prop} (hwide : (match P.underlying k with | some (.array _ _) | some (.struct _) => true | _ => false) = true) (hck : ∀ w em v, ok v → (Instr.checkKey em 10000 k v).run P w = .ok () w)
    (heq : ∀ w x y, ok x → ok y → ∃ r : Bool, (Op.equal k x y).run P w = .ok r w ∧ (r = true ↔ x = y)) (hint : ∀ v, ok v → ∃ xs : List Value, v = .agg xs.toArray ∧ ∀ u ∈ xs, ∃ (q : IntKind) (a : Int), u = .int q a) : KLaw P k ok where
  check := fun w em v h => hck w em v h
  find := fun w x hx es hall => by
    rw [run_findKey_eq w hwide]
    have := findAsking_of (P := P) (k := k) (x := x) (w := w) es 0 fun e he => heq w x e.key hx (hall e he)
    simpa using this
  stays := fun w v h => by
    obtain ⟨xs, rfl, hi⟩ := hint v h
    have hs := sameBits_ints hi 9998
    simp [Instr.keyThatStays, hs]
/-- Numbers. -/
theorem klaw_int {k : TypeId} {q : IntKind} (hu : P.underlying k = some (.int q)) : KLaw P k (fun v => ∃ a : Int, v = .int q a) where
  check := fun w em v ⟨a, h⟩ => by
    subst h
    exact MapKept.run_checkKey hu (by simp [MapKept.IsKey]) em 9999
  find := fun w x hx es hall => by
    obtain ⟨a, rfl⟩ := hx
    have hks : ∀ e ∈ es, MapKept.IsKey (.int q) e.key := fun e he => by
      obtain ⟨b, h⟩ := hall e he
      rw [h]; simp [MapKept.IsKey]
    rcases MapKept.findNow_spec (d := .int q) (k := .int q a) (by simp [MapKept.IsKey]) es 0 hks with ⟨h1, h2⟩ | ⟨j, e, h1, h2, h3⟩
    · exact .inl ⟨MapKept.run_findKey hu h1, h2⟩
    · exact .inr ⟨j, e, by have := MapKept.run_findKey (P := P) (w := w) hu h1; simpa using this, h2, h3⟩
  stays := fun w v ⟨a, h⟩ => by
    subst h
    exact MapKept.run_keyThatStays (d := .int q) (by simp [MapKept.IsKey])
theorem check_intAt {e : TypeId} {q : IntKind} (hu : P.underlying e = some (.int q)) (w : World) (em : Bool) (n : Nat) (a : Int) : (Instr.checkKey em (n + 1) e (.int q a)).run P w = .ok () w :=
  MapKept.run_checkKey hu (by simp [MapKept.IsKey]) em n
theorem check_u8s {t e : TypeId} {len : Nat} (ht : P.underlying t = some (.array len e)) (hu : P.underlying e = some (.int .u8)) (hc : P.cellsOf e = 1) (X : List Nat) (lX : X.length = len) (w : World) (em : Bool) (n : Nat) : (Instr.checkKey em (n + 2) t (.agg (u8s X).toArray)).run P w = .ok () w := by
  obtain ⟨i, hi⟩ := info_of_underlying hu
  rw [Instr.checkKey]
  simp only [Sem.run_bind, run_underlying ht, Result.andThen_ok]
  simp only [Std.Legacy.Range.forIn_eq_forIn_range', Std.Legacy.Range.size, Nat.sub_zero, Nat.add_one_sub_one, Nat.div_one]
  have each : ∀ j ∈ List.range' 0 len, j < X.length := fun j hj => by
    have := List.mem_range'_1.1 hj
    omega
  generalize List.range' 0 len = is at each
  induction is with
  | nil => simp
  | cons j is ih =>
    have hj := each j List.mem_cons_self
    have hp := part_u8 (P := P) w hu (xs := u8s X) (off := j) (u8s_get hj)
    simp only [List.forIn_cons, Sem.run_bind, run_sizeOf w hi, Result.andThen_ok, hc, Nat.mul_one, hp, check_intAt hu w em n, Sem.run_pure]
    exact ih fun y hy => each y (List.mem_cons_of_mem _ hy)
end
/-- What keys are. -/
def okSt (v : Value) : Prop := ∃ x : StB, v = .agg (encS x).toArray
theorem u8s_inj : ∀ {X Y : List Nat}, u8s X = u8s Y → X = Y
  | [], [], _ => rfl
  | [], _ :: _, h => by cases h
  | _ :: _, [], h => by cases h
  | a :: X, b :: Y, h => by
    unfold u8s at h
    rw [List.map_cons, List.map_cons] at h
    injection h with h1 h2
    injection h1 with _ h3
    have e1 : a = b := by omega
    rw [e1, u8s_inj (X := X) (Y := Y) h2]
theorem encS_inj {x y : StB} (h : Value.agg (encS x).toArray = .agg (encS y).toArray) : x = y := by
  injection h with h
  have h2 : encS x = encS y := by simpa using congrArg Array.toList h
  exact Subtype.ext (u8s_inj h2)
theorem klawS : KLaw Try.prog 115 okSt := by
  have a8 : Try.prog.underlying 115 = some (.array 8 5) := by kernel_rfl
  have u8 : Try.prog.underlying 5 = some (.int .u8) := by kernel_rfl
  have c1 : Try.prog.cellsOf 5 = 1 := by kernel_rfl
  refine klaw_wide (by rw [a8]) (fun w em v ⟨x, h⟩ => ?_) (fun w u v ⟨x, h⟩ ⟨y, k⟩ => ?_) fun v ⟨x, h⟩ => ⟨encS x, h, fun u hu => ?_⟩
  · subst h
    exact check_u8s a8 u8 c1 x.1 x.2.1 w em 9998
  · subst h k
    refine ⟨_, eqIn_u8 (P := Try.prog) w 9998 a8 u8 c1 x.1 y.1 x.2.1 y.2.1, ?_⟩
    rw [decide_eq_true_iff]
    exact ⟨fun h => by rw [Subtype.ext h], fun h => congrArg Subtype.val (encS_inj h)⟩
  · obtain ⟨a, _, rfl⟩ := List.mem_map.1 hu
    exact ⟨_, _, rfl⟩
theorem klawI : KLaw Try.prog 2 (fun v => ∃ a : Int, v = .int .i64 a) := klaw_int (by kernel_rfl)
end Go.Proofs.Ythijakignhjmgaa
