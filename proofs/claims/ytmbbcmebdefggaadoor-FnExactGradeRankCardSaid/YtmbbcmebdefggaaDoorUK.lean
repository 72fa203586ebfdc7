/- Grades as keys of maps. -/
import Derived.Test.YtmbbcmebdefggaaDoorMR
import Derived.Test.YtmbbcmebdefggaaDoorUC
namespace Go.Proofs.YtmbbcmebdefggaaDoor
open Go Go.RowKit SL
theorem encGr_inj {x y : GrB} (h : Value.agg (encGr x).toArray = .agg (encGr y).toArray) : x = y := by
  injection h with h
  have h2 : encGr x = encGr y := by simpa using congrArg Array.toList h
  unfold encGr at h2
  injection h2 with h3 h4
  injection h4 with h5 _
  injection h3 with _ h6
  injection h5 with _ h7
  exact Prod.ext h6 h7
theorem eqGr_run (x y : GrB) (w : World) : (Op.equalIn 10000 74 (.agg (encGr x).toArray) (.agg (encGr y).toArray)).run Tryd.prog w = .ok (decide (x = y)) w := by
  have hf : (Tryd.prog.fieldsOf 74).toList.map shF = [(true, 0, 2), (true, 0 + 1, 2)] := by kernel_rfl
  obtain ⟨f0, fs, e0, n0, o0, t0, hf⟩ := fs_cons hf
  obtain ⟨f1, fs, rfl, n1, o1, t1, hf⟩ := fs_cons hf
  obtain rfl := fs_nil hf
  rw [run_equalIn_struct (P := Tryd.prog) w 9999 _ _ _ (by kernel_rfl) (by kernel_rfl), e0]
  have r2 := eqFields_nil (P := Tryd.prog) w 9999 (xs := (encGr x).toArray) (ys := (encGr y).toArray)
  have r1 := eqFields_int (P := Tryd.prog) w 9998 (f := f1) (k := .i64) (xs := encGr x) (ys := encGr y) (a := x.2) (b := y.2) n1 (by rw [t1]; kernel_rfl) (by rw [o1]; rfl) (by rw [o1]; rfl) r2
  have r0 := eqFields_int (P := Tryd.prog) w 9998 (f := f0) (k := .i64) (xs := encGr x) (ys := encGr y) (a := x.1) (b := y.1) n0 (by rw [t0]; kernel_rfl) (by rw [o0]; rfl) (by rw [o0]; rfl) r1
  refine r0.trans (congrArg (fun b => Result.ok b w) ?_)
  rw [Bool.and_true, ← Bool.decide_and]
  exact decide_eq_decide.2 ⟨fun h => Prod.ext h.1 h.2, fun h => by rw [h]; exact ⟨rfl, rfl⟩⟩
theorem klawGr : KLaw Tryd.prog 74 (fun v => ∃ g : GrB, v = .agg (encGr g).toArray) := by
  have hu : Tryd.prog.underlying 74 = some (.struct (Tryd.prog.fieldsOf 74)) := by kernel_rfl
  have i64 : Tryd.prog.underlying 2 = some (.int .i64) := by kernel_rfl
  refine klaw_wide (by rw [hu]) (fun w em v ⟨x, h⟩ => ?_) (fun w u v ⟨x, h⟩ ⟨y, k⟩ => ?_) fun v ⟨x, h⟩ => ⟨encGr x, h, fun u hu => ?_⟩
  · subst h
    have hf : (Tryd.prog.fieldsOf 74).toList.map shF = [(true, 0, 2), (true, 0 + 1, 2)] := by kernel_rfl
    obtain ⟨f0, fs, e0, n0, o0, t0, hf⟩ := fs_cons hf
    obtain ⟨f1, fs, rfl, n1, o1, t1, hf⟩ := fs_cons hf
    obtain rfl := fs_nil hf
    rw [Instr.checkKey]
    simp only [Sem.run_bind, run_underlying hu, Result.andThen_ok]
    rw [← Array.forIn_toList, e0]
    have p0 : (part f0.type (encGr x).toArray f0.offset).run Tryd.prog w = .ok (.int .i64 x.1) w := by rw [t0, o0]; exact part_sc w rfl
    have p1 : (part f1.type (encGr x).toArray f1.offset).run Tryd.prog w = .ok (.int .i64 x.2) w := by rw [t1, o1]; exact part_sc w rfl
    have c0 : (Instr.checkKey em 9999 f0.type (.int .i64 x.1)).run Tryd.prog w = .ok () w := by rw [t0]; exact check_intAt i64 w em 9998 x.1
    have c1 : (Instr.checkKey em 9999 f1.type (.int .i64 x.2)).run Tryd.prog w = .ok () w := by rw [t1]; exact check_intAt i64 w em 9998 x.2
    simp only [List.forIn_cons, List.forIn_nil, Sem.run_bind, n0, n1, ne_eq, not_false_eq_true, if_true, p0, p1, c0, c1, Result.andThen_ok, Sem.run_pure]
  · subst h k
    refine ⟨_, eqGr_run x y w, ?_⟩
    rw [decide_eq_true_iff]
    exact ⟨fun h => by rw [h], encGr_inj⟩
  · unfold encGr at hu
    simp only [List.mem_cons, List.not_mem_nil, or_false] at hu
    rcases hu with rfl | rfl <;> exact ⟨_, _, rfl⟩
def grK (g : GrB) : Value := .agg (encGr g).toArray
theorem kencGr : KEnc Tryd.prog 74 grK := ⟨klawGr, fun _ _ h => encGr_inj h⟩
end Go.Proofs.YtmbbcmebdefggaaDoor
