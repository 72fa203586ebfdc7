/- Grids as keys of maps; what the moves of a grid make; the neighbours, told as a set. -/
import Derived.Test.YtflleelfkknfaaaMJ
import Derived.Test.YtflleelfkknfaaaMR
import Derived.Test.YtflleelfkknfaaaSH
import Derived.Test.YtflleelfkknfaaaWM
import Derived.Test.YtflleelfkknfaaaWL
namespace Go.Proofs.Ytflleelfkknfaaa
open Go Go.RowKit SL
theorem gv_inj {n m : Int} {X O Y U : List Nat} (lX : X.length = 8) (lY : Y.length = 8) (h : gv n X O = gv m Y U) : n = m ∧ X = Y ∧ O = U := by
  unfold gv at h
  injection h with h1 h2
  injection h1 with _ h3
  have h4 := List.append_inj h2 (by rw [u8s_len, u8s_len, lX, lY])
  exact ⟨h3, u8s_inj h4.1, u8s_inj h4.2⟩
theorem encG_inj {x y : GridB} (h : Value.agg (encG x).toArray = .agg (encG y).toArray) : x = y := by
  injection h with h
  have h2 : encG x = encG y := by simpa using congrArg Array.toList h
  obtain ⟨⟨n, X, O⟩, hx⟩ := x
  obtain ⟨⟨m, Y, U⟩, hy⟩ := y
  obtain ⟨e1, e2, e3⟩ := gv_inj hx.1.1 hy.1.1 h2
  dsimp only at e1 e2 e3
  subst e1 e2 e3
  rfl
theorem klawG : KLaw Try.prog 27 (fun v => ∃ p : GridB, v = .agg (encG p).toArray) := by
  have hu : Try.prog.underlying 27 = some (.struct (Try.prog.fieldsOf 27)) := by kernel_rfl
  have i64 : Try.prog.underlying 2 = some (.int .i64) := by kernel_rfl
  have a8 : Try.prog.underlying 22 = some (.array 8 5) := by kernel_rfl
  have u8 : Try.prog.underlying 5 = some (.int .u8) := by kernel_rfl
  have cc : Try.prog.cellsOf 5 = 1 := by kernel_rfl
  refine klaw_wide (by rw [hu]) (fun w em v ⟨x, h⟩ => ?_) (fun w u v ⟨x, h⟩ ⟨y, k⟩ => ?_) fun v ⟨x, h⟩ => ⟨encG x, h, fun u hu => ?_⟩
  · subst h
    have hf : (Try.prog.fieldsOf 27).toList.map shF = [(true, 0, 2), (true, 0 + 1, 22), (true, 0 + 9, 22)] := by kernel_rfl
    obtain ⟨f0, fs, e0, n0, o0, t0, hf⟩ := fs_cons hf
    obtain ⟨f1, fs, rfl, n1, o1, t1, hf⟩ := fs_cons hf
    obtain ⟨f2, fs, rfl, n2, o2, t2, hf⟩ := fs_cons hf
    obtain rfl := fs_nil hf
    rw [Instr.checkKey]
    simp only [Sem.run_bind, run_underlying hu, Result.andThen_ok]
    rw [← Array.forIn_toList, e0]
    have p0 : (part f0.type (encG x).toArray f0.offset).run Try.prog w = .ok (.int .i64 x.1.1) w := by rw [t0, o0]; exact part_sc w rfl
    have p1 : (part f1.type (encG x).toArray f1.offset).run Try.prog w = .ok (.agg (u8s x.1.2.1).toArray) w := by rw [t1, o1]; exact part_arr w a8 (by kernel_rfl) (gv_arrX x.2.1.1)
    have p2 : (part f2.type (encG x).toArray f2.offset).run Try.prog w = .ok (.agg (u8s x.1.2.2).toArray) w := by rw [t2, o2]; exact part_arr w a8 (by kernel_rfl) (gv_arrO x.2.1.1 x.2.2.1)
    have c0 : (Instr.checkKey em 9999 f0.type (.int .i64 x.1.1)).run Try.prog w = .ok () w := by rw [t0]; exact check_intAt i64 w em 9998 _
    have c1 : (Instr.checkKey em 9999 f1.type (.agg (u8s x.1.2.1).toArray)).run Try.prog w = .ok () w := by rw [t1]; exact check_u8s a8 u8 cc x.1.2.1 x.2.1.1 w em 9997
    have c2 : (Instr.checkKey em 9999 f2.type (.agg (u8s x.1.2.2).toArray)).run Try.prog w = .ok () w := by rw [t2]; exact check_u8s a8 u8 cc x.1.2.2 x.2.2.1 w em 9997
    simp only [List.forIn_cons, List.forIn_nil, Sem.run_bind, n0, n1, n2, ne_eq, not_false_eq_true, if_true, p0, p1, p2, c0, c1, c2, Result.andThen_ok, Sem.run_pure]
  · subst h k
    refine ⟨_, eqG_run x y w, ?_⟩
    rw [@decide_eq_true_iff _ (Classical.propDecidable _)]
    exact ⟨fun h => by rw [h], encG_inj⟩
  · unfold encG gv at hu
    rcases List.mem_cons.1 hu with rfl | hu
    · exact ⟨_, _, rfl⟩
    · rcases List.mem_append.1 hu with hu | hu
      · obtain ⟨a, _, rfl⟩ := List.mem_map.1 hu
        exact ⟨_, _, rfl⟩
      · obtain ⟨a, _, rfl⟩ := List.mem_map.1 hu
        exact ⟨_, _, rfl⟩
def grV (p : GridB) : Value := .agg (encG p).toArray
theorem kencG : KEnc Try.prog 27 grV := ⟨klawG, fun _ _ h => encG_inj h⟩
/-! What a move makes. -/
/-- A grid, told by its parts. -/
def okB (p : GridB) : Prop := okG p.1.1 p.1.2.1 p.1.2.2
theorem okB_nat {p : GridB} (h : okB p) : ∃ (n : Nat) (X O : List Nat) (b : isB X ∧ isB O), p = ⟨((n : Int), X, O), b⟩ ∧ okG (n : Int) X O := by
  obtain ⟨⟨m, X, O⟩, b⟩ := p
  obtain ⟨n, e⟩ := okG_nat h
  dsimp only at e
  subst e
  exact ⟨n, X, O, b, rfl, h⟩
theorem mv_mem {n : Nat} {X O : List Nat} {m : MvB} (h : m ∈ mvI n X O) : (∃ c, m = (0, c, 0) ∧ fit0 n X O c) ∨ (∃ r, m = (1, 0, r) ∧ fit1 n X O r) ∨ ∃ i r, m = (3, i, r) ∧ fit3 n X O i r := by
  unfold mvI at h
  rw [List.mem_append, List.mem_append] at h
  rcases h with (h | h) | h
  · obtain ⟨c, _, hc⟩ := List.mem_flatMap.1 h
    by_cases hf : fit0 n X O c
    · rw [@decide_eq_true _ (Classical.propDecidable _) hf, if_pos rfl, List.mem_singleton] at hc
      exact .inl ⟨c, hc, hf⟩
    · rw [@decide_eq_false _ (Classical.propDecidable _) hf, if_neg (by decide)] at hc
      cases hc
  · obtain ⟨c, _, hc⟩ := List.mem_flatMap.1 h
    by_cases hf : fit1 n X O c
    · rw [@decide_eq_true _ (Classical.propDecidable _) hf, if_pos rfl, List.mem_singleton] at hc
      exact .inr (.inl ⟨c, hc, hf⟩)
    · rw [@decide_eq_false _ (Classical.propDecidable _) hf, if_neg (by decide)] at hc
      cases hc
  · obtain ⟨i, _, hi⟩ := List.mem_flatMap.1 h
    obtain ⟨r, _, hr⟩ := List.mem_flatMap.1 hi
    by_cases hf : fit3 n X O i r
    · rw [@decide_eq_true _ (Classical.propDecidable _) hf, if_pos rfl, List.mem_singleton] at hr
      exact .inr (.inr ⟨i, r, hr, hf⟩)
    · rw [@decide_eq_false _ (Classical.propDecidable _) hf, if_neg (by decide)] at hr
      cases hr
theorem isB_rmvB {n i r d : Nat} {X : List Nat} (h8 : n ≤ 8) (b : isB X) : isB (rmv n i r d X) := isB_rmv h8 b.2
/-- What both texts make of a grid by a move that fits. -/
theorem mv_res {n : Nat} {X O : List Nat} (bX : isB X) (bO : isB O) (g : okG (n : Int) X O) {m : MvB} (h : m ∈ mvI n X O) : ∃ p : GridB, okB p ∧
    (∀ w, Gives Try.prog 51 #[.agg (gv n X O).toArray, .agg (encMv m).toArray] (.agg (encG p).toArray) w) ∧
    (∀ w, Gives Try.prog 49 #[.agg (gv n X O).toArray, .agg (encMv m).toArray] (.agg (encG p).toArray) w) := by
  have h8 : n ≤ 8 := by have := g.1; omega
  rcases mv_mem h with ⟨c, rfl, hf⟩ | ⟨r, rfl, hf⟩ | ⟨i, r, rfl, hf⟩
  · have hc := hf.1
    exact ⟨⟨((n : Int), swC X c, swC O c), isB_swC bX (by omega), isB_swC bO (by omega)⟩, swC_ok g bX.1 bO.1 hc, moved0_gives n X O c bX bO h8 hf, apply0_gives n X O c bX bO h8 hf⟩
  · have hr := hf.1
    have pX := g.2.1
    have pO := g.2.2.1
    rw [Int.toNat_natCast] at pX pO
    exact ⟨⟨((n : Int), swR n r X, swR n r O), isB_swR h8 hr pX, isB_swR h8 hr pO⟩, swR_ok g hr, moved1_gives n X O r bX bO g hf, apply1_gives n X O r bX bO g hf⟩
  · obtain ⟨hi, hr, k, d, u, hk, hd, hu, hs⟩ := id hf
    have hok : okG ((n - 1 : Nat) : Int) (rmv n i r d X) (rmv n i r d O) := by
      rcases hs with ⟨_, s⟩ | ⟨_, s⟩
      · exact (shr_ok g bX.1 bO.1 hi hr hd hu s).2.1
      · exact okG_swap' (shr_ok (okG_swap' g) bO.1 bX.1 hi hr hd hu s).2.1
    exact ⟨⟨(((n - 1 : Nat) : Int), rmv n i r d X, rmv n i r d O), isB_rmvB h8 bX, isB_rmvB h8 bO⟩, hok, moved3_gives n X O i r k d u bX bO g hi hr hk hd hu hs, apply3_gives n X O i r k d u bX bO g hi hr hk hd hu hs⟩
/-- The canonical grid. -/
theorem can_res {p : GridB} (h : okB p) : ∃ q : GridB, (okB q ∧ (∀ w, Gives Try.prog 30 #[.agg (encG p).toArray] (.agg (encG q).toArray) w) ∧ (∀ w, Gives Try.prog 24 #[.agg (encG p).toArray] (.agg (encG q).toArray) w)) ∧ q.1.1 = p.1.1 ∧ q.1.2 = can p.1.1.toNat p.1.2 := by
  obtain ⟨n, X, O, b, rfl, g⟩ := okB_nat h
  have hc := cS_ok (k := n - 1) g
  exact ⟨⟨((n : Int), (can n (X, O)).1, (can n (X, O)).2), hc.2.1, hc.2.2⟩, ⟨hc.1, ican_gives n X O b.1 b.2 g, lcan_gives n X O b.1 b.2 g⟩, rfl, by dsimp only; rw [Int.toNat_natCast]⟩
/-- The shifts of a grid. -/
theorem rol_res {p : GridB} (h : okB p) (v u : Nat) (hv : (v : Int) < p.1.1) (hu : (u : Int) < p.1.1) : ∃ q : GridB, okB q ∧ q.1.1 = p.1.1 ∧ (∀ w, Gives Try.prog 47 #[.agg (encG p).toArray, .int .i64 (v : Int), .int .i64 (u : Int)] (.agg (encG q).toArray) w) ∧ (∀ w, Gives Try.prog 43 #[.agg (encG p).toArray, .int .i64 (v : Int), .int .i64 (u : Int)] (.agg (encG q).toArray) w) := by
  obtain ⟨n, X, O, b, rfl, g⟩ := okB_nat h
  dsimp only at hv hu
  have hg := g.1
  have e : ((v : Int) % (n : Int)).toNat = v := by rw [Int.emod_eq_of_lt (by omega) hv]; rfl
  have hs := fun w => rolled_gives n u (v : Int) X O b.1 b.2 g (by omega) (by omega) w
  rw [e] at hs
  exact ⟨⟨((n : Int), rol n v u X n, rol n v u O n), isB_rol (by omega) (by omega), isB_rol (by omega) (by omega)⟩, okG_rol g, rfl, shift_gives n u v X O b.1 b.2 g (by omega) (by omega), hs⟩
open Classical in
noncomputable def canB (p : GridB) : GridB := if h : okB p then (can_res h).choose else p
open Classical in
noncomputable def rolB (p : GridB) (v u : Nat) : GridB := if h : okB p ∧ (v : Int) < p.1.1 ∧ (u : Int) < p.1.1 then (rol_res h.1 v u h.2.1 h.2.2).choose else p
noncomputable def mvB (p : GridB) : List MvB := mvI p.1.1.toNat p.1.2.1 p.1.2.2
theorem mv_resB {p : GridB} (h : okB p) {m : MvB} (hm : m ∈ mvB p) : ∃ q : GridB, okB q ∧
    (∀ w, Gives Try.prog 51 #[.agg (encG p).toArray, .agg (encMv m).toArray] (.agg (encG q).toArray) w) ∧
    (∀ w, Gives Try.prog 49 #[.agg (encG p).toArray, .agg (encMv m).toArray] (.agg (encG q).toArray) w) := by
  obtain ⟨n, X, O, b, rfl, g⟩ := okB_nat h
  unfold mvB at hm
  dsimp only at hm
  rw [Int.toNat_natCast] at hm
  exact mv_res b.1 b.2 g hm
open Classical in
noncomputable def resB (p : GridB) (m : MvB) : GridB := if h : okB p ∧ m ∈ mvB p then (mv_resB h.1 h.2).choose else p
theorem canB_spec {p : GridB} (h : okB p) : okB (canB p) ∧ (∀ w, Gives Try.prog 30 #[.agg (encG p).toArray] (.agg (encG (canB p)).toArray) w) ∧ (∀ w, Gives Try.prog 24 #[.agg (encG p).toArray] (.agg (encG (canB p)).toArray) w) := by
  unfold canB
  rw [dif_pos h]
  exact (can_res h).choose_spec.1
theorem canB_val {p : GridB} (h : okB p) : (canB p).1.1 = p.1.1 ∧ (canB p).1.2 = can p.1.1.toNat p.1.2 := by
  unfold canB
  rw [dif_pos h]
  exact (can_res h).choose_spec.2
theorem rolB_spec {p : GridB} (h : okB p) {v u : Nat} (hv : (v : Int) < p.1.1) (hu : (u : Int) < p.1.1) : okB (rolB p v u) ∧ (rolB p v u).1.1 = p.1.1 ∧ (∀ w, Gives Try.prog 47 #[.agg (encG p).toArray, .int .i64 (v : Int), .int .i64 (u : Int)] (.agg (encG (rolB p v u)).toArray) w) ∧ (∀ w, Gives Try.prog 43 #[.agg (encG p).toArray, .int .i64 (v : Int), .int .i64 (u : Int)] (.agg (encG (rolB p v u)).toArray) w) := by
  unfold rolB
  rw [dif_pos ⟨h, hv, hu⟩]
  exact (rol_res h v u hv hu).choose_spec
theorem resB_spec {p : GridB} (h : okB p) {m : MvB} (hm : m ∈ mvB p) : okB (resB p m) ∧
    (∀ w, Gives Try.prog 51 #[.agg (encG p).toArray, .agg (encMv m).toArray] (.agg (encG (resB p m)).toArray) w) ∧
    (∀ w, Gives Try.prog 49 #[.agg (encG p).toArray, .agg (encMv m).toArray] (.agg (encG (resB p m)).toArray) w) := by
  unfold resB
  rw [dif_pos ⟨h, hm⟩]
  exact (mv_resB h hm).choose_spec
/-- The neighbours of a grid. -/
def nbP (p y : GridB) : Prop := y ≠ canB p ∧ ∃ v u : Nat, (v : Int) < p.1.1 ∧ (u : Int) < p.1.1 ∧ ∃ m ∈ mvB (rolB p v u), y = canB (resB (rolB p v u) m)
end Go.Proofs.Ytflleelfkknfaaa
