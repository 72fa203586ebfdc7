/- Walks: slices.Clone, IndexFunc, DeleteFunc and MinFunc at lists of grids; the program's search for a smaller grid. -/
import Derived.Test.YtflleelfkknfaaaLG
import Derived.Test.YtflleelfkknfaaaAP
namespace Go.Proofs.Ytflleelfkknfaaa
open Go Go.RowKit SL
namespace SL
section
variable {P : Program} {B : Nat} {w0 : World} {n : Nat} {Q : Po} {F : Fr} {H : Hp} {ops : Array Oper} {l : List Oper} {ty : TypeId} {pos : String} {af : Array Edge} {d : Nat} {dst : Option Tmp} {g : Option (Nat × Bool)} {v : Value}
theorem q_callMc {f : Operand} {xs : List Operand} {Ts : Array TypeId} {k : FuncId} {args : List Value} {caps : Array Value} (hf : ev F f = some (.func (.func k) #[] caps)) (hxs : evs F xs = some args) (hk : Runs P k)
    (h : GivesM P k (args ++ caps.toList).toArray B w0 H v H) : OpQ P B w0 n H F ⟨dst, .call { callee := .value f, args := xs.toArray, argTypes := Ts }, ty, pos, af, g⟩ v := by
  unfold OpQ
  intro a ha w hw
  unfold Oper.quietAt
  rw [run_call ha hf hxs w]
  unfold GivesM at h
  exact ⟨rfl, h w hw⟩
theorem JqMc {dr : Bool} {f : Operand} {xs : List Operand} {Ts : Array TypeId} {k : FuncId} {args : List Value} {caps : Array Value} (hdn : Nat.blt d n = true) (hf : ev F f = some (.func (.func k) #[] caps)) (hxs : evs F xs = some args) (hk : Runs P k)
    (h : GivesM P k (args ++ caps.toList).toArray B w0 H v H) (kk : J dr P B w0 n ops Q l ((d, v) :: F) H) : J dr P B w0 n ops Q (⟨some d, .call { callee := .value f, args := xs.toArray, argTypes := Ts }, ty, pos, af, none⟩ :: l) F H := J_q hdn (q_callMc hf hxs hk h) kk
theorem run_eqNil {T e : TypeId} [hT : Un P T (.slice e)] {b : Option Addr} {m c : Nat} (x y : Operand) (w : World) :
    (do eqGuard .eql T x y (.slice b m c) (.slice none 0 0); binOp .eql T (.slice b m c) (.slice none 0 0) : Sem Value).run P w = .ok (.bool b.isNone) w := by
  have h1 : (Op.equal T (.slice b m c) (.slice none 0 0)).run P w = .ok b.isNone w := by
    show (Op.equalIn (_ + 1) T _ _).run P w = _
    unfold Op.equalIn
    rw [Sem.run_bind, run_underlying hT.out, Result.andThen_ok]
    cases b <;> rfl
  have h2 : (eqGuard .eql T x y (.slice b m c) (.slice none 0 0)).run P w = .ok () w := by
    unfold eqGuard
    rfl
  rw [Sem.run_bind, h2, Result.andThen_ok]
  show ((do pure (.bool (← Op.equal T (.slice b m c) (.slice none 0 0))) : Sem Value)).run P w = _
  rw [Sem.run_bind, h1]
  rfl
theorem Jq_eqNil {dr : Bool} {T T' e : TypeId} {x y : Operand} {b : Option Addr} {m c : Nat} {r : Bool} [hT : Un P T (.slice e)] (hdn : Nat.blt d n = true) (hx : ev F x = some (.slice b m c)) (hy : ev F y = some (.slice none 0 0)) (hr : b.isNone = r) (kk : J dr P B w0 n ops Q l ((d, .bool r) :: F) H) :
    J dr P B w0 n ops Q (⟨some d, .binOp .eql T x y T', ty, pos, af, none⟩ :: l) F H := Jq_bin hdn hx hy (fun w => by rw [run_eqNil x y w, hr]) kk
/-- What lies behind a row: nothing, or a slice of its own. -/
theorem JC_rowN {c : Code} {v : Value} {e sz : Nat} {xs : List Value} (hm : It.row v e sz xs ∈ H) (k1 : v = .slice none 0 0 → xs = [] → JC P B w0 n c Q F H) (k2 : ∀ gg m cap, v = .slice (some ⟨gg, 0, none⟩) m cap → m ≤ cap → xs.length = m * sz → JC P B w0 n c Q F H) : JC P B w0 n c Q F H := by
  unfold JC at *
  intro a w ha hw
  obtain ⟨m, h1, h2⟩ := hw.row_slice hm
  rcases h2 with ⟨rfl, rfl⟩ | ⟨gg, cap, _, rfl, _, _, hc, _⟩
  · rw [Nat.zero_mul] at h1
    exact k1 rfl (List.eq_nil_of_length_eq_zero h1) a w ha hw
  · exact k2 gg m cap rfl hc h1 a w ha hw
end
end SL
/-! Plain: what is kept. -/
def kpB (p x : GridB) : Bool := decide (x.1.1 < p.1.1)
def kp (p : GridB) (l : List GridB) : List GridB := l.filter (kpB p)
theorem kp_yes {p x : GridB} {l : List GridB} {j : Nat} (h : l[j]? = some x) (hx : x.1.1 < p.1.1) : kp p (l.take (j + 1)) = kp p (l.take j) ++ [x] := by
  rw [take_succ' h]; unfold kp; rw [List.filter_append]; simp [kpB, hx]
theorem kp_no {p x : GridB} {l : List GridB} {j : Nat} (h : l[j]? = some x) (hx : ¬ x.1.1 < p.1.1) : kp p (l.take (j + 1)) = kp p (l.take j) := by
  rw [take_succ' h]; unfold kp; rw [List.filter_append]; simp [kpB, hx]
theorem kp_all {p : GridB} {l : List GridB} (h : ∀ x ∈ l, x.1.1 < p.1.1) : kp p l = l := List.filter_eq_self.2 fun x hx => by simp [kpB, h x hx]
theorem kp_mem {p y : GridB} {l : List GridB} : y ∈ kp p l ↔ y ∈ l ∧ y.1.1 < p.1.1 := by unfold kp; rw [List.mem_filter]; simp [kpB]
theorem kp_len (p : GridB) (l : List GridB) : (kp p l).length ≤ l.length := List.length_filter_le _ _
/-- The second half of DeleteFunc's work: A is the row, i are kept, j have been read. -/
structure DI (p : GridB) (l A : List GridB) (i j : Nat) : Prop where
  len : A.length = l.length
  ij : i + 1 ≤ j
  jl : j ≤ l.length
  keep : ∀ t, j ≤ t → A[t]? = l[t]?
  pre : A.take i = kp p (l.take j)
theorem DI.start {p x : GridB} {l : List GridB} {i : Nat} (h : l[i]? = some x) (hx : ¬ x.1.1 < p.1.1) (ha : ∀ y ∈ l.take i, y.1.1 < p.1.1) : DI p l l i (i + 1) := by
  obtain ⟨hi, _⟩ := List.getElem?_eq_some_iff.1 h
  exact ⟨rfl, Nat.le_refl _, hi, fun _ _ => rfl, by rw [kp_no h hx, kp_all ha]⟩
theorem DI.no {p x : GridB} {l A : List GridB} {i j : Nat} (h : DI p l A i j) (hx : l[j]? = some x) (hn : ¬ x.1.1 < p.1.1) : DI p l A i (j + 1) := by
  obtain ⟨hj, _⟩ := List.getElem?_eq_some_iff.1 hx
  exact ⟨h.len, by have := h.ij; omega, hj, fun t ht => h.keep t (by omega), by rw [kp_no hx hn]; exact h.pre⟩
theorem DI.yes {p x : GridB} {l A : List GridB} {i j : Nat} (h : DI p l A i j) (hx : l[j]? = some x) (hy : x.1.1 < p.1.1) : DI p l (A.set i x) (i + 1) (j + 1) := by
  obtain ⟨hj, _⟩ := List.getElem?_eq_some_iff.1 hx
  have hij := h.ij
  have hlen := h.len
  refine ⟨by rw [List.length_set]; exact hlen, by omega, hj, fun t ht => by rw [List.getElem?_set_ne (by omega)]; exact h.keep t (by omega), ?_⟩
  have e : (A.set i x)[i]? = some x := by rw [List.getElem?_set_self (by omega)]
  rw [take_succ' e, List.take_set_of_le (Nat.le_refl _), h.pre, kp_yes hx hy]
/-! The walks. -/
set_option maxRecDepth 100000 in
theorem clone_gives {B : Nat} {w0 : World} {H : Hp} {v : Value} (l : List GridB) (hv : It.row v 27 17 (l.flatMap encG) ∈ H) (hl : l.length ≤ 1000000) :
    GivesE Try.prog 60 #[v] B w0 H (fun v' H' => H' = .row v' 27 17 (l.flatMap encG) :: H) := by
  have lf := flat_len l
  have h1 := flat_one l
  refine givesE_of (args := [v]) [(0, v)] Try.func60 rfl Try.ntmps60 rfl (argsF_cons rfl argsF_nil) ?_
  refine JC_rowN hv ?_ ?_
  · intro e1' e2'
    subst e1'
    refine JC_nilrow (e := 27) (sz := 17) ?_
    repeat' (first | (apply Jq_eqNil; exact rfl; exact rfl; exact rfl; exact rfl) | (apply Jq_move; exact rfl; exact rfl) | (apply Jq_assign; exact rfl; exact rfl) | refine thenQ_normal ?_ | refine thenQ_ret ?_ | refine JC_seq ?_ | refine JC_region ?_ | refine J_nil ?_ | refine JC_ret ?_ | (apply JC_if_true; exact rfl))
    rw [e2']
    refine e1 rfl rfl rfl ?_ rfl
    (refine ent ?_ ?_; (repeat refine fr_cons rfl ?_); exact fr_nil; (repeat (exact List.Sublist.refl _)))
  · intro gg m cap e1' _ _
    subst e1'
    repeat' (first | (apply Jq_eqNil; exact rfl; exact rfl; exact rfl; exact rfl) | (apply J_apR; decide; exact rfl; exact rfl; exact rfl; infer_instance; exact mS hv; exact h1; ((show (_ + _) * _ ≤ _); simp only [List.length_nil]; omega); decide; exact rfl; (intro v')) | (apply Jq_move; exact rfl; exact rfl) | (apply Jq_assign; exact rfl; exact rfl) | (apply J_lit0; exact rfl; (intro _)) | refine thenQ_normal ?_ | refine JC_seq ?_ | refine JC_region ?_ | refine J_nil ?_ | refine JC_skip ?_ | refine JC_ret ?_ | (apply JC_if_false; exact rfl))
    refine e1 rfl rfl rfl ?_ rfl
    (refine ent ?_ ?_; (repeat refine fr_cons rfl ?_); exact fr_nil; (repeat (exact List.Sublist.refl _)))
set_option maxRecDepth 100000 in
theorem del_gives {B : Nat} {w0 : World} {H : Hp} {b : Nat} {T : TypeId} (x p : GridB) {r : Bool} (hb : It.blk b (encG p) T ∈ H) (hr : decide (p.1.1 ≤ x.1.1) = r) :
    GivesM Try.prog 61 #[.agg (encG x).toArray, .pointer (some ⟨b, 0, none⟩)] B w0 H (.bool r) H := by
  subst hr
  have ux := encG_len x
  have up := encG_len p
  have h1 : ∀ x : GridB, ∀ u ∈ encG x, u.oneCell' = true := fun x => gv_one _ _ _
  refine givesM_of (args := [.agg (encG x).toArray, .pointer (some ⟨b, 0, none⟩)]) [(0, .agg (encG x).toArray), (1, .pointer (some ⟨b, 0, none⟩))] Try.func61 rfl Try.ntmps61 rfl (argsF_cons rfl (argsF_cons rfl argsF_nil)) ?_
  repeat' (first | (apply Jq_load; exact rfl; exact rfl; exact mS hb; exact rfl) | (apply Jq_assign; exact rfl; exact rfl) | (apply Jq_load; exact rfl; exact rfl; (exact mb); (exact rfl)) | (apply Jq_fieldAddr; exact rfl; exact rfl) | (apply Jq_cmp; exact rfl; exact rfl; exact rfl; exact rfl) | (apply J_box; exact rfl; exact rfl; exact rfl; (intro _)) | refine thenQ_normal ?_ | refine JC_seq ?_ | refine JC_region ?_ | refine J_nil ?_ | refine JC_ret ?_)
  refine m1 rfl rfl rfl rfl ?_
  (refine ent ?_ ?_; (repeat refine fr_cons rfl ?_); exact fr_nil; (repeat (first | exact List.Sublist.refl _ | refine List.Sublist.cons _ ?_)))
def dfn (b : Nat) : Value := .func (.func 61) #[] #[.pointer (some ⟨b, 0, none⟩)]
set_option maxRecDepth 100000 in
theorem idx_gives {B : Nat} {w0 : World} {H : Hp} {v : Value} {b : Nat} {T : TypeId} (l : List GridB) (p : GridB) (hv : It.row v 27 17 (l.flatMap encG) ∈ H) (hb : It.blk b (encG p) T ∈ H) (hl : l.length ≤ 1000000) :
    GivesE Try.prog 91 #[v, dfn b] B w0 H (fun v' H' => H' = H ∧ ((v' = .int .i64 (-1) ∧ ∀ x ∈ l, x.1.1 < p.1.1) ∨ ∃ (i : Nat) (x : GridB), v' = .int .i64 (i : Int) ∧ l[i]? = some x ∧ ¬ x.1.1 < p.1.1 ∧ ∀ y ∈ l.take i, y.1.1 < p.1.1)) := by
  have lf := flat_len l
  have iv : RB v H 27 17 (l.flatMap encG) := ⟨hv⟩
  have hone : ∀ x : GridB, ∀ u ∈ encG x, u.oneCell' = true := fun x => gv_one _ _ _
  unfold dfn
  refine givesE_of (args := [v, .func (.func 61) #[] #[.pointer (some ⟨b, 0, none⟩)]]) [(0, v), (1, .func (.func 61) #[] #[.pointer (some ⟨b, 0, none⟩)])] Try.func91 rfl Try.ntmps91 rfl (argsF_cons rfl (argsF_cons rfl argsF_nil)) ?_
  repeat' (first | (apply Jq_move; exact rfl; exact rfl) | (apply Jq_assign; exact rfl; exact rfl) | (apply Jq_lenRs; exact rfl; exact rfl; (exact rb); exact lf; decide) | refine thenQ_normal ?_ | refine JC_seq ?_ | refine JC_region ?_ | refine J_nil ?_ | refine JC_block ?_)
  refine JC_loop (X := Nat) (fun j => j ≤ l.length ∧ ∀ y ∈ l.take j, y.1.1 < p.1.1) (fun j => [(8, .int .i64 (j : Int)), (7, .int .i64 (l.length : Int)), (1, .func (.func 61) #[] #[.pointer (some ⟨b, 0, none⟩)]), (0, v)]) (fun _ => H) (fun j => l.length - j) 0 ⟨Nat.zero_le _, fun y hy => by rw [List.take_zero] at hy; cases hy⟩ ?_ ?_
  · (refine ent ?_ ?_; (repeat refine fr_cons rfl ?_); exact fr_nil; (repeat (exact List.Sublist.refl _)))
  · rintro j ⟨hj, ha⟩
    by_cases hlt : j < l.length
    · obtain ⟨x, hx⟩ : ∃ x, l[j]? = some x := ⟨_, List.getElem?_eq_getElem hlt⟩
      have ux := encG_len x
      by_cases hxp : x.1.1 < p.1.1
      · have c1 : decide (p.1.1 ≤ x.1.1) = false := decide_eq_false (by omega)
        repeat' (first | (apply JqMc; exact rfl; exact rfl; exact rfl; infer_instance; exact del_gives x p hb c1) | (apply Jq_move; exact rfl; exact rfl) | (apply Jq_assign; exact rfl; exact rfl) | (apply Jq_cmp; exact rfl; exact rfl; exact rfl; exact rfl) | (apply Jq_add; exact rfl; exact rfl; exact rfl; omega) | (apply Jq_indexRs; exact rfl; exact rfl; exact rfl; (exact rb); omega) | (apply Jq_loadRA; exact rfl; exact rfl; (exact rb); (exact flat_at hx); (omega); decide) | refine thenQ_normal ?_ | refine inBlockQ_normal ?_ | refine JC_seq ?_ | refine JC_region ?_ | refine J_nil ?_ | refine JC_block ?_ | refine JC_skip ?_ | (apply JC_if_false; exact rfl) | (apply JC_dec_true; exact rfl; omega))
        refine ⟨j + 1, ⟨by omega, fun y hy => ?_⟩, by omega, ?_⟩
        · rw [take_succ' hx, List.mem_append, List.mem_singleton] at hy
          rcases hy with hy | rfl
          · exact ha y hy
          · exact hxp
        · (refine ent ?_ ?_; (repeat refine fr_cons rfl ?_); exact fr_nil; (repeat (exact List.Sublist.refl _)))
      · have c1 : decide (p.1.1 ≤ x.1.1) = true := decide_eq_true (by omega)
        repeat' (first | (apply JqMc; exact rfl; exact rfl; exact rfl; infer_instance; exact del_gives x p hb c1) | (apply Jq_move; exact rfl; exact rfl) | (apply Jq_assign; exact rfl; exact rfl) | (apply Jq_cmp; exact rfl; exact rfl; exact rfl; exact rfl) | (apply Jq_indexRs; exact rfl; exact rfl; exact rfl; (exact rb); omega) | (apply Jq_loadRA; exact rfl; exact rfl; (exact rb); (exact flat_at hx); (omega); decide) | refine thenQ_normal ?_ | refine thenQ_ret ?_ | refine inBlockQ_ret ?_ | refine JC_seq ?_ | refine JC_region ?_ | refine J_nil ?_ | refine JC_block ?_ | refine JC_skip ?_ | refine JC_ret ?_ | (apply JC_if_true; exact rfl) | (apply JC_dec_true; exact rfl; omega))
        refine e1 rfl rfl rfl ?_ ⟨rfl, .inr ⟨j, x, rfl, hx, hxp, ha⟩⟩
        (refine ent ?_ ?_; (repeat refine fr_cons rfl ?_); exact fr_nil; (repeat (exact List.Sublist.refl _)))
    · obtain rfl : j = l.length := by omega
      repeat' (first | (apply Jq_assign; exact rfl; exact rfl) | (apply Jq_cmp; exact rfl; exact rfl; exact rfl; exact rfl) | refine thenQ_normal ?_ | refine thenQ_exit ?_ | refine inBlockQ_here ?_ | refine JC_seq ?_ | refine JC_region ?_ | refine J_nil ?_ | refine JC_ret ?_ | refine JC_exit ?_ | (apply JC_dec_false; exact rfl; omega))
      refine e1 rfl rfl rfl ?_ ⟨rfl, .inl ⟨rfl, by rwa [List.take_length] at ha⟩⟩
      (refine ent ?_ ?_; (repeat refine fr_cons rfl ?_); exact fr_nil; (repeat (exact List.Sublist.refl _)))
set_option maxRecDepth 100000 in
theorem delf_gives {B : Nat} {w0 : World} {H2 : Hp} {v : Value} {b : Nat} {T : TypeId} (l : List GridB) (p : GridB) (hb : It.blk b (encG p) T ∈ H2) (hl : l.length ≤ 1000000) :
    GivesE Try.prog 59 #[v, dfn b] B w0 (.row v 27 17 (l.flatMap encG) :: H2) (fun v' H' => H' = .row v' 27 17 ((kp p l).flatMap encG) :: H2) := by
  have lf := flat_len l
  have hone : ∀ x : GridB, ∀ u ∈ encG x, u.oneCell' = true := fun x => gv_one _ _ _
  unfold dfn
  refine givesE_of (args := [v, .func (.func 61) #[] #[.pointer (some ⟨b, 0, none⟩)]]) [(0, v), (1, .func (.func 61) #[] #[.pointer (some ⟨b, 0, none⟩)])] Try.func59 rfl Try.ntmps59 rfl (argsF_cons rfl (argsF_cons rfl argsF_nil)) ?_
  repeat' (first | (apply JcE; exact rfl; exact rfl; exact rfl; infer_instance; (exact idx_gives l p m0 (mS hb) hl); (intro v' H' hV; obtain ⟨rfl, hV⟩ := hV; rcases hV with ⟨rfl, hall⟩ | ⟨i, x, rfl, hx, hxp, ha⟩; rotate_left; have hil := (List.getElem?_eq_some_iff.1 hx).1)) | (apply Jq_move; exact rfl; exact rfl) | (apply Jq_assign; exact rfl; exact rfl) | (apply Jq_cmp; exact rfl; exact rfl; exact rfl; exact rfl) | (apply Jq_add; exact rfl; exact rfl; exact rfl; omega) | refine thenQ_normal ?_ | refine thenQ_ret ?_ | refine JC_seq ?_ | refine JC_region ?_ | refine J_nil ?_ | refine JC_block ?_ | refine JC_skip ?_ | refine JC_ret ?_ | (apply JC_if_true; exact rfl) | (apply JC_if_false; exact rfl))
  rotate_left
  · rw [kp_all hall]
    refine e1 rfl rfl rfl ?_ rfl
    (refine ent ?_ ?_; (repeat refine fr_cons rfl ?_); exact fr_nil; (repeat (exact List.Sublist.refl _)))
  · refine JC_rowV (v := v) (e := 27) (sz := 17) (xs := l.flatMap encG) m0 (fun h => by rw [h] at lf; simp only [List.length_nil] at lf; omega) ?_
    intro gg m cap hv hmc hm
    subst hv
    obtain rfl : m = l.length := by omega
    refine JC_loop (X := List GridB × Nat × Nat) (fun q => DI p l q.1 q.2.1 q.2.2) (fun q => [(6, .int .i64 (q.2.2 : Int)), (5, .int .i64 (q.2.1 : Int)), (1, .func (.func 61) #[] #[.pointer (some ⟨b, 0, none⟩)]), (0, .slice (some ⟨gg, 0, none⟩) l.length cap)]) (fun q => .row (.slice (some ⟨gg, 0, none⟩) l.length cap) 27 17 (q.1.flatMap encG) :: H2) (fun q => l.length - q.2.2) (l, i, i + 1) (DI.start hx hxp ha) ?_ ?_
    · dsimp only
      (refine ent ?_ ?_; (repeat refine fr_cons rfl ?_); exact fr_nil; (repeat (exact List.Sublist.refl _)))
    · clear hx hxp ha hil lf hm
      clear x i
      rintro ⟨A, i, j⟩ hI
      dsimp only at hI ⊢
      have lA := flat_len A
      have hlen := hI.len
      have hij := hI.ij
      have hjl := hI.jl
      by_cases hlt : j < l.length
      · obtain ⟨x, hx⟩ : ∃ x, l[j]? = some x := ⟨_, List.getElem?_eq_getElem hlt⟩
        have ux := encG_len x
        have f1 := flat_at0 (show 0 + j * 17 = j * 17 by omega) ((hI.keep j (Nat.le_refl _)).trans hx)
        by_cases hxp : x.1.1 < p.1.1
        · have c1 : decide (p.1.1 ≤ x.1.1) = false := decide_eq_false (by omega)
          have hst := flat_set (A := A) (k := i) (x := x) (by omega)
          repeat' (first | (apply Jq_loadRA (v := .slice (some ⟨gg, 0, none⟩) l.length cap); exact rfl; exact rfl; exact m0; exact f1; exact ux; decide) | (apply JqMc; exact rfl; exact rfl; exact rfl; infer_instance; exact del_gives x p (mS (mS hb)) c1) | (apply J_sRA (v := .slice (some ⟨gg, 0, none⟩) l.length cap) (xs := A.flatMap encG); exact rfl; exact rfl; infer_instance; exact ux; exact hone x; decide; omega; exact hst) | (apply Jq_move; exact rfl; exact rfl) | (apply Jq_assign; exact rfl; exact rfl) | (apply Jq_indexSN; exact rfl; exact rfl; exact rfl; omega) | (apply Jq_cmp; exact rfl; exact rfl; exact rfl; exact rfl) | (apply Jq_add; exact rfl; exact rfl; exact rfl; omega) | (apply Jq_not; exact rfl; exact rfl) | (apply Jq_loadW; exact rfl; exact rfl; (exact mb); (omega)) | (apply J_sW; exact rfl; exact rfl; infer_instance; (exact rfl); (omega); (exact gv_one _ _ _); infer_instance) | (apply Jq_len; exact rfl; exact rfl) | (apply J_alloc (cs := gv 0 Z8 Z8); exact rfl; exact rfl; (intro _)) | refine thenQ_normal ?_ | refine inBlockQ_normal ?_ | refine JC_seq ?_ | refine JC_region ?_ | refine J_nil ?_ | refine JC_block ?_ | refine JC_skip ?_ | (apply JC_if_true; exact rfl) | (apply JC_dec_true; exact rfl; omega))
          refine ⟨(A.set i x, i + 1, j + 1), hI.yes hx hxp, by (dsimp only; omega), ?_⟩
          dsimp only
          (refine entP (ent ?_ (List.nil_sublist _)) ?_; (repeat refine fr_cons rfl ?_); exact fr_nil; (repeat (exact sp_end)))
        · have c1 : decide (p.1.1 ≤ x.1.1) = true := decide_eq_true (by omega)
          repeat' (first | (apply Jq_loadRA (v := .slice (some ⟨gg, 0, none⟩) l.length cap); exact rfl; exact rfl; exact m0; exact f1; exact ux; decide) | (apply JqMc; exact rfl; exact rfl; exact rfl; infer_instance; exact del_gives x p (mS (mS hb)) c1) | (apply Jq_move; exact rfl; exact rfl) | (apply Jq_assign; exact rfl; exact rfl) | (apply Jq_indexSN; exact rfl; exact rfl; exact rfl; omega) | (apply Jq_cmp; exact rfl; exact rfl; exact rfl; exact rfl) | (apply Jq_add; exact rfl; exact rfl; exact rfl; omega) | (apply Jq_not; exact rfl; exact rfl) | (apply Jq_loadW; exact rfl; exact rfl; (exact mb); (omega)) | (apply J_sW; exact rfl; exact rfl; infer_instance; (exact rfl); (omega); (exact gv_one _ _ _); infer_instance) | (apply Jq_len; exact rfl; exact rfl) | (apply J_alloc (cs := gv 0 Z8 Z8); exact rfl; exact rfl; (intro _)) | refine thenQ_normal ?_ | refine inBlockQ_normal ?_ | refine JC_seq ?_ | refine JC_region ?_ | refine J_nil ?_ | refine JC_block ?_ | refine JC_skip ?_ | (apply JC_if_false; exact rfl) | (apply JC_dec_true; exact rfl; omega))
          refine ⟨(A, i, j + 1), hI.no hx hxp, by (dsimp only; omega), ?_⟩
          dsimp only
          (refine entP (ent ?_ (List.nil_sublist _)) ?_; (repeat refine fr_cons rfl ?_); exact fr_nil; (repeat (exact sp_end)))
      · obtain rfl : j = l.length := by omega
        have hiN : i < l.length := by omega
        have e1' := flat_take A i
        have hpre := hI.pre
        rw [List.take_length] at hpre
        repeat' (first | (apply Jq_cutLo; exact rfl; exact rfl; exact rfl; exact hmc; exact hiN) | (apply J_clear (gg := gg) (cap := cap) (N := l.length) (k := i) (e := 27) (s := 17) (xs := A.flatMap encG); decide; exact rfl; infer_instance; exact hiN; exact (fun u hu => gv_one 0 Z8 Z8 u hu.val)) | (apply Jq_cutHi; exact rfl; exact rfl; exact rfl; exact hmc; omega; omega) | (apply Jq_move; exact rfl; exact rfl) | (apply Jq_assign; exact rfl; exact rfl) | (apply Jq_cmp; exact rfl; exact rfl; exact rfl; exact rfl) | (apply Jq_len; exact rfl; exact rfl) | refine thenQ_normal ?_ | refine thenQ_exit ?_ | refine inBlockQ_here ?_ | refine JC_seq ?_ | refine JC_region ?_ | refine J_nil ?_ | refine JC_ret ?_ | refine JC_exit ?_ | (apply JC_dec_false; exact rfl; omega))
        refine e1 rfl rfl rfl ?_ rfl
        rw [← hpre, ← e1']
        (refine ent ?_ ?_; (repeat refine fr_cons rfl ?_); exact fr_nil; (repeat (exact List.Sublist.refl _)))
/-- The least grid of a list. -/
def isLeast (l : List GridB) (m : GridB) : Prop := m ∈ l ∧ ∀ y ∈ l, rkG m ≤ rkG y
theorem isLeast.old {l : List GridB} {m x : GridB} {j : Nat} (h : isLeast (l.take j) m) (hx : l[j]? = some x) (hc : ¬ rkG x < rkG m) : isLeast (l.take (j + 1)) m := by
  rw [take_succ' hx]
  refine ⟨List.mem_append.2 (.inl h.1), fun y hy => ?_⟩
  rcases List.mem_append.1 hy with hy | hy
  · exact h.2 y hy
  · rw [List.mem_singleton] at hy; subst hy; omega
theorem isLeast.new {l : List GridB} {m x : GridB} {j : Nat} (h : isLeast (l.take j) m) (hx : l[j]? = some x) (hc : rkG x < rkG m) : isLeast (l.take (j + 1)) x := by
  rw [take_succ' hx]
  refine ⟨List.mem_append.2 (.inr (List.mem_singleton.2 rfl)), fun y hy => ?_⟩
  rcases List.mem_append.1 hy with hy | hy
  · have := h.2 y hy; omega
  · rw [List.mem_singleton] at hy; subst hy; exact Int.le_refl _
set_option maxRecDepth 100000 in
theorem minf_gives {B : Nat} {w0 : World} {H : Hp} {v : Value} (l : List GridB) (hv : It.row v 27 17 (l.flatMap encG) ∈ H) (h0 : 0 < l.length) (hl : l.length ≤ 1000000) :
    GivesE Try.prog 62 #[v, .func (.func 38) #[] #[]] B w0 H (fun v' H' => H' = H ∧ ∃ m, isLeast l m ∧ v' = .agg (encG m).toArray) := by
  have lf := flat_len l
  have iv : RB v H 27 17 (l.flatMap encG) := ⟨hv⟩
  have hone : ∀ x : GridB, ∀ u ∈ encG x, u.oneCell' = true := fun x => gv_one _ _ _
  obtain ⟨x0, hx0⟩ : ∃ x, l[0]? = some x := ⟨_, List.getElem?_eq_getElem h0⟩
  have ux0 := encG_len x0
  have f0 := flat_at0 (show 0 = 0 * 17 by omega) hx0
  refine givesE_of (args := [v, .func (.func 38) #[] #[]]) [(0, v), (1, .func (.func 38) #[] #[])] Try.func62 rfl Try.ntmps62 rfl (argsF_cons rfl (argsF_cons rfl argsF_nil)) ?_
  repeat' (first | (apply Jq_indexRs (i := 0); exact rfl; exact rfl; exact rfl; exact rb; omega) | (apply Jq_move; exact rfl; exact rfl) | (apply Jq_assign; exact rfl; exact rfl) | (apply Jq_cmp; exact rfl; exact rfl; exact rfl; exact rfl) | (apply J_sW; exact rfl; exact rfl; infer_instance; (exact rfl); (omega); (exact gv_one _ _ _); infer_instance) | (apply Jq_lenRs; exact rfl; exact rfl; (exact rb); exact lf; decide) | (apply Jq_loadRA; exact rfl; exact rfl; (exact rb); (exact f0); (omega); decide) | (apply J_alloc (cs := gv 0 Z8 Z8); exact rfl; exact rfl; (intro _)) | refine thenQ_normal ?_ | refine JC_seq ?_ | refine JC_region ?_ | refine J_nil ?_ | refine JC_block ?_ | refine JC_skip ?_ | (apply JC_dec_false; exact rfl; omega))
  rename_i b4 b5
  refine JC_loop (X := Nat × GridB) (fun q => 1 ≤ q.1 ∧ q.1 ≤ l.length ∧ isLeast (l.take q.1) q.2) (fun q => [(6, .int .i64 (q.1 : Int)), (5, .pointer (some ⟨b5, 0, none⟩)), (4, .pointer (some ⟨b4, 0, none⟩)), (1, .func (.func 38) #[] #[]), (0, v)]) (fun q => .blk b5 (encG q.2) 27 :: .blk b4 (gv 0 Z8 Z8) 27 :: H) (fun q => l.length - q.1) (1, x0) ⟨Nat.le_refl _, h0, ?_⟩ ?_ ?_
  · rw [take_succ' hx0]
    exact ⟨by simp, fun y hy => by simp at hy; subst hy; exact Int.le_refl _⟩
  · dsimp only
    (refine entP (ent ?_ (List.nil_sublist _)) ?_; (repeat refine fr_cons rfl ?_); exact fr_nil; (repeat (exact sp_refl)))
  · rintro ⟨j, m⟩ ⟨hj1, hj, hm⟩
    dsimp only at hj1 hj hm ⊢
    have um := encG_len m
    by_cases hlt : j < l.length
    · obtain ⟨x, hx⟩ : ∃ x, l[j]? = some x := ⟨_, List.getElem?_eq_getElem hlt⟩
      have ux := encG_len x
      have hc := cfG_rk x m
      unfold cfG at hc
      by_cases hxm : rkG x < rkG m
      · have hneg := hc.2 hxm
        repeat' (first | (apply JC_draw mixed; kernel_rfl) | (apply Jq_move; exact rfl; exact rfl) | (apply Jq_assign; exact rfl; exact rfl) | (apply Jq_cmp; exact rfl; exact rfl; exact rfl; exact rfl) | (apply Jq_add; exact rfl; exact rfl; exact rfl; omega) | (apply Jc; exact rfl; exact rfl; exact rfl; infer_instance; ((intro w hw); exact compare_gives x.1.1 m.1.1 x.1.2.1 x.1.2.2 m.1.2.1 m.1.2.2 x.2.1 x.2.2 m.2.1 m.2.2 w)) | (apply Jq_loadW; exact rfl; exact rfl; (exact mb); (omega)) | (apply J_sW; exact rfl; exact rfl; infer_instance; (omega); (omega); (exact gv_one _ _ _); infer_instance) | (apply Jq_lenRs; exact rfl; exact rfl; (exact rb); exact lf; decide) | (apply Jq_indexRs; exact rfl; exact rfl; exact rfl; (exact rb); omega) | (apply Jq_loadRA; exact rfl; exact rfl; (exact rb); (exact flat_at hx); (omega); decide) | refine thenQ_normal ?_ | refine inBlockQ_normal ?_ | refine JC_seq ?_ | refine JC_region ?_ | refine J_nil ?_ | refine JC_block ?_ | refine JC_skip ?_ | (apply JC_dec_true; exact rfl; omega))
        refine ⟨(j + 1, x), ⟨by dsimp only; omega, by dsimp only; omega, hm.new hx hxm⟩, by dsimp only; omega, ?_⟩
        dsimp only
        (refine entP (ent ?_ (List.nil_sublist _)) ?_; (repeat refine fr_cons rfl ?_); exact fr_nil; (repeat (exact sp_refl)))
      · have hneg := fun h => hxm (hc.1 h)
        repeat' (first | (apply JC_draw mixed; kernel_rfl) | (apply Jq_move; exact rfl; exact rfl) | (apply Jq_assign; exact rfl; exact rfl) | (apply Jq_cmp; exact rfl; exact rfl; exact rfl; exact rfl) | (apply Jq_add; exact rfl; exact rfl; exact rfl; omega) | (apply Jc; exact rfl; exact rfl; exact rfl; infer_instance; ((intro w hw); exact compare_gives x.1.1 m.1.1 x.1.2.1 x.1.2.2 m.1.2.1 m.1.2.2 x.2.1 x.2.2 m.2.1 m.2.2 w)) | (apply Jq_loadW; exact rfl; exact rfl; (exact mb); (omega)) | (apply Jq_lenRs; exact rfl; exact rfl; (exact rb); exact lf; decide) | (apply Jq_indexRs; exact rfl; exact rfl; exact rfl; (exact rb); omega) | (apply Jq_loadRA; exact rfl; exact rfl; (exact rb); (exact flat_at hx); (omega); decide) | refine thenQ_normal ?_ | refine inBlockQ_normal ?_ | refine JC_seq ?_ | refine JC_region ?_ | refine J_nil ?_ | refine JC_block ?_ | refine JC_skip ?_ | (apply JC_dec_true; exact rfl; omega) | (apply JC_dec_false; exact rfl; omega))
        refine ⟨(j + 1, m), ⟨by dsimp only; omega, by dsimp only; omega, hm.old hx hxm⟩, by dsimp only; omega, ?_⟩
        dsimp only
        (refine entP (ent ?_ (List.nil_sublist _)) ?_; (repeat refine fr_cons rfl ?_); exact fr_nil; (repeat (exact sp_refl)))
    · obtain rfl : j = l.length := by omega
      rw [List.take_length] at hm
      repeat' (first | (apply Jq_move; exact rfl; exact rfl) | (apply Jq_cmp; exact rfl; exact rfl; exact rfl; exact rfl) | (apply Jq_loadW; exact rfl; exact rfl; (exact mb); (omega)) | (apply J_sW; exact rfl; exact rfl; infer_instance; (exact rfl); (omega); (exact gv_one _ _ _); infer_instance) | (apply Jq_lenRs; exact rfl; exact rfl; (exact rb); exact lf; decide) | refine thenQ_normal ?_ | refine thenQ_exit ?_ | refine inBlockQ_here ?_ | refine JC_seq ?_ | refine JC_region ?_ | refine J_nil ?_ | refine JC_ret ?_ | refine JC_exit ?_ | (apply JC_dec_false; exact rfl; omega))
      refine eC (b := b4) rfl rfl rfl (mS m0) um ?_ ⟨rfl, m, hm, rfl⟩
      (refine entP (ent ?_ (List.nil_sublist _)) ?_; (repeat refine fr_cons rfl ?_); exact fr_nil; (repeat (exact sp_end)))
end Go.Proofs.Ytflleelfkknfaaa
