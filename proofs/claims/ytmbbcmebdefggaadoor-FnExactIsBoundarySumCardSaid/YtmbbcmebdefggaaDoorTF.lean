/- Walks: the reading of lists of states: out of arguments, equal, marked, held. -/
import Derived.Test.YtmbbcmebdefggaaDoorFL
import Derived.Test.YtmbbcmebdefggaaDoorAP
import Derived.Test.YtmbbcmebdefggaaDoorWC
namespace Go.Proofs.YtmbbcmebdefggaaDoor
open Go Go.RowKit SL
namespace SL
section
variable {P : Program} {B : Nat} {w0 : World} {n : Nat} {Q : Po} {F : Fr} {H H1 H2 : Hp} {ops : Array Oper} {l : List Oper} {ty : TypeId} {pos : String} {af : Array Edge} {d : Nat} {dst : Option Tmp} {g : Option (Nat × Bool)}
/-- A store of some cells into a row. -/
theorem J_sRA {T e : TypeId} {x y : Operand} {o s sz : Nat} {xs xs' ds : List Value} {v : Value} {H' : Value → List Value → Hp} [hT : IsAg P T s] (hx : ev F x = some (.pointer (some ⟨gb v, o, none⟩))) (hy : ev F y = some (.agg ds.toArray)) (hu : RF v H e sz xs H') (hc : ds.length = s) (h1 : ∀ u ∈ ds, u.oneCell' = true)
    (hs : 0 < s) (hl : o + s ≤ xs.length) (hcs : xs.take o ++ ds ++ xs.drop (o + s) = xs') (k : J false P B w0 n ops Q l F (H' v xs')) : J false P B w0 n ops Q (⟨none, .store T x y, ty, pos, af, none⟩ :: l) F H := by
  obtain ⟨H1, H2, rfl, h2⟩ := hu.out
  clear hu
  refine J_doS fun a w ha hw => ?_
  obtain ⟨m, hown⟩ := hw.row_slice (v := v) (e := e) (sz := sz) (xs := xs) (by simp)
  rcases hown.2 with ⟨rfl, h0⟩ | ⟨gg, cap, cur, rfl, hB, hg, hnc, hcm, hsz, htake⟩
  · have := hown.1
    subst h0
    rw [Nat.zero_mul] at this
    omega
  · have hxl : xs.length ≤ cur.size := by rw [hown.1, hsz]; exact Nat.mul_le_mul_right _ hnc
    have hx' := ha.ev hx
    have hgb : gb (.slice (some ⟨gg, 0, none⟩) m cap) = gg := rfl
    rw [hgb] at hx'
    have hr := storeRun (P := P) (w := w) (b := gg) (o := o) (v := .agg ds.toArray) (E := e) (cur := cur) (sizeOf_run hT.out.1) (by simpa [Value.cells] using hc) (by simpa [Value.cells] using h1) hg (by omega)
    have k' : J false P B w0 n ops Q l F (H1 ++ .row (.slice (some ⟨gg, 0, none⟩) m cap) e sz xs' :: H2) := by rw [← h2]; exact k
    refine ⟨w.setRow gg (cur.toList.take o ++ (Value.agg ds.toArray).cells.toList ++ cur.toList.drop (o + s)).toArray, H1 ++ .row (.slice (some ⟨gg, 0, none⟩) m cap) e sz xs' :: H2, ?_, ?_, k'⟩
    · simp only [execOp, hx', ha.ev hy]
      rw [Sem.run_bind, hr]; rfl
    · refine hw.swap rfl rfl rfl (by simp) (Nat.le_refl _) (fun k _ hk => setRow_other w gg k _ (fun e' => hk (by rw [e']; rfl))) ⟨m, ?_, .inr ⟨gg, cap, _, rfl, hB, setRow_heap w gg _ _ e _ hg, hnc, hcm, ?_, ?_⟩⟩ (fun k hk => .inl hk)
      · rw [← hcs]
        simp only [List.length_append, List.length_take, List.length_drop, hc]
        rw [← hown.1]; omega
      · simp only [Value.cells, List.size_toArray, List.length_append, List.length_take, List.length_drop, Array.length_toList, hc]
        rw [← hsz]; omega
      · rw [← hcs]
        simp only [Value.cells]
        have e1 : xs.take o = cur.toList.take o := by rw [← htake, List.take_take, Nat.min_eq_left (by rw [← hown.1]; omega)]
        have e2 : xs.drop (o + s) = (cur.toList.drop (o + s)).take (m * sz - (o + s)) := by rw [← htake, List.drop_take]
        rw [e1, e2, List.append_assoc, List.append_assoc, List.take_append, List.take_append]
        have h3 : (cur.toList.take o).length = o := by rw [List.length_take, Array.length_toList]; omega
        have hms : o + s ≤ m * sz := by rw [← hown.1]; exact hl
        rw [h3, List.take_take, Nat.min_eq_right (by omega), List.take_of_length_le (l := ds) (by omega), hc]
        congr 3
        omega
theorem q_loadDA {T : TypeId} {x : Operand} {s b o off j : Nat} {cs ds : List Value} [hT : IsAg P T s] (hx : ev F x = some (.pointer (some ⟨b, o, none⟩))) (hm : It.rd b off cs ∈ H) (ho : o = off + j) (hd : (cs.drop j).take s = ds) (hl : ds.length = s) :
    OpQ P B w0 n H F ⟨dst, .load T x, ty, pos, af, g⟩ (.agg ds.toArray) :=
  opq_run fun a ha w hw => by
    have hc := (hw.ok _ hm).2
    have h := loadAg (P := P) (T := T) (w := w) (b := b) (o := o) (ds := ds) hl (fun i v hi => by
      rw [ho, Nat.add_assoc]
      refine hc _ _ ?_
      rw [← hd, List.getElem?_take] at hi
      split at hi
      · rwa [List.getElem?_drop] at hi
      · cases hi)
    simp only [execOp, ha.ev hx]
    rw [Sem.run_bind, h]; rfl
theorem Jq_loadDA {dr : Bool} {T : TypeId} {x : Operand} {s b o off j : Nat} {cs ds : List Value} [hT : IsAg P T s] (hdn : Nat.blt d n = true) (hx : ev F x = some (.pointer (some ⟨b, o, none⟩))) (hm : It.rd b off cs ∈ H) (ho : o = off + j) (hd : (cs.drop j).take s = ds) (hl : ds.length = s) (kk : J dr P B w0 n ops Q l ((d, .agg ds.toArray) :: F) H) :
    J dr P B w0 n ops Q (⟨some d, .load T x, ty, pos, af, none⟩ :: l) F H := J_q hdn (q_loadDA hx hm ho hd hl) kk
/-- make([]T, n), whole things. -/
theorem J_makeE {α : Type} {enc : α → List Value} {T e : TypeId} {x y : Operand} {m s by' : Nat} {z : Value} {z0 : α} {k1 k2 : IntKind} [hS : IS P T e s by' z] (hd : Nat.blt d n = true) (hx : ev F x = some (.int k1 (m : Int))) (hy : ev F y = some (.int k2 (m : Int))) (hb : by' * m ≤ 281474976710656) (hm : m ≤ maxLen)
    (hz : z.cells = (enc z0).toArray) (hs : ∀ x, (enc x).length = s) (hs0 : 0 < s)
    (k : ∀ b, J false P B w0 n ops Q l ((d, .slice (some ⟨b, 0, none⟩) m m) :: F) (.row (.slice (some ⟨b, 0, none⟩) m m) e s ((List.replicate m z0).flatMap enc) :: H)) :
    J false P B w0 n ops Q (⟨some d, .makeSlice T x y, ty, pos, af, none⟩ :: l) F H := by
  refine J_make hd hx hy hb hm fun b => ?_
  have : (madeCells z.cells (m * s)).toList = (List.replicate m z0).flatMap enc := by
    rw [hz]
    refine List.ext_getElem? fun i => ?_
    by_cases hi : i < m * s
    · have hq : i / s < m := Nat.div_lt_of_lt_mul (by rw [Nat.mul_comm]; exact hi)
      have hr : i % s < (enc z0).length := by rw [hs]; exact Nat.mod_lt _ hs0
      have h1 := fl_cell (enc := enc) (s := s) hs (l := List.replicate m z0) (j := i / s) (t := i % s) (x := z0) (by rw [List.getElem?_replicate, if_pos hq]) (List.getElem?_eq_getElem hr)
      rw [show i / s * s + i % s = i by rw [Nat.mul_comm]; exact Nat.div_add_mod i s] at h1
      rw [h1]
      have hr' : i % (enc z0).length < (enc z0).length := by rw [hs]; rwa [hs] at hr
      have e1 : i % (enc z0).length = i % s := by rw [hs]
      simp only [madeCells, Array.toList_map, Array.toList_range, List.getElem?_map, List.getElem?_range hi, Option.map_some, List.size_toArray]
      congr 1
      rw [getElem!_pos (enc z0).toArray _ (by simpa using hr')]
      simp [e1]
    · rw [List.getElem?_eq_none (by simp [madeCells]; omega), List.getElem?_eq_none (by rw [fl_len hs, List.length_replicate]; omega)]
  rw [this]
  exact k b
end
end SL
/-- A slice of arrays of eight bytes of the caller's. -/
def RdS (c : Value) (L : List StB) (H : SL.Hp) : Prop := ∃ a cap, c = .slice a L.length cap ∧ (L ≠ [] → ∃ b off, a = some ⟨b, off, none⟩ ∧ SL.It.rd b off (L.flatMap encS) ∈ H)
theorem RdS.cons {c : Value} {L : List StB} {H : SL.Hp} {x : SL.It} (h : RdS c L H) : RdS c L (x :: H) := by
  obtain ⟨a, cap, h1, h4⟩ := h
  refine ⟨a, cap, h1, fun hL => ?_⟩
  obtain ⟨b, off, h5, h6⟩ := h4 hL
  exact ⟨b, off, h5, SL.mS h6⟩
set_option maxRecDepth 100000 in
theorem toState_gives (X : List Nat) (lX : X.length = 8) (w : World) : Gives Tryd.prog 23 #[.agg (u8s X).toArray] (.agg (u8s X).toArray) w := by
  have uX := u8s_len X
  refine gives_of (args := [.agg (u8s X).toArray]) [(0, .agg (u8s X).toArray)] [] Tryd.func23 rfl Tryd.ntmps23 rfl (argsF_cons rfl argsF_nil) (Holds.start w) ?_
  repeat' (first | (apply Jq_assign; exact rfl; exact rfl) | (apply J_box; exact rfl; exact rfl; exact rfl; (intro _)) | (apply J_alloc (cs := u8s Z8); exact rfl; exact rfl; (intro _)) | refine thenQ_normal ?_ | refine JC_seq ?_ | refine JC_region ?_ | refine J_nil ?_ | refine JC_block ?_)
  rename_i b1 b2 b3
  refine JC_loop (X := Nat × List Nat) (fun p => p.1 ≤ 8 ∧ p.2.length = 8 ∧ ∀ i, i < p.1 → p.2.getD i 0 = X.getD i 0) (fun p => [(4, .int .i64 (p.1 : Int)), (1, .pointer (some ⟨b1, 0, none⟩)), (2, .pointer (some ⟨b2, 0, none⟩)), (3, .pointer (some ⟨b3, 0, none⟩))])
    (fun p => [.blk b3 (u8s p.2) 43, .blk b2 (u8s Z8) 43, .blk b1 (u8s X) 22]) (fun p => 8 - p.1) (0, Z8) ⟨by omega, rfl, by omega⟩ ?_ ?_
  · (refine ent ?_ ?_; (repeat refine fr_cons rfl ?_); exact fr_nil; (repeat (exact List.Sublist.refl _)))
  · rintro ⟨k, M⟩ ⟨hk, lM, ho⟩
    dsimp only at hk lM ho ⊢
    have uM := u8s_len M
    have uZ := u8s_len Z8
    have lZ : Z8.length = 8 := rfl
    repeat' (first | (apply Jq_move; exact rfl; exact rfl) | (apply Jq_assign; exact rfl; exact rfl) | (apply Jq_load; exact rfl; exact rfl; (exact mb); (refine u8s_at ?_; omega)) | (apply Jq_indexN; exact rfl; exact rfl; exact rfl; omega) | (apply Jq_cmp; exact rfl; exact rfl; exact rfl; exact rfl) | (apply Jq_add; exact rfl; exact rfl; exact rfl; omega) | (apply Jq_loadW; exact rfl; exact rfl; (exact mb); (omega)) | (apply J_s1; exact rfl; exact rfl; exact rfl; infer_instance; (omega); (exact u8s_set); infer_instance) | (apply J_sW; exact rfl; exact rfl; infer_instance; (exact rfl); (omega); (exact u8s_one _); infer_instance) | refine thenQ_normal ?_ | refine thenQ_exit ?_ | refine inBlockQ_normal ?_ | refine inBlockQ_here ?_ | refine JC_seq ?_ | refine JC_region ?_ | refine J_nil ?_ | refine JC_block ?_ | refine JC_skip ?_ | refine JC_ret ?_ | refine JC_exit ?_ | refine JC_dec rfl (fun _ => ?_) (fun _ => ?_))
    · refine ⟨(k + 1, M.set k (X.getD k 0)), ⟨by dsimp only; omega, by simpa using lM, fun i hi => ?_⟩, by dsimp only; omega, ?_⟩
      · dsimp only at hi ⊢
        rw [set_getD (by omega)]
        split
        · rename_i e; rw [e]
        · exact ho i (by omega)
      · (refine ent ?_ ?_; (repeat refine fr_cons rfl ?_); exact fr_nil; (repeat (exact List.Sublist.refl _)))
    · have e := list8_ext lX lM fun i hi => ho i (by omega)
      exact gC rfl rfl rfl (.tail _ (.head _)) (by omega) (by rw [e])
set_option maxRecDepth 100000 in
theorem toStateS_gives {B : Nat} {w0 : World} {H : Hp} {c : Value} (L : List StB) (hc : RdS c L H) (hl : L.length ≤ 2000000) :
    GivesE Tryd.prog 9 #[c] B w0 H (fun v' H' => H' = .row v' 43 8 (L.flatMap encS) :: H) := by
  obtain ⟨a, cap, rfl, hH⟩ := hc
  refine givesE_of (args := [.slice a L.length cap]) [(0, .slice a L.length cap)] Tryd.func9 rfl Tryd.ntmps9 rfl (argsF_cons rfl argsF_nil) ?_
  repeat' (first | (apply J_makeE (enc := encS) (z0 := (default : StB)); exact rfl; exact rfl; exact rfl; omega; ((show _ ≤ maxLen); (simp only [maxLen]); omega); exact rfl; exact encS_len; decide; (intro _)) | (apply Jq_move; exact rfl; exact rfl) | (apply Jq_assign; exact rfl; exact rfl) | (apply Jq_len; exact rfl; exact rfl) | refine thenQ_normal ?_ | refine JC_seq ?_ | refine JC_region ?_ | refine J_nil ?_ | refine JC_block ?_)
  rename_i b7
  generalize hv : Value.slice (some ⟨b7, 0, none⟩) L.length L.length = v
  refine JC_loop (X := Nat) (fun k => k ≤ L.length) (fun k => [(0, .slice a L.length cap), (3, v), (4, .int .i64 (k : Int))]) (fun k => .row v 43 8 ((L.take k ++ List.replicate (L.length - k) default).flatMap encS) :: H) (fun k => L.length - k) 0 (Nat.zero_le _) ?_ ?_
  · (refine ent ?_ ?_; (repeat refine fr_cons rfl ?_); exact fr_nil; (repeat (exact List.Sublist.refl _)))
  · intro k hk
    have lr := fl_len encS_len (L.take k ++ List.replicate (L.length - k) default)
    have lt : (L.take k ++ List.replicate (L.length - k) (default : StB)).length = L.length := by rw [List.length_append, List.length_take, List.length_replicate]; omega
    by_cases hlt : k < L.length
    · obtain ⟨x, hx⟩ : ∃ x, L[k]? = some x := ⟨_, List.getElem?_eq_getElem hlt⟩
      have ux := encS_len x
      obtain ⟨b, off, rfl, hm⟩ := hH (fun e => by subst e; simp at hlt)
      have hst : ((L.take k ++ List.replicate (L.length - k) default).flatMap encS).take (k * 8) ++ encS x ++ ((L.take k ++ List.replicate (L.length - k) default).flatMap encS).drop (k * 8 + 8) = (L.take (k + 1) ++ List.replicate (L.length - (k + 1)) default).flatMap encS := by
        rw [fl_set encS_len (by omega)]
        congr 1
        have e0 : L.length - k = (L.length - (k + 1)) + 1 := by omega
        have e1 : (L.take k).length = k := by rw [List.length_take]; omega
        rw [e0, List.replicate_succ, List.set_append_right _ _ (by omega), e1, Nat.sub_self, List.set_cons_zero, List.take_add_one, hx]
        simp
      repeat' (first | (apply Jq_loadDA; exact rfl; exact rfl; (refine mS ?_; exact hm); exact rfl; exact fl_at encS_len hx; exact ux) | (apply J_sRA; exact rfl; exact rfl; infer_instance; exact ux; exact encS_one x; decide; omega; exact hst) | (apply Jq_move; exact rfl; exact rfl) | (apply Jq_assign; exact rfl; exact rfl) | (apply Jq_indexSN; exact rfl; exact rfl; exact rfl; omega) | (apply Jq_cmp; exact rfl; exact rfl; exact rfl; exact rfl) | (apply Jq_add; exact rfl; exact rfl; exact rfl; omega) | (apply Jc; exact rfl; exact rfl; exact rfl; infer_instance; ((intro w hw); exact toState_gives x.1 x.2.1 w)) | (apply Jq_len; exact rfl; exact rfl) | (apply Jq_indexRs; exact rfl; exact rfl; exact rfl; (exact rb); omega) | refine thenQ_normal ?_ | refine inBlockQ_normal ?_ | refine JC_seq ?_ | refine JC_region ?_ | refine J_nil ?_ | refine JC_block ?_ | refine JC_skip ?_ | (apply JC_dec_true; exact rfl; omega))
      refine ⟨k + 1, by omega, by omega, ?_⟩
      (refine ent ?_ ?_; (repeat refine fr_cons rfl ?_); exact fr_nil; (repeat (exact List.Sublist.refl _)))
    · obtain rfl : k = L.length := by omega
      repeat' (first | (apply Jq_move; exact rfl; exact rfl) | (apply Jq_assign; exact rfl; exact rfl) | (apply Jq_cmp; exact rfl; exact rfl; exact rfl; exact rfl) | (apply Jq_len; exact rfl; exact rfl) | refine thenQ_normal ?_ | refine thenQ_exit ?_ | refine inBlockQ_here ?_ | refine JC_seq ?_ | refine JC_region ?_ | refine J_nil ?_ | refine JC_ret ?_ | refine JC_exit ?_ | (apply JC_dec_false; exact rfl; omega))
      rw [Nat.sub_self, List.take_length, List.replicate_zero, List.append_nil]
      exact e1 rfl rfl rfl (entS fun _ _ h => h) rfl
set_option maxRecDepth 100000 in
theorem eqState_same (X : List Nat) (lX : X.length = 8) (w : World) : Gives Tryd.prog 33 #[.agg (u8s X).toArray, .agg (u8s X).toArray] (.bool true) w := by
  have uX := u8s_len X
  refine gives_of (args := [.agg (u8s X).toArray, .agg (u8s X).toArray]) [(0, .agg (u8s X).toArray), (1, .agg (u8s X).toArray)] [] Tryd.func33 rfl Tryd.ntmps33 rfl (argsF_cons rfl (argsF_cons rfl argsF_nil)) (Holds.start w) ?_
  repeat' (first | (apply Jq_assign; exact rfl; exact rfl) | (apply J_box; exact rfl; exact rfl; exact rfl; (intro _)) | refine thenQ_normal ?_ | refine JC_seq ?_ | refine JC_region ?_ | refine J_nil ?_ | refine JC_block ?_)
  rename_i b2 b3
  refine JC_loop (X := Nat) (fun k => k ≤ 8) (fun k => [(5, .int .i64 (k : Int)), (2, .pointer (some ⟨b2, 0, none⟩)), (3, .pointer (some ⟨b3, 0, none⟩))])
    (fun _ => [.blk b3 (u8s X) 43, .blk b2 (u8s X) 43]) (fun k => 8 - k) 0 (Nat.zero_le _) ?_ ?_
  · (refine ent ?_ ?_; (repeat refine fr_cons rfl ?_); exact fr_nil; (repeat (exact List.Sublist.refl _)))
  · intro k hk
    by_cases hlt : k < 8
    · repeat' (first | (apply Jq_move; exact rfl; exact rfl) | (apply Jq_assign; exact rfl; exact rfl) | (apply Jq_load; exact rfl; exact rfl; (exact mb); (refine u8s_at ?_; omega)) | (apply Jq_indexN; exact rfl; exact rfl; exact rfl; omega) | (apply Jq_cmp; exact rfl; exact rfl; exact rfl; exact rfl) | (apply Jq_add; exact rfl; exact rfl; exact rfl; omega) | refine thenQ_normal ?_ | refine inBlockQ_normal ?_ | refine JC_seq ?_ | refine JC_region ?_ | (apply JC_draw mixed; kernel_rfl) | refine J_nil ?_ | refine JC_block ?_ | refine JC_skip ?_ | (apply JC_dec_true; exact rfl; omega) | (apply JC_ndec_false; exact rfl; omega))
      refine ⟨k + 1, by omega, by omega, ?_⟩
      (refine ent ?_ ?_; (repeat refine fr_cons rfl ?_); exact fr_nil; (repeat (exact List.Sublist.refl _)))
    · repeat' (first | (apply Jq_move; exact rfl; exact rfl) | (apply Jq_assign; exact rfl; exact rfl) | (apply Jq_cmp; exact rfl; exact rfl; exact rfl; exact rfl) | refine thenQ_normal ?_ | refine thenQ_exit ?_ | refine inBlockQ_here ?_ | refine JC_seq ?_ | refine JC_region ?_ | refine J_nil ?_ | refine JC_ret ?_ | refine JC_exit ?_ | (apply JC_dec_false; exact rfl; omega))
      exact g1 rfl rfl rfl rfl
set_option maxRecDepth 100000 in
theorem eqStateS_gives {B : Nat} {w0 : World} {H : Hp} {v u : Value} (l : List StB) (hv : It.row v 43 8 (l.flatMap encS) ∈ H) (hu : It.row u 43 8 (l.flatMap encS) ∈ H) (hl : l.length < 100000000) :
    GivesM Tryd.prog 11 #[v, u] B w0 H (.bool true) H := by
  have lf := fl_len encS_len l
  refine givesM_of (args := [v, u]) [(0, v), (1, u)] Tryd.func11 rfl Tryd.ntmps11 rfl (argsF_cons rfl (argsF_cons rfl argsF_nil)) ?_
  repeat' (first | (apply Jq_move; exact rfl; exact rfl) | (apply Jq_assign; exact rfl; exact rfl) | (apply Jq_cmp; exact rfl; exact rfl; exact rfl; exact rfl) | (apply Jq_lenRs; exact rfl; exact rfl; (assumption); exact lf; decide) | refine thenQ_normal ?_ | refine JC_seq ?_ | refine JC_region ?_ | refine J_nil ?_ | refine JC_block ?_ | refine JC_skip ?_ | (apply JC_ndec_false; exact rfl; omega))
  refine JC_loop (X := Nat) (fun k => k ≤ l.length) (fun k => [(5, .int .i64 (k : Int)), (0, v), (1, u)]) (fun _ => H) (fun k => l.length - k) 0 (Nat.zero_le _) ?_ ?_
  · (refine ent ?_ ?_; (repeat refine fr_cons rfl ?_); exact fr_nil; (repeat (exact List.Sublist.refl _)))
  · intro k hk
    by_cases hlt : k < l.length
    · obtain ⟨x, hx⟩ : ∃ x, l[k]? = some x := ⟨_, List.getElem?_eq_getElem hlt⟩
      have ux := encS_len x
      repeat' (first | (apply Jq_move; exact rfl; exact rfl) | (apply Jq_assign; exact rfl; exact rfl) | (apply Jq_cmp; exact rfl; exact rfl; exact rfl; exact rfl) | (apply Jq_add; exact rfl; exact rfl; exact rfl; omega) | (apply Jq_not; exact rfl; exact rfl) | (apply Jc; exact rfl; exact rfl; exact rfl; infer_instance; ((intro w hw); exact eqState_same x.1 x.2.1 w)) | (apply Jq_lenRs; exact rfl; exact rfl; (assumption); exact lf; decide) | (apply Jq_indexRs; exact rfl; exact rfl; exact rfl; (assumption); omega) | (apply Jq_loadRA; exact rfl; exact rfl; (assumption); (exact fl_at encS_len hx); (omega); decide) | refine thenQ_normal ?_ | refine inBlockQ_normal ?_ | refine JC_seq ?_ | refine JC_region ?_ | (apply JC_draw mixed; kernel_rfl) | refine J_nil ?_ | refine JC_block ?_ | refine JC_skip ?_ | (apply JC_if_false; exact rfl) | (apply JC_dec_true; exact rfl; omega))
      refine ⟨k + 1, by omega, by omega, ?_⟩
      (refine ent ?_ ?_; (repeat refine fr_cons rfl ?_); exact fr_nil; (repeat (exact List.Sublist.refl _)))
    · repeat' (first | (apply Jq_move; exact rfl; exact rfl) | (apply Jq_assign; exact rfl; exact rfl) | (apply Jq_cmp; exact rfl; exact rfl; exact rfl; exact rfl) | (apply Jq_lenRs; exact rfl; exact rfl; (assumption); exact lf; decide) | refine thenQ_normal ?_ | refine thenQ_exit ?_ | refine inBlockQ_here ?_ | refine JC_seq ?_ | refine JC_region ?_ | refine J_nil ?_ | refine JC_ret ?_ | refine JC_exit ?_ | (apply JC_dec_false; exact rfl; omega))
      refine m1 rfl rfl rfl rfl ?_
      (refine ent ?_ ?_; (repeat refine fr_cons rfl ?_); exact fr_nil; (repeat (exact List.Sublist.refl _)))
end Go.Proofs.YtmbbcmebdefggaaDoor
