/- Walks: ReachedFrom, in both texts. -/
import Derived.Test.YtflleelfkknfaaaLB
import Derived.Test.YtflleelfkknfaaaLC
import Derived.Test.YtflleelfkknfaaaSE
import Derived.Test.YtflleelfkknfaaaWA
namespace Go.Proofs.Ytflleelfkknfaaa
open Go Go.RowKit SL
theorem rnds_none {p : GridB} {j k : Nat} (h : rnds p j = none) (hk : j ≤ k) : rnds p k = none := by
  induction k with
  | zero => obtain rfl : j = 0 := by omega
            exact h
  | succ k ih =>
    by_cases e : j = k + 1
    · subst e; exact h
    · show (rnds p k).bind rnd = none
      rw [ih (by omega)]
      rfl
theorem rnds_succ {p : GridB} {j : Nat} {q : RSt} (h : rnds p j = some q) : rnds p (j + 1) = rnd q := by
  show (rnds p j).bind rnd = _
  rw [h]; rfl
/-- What has been reached after k rounds, in order, and a code. -/
def rfR (p : GridB) (k : Nat) (v : Value) (its : Hp) : Prop :=
  (rnds p k = none ∧ isRowI 27 17 [] 3 v its) ∨ ∃ q u l, rnds p k = some q ∧ v = .tuple #[u, .int .i64 0] ∧ Asc rkG l ∧ (∀ y, y ∈ l ↔ y ∈ q.1) ∧ l.length ≤ 300 ∧ its = [.row u 27 17 (l.flatMap encG)]
theorem rfR_mine {p : GridB} {k : Nat} (v : Value) (its : Hp) (h : rfR p k v its) : ∀ x, x ∈ its → x.mine = true := by
  rcases h with ⟨_, h⟩ | ⟨q, u, l, _, _, _, _, _, rfl⟩
  · exact isRowI_mine v its h
  · simp [It.mine]
namespace SL
theorem n2nilP {P : Program} {n : Nat} {fn : Func} {e : Exit} {F : Fr} {H : Hp} {N : Value → Hp → Prop} {w : World} {t u : Tmp} {T sz : Nat} {c : Int} (he : isEnd e = true) (h : fn.results = #[.tmp t, .tmp u]) (hv : look F t = some (.slice none 0 0)) (hv' : look F u = some (.int .i64 c)) (hN : N (.tuple #[.slice none 0 0, .int .i64 c]) [.row (.slice none 0 0) T sz []]) : nQ P w n fn N e F H :=
  nQ_mk he fun _ w' ha hw => ⟨_, [.row (.slice none 0 0) T sz []], results2 h ha hv hv' w', hN, (Holds.nilrow hw).part (fun x hx => by simp at hx; subst hx; exact List.mem_cons_self) own_nil⟩
theorem J_app3 {P : Program} {B : Nat} {w0 : World} {n : Nat} {Q : Po} {F : Fr} {H : Hp} {ops : Array Oper} {l : List Oper} {dr : Bool} {x y z : It} (k : J dr P B w0 n ops Q l F (x :: y :: z :: H)) : J dr P B w0 n ops Q l F ([x, y, z] ++ H) := k
end SL
set_option maxRecDepth 100000 in
theorem sRF_good {p : GridB} (hp : okB p) (k : Nat) (hk : k ≤ 6) (w : World) : GivesN Try.prog 16 #[.agg (encG p).toArray, .int .i64 (k : Int)] (rfR (canB p) k) w := by
  have ug := encG_len p
  have uc := encG_len (canB p)
  have hcan := canB_spec hp
  have h1 : ∀ x : GridB, ∀ u ∈ encG x, u.oneCell' = true := fun x => gv_one _ _ _
  have g : okG p.1.1 p.1.2.1 p.1.2.2 := hp
  have e1 : [canB p].flatMap encG = encG (canB p) := by simp
  have hs0 : (0 : Nat) < 17 := by decide
  have hs1 : (17 : Nat) ≤ 1000 := by decide
  refine givesN_of (args := [.agg (encG p).toArray, .int .i64 (k : Int)]) [(0, .agg (encG p).toArray), (1, .int .i64 (k : Int))] [] Try.func16 rfl Try.ntmps16 rfl (argsF_cons rfl (argsF_cons rfl argsF_nil)) (Holds.start w) ?_
  repeat' (first | (apply JC_ndec_false; exact rfl; exact g) | (apply J_lit1s; exact rfl; exact rfl; exact uc; exact hs0; exact hs1; (intro bl)) | (apply Jq_move; exact rfl; exact rfl) | (apply Jq_assign; exact rfl; exact rfl) | (apply Jq_not; exact rfl; exact rfl) | (apply Jc; exact rfl; exact rfl; exact rfl; infer_instance; ((intro w hw); first | exact l01Is_gives p.1.1 p.1.2.1 p.1.2.2 p.2.1 p.2.2 w | exact l01In_gives (k : Int) 0 6 w | exact hcan.2.2 w)) | (apply Jq_loadW; exact rfl; exact rfl; (exact mb); (omega)) | (apply J_box; exact rfl; exact rfl; exact rfl; (intro _)) | refine thenQ_normal ?_ | refine inBlockQ_normal ?_ | refine JC_seq ?_ | refine JC_region ?_ | refine J_nil ?_ | refine JC_block ?_ | refine JC_skip ?_ | (apply JC_ndec_false; exact rfl; omega))
  refine JC_loop (X := Nat × Value × List GridB × Value × RSt × Hp) (fun x => x.1 ≤ k ∧ rnds (canB p) x.1 = some x.2.2.2.2.1 ∧ Asc rkG x.2.2.1 ∧ (∀ y, y ∈ x.2.2.1 ↔ y ∈ x.2.2.2.2.1.1) ∧ x.2.2.1.length = x.2.2.2.2.1.1.length ∧ It.row x.2.1 27 17 (x.2.2.1.flatMap encG) ∈ x.2.2.2.2.2 ∧ It.row x.2.2.2.1 27 17 (x.2.2.2.2.1.2.flatMap encG) ∈ x.2.2.2.2.2)
    (fun x => [(1, .int .i64 ((k - x.1 : Nat) : Int)), (6, x.2.1), (7, x.2.2.2.1)]) (fun x => x.2.2.2.2.2) (fun x => k - x.1)
    (0, .slice (some ⟨bl, 0, none⟩) 1 1, [canB p], .slice (some ⟨bl, 0, none⟩) 1 1, ([canB p], [canB p]), [.row (.slice (some ⟨bl, 0, none⟩) 1 1) 27 17 (encG (canB p))]) ⟨Nat.zero_le _, rfl, List.pairwise_singleton _ _, fun _ => Iff.rfl, rfl, by rw [e1]; exact m0, by dsimp only; rw [e1]; exact m0⟩ ?_ ?_
  · dsimp only
    (refine entP (ent ?_ (List.nil_sublist _)) ?_; (repeat refine fr_cons rfl ?_); exact fr_nil; (repeat (first | exact sp_nil | (with_reducible apply sp0))))
  · rintro ⟨j, v, L, u, q, Hx⟩ ⟨hj, hq, ha, hm, hl, hv, hu⟩
    dsimp only at hj hq ha hm hl hv hu ⊢
    have hri := rnds_RI hcan.1 hq
    have hle := hri.le
    have hfl := hri.fl
    have iv : RB v Hx 27 17 (L.flatMap encG) := ⟨hv⟩
    have lq := flat_len q.2
    have iu : RB u Hx 27 17 (q.2.flatMap encG) := ⟨hu⟩
    by_cases hlt : j < k
    · by_cases hf : 0 < q.2.length
      · have hkj : 0 < k - j := by omega
        have c1 : ((k - j : Nat) : Int) - 1 = ((k - (j + 1) : Nat) : Int) := by omega
        repeat' (first | (apply JcE; exact rfl; exact rfl; exact rfl; infer_instance; (exact round_gives q hri L ha hm hl hv hu); (intro v' H' hV; rcases hV with ⟨hn, rfl, _⟩ | ⟨q', v1, v2, L', Hy, hq', rfl, ha', hm', hl', rfl, hr1, hsub⟩)) | (apply Jq_subR; exact rfl; exact rfl; exact rfl; omega; exact c1) | (apply Jq_move; exact rfl; exact rfl) | (apply Jq_assign; exact rfl; exact rfl) | (apply Jq_cmp; exact rfl; exact rfl; exact rfl; exact rfl) | (apply Jq_not; exact rfl; exact rfl) | (apply Jq_pick_true; exact rfl; exact rfl; exact rfl) | (apply J_on; exact rfl; exact rfl) | (apply Jq_extract; exact rfl; exact rfl; exact rfl) | (apply Jq_lenRs; exact rfl; exact rfl; (exact rb); exact lq; decide) | refine thenQ_normal ?_ | refine thenQ_ret ?_ | refine inBlockQ_normal ?_ | refine inBlockQ_ret ?_ | refine JC_seq ?_ | refine JC_region ?_ | refine J_nil ?_ | refine JC_block ?_ | refine JC_skip ?_ | refine JC_ret ?_ | (apply JC_if_true; exact rfl) | (apply JC_if_false; exact rfl) | (apply JC_dec_true; exact rfl; omega) | (apply J_gdT; exact rfl; exact rfl; omega))
        · exact n2nilP rfl rfl rfl rfl (.inl ⟨rnds_none (by rw [rnds_succ hq]; exact hn) (Nat.succ_le_of_lt hlt), _, rfl, rfl⟩)
        · refine ⟨(j + 1, v1, L', v2, q', .row v2 27 17 (q'.2.flatMap encG) :: Hy), ⟨by dsimp only; omega, by dsimp only; rw [rnds_succ hq]; exact hq', ha', hm', hl', mS hr1, m0⟩, by dsimp only; omega, ?_⟩
          dsimp only
          (refine entP (ent ?_ (List.nil_sublist _)) ?_; (repeat refine fr_cons rfl ?_); exact fr_nil; (repeat (exact sp_refl)))
      · have hkj : 0 < k - j := by omega
        have hq0 : q = (q.1, []) := Prod.ext rfl (List.eq_nil_of_length_eq_zero (by omega))
        have hqk : rnds (canB p) k = some q := by rw [hq0]; exact rnds_stop (by rw [← hq0]; exact hq) hj
        repeat' (first | (apply Jq_move; exact rfl; exact rfl) | (apply Jq_assign; exact rfl; exact rfl) | (apply Jq_cmp; exact rfl; exact rfl; exact rfl; exact rfl) | (apply Jq_pick_true; exact rfl; exact rfl; exact rfl) | (apply J_on; exact rfl; exact rfl) | (apply Jq_lenRs; exact rfl; exact rfl; (exact rb); exact lq; decide) | refine thenQ_normal ?_ | refine thenQ_exit ?_ | refine inBlockQ_here ?_ | refine JC_seq ?_ | refine JC_region ?_ | refine J_nil ?_ | refine JC_ret ?_ | refine JC_exit ?_ | (apply JC_dec_false; exact rfl; omega) | (apply J_gdT; exact rfl; exact rfl; omega))
        refine n2 (its := [.row v 27 17 (L.flatMap encG)]) rfl rfl rfl rfl ?_ (.inr ⟨q, v, L, hqk, rfl, ha, hm, by omega, rfl⟩)
        exact ent (fun _ _ h => (by cases h)) (List.singleton_sublist.2 hv)
    · obtain rfl : j = k := by omega
      have hkj : ¬ 0 < j - j := by omega
      repeat' (first | (apply Jq_move; exact rfl; exact rfl) | (apply Jq_assign; exact rfl; exact rfl) | (apply Jq_cmp; exact rfl; exact rfl; exact rfl; exact rfl) | (apply Jq_pick_false; exact rfl; exact rfl; exact rfl) | (apply J_skip; exact rfl; exact rfl; exact rfl; exact rfl) | refine thenQ_normal ?_ | refine thenQ_exit ?_ | refine inBlockQ_here ?_ | refine JC_seq ?_ | refine JC_region ?_ | refine J_nil ?_ | refine JC_ret ?_ | refine JC_exit ?_ | (apply JC_if_false; exact rfl) | (apply J_gdF; exact rfl; exact rfl; omega))
      refine n2 (its := [.row v 27 17 (L.flatMap encG)]) rfl rfl rfl rfl ?_ (.inr ⟨q, v, L, hq, rfl, ha, hm, by omega, rfl⟩)
      exact ent (fun _ _ h => (by cases h)) (List.singleton_sublist.2 hv)
/-! The program's. -/
/-- The grids at the places met. -/
def gAt (S : List GridB) (seen : List Nat) : List GridB := seen.filterMap fun i => S[i]?
theorem gAt_snoc {S : List GridB} {seen : List Nat} {i : Nat} {x : GridB} (h : S[i]? = some x) : gAt S (seen ++ [i]) = gAt S seen ++ [x] := by
  unfold gAt
  rw [List.filterMap_append]
  simp [h]
theorem gAt_len (S : List GridB) (seen : List Nat) : (gAt S seen).length ≤ seen.length := List.length_filterMap_le _ _
theorem gAt_range (S : List GridB) : ∀ k, gAt S (List.range k) = S.take k
  | 0 => rfl
  | k + 1 => by
    have ih := gAt_range S k
    rw [List.range_succ, List.take_add_one, ← ih]
    unfold gAt
    rw [List.filterMap_append]
    cases e : S[k]? <;> simp [e]
theorem gAt_all {S : List GridB} {seen : List Nat} (h : seen.Perm (List.range S.length)) : (gAt S seen).Perm S := by
  have h1 : (gAt S seen).Perm (gAt S (List.range S.length)) := h.filterMap _
  rwa [gAt_range, List.take_length] at h1
theorem gAt_cells {S : List GridB} {seen : List Nat} {i : Nat} {x : GridB × Unit} (hi : (mp S)[i]? = some x) : (gAt S seen).flatMap encG ++ encG x.1 = (gAt S (seen ++ [i])).flatMap encG := by
  have hiS : S[i]? = some x.1 := by
    unfold mp at hi
    rw [List.getElem?_map] at hi
    cases e : S[i]? with
    | none => rw [e] at hi; cases hi
    | some y => rw [e] at hi; cases hi; rfl
  rw [gAt_snoc hiS]
  simp
theorem encG_ne (x : GridB) : encG x ≠ [] := List.cons_ne_nil _ _
set_option maxRecDepth 100000 in
theorem iRF_good {p : GridB} (hp : okB p) (k : Nat) (hk : k ≤ 6) (w : World) : GivesN Try.prog 17 #[.agg (encG p).toArray, .int .i64 (k : Int)] (rfR (canB p) k) w := by
  have ug := encG_len p
  have hcan := canB_spec hp
  have h1 : ∀ x : GridB, ∀ u ∈ encG x, u.oneCell' = true := fun x => gv_one _ _ _
  have g : okG p.1.1 p.1.2.1 p.1.2.2 := hp
  refine givesN_of (args := [.agg (encG p).toArray, .int .i64 (k : Int)]) [(0, .agg (encG p).toArray), (1, .int .i64 (k : Int))] [] Try.func17 rfl Try.ntmps17 rfl (argsF_cons rfl (argsF_cons rfl argsF_nil)) (Holds.start w) ?_
  repeat' (first | (apply JC_ndec_false; exact rfl; exact g) | (apply JcN (N := stR (canB p)); exact rfl; exact rfl; exact rfl; infer_instance; (intro w _; exact start_gives hp w); exact stR_mine; (intro v its h; obtain ⟨b, bm, u, rfl, rfl⟩ := h; refine J_app3 ?_)) | (apply Jq_move; exact rfl; exact rfl) | (apply Jq_assign; exact rfl; exact rfl) | (apply Jq_not; exact rfl; exact rfl) | (apply Jc; exact rfl; exact rfl; exact rfl; infer_instance; ((intro w hw); first | exact IsGrid_gives p.1.1 p.1.2.1 p.1.2.2 p.2.1 p.2.2 w | exact within_gives (k : Int) 0 6 w)) | (apply Jq_loadW; exact rfl; exact rfl; (exact mb); (omega)) | (apply J_box; exact rfl; exact rfl; exact rfl; (intro _)) | refine thenQ_normal ?_ | refine inBlockQ_normal ?_ | refine JC_seq ?_ | refine JC_region ?_ | refine J_nil ?_ | refine JC_block ?_ | refine JC_skip ?_ | (apply JC_ndec_false; exact rfl; omega))
  refine JC_loop (X := Nat × Value × RSt) (fun x => x.1 ≤ k ∧ rnds (canB p) x.1 = some x.2.2)
    (fun x => [(20, .int .i64 (x.1 : Int)), (19, .int .i64 (k : Int)), (6, .pointer (some ⟨b, 0, none⟩))]) (fun x => [.blk b [.map (some bm), x.2.1] 54, .obj bm (mapO (encM grV uV (mp x.2.2.1))), .row x.2.1 27 17 (x.2.2.2.flatMap encG)]) (fun x => k - x.1)
    (0, u, ([canB p], [canB p])) ⟨Nat.zero_le _, rfl⟩ ?_ ?_
  · dsimp only
    (refine entP (ent ?_ (List.nil_sublist _)) ?_; (repeat refine fr_cons rfl ?_); exact fr_nil; (repeat (first | exact sp_nil | (with_reducible apply sp0))))
  · clear u
    rintro ⟨j, u, q⟩ ⟨hj, hq⟩
    dsimp only at hj hq ⊢
    have hri := rnds_RI hcan.1 hq
    have hle := hri.le
    by_cases hlt : j < k
    · repeat' (first | (apply JcE; exact rfl; exact rfl; exact rfl; infer_instance; (exact rnext_gives q hri); (intro v' H' hV; rcases hV with ⟨hn, rfl, rfl⟩ | ⟨q', v2, hq', rfl, rfl⟩)) | (apply Jq_move; exact rfl; exact rfl) | (apply Jq_assign; exact rfl; exact rfl) | (apply Jq_cmp; exact rfl; exact rfl; exact rfl; exact rfl) | (apply Jq_add; exact rfl; exact rfl; exact rfl; omega) | (apply Jq_not; exact rfl; exact rfl) | refine thenQ_normal ?_ | refine thenQ_ret ?_ | refine inBlockQ_normal ?_ | refine inBlockQ_ret ?_ | refine JC_seq ?_ | refine JC_region ?_ | refine J_nil ?_ | refine JC_block ?_ | refine JC_skip ?_ | refine JC_ret ?_ | (apply JC_if_true; exact rfl) | (apply JC_if_false; exact rfl) | (apply JC_dec_true; exact rfl; omega))
      · exact n2nilP rfl rfl rfl rfl (.inl ⟨rnds_none (by rw [rnds_succ hq]; exact hn) (Nat.succ_le_of_lt hlt), _, rfl, rfl⟩)
      · refine ⟨(j + 1, v2, q'), ⟨by dsimp only; omega, by dsimp only; rw [rnds_succ hq]; exact hq'⟩, by dsimp only; omega, ?_⟩
        dsimp only
        (refine entP (ent ?_ (List.nil_sublist _)) ?_; (repeat refine fr_cons rfl ?_); exact fr_nil; (repeat (exact sp_refl)))
    · obtain rfl : j = k := by omega
      have hnd := hri.nd
      have hml := mp_len q.1
      repeat' (first | (apply J_rangeT (eK := grV) (eV := uV); exact rfl; exact rfl; exact mo; (intro bi)) | (apply Jq_move; exact rfl; exact rfl) | (apply Jq_assign; exact rfl; exact rfl) | (apply Jq_load; exact rfl; exact rfl; (exact mb); (exact rfl)) | (apply Jq_fieldAddr; exact rfl; exact rfl) | (apply Jq_cmp; exact rfl; exact rfl; exact rfl; exact rfl) | (apply Jq_nilCheck; exact rfl; exact rfl) | (apply J_lit0; exact rfl; (intro _)) | refine thenQ_normal ?_ | refine thenQ_exit ?_ | refine inBlockQ_here ?_ | refine JC_seq ?_ | refine JC_region ?_ | refine J_nil ?_ | refine JC_block ?_ | refine JC_exit ?_ | (apply JC_dec_false; exact rfl; omega))
      rename_i b26
      refine JC_loop (X := Value × List Nat) (fun x => x.2.Nodup ∧ (∀ i ∈ x.2, i < (mp q.1).length) ∧ (x.2 = [] → x.1 ≠ .slice none 0 0)) (fun x => [(31, .pointer (some ⟨bi, 0, none⟩)), (7, x.1)]) (fun x => [.row x.1 27 17 ((gAt q.1 x.2).flatMap encG), .obj bi (itO bm (mp q.1).length x.2), .obj bm (mapO (encM grV uV (mp q.1)))]) (fun x => (mp q.1).length - x.2.length) (.slice (some ⟨b26, 0, none⟩) 0 0, []) ⟨List.nodup_nil, fun i hi => absurd hi List.not_mem_nil, fun _ h => by cases h⟩ ?_ ?_
      · dsimp only
        (refine entP (ent ?_ (List.nil_sublist _)) ?_; (repeat refine fr_cons rfl ?_); exact fr_nil; (repeat (first | exact sp_nil | (with_reducible apply sp0) | (with_reducible apply sp1) | apply sp1)))
      · clear hlt hj
        rintro ⟨v, seen⟩ ⟨hs1, hs2, hs3⟩
        dsimp only at hs1 hs2 hs3 ⊢
        have hsl : seen.length ≤ (mp q.1).length := by
          have := List.Nodup.length_le_of_subset hs1 (l₂ := List.range (mp q.1).length) fun a ha => List.mem_range.2 (hs2 a ha)
          rwa [List.length_range] at this
        have hgl := gAt_len q.1 seen
        have lg := flat_len (gAt q.1 seen)
        repeat' (first | (refine J_nextT (eK := grV) (eV := uV) (m := mp q.1) rfl rfl inferInstance rfl mo hs2 (fun hall => ?_) (fun i x hi hns => ?_); rotate_left; have ux := encG_len x.1; have hsn := gAt_cells (seen := seen) hi) | (apply Jq_entryT (eK := grV) (eV := uV) (m := mp q.1) (p := x); exact rfl; exact rfl; exact mo; exact mo; exact hi) | (apply J_ap; decide; exact rfl; exact rfl; exact rfl; infer_instance; exact rb; exact encG_ne _; exact h1 _; ((show (_ + _) * _ ≤ _); omega); decide; exact hsn; (intro v')) | (apply Jq_move; exact rfl; exact rfl) | (apply Jq_assign; exact rfl; exact rfl) | (apply Jq_loadW; exact rfl; exact rfl; (exact mb); (omega)) | (apply J_sW; exact rfl; exact rfl; infer_instance; (exact rfl); (omega); (exact gv_one _ _ _); infer_instance) | (apply Jq_ext20; exact rfl; exact rfl) | (apply Jq_extract; exact rfl; exact rfl; exact rfl) | (apply J_lit1s; exact rfl; exact rfl; (omega); decide; decide; (intro _)) | (apply J_alloc (cs := gv 0 Z8 Z8); exact rfl; exact rfl; (intro _)) | refine thenQ_normal ?_ | refine thenQ_exit ?_ | refine inBlockQ_normal ?_ | refine inBlockQ_here ?_ | refine JC_seq ?_ | refine JC_region ?_ | refine J_nil ?_ | refine JC_block ?_ | refine JC_skip ?_ | refine JC_exit ?_ | (apply JC_if_true; exact rfl) | (apply JC_if_false; exact rfl))
        · have hin : ∀ t ∈ seen ++ [i], t < (mp q.1).length := fun t ht => by
            rcases List.mem_append.1 ht with h | h
            · exact hs2 t h
            · rw [List.mem_singleton] at h
              subst h
              exact (List.getElem?_eq_some_iff.1 hi).1
          have hnn : (seen ++ [i]).Nodup := List.nodup_append.2 ⟨hs1, by simp, fun a ha b hb e => hns (by rw [List.mem_singleton] at hb; subst hb e; exact ha)⟩
          have hlt2 : seen.length < (mp q.1).length := by
            have := List.Nodup.length_le_of_subset hnn (l₂ := List.range (mp q.1).length) fun a ha => List.mem_range.2 (hin a ha)
            rw [List.length_range, List.length_append, List.length_singleton] at this
            omega
          refine ⟨(v', seen ++ [i]), ⟨hnn, hin, fun h => by simp at h⟩, by dsimp only; rw [List.length_append, List.length_singleton]; omega, ?_⟩
          dsimp only
          (refine entP (ent ?_ (List.nil_sublist _)) ?_; (repeat refine fr_cons rfl ?_); exact fr_nil; (repeat (exact sp_end)))
        · have hperm := gAt_all (all_met hs1 (fun i hi => by have := hs2 i hi; omega) (fun i hi => hall i (by omega)) : seen.Perm (List.range q.1.length))
          have he : (gAt q.1 seen).flatMap encG = rowG (gAt q.1 seen).toArray := by rw [rowG_flat, List.toList_toArray]
          have hpos : 0 < (gAt q.1 seen).toArray.size ∨ v ≠ .slice none 0 0 := by
            by_cases hL : seen = []
            · exact .inr (hs3 hL)
            · refine .inl ?_
              have h0 : 0 < seen.length := List.length_pos_iff.2 hL
              have := hperm.length_eq
              rw [List.size_toArray]
              omega
          have hnL : (gAt q.1 seen).toArray.toList.Nodup := by rw [List.toList_toArray]; exact hperm.nodup_iff.2 hnd
          rw [he]
          repeat' (first | (apply JcE; exact rfl; exact rfl; exact rfl; infer_instance; (exact sort_gives (gAt q.1 seen).toArray (by simp only [List.size_toArray]; omega) hpos); (intro vs H' hV; obtain ⟨rfl, d', hpm, hso, rfl⟩ := hV; obtain ⟨hd1, hd2, hd3⟩ := sorted_asc (fun x y => cfG_rk x y) (fun x y => rkG_inj) hpm hso hnL; rw [rowG_flat])) | (apply Jq_move; exact rfl; exact rfl) | (apply Jq_assign; exact rfl; exact rfl) | refine thenQ_normal ?_ | refine JC_seq ?_ | refine JC_region ?_ | refine J_nil ?_ | refine JC_ret ?_)
          refine n2 (its := [.row v 27 17 (d'.toList.flatMap encG)]) rfl rfl rfl rfl ?_ (.inr ⟨q, v, d'.toList, hq, rfl, hd1, fun y => ?_, ?_, rfl⟩)
          · (refine entP (ent ?_ (List.nil_sublist _)) ?_; (repeat refine fr_cons rfl ?_); exact fr_nil; (repeat (first | exact sp_nil | (with_reducible apply sp0))))
          · rw [hd2, List.toList_toArray, hperm.mem_iff]
          · rw [hd3, List.toList_toArray]
            omega
end Go.Proofs.Ytflleelfkknfaaa
