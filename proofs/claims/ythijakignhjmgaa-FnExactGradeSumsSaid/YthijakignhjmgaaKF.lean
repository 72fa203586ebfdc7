/- slices.Sort at lists of numbers lies in this program as the library's text says. Walks: the keys of a map of numbers, collected and sorted. -/
import Derived.Test.YthijakignhjmgaaKB
import Derived.Shelf.SortG.Plain
import Derived.Test.YthijakignhjmgaaRK
namespace Go.Proofs.Ythijakignhjmgaa
open Go Go.Shelf Go.RowKit
def sortRenI : Go.Shelf.Ren := ⟨fun | 53 => 158 | 59 => 225 | 63 => 196 | 64 => 142 | 68 => 187 | 70 => 219 | 71 => 220 | 72 => 221 | 73 => 222 | 74 => 223 | 75 => 224 | 76 => 226 | 77 => 227 | 78 => 185 | 79 => 186 | 88 => 243 | 89 => 205 | 90 => 206 | 91 => 244 | 92 => 245 | 96 => 250 | n => n, fun | 0 => 0 | 3 => 3 | 4 => 4 | 5 => 5 | 9 => 9 | 22 => 41 | 23 => 2 | 44 => 159 | 51 => 193 | 60 => 230 | 61 => 231 | 67 => 237 | 69 => 177 | 75 => 256 | 79 => 260 | 83 => 281 | 84 => 255 | n => n, fun n => n⟩
theorem sortLaysI : SlLaysN.n53 Try.prog sortRenI := {
  mixed := by kernel_rfl,
  f53 := ⟨Try.f158.name, by decide, Try.func158.trans (congrArg some (by kernel_rfl))⟩,
  f59 := ⟨Try.f225.name, by decide, Try.func225.trans (congrArg some (by kernel_rfl))⟩,
  f63 := ⟨Try.f196.name, by decide, Try.func196.trans (congrArg some (by kernel_rfl))⟩,
  f64 := Try.func142.trans (congrArg some (by kernel_rfl)),
  f68 := ⟨Try.f187.name, by decide, Try.func187.trans (congrArg some (by kernel_rfl))⟩,
  f70 := ⟨Try.f219.name, by decide, Try.func219.trans (congrArg some (by kernel_rfl))⟩,
  f71 := ⟨Try.f220.name, by decide, Try.func220.trans (congrArg some (by kernel_rfl))⟩,
  f72 := ⟨Try.f221.name, by decide, Try.func221.trans (congrArg some (by kernel_rfl))⟩,
  f73 := ⟨Try.f222.name, by decide, Try.func222.trans (congrArg some (by kernel_rfl))⟩,
  f74 := ⟨Try.f223.name, by decide, Try.func223.trans (congrArg some (by kernel_rfl))⟩,
  f75 := ⟨Try.f224.name, by decide, Try.func224.trans (congrArg some (by kernel_rfl))⟩,
  f76 := ⟨Try.f226.name, by decide, Try.func226.trans (congrArg some (by kernel_rfl))⟩,
  f77 := ⟨Try.f227.name, by decide, Try.func227.trans (congrArg some (by kernel_rfl))⟩,
  f78 := Try.func185.trans (congrArg some (by kernel_rfl)),
  f79 := Try.func186.trans (congrArg some (by kernel_rfl)),
  f88 := ⟨Try.f243.name, by decide, Try.func243.trans (congrArg some (by kernel_rfl))⟩,
  f89 := Try.func205.trans (congrArg some (by kernel_rfl)),
  f90 := Try.func206.trans (congrArg some (by kernel_rfl)),
  f91 := ⟨Try.f244.name, by decide, Try.func244.trans (congrArg some (by kernel_rfl))⟩,
  f92 := ⟨Try.f245.name, by decide, Try.func245.trans (congrArg some (by kernel_rfl))⟩,
  f96 := ⟨Try.f250.name, by decide, Try.func250.trans (congrArg some (by kernel_rfl))⟩,
  t0 := by kernel_rfl,
  a0 := fun w => by kernel_rfl,
  z0 := fun w => by kernel_rfl,
  v0 := fun w => by kernel_rfl,
  t3 := by kernel_rfl,
  a3 := fun w => by kernel_rfl,
  z3 := fun w => by kernel_rfl,
  v3 := fun w => by kernel_rfl,
  t4 := by kernel_rfl,
  a4 := fun w => by kernel_rfl,
  z4 := fun w => by kernel_rfl,
  v4 := fun w => by kernel_rfl,
  t5 := by kernel_rfl,
  a5 := fun w => by kernel_rfl,
  z5 := fun w => by kernel_rfl,
  v5 := fun w => by kernel_rfl,
  t9 := by kernel_rfl,
  a9 := fun w => by kernel_rfl,
  z9 := fun w => by kernel_rfl,
  v9 := fun w => by kernel_rfl,
  t22 := by kernel_rfl,
  a22 := fun w => by kernel_rfl,
  z22 := fun w => by kernel_rfl,
  v22 := fun w => by kernel_rfl,
  t23 := by kernel_rfl,
  a23 := fun w => by kernel_rfl,
  z23 := fun w => by kernel_rfl,
  v23 := fun w => by kernel_rfl,
  t44 := by kernel_rfl,
  a44 := fun w => by kernel_rfl,
  z44 := fun w => by kernel_rfl,
  v44 := fun w => by kernel_rfl,
  t51 := by kernel_rfl,
  a51 := fun w => by kernel_rfl,
  z51 := fun w => by kernel_rfl,
  v51 := fun w => by kernel_rfl,
  t60 := by kernel_rfl,
  a60 := fun w => by kernel_rfl,
  z60 := fun w => by kernel_rfl,
  v60 := fun w => by kernel_rfl,
  t61 := by kernel_rfl,
  a61 := fun w => by kernel_rfl,
  z61 := fun w => by kernel_rfl,
  v61 := fun w => by kernel_rfl,
  t67 := by kernel_rfl,
  a67 := fun w => by kernel_rfl,
  z67 := fun w => by kernel_rfl,
  v67 := fun w => by kernel_rfl,
  t69 := by kernel_rfl,
  a69 := fun w => by kernel_rfl,
  z69 := fun w => by kernel_rfl,
  v69 := fun w => by kernel_rfl,
  t75 := by kernel_rfl,
  a75 := fun w => by kernel_rfl,
  z75 := fun w => by kernel_rfl,
  v75 := fun w => by kernel_rfl,
  t79 := by kernel_rfl,
  a79 := fun w => by kernel_rfl,
  z79 := fun w => by kernel_rfl,
  v79 := fun w => by kernel_rfl,
  t83 := by kernel_rfl,
  a83 := fun w => by kernel_rfl,
  z83 := fun w => by kernel_rfl,
  v83 := fun w => by kernel_rfl,
  t84 := by kernel_rfl,
  a84 := fun w => by kernel_rfl,
  z84 := fun w => by kernel_rfl,
  v84 := fun w => by kernel_rfl }
end Go.Proofs.Ythijakignhjmgaa
namespace Go.Proofs.Ythijakignhjmgaa
open Go Go.RowKit SL
/-- The items of a round that collects grades. -/
def HdI (Bs l0 : Nat) (o : Obj) (v : Value) (ss : List Int) (A : Hp) : Hp := .blk Bs [v] 41 :: .row v 2 1 (ss.map zV) :: .obj l0 o :: A
/-- The keys met. -/
def keysAtI (M : List (Int × Int)) (seen : List Nat) : List Int := seen.filterMap fun i => (M[i]?).map (·.1)
theorem keysAtI_snoc {M : List (Int × Int)} {seen : List Nat} {i : Nat} {p : Int × Int} (h : M[i]? = some p) : keysAtI M (seen ++ [i]) = keysAtI M seen ++ [p.1] := by
  unfold keysAtI
  rw [List.filterMap_append]
  simp [h]
theorem keysAtI_len (M : List (Int × Int)) (seen : List Nat) : (keysAtI M seen).length ≤ seen.length := List.length_filterMap_le _ _
theorem keysAtI_range (M : List (Int × Int)) : ∀ k, keysAtI M (List.range k) = (M.take k).map (·.1)
  | 0 => rfl
  | k + 1 => by
    have ih := keysAtI_range M k
    rw [List.range_succ, List.take_add_one, List.map_append, ← ih]
    unfold keysAtI
    rw [List.filterMap_append]
    cases h : M[k]? <;> simp [h]
theorem keysAtI_all {M : List (Int × Int)} {seen : List Nat} (h : seen.Perm (List.range M.length)) : (keysAtI M seen).Perm (M.map (·.1)) := by
  have h2 := keysAtI_range M M.length
  rw [List.take_length] at h2
  rw [← h2]
  exact h.filterMap _
set_option maxRecDepth 100000 in
theorem keysI_gives {B : Nat} {w0 : World} {o : Obj} {Bs Bm bm l0 : Nat} {Tm : TypeId} {M : List (Int × Int)} {A : Hp} {v0 : Value} (hM : It.obj bm (mapO (encM zV zV M)) ∈ A) (hB : It.blk Bm [.map (some bm)] Tm ∈ A)
    (hround : ∀ (v : Value) (ss : List Int) (x : Int) (A' : Hp) (w : World), ss.length < M.length → Holds B w0 (HdI Bs l0 o v ss A') w → Yl Try.prog l0 (zV x) B w0 w fun H' => ∃ v', Ent [] H' [] (HdI Bs l0 o v' (ss ++ [x]) A')) :
    GivesE Try.prog 159 #[.func (.yield l0) #[] #[], .pointer (some ⟨Bm, 0, none⟩)] B w0 (HdI Bs l0 o v0 [] A) (fun _ H' => ∃ (v : Value) (ss : List Int), ss.Perm (M.map (·.1)) ∧ H' = HdI Bs l0 o v ss A) := by
  have iB : MB Bm A [.map (some bm)] Tm := ⟨hB⟩
  have iM : MO bm A (mapO (encM zV zV M)) := ⟨hM⟩
  refine givesE_of (args := [.func (.yield l0) #[] #[], .pointer (some ⟨Bm, 0, none⟩)]) [(0, .func (.yield l0) #[] #[]), (1, .pointer (some ⟨Bm, 0, none⟩))] Try.func159 rfl Try.ntmps159 rfl (argsF_cons rfl (argsF_cons rfl argsF_nil)) ?_
  unfold HdI
  repeat' (first | (apply J_rangeT (eK := zV) (eV := zV); exact rfl; exact rfl; exact mo; (intro _)) | (apply Jq_move; exact rfl; exact rfl) | (apply Jq_assign; exact rfl; exact rfl) | (apply Jq_load; exact rfl; exact rfl; (exact mb); (first | exact rfl)) | (apply Jq_not; exact rfl; exact rfl) | (apply Jq_loadW; exact rfl; exact rfl; (exact mb); (first | exact rfl | omega)) | (apply Jq_loadA; exact rfl; exact rfl; (exact mb); (first | exact rfl); (first | exact rfl | omega)) | (apply Jq_loadR; exact rfl; exact rfl; (first | exact rb | assumption); (first | exact rfl)) | (apply Jq_ext20; exact rfl; exact rfl) | (apply Jq_ext21; exact rfl; exact rfl) | (apply Jq_extract; exact rfl; exact rfl; exact rfl) | refine thenQ_normal ?_ | refine thenQ_exit ?_ | refine thenQ_ret ?_ | refine inBlockQ_normal ?_ | refine inBlockQ_ret ?_ | refine inBlockQ_here ?_ | (apply inBlockQ_on; exact rfl) | refine JC_seq ?_ | refine JC_region ?_ | refine J_nil ?_ | refine JC_block ?_ | refine JC_skip ?_ | refine JC_ret ?_ | refine JC_exit ?_ | (apply JC_if_true; exact rfl) | (apply JC_if_false; exact rfl) | (apply JC_dec_true; exact rfl; omega) | (apply JC_dec_false; exact rfl; omega) | (apply JC_ndec_true; exact rfl; omega) | (apply JC_ndec_false; exact rfl; omega) | refine JC_dec rfl (fun _ => ?_) (fun _ => ?_) | refine JC_ndec rfl (fun _ => ?_) (fun _ => ?_) | refine JC_if rfl (fun _ => ?_) (fun _ => ?_))
  rename_i b5
  refine JC_loop (X := Value × List Nat) (fun p => p.2.Nodup ∧ ∀ i ∈ p.2, i < M.length) (fun p => [(0, .func (.yield l0) #[] #[]), (5, .pointer (some ⟨b5, 0, none⟩))]) (fun p => .obj b5 (itO bm M.length p.2) :: HdI Bs l0 o p.1 (keysAtI M p.2) A) (fun p => M.length - p.2.length) (v0, []) ⟨List.nodup_nil, fun i hi => absurd hi List.not_mem_nil⟩ ?_ ?_
  · (refine ent ?_ ?_; (repeat refine fr_cons rfl ?_); exact fr_nil; (repeat (first | exact List.nil_sublist _ | exact List.Sublist.refl _ | refine List.Sublist.cons_cons _ ?_ | refine List.Sublist.cons _ ?_)))
  · rintro ⟨v, seen⟩ ⟨hs1, hs2⟩
    dsimp only at hs1 hs2 ⊢
    have hsl : seen.length ≤ M.length := by
      have := List.Nodup.length_le_of_subset hs1 (l₂ := List.range M.length) fun a ha => List.mem_range.2 (hs2 a ha)
      rwa [List.length_range] at this
    unfold HdI
    repeat' (first | (refine JC_yield (l0 := l0) 2 rfl rfl rfl rfl ?_ ?_; (intro _ _ hq; (repeat (first | unfold thenQ at hq | unfold inBlockQ at hq | unfold eQ at hq)); exact hq); dsimp only [List.take, List.drop]) | refine J_nextT (eK := zV) (eV := zV) (m := M) rfl rfl inferInstance rfl mo hs2 (fun hall => ?_) (fun i p hi hns => ?_) | (apply Jq_entryT (eK := zV) (eV := zV) (m := M) (p := p); exact rfl; exact rfl; exact mo; exact mo; exact hi) | (apply Jq_move; exact rfl; exact rfl) | (apply Jq_assign; exact rfl; exact rfl) | (apply Jq_load; exact rfl; exact rfl; (exact mb); (first | exact rfl)) | (apply Jq_not; exact rfl; exact rfl) | (apply Jq_loadW; exact rfl; exact rfl; (exact mb); (first | exact rfl | omega)) | (apply Jq_loadA; exact rfl; exact rfl; (exact mb); (first | exact rfl); (first | exact rfl | omega)) | (apply Jq_loadR; exact rfl; exact rfl; (first | exact rb | assumption); (first | exact rfl)) | (apply Jq_ext20; exact rfl; exact rfl) | (apply Jq_ext21; exact rfl; exact rfl) | (apply Jq_extract; exact rfl; exact rfl; exact rfl) | refine thenQ_normal ?_ | refine thenQ_exit ?_ | refine thenQ_ret ?_ | refine inBlockQ_normal ?_ | refine inBlockQ_ret ?_ | refine inBlockQ_here ?_ | (apply inBlockQ_on; exact rfl) | refine JC_seq ?_ | refine JC_region ?_ | refine J_nil ?_ | refine JC_block ?_ | refine JC_skip ?_ | refine JC_ret ?_ | refine JC_exit ?_ | (apply JC_if_true; exact rfl) | (apply JC_if_false; exact rfl) | (apply JC_dec_true; exact rfl; omega) | (apply JC_dec_false; exact rfl; omega) | (apply JC_ndec_true; exact rfl; omega) | (apply JC_ndec_false; exact rfl; omega) | refine JC_dec rfl (fun _ => ?_) (fun _ => ?_) | refine JC_ndec rfl (fun _ => ?_) (fun _ => ?_) | refine JC_if rfl (fun _ => ?_) (fun _ => ?_))
    · refine e0 (H' := HdI Bs l0 o v (keysAtI M seen) A) rfl rfl ?_ ⟨v, keysAtI M seen, keysAtI_all (all_met hs1 hs2 hall), rfl⟩
      unfold HdI
      (refine ent ?_ ?_; (repeat refine fr_cons rfl ?_); exact fr_nil; (repeat (first | exact List.nil_sublist _ | exact List.Sublist.refl _ | refine List.Sublist.cons_cons _ ?_ | refine List.Sublist.cons _ ?_)))
    · have hin : ∀ t ∈ seen ++ [i], t < M.length := fun t ht => by
        rcases List.mem_append.1 ht with h | h
        · exact hs2 t h
        · rw [List.mem_singleton] at h
          subst h
          exact (List.getElem?_eq_some_iff.1 hi).1
      have hnn : (seen ++ [i]).Nodup := List.nodup_append.2 ⟨hs1, by simp, fun a ha b hb e => hns (by rw [List.mem_singleton] at hb; subst hb e; exact ha)⟩
      have hlt : seen.length < M.length := by
        have := List.Nodup.length_le_of_subset hnn (l₂ := List.range M.length) fun a ha => List.mem_range.2 (hin a ha)
        rw [List.length_range, List.length_append, List.length_singleton] at this
        omega
      have hkl := keysAtI_len M seen
      have hks := keysAtI_snoc (seen := seen) hi
      unfold onlyN
      dsimp only
      refine ⟨rfl, zV p.1, rfl, fun w hw => ((hround v (keysAtI M seen) p.1 (.obj b5 (itO bm M.length (seen ++ [i])) :: A) w (by omega) (Ent.holds (F := []) (F' := []) ?_ hw)).mono ?_)⟩
      · unfold HdI
        (refine entP (ent ?_ (List.nil_sublist _)) ?_; (repeat refine fr_cons rfl ?_); exact fr_nil; (repeat (first | exact sp_nil | exact sp_refl | exact sp_end | (with_reducible apply sp0) | (with_reducible apply sp1) | (with_reducible apply sp2) | (with_reducible apply sp3) | (with_reducible apply sp4) | (with_reducible apply sp5) | (with_reducible apply sp6) | (with_reducible apply sp7) | apply sp0 | apply sp1 | apply sp2 | apply sp3 | apply sp4 | apply sp5)))
      · rintro H2 ⟨v', he⟩
        refine J_ent he ?_
        unfold HdI
        repeat' (first | (apply Jq_move; exact rfl; exact rfl) | (apply Jq_assign; exact rfl; exact rfl) | (apply Jq_load; exact rfl; exact rfl; (exact mb); (first | exact rfl)) | (apply Jq_not; exact rfl; exact rfl) | (apply Jq_loadW; exact rfl; exact rfl; (exact mb); (first | exact rfl | omega)) | (apply Jq_loadA; exact rfl; exact rfl; (exact mb); (first | exact rfl); (first | exact rfl | omega)) | (apply Jq_loadR; exact rfl; exact rfl; (first | exact rb | assumption); (first | exact rfl)) | (apply Jq_ext20; exact rfl; exact rfl) | (apply Jq_ext21; exact rfl; exact rfl) | (apply Jq_extract; exact rfl; exact rfl; exact rfl) | refine thenQ_normal ?_ | refine thenQ_exit ?_ | refine thenQ_ret ?_ | refine inBlockQ_normal ?_ | refine inBlockQ_ret ?_ | refine inBlockQ_here ?_ | (apply inBlockQ_on; exact rfl) | refine JC_seq ?_ | refine JC_region ?_ | refine J_nil ?_ | refine JC_block ?_ | refine JC_skip ?_ | refine JC_ret ?_ | refine JC_exit ?_ | (apply JC_if_true; exact rfl) | (apply JC_if_false; exact rfl) | (apply JC_dec_true; exact rfl; omega) | (apply JC_dec_false; exact rfl; omega) | (apply JC_ndec_true; exact rfl; omega) | (apply JC_ndec_false; exact rfl; omega) | refine JC_dec rfl (fun _ => ?_) (fun _ => ?_) | refine JC_ndec rfl (fun _ => ?_) (fun _ => ?_) | refine JC_if rfl (fun _ => ?_) (fun _ => ?_))
        refine ⟨(v', seen ++ [i]), ⟨hnn, hin⟩, by dsimp only; rw [List.length_append, List.length_singleton]; omega, ?_⟩
        dsimp only
        rw [hks]
        (refine entP (ent ?_ (List.nil_sublist _)) ?_; (repeat refine fr_cons rfl ?_); exact fr_nil; (repeat (first | exact sp_nil | exact sp_refl | exact sp_end | (with_reducible apply sp0) | (with_reducible apply sp1) | (with_reducible apply sp2) | (with_reducible apply sp3) | (with_reducible apply sp4) | (with_reducible apply sp5) | (with_reducible apply sp6) | (with_reducible apply sp7) | apply sp0 | apply sp1 | apply sp2 | apply sp3 | apply sp4 | apply sp5)))
set_option maxRecDepth 100000 in
theorem appI_gives {B : Nat} {w0 : World} {H : Hp} {Bm bm : Nat} {Tm : TypeId} {M : List (Int × Int)} (hM : It.obj bm (mapO (encM zV zV M)) ∈ H) (hB : It.blk Bm [.map (some bm)] Tm ∈ H) (hl : M.length ≤ 1000000) :
    GivesE Try.prog 195 #[.slice none 0 0, .func (.func 159) #[] #[.pointer (some ⟨Bm, 0, none⟩)]] B w0 H (fun v' H' => ∃ ss : List Int, ss.Perm (M.map (·.1)) ∧ H' = .row v' 2 1 (ss.map zV) :: H) := by
  refine givesE_range (args := [.slice none 0 0, .func (.func 159) #[] #[.pointer (some ⟨Bm, 0, none⟩)]]) [(0, .slice none 0 0), (1, .func (.func 159) #[] #[.pointer (some ⟨Bm, 0, none⟩)])] Try.func195 rfl Try.ntmps195 rfl (argsF_cons rfl (argsF_cons rfl argsF_nil)) ?_
  refine JW_seq (JC_nilrow (e := 2) (sz := 1) ?_)
  repeat' (first | (apply Jq_move; exact rfl; exact rfl) | (apply Jq_assign; exact rfl; exact rfl) | (apply Jq_load; exact rfl; exact rfl; (exact mb); (first | exact rfl)) | (apply Jq_loadW; exact rfl; exact rfl; (exact mb); (first | exact rfl | omega)) | (apply Jq_loadA; exact rfl; exact rfl; (exact mb); (first | exact rfl); (first | exact rfl | omega)) | (apply J_s1; exact rfl; exact rfl; exact rfl; infer_instance; (first | exact rfl | omega); (first | exact rfl); infer_instance) | (apply J_sW; exact rfl; exact rfl; infer_instance; (first | exact rfl | omega); (first | exact rfl | omega); (first | exact ones_of rfl | exact u8s_one _ | exact i64s_one _ | exact bls_one _ | exact gv_one _ _ _ | exact dv_one _ _ _ _ _ _); infer_instance) | (apply J_sR; exact rfl; exact rfl; exact rfl; infer_instance; (first | exact rfl | omega); (first | exact i64s_setR)) | (apply J_lit1; exact rfl; exact rfl; exact rfl; (intro _)) | (apply J_ap; exact Nat.one_pos; exact rfl; exact rfl; exact rfl; infer_instance; (first | exact rb | assumption); exact List.cons_ne_nil _ _; exact ones_of rfl; ((show (_ + 1) * _ ≤ _); omega); decide; (first | exact i64s_snoc | exact u8s_snoc | exact rfl); (intro _)) | (apply Jq_loadR; exact rfl; exact rfl; (first | exact rb | assumption); (first | exact rfl)) | (apply J_box; exact rfl; exact rfl; exact rfl; (intro _)) | refine thenQ_normal ?_ | refine thenQ_exit ?_ | refine thenQ_ret ?_ | refine inBlockQ_normal ?_ | refine inBlockQ_ret ?_ | refine inBlockQ_here ?_ | (apply inBlockQ_on; exact rfl) | refine JC_seq ?_ | refine JC_region ?_ | refine J_nil ?_ | refine JC_block ?_ | refine JC_skip ?_ | refine JC_ret ?_ | refine JC_exit ?_)
  unfold onlyN
  dsimp only
  rename_i Bs
  refine JW_then (JW_seq ?_)
  repeat' (first | (apply Jq_move; exact rfl; exact rfl) | (apply Jq_assign; exact rfl; exact rfl) | (apply Jq_load; exact rfl; exact rfl; (exact mb); (first | exact rfl)) | (apply Jq_loadW; exact rfl; exact rfl; (exact mb); (first | exact rfl | omega)) | (apply Jq_loadA; exact rfl; exact rfl; (exact mb); (first | exact rfl); (first | exact rfl | omega)) | (apply J_s1; exact rfl; exact rfl; exact rfl; infer_instance; (first | exact rfl | omega); (first | exact rfl); infer_instance) | (apply J_sW; exact rfl; exact rfl; infer_instance; (first | exact rfl | omega); (first | exact rfl | omega); (first | exact ones_of rfl | exact u8s_one _ | exact i64s_one _ | exact bls_one _ | exact gv_one _ _ _ | exact dv_one _ _ _ _ _ _); infer_instance) | (apply J_sR; exact rfl; exact rfl; exact rfl; infer_instance; (first | exact rfl | omega); (first | exact i64s_setR)) | (apply J_lit1; exact rfl; exact rfl; exact rfl; (intro _)) | (apply J_ap; exact Nat.one_pos; exact rfl; exact rfl; exact rfl; infer_instance; (first | exact rb | assumption); exact List.cons_ne_nil _ _; exact ones_of rfl; ((show (_ + 1) * _ ≤ _); omega); decide; (first | exact i64s_snoc | exact u8s_snoc | exact rfl); (intro _)) | (apply Jq_loadR; exact rfl; exact rfl; (first | exact rb | assumption); (first | exact rfl)) | (apply J_box; exact rfl; exact rfl; exact rfl; (intro _)) | refine thenQ_normal ?_ | refine thenQ_exit ?_ | refine thenQ_ret ?_ | refine inBlockQ_normal ?_ | refine inBlockQ_ret ?_ | refine inBlockQ_here ?_ | (apply inBlockQ_on; exact rfl) | refine JC_seq ?_ | refine JC_region ?_ | refine J_nil ?_ | refine JC_block ?_ | refine JC_skip ?_ | refine JC_ret ?_ | refine JC_exit ?_)
  unfold onlyN
  dsimp only
  refine JW_range (V := fun H1 => ∃ (v : Value) (ss : List Int), ss.Perm (M.map (·.1)) ∧ H1 = .blk Bs [v] 41 :: .row v 2 1 (ss.map zV) :: H) (lb := #[.pointer (some ⟨Bm, 0, none⟩)]) ?_ (Runs.out (P := Try.prog) (k := 159)) ?_ ?_
  · exact rfl
  · intro l0 D fn tm hF
    generalize hoo : recO tm #[7] _ _ fn D LoopState.ready = o
    refine GivesE.re (keysI_gives (o := o) (Bs := Bs) (l0 := l0) (v0 := .slice none 0 0) (A := .obj D (.deferred (some [])) :: H) (mS hM) (mS hB) ?_) ?_ ?_
    · intro v ss x A' w hlt hw
      subst hoo
      have lf : (ss.map zV).length = ss.length := List.length_map _
      have hone : ∀ c ∈ [zV x], c.oneCell' = true := fun c hc => by rw [List.mem_singleton.1 hc]; rfl
      have push : ss.map zV ++ [zV x] = (ss ++ [x]).map zV := by rw [List.map_append]; rfl
      unfold HdI at hw
      refine yield_of (H1 := [.blk Bs [v] 41, .row v 2 1 (ss.map zV)]) (H2 := A') hw hF rfl ?_
      refine JR_region rfl (fun _ _ h => h) ?_
      dsimp only [List.cons_append, List.nil_append]
      repeat' (first | (apply Jq_move; exact rfl; exact rfl) | (apply Jq_assign; exact rfl; exact rfl) | (apply Jq_load; exact rfl; exact rfl; (exact mb); (first | exact rfl)) | (apply Jq_loadW; exact rfl; exact rfl; (exact mb); (first | exact rfl | omega)) | (apply Jq_loadA; exact rfl; exact rfl; (exact mb); (first | exact rfl); (first | exact rfl | omega)) | (apply J_s1; exact rfl; exact rfl; exact rfl; infer_instance; (first | exact rfl | omega); (first | exact rfl); infer_instance) | (apply J_sW; exact rfl; exact rfl; infer_instance; (first | exact rfl | omega); (first | exact rfl | omega); (first | exact ones_of rfl | exact u8s_one _ | exact i64s_one _ | exact bls_one _ | exact gv_one _ _ _ | exact dv_one _ _ _ _ _ _); infer_instance) | (apply J_sR; exact rfl; exact rfl; exact rfl; infer_instance; (first | exact rfl | omega); (first | exact i64s_setR)) | (apply J_lit1; exact rfl; exact rfl; exact rfl; (intro _)) | (apply J_ap; exact Nat.one_pos; exact rfl; exact rfl; exact rfl; infer_instance; (first | exact rb | assumption); exact List.cons_ne_nil _ _; exact ones_of rfl; ((show (_ + 1) * _ ≤ _); omega); decide; (first | exact i64s_snoc | exact u8s_snoc | exact rfl); (intro _)) | (apply Jq_loadR; exact rfl; exact rfl; (first | exact rb | assumption); (first | exact rfl)) | (apply J_box; exact rfl; exact rfl; exact rfl; (intro _)) | refine thenQ_normal ?_ | refine thenQ_exit ?_ | refine thenQ_ret ?_ | refine inBlockQ_normal ?_ | refine inBlockQ_ret ?_ | refine inBlockQ_here ?_ | (apply inBlockQ_on; exact rfl) | refine JC_seq ?_ | refine JC_region ?_ | refine J_nil ?_ | refine JC_block ?_ | refine JC_skip ?_ | refine JC_ret ?_ | refine JC_exit ?_)
      unfold onlyN
      dsimp only
      refine ⟨[.blk Bs [v] 41, .row v 2 1 (ss.map zV)], A', rfl, ?_⟩
      refine JR_block (JR_region rfl (fun _ _ hq => by unfold inBlockQ at hq; exact hq) ?_)
      dsimp only [List.cons_append, List.nil_append]
      repeat' (first | (apply J_s1; exact rfl; exact rfl; exact oa; infer_instance; exact Nat.one_pos; exact rfl; infer_instance) | (apply J_ap (v := v); decide; exact rfl; exact rfl; exact rfl; infer_instance; exact m0; exact List.cons_ne_nil _ _; exact hone; ((show (_ + _) * _ ≤ _); (simp only [List.length_cons, List.length_nil]); omega); decide; exact push; (intro v'); (refine J_row1' (v := v') (e := 2) (sz := 1) (xs := (ss ++ [x]).map zV) rb (fun oa _ => ?_))) | (apply Jq_move; exact rfl; exact rfl) | (apply Jq_assign; exact rfl; exact rfl) | (apply Jq_load; exact rfl; exact rfl; (exact mb); (first | exact rfl)) | (apply Jq_loadW; exact rfl; exact rfl; (exact mb); (first | exact rfl | omega | exact Nat.le_of_ble_eq_true rfl)) | (apply Jq_loadA; exact rfl; exact rfl; (exact mb); (first | exact rfl); (first | exact rfl | omega | exact Nat.le_of_ble_eq_true rfl)) | (apply J_s1; exact rfl; exact rfl; exact rfl; infer_instance; (first | exact rfl | omega | exact Nat.le_of_ble_eq_true rfl); (first | exact rfl | exact rfl); infer_instance) | (apply J_sW; exact rfl; exact rfl; infer_instance; (first | exact rfl | omega | exact Nat.le_of_ble_eq_true rfl); (first | exact rfl | omega | exact Nat.le_of_ble_eq_true rfl); (first | exact ones_of rfl | exact u8s_one _ | exact i64s_one _ | exact bls_one _ | exact gv_one _ _ _ | exact dv_one _ _ _ _ _ _); infer_instance) | (apply J_sR; exact rfl; exact rfl; exact rfl; infer_instance; (first | exact rfl | omega | exact Nat.le_of_ble_eq_true rfl); (first | exact rfl | exact i64s_setR)) | (apply J_lit1; exact rfl; exact rfl; exact rfl; (intro _)) | (apply J_ap; exact Nat.one_pos; exact rfl; exact rfl; exact rfl; infer_instance; (first | exact rb | assumption); exact List.cons_ne_nil _ _; exact ones_of rfl; ((show (_ + 1) * _ ≤ _); omega); decide; (first | exact i64s_snoc | exact u8s_snoc | exact rfl); (intro _)) | (apply Jq_loadR; exact rfl; exact rfl; (first | exact rb | assumption); (first | exact rfl)) | (apply J_box; exact rfl; exact rfl; exact rfl; (intro _)) | refine thenQ_normal ?_ | refine thenQ_exit ?_ | refine thenQ_ret ?_ | refine inBlockQ_normal ?_ | refine inBlockQ_ret ?_ | refine inBlockQ_here ?_ | (apply inBlockQ_on; exact rfl) | refine JC_seq ?_ | refine JC_region ?_ | refine J_nil ?_ | refine JC_block ?_ | refine JC_skip ?_ | refine JC_ret ?_ | refine JC_exit ?_)
      rename_i b6 _
      dsimp only
      refine ⟨[.row (.slice (some ⟨b6, 0, none⟩) 1 1) 2 1 [zV x], .blk Bs [v'] 41, .row v' 2 1 ((ss ++ [x]).map zV)], A', rfl, v', ?_⟩
      unfold HdI
      dsimp only [List.cons_append, List.nil_append]
      (refine entP (ent ?_ (List.nil_sublist _)) ?_; (repeat refine fr_cons rfl ?_); exact fr_nil; (repeat (first | exact sp_nil | exact sp_refl | exact sp_end | (with_reducible apply sp0) | (with_reducible apply sp1) | (with_reducible apply sp2) | (with_reducible apply sp3) | (with_reducible apply sp4) | (with_reducible apply sp5) | (with_reducible apply sp6) | (with_reducible apply sp7) | apply sp0 | apply sp1 | apply sp2 | apply sp3 | apply sp4 | apply sp5)))
    · unfold HdI
      (refine entP (ent ?_ (List.nil_sublist _)) ?_; (repeat refine fr_cons rfl ?_); exact fr_nil; (repeat (first | exact sp_nil | exact sp_refl | exact sp_end | (with_reducible apply sp0) | (with_reducible apply sp1) | (with_reducible apply sp2) | (with_reducible apply sp3) | (with_reducible apply sp4) | (with_reducible apply sp5) | (with_reducible apply sp6) | (with_reducible apply sp7) | apply sp0 | apply sp1 | apply sp2 | apply sp3 | apply sp4 | apply sp5)))
    · rintro _ _ ⟨v, ss, hp, rfl⟩
      refine ⟨_, ⟨_, rfl, v, ss, hp, rfl⟩, ?_⟩
      unfold HdI
      (refine entP (ent ?_ (List.nil_sublist _)) ?_; (repeat refine fr_cons rfl ?_); exact fr_nil; (repeat (first | exact sp_nil | exact sp_refl | exact sp_end | (with_reducible apply sp0) | (with_reducible apply sp1) | (with_reducible apply sp2) | (with_reducible apply sp3) | (with_reducible apply sp4) | (with_reducible apply sp5) | (with_reducible apply sp6) | (with_reducible apply sp7) | apply sp0 | apply sp1 | apply sp2 | apply sp3 | apply sp4 | apply sp5)))
  · rintro D H1 ⟨v, ss, hp, rfl⟩
    refine JD_seq (QQ := bodyPostM Fence.wide 0 Try.prog _ _) ?_
    repeat' (first | (apply Jq_move; exact rfl; exact rfl) | (apply Jq_assign; exact rfl; exact rfl) | (apply Jq_load; exact rfl; exact rfl; (exact mb); (first | exact rfl)) | (apply Jq_loadW; exact rfl; exact rfl; (exact mb); (first | exact rfl | omega)) | (apply Jq_loadA; exact rfl; exact rfl; (exact mb); (first | exact rfl); (first | exact rfl | omega)) | (apply J_s1; exact rfl; exact rfl; exact rfl; infer_instance; (first | exact rfl | omega); (first | exact rfl); infer_instance) | (apply J_sW; exact rfl; exact rfl; infer_instance; (first | exact rfl | omega); (first | exact rfl | omega); (first | exact ones_of rfl | exact u8s_one _ | exact i64s_one _ | exact bls_one _ | exact gv_one _ _ _ | exact dv_one _ _ _ _ _ _); infer_instance) | (apply J_sR; exact rfl; exact rfl; exact rfl; infer_instance; (first | exact rfl | omega); (first | exact i64s_setR)) | (apply J_lit1; exact rfl; exact rfl; exact rfl; (intro _)) | (apply J_ap; exact Nat.one_pos; exact rfl; exact rfl; exact rfl; infer_instance; (first | exact rb | assumption); exact List.cons_ne_nil _ _; exact ones_of rfl; ((show (_ + 1) * _ ≤ _); omega); decide; (first | exact i64s_snoc | exact u8s_snoc | exact rfl); (intro _)) | (apply Jq_loadR; exact rfl; exact rfl; (first | exact rb | assumption); (first | exact rfl)) | (apply J_box; exact rfl; exact rfl; exact rfl; (intro _)) | refine thenQ_normal ?_ | refine thenQ_exit ?_ | refine thenQ_ret ?_ | refine inBlockQ_normal ?_ | refine inBlockQ_ret ?_ | refine inBlockQ_here ?_ | (apply inBlockQ_on; exact rfl) | refine JC_seq ?_ | refine JC_region ?_ | refine J_nil ?_ | refine JC_block ?_ | refine JC_skip ?_ | refine JC_ret ?_ | refine JC_exit ?_)
    unfold onlyN
    dsimp only
    refine JD_ret fun a w ha hd hw => eD1 (H' := .row v 2 1 (ss.map zV) :: H) rfl rfl ⟨ss, hp, rfl⟩ ?_ ha hd hw
    (refine ent ?_ ?_; (repeat refine fr_cons rfl ?_); exact fr_nil; (repeat (first | exact List.nil_sublist _ | exact List.Sublist.refl _ | refine List.Sublist.cons_cons _ ?_ | refine List.Sublist.cons _ ?_)))
set_option maxRecDepth 100000 in
theorem mapKeysI_gives {B : Nat} {w0 : World} {H : Hp} (bm : Nat) :
    GivesE Try.prog 106 #[.map (some bm)] B w0 H (fun v' H' => ∃ Bm, v' = .func (.func 159) #[] #[.pointer (some ⟨Bm, 0, none⟩)] ∧ H' = .blk Bm [.map (some bm)] 131 :: H) := by
  refine givesE_of (args := [.map (some bm)]) [(0, .map (some bm))] Try.func106 rfl Try.ntmps106 rfl (argsF_cons rfl argsF_nil) ?_
  repeat' (first | (apply Jq_func1; exact rfl; exact rfl) | (apply Jq_assign; exact rfl; exact rfl) | (apply J_box; exact rfl; exact rfl; exact rfl; (intro _)) | refine thenQ_normal ?_ | refine thenQ_exit ?_ | refine thenQ_ret ?_ | refine inBlockQ_normal ?_ | refine inBlockQ_ret ?_ | refine inBlockQ_here ?_ | (apply inBlockQ_on; exact rfl) | refine JC_seq ?_ | refine JC_region ?_ | refine J_nil ?_ | refine JC_block ?_ | refine JC_skip ?_ | refine JC_ret ?_ | refine JC_exit ?_)
  rename_i Bm
  exact SL.e1 (H' := .blk Bm [.map (some bm)] 131 :: H) rfl rfl rfl (entS fun _ _ h => h) ⟨Bm, rfl, rfl⟩
set_option maxRecDepth 100000 in
theorem collectI_gives {B : Nat} {w0 : World} {H : Hp} {Bm bm : Nat} {Tm : TypeId} {M : List (Int × Int)} (hM : It.obj bm (mapO (encM zV zV M)) ∈ H) (hB : It.blk Bm [.map (some bm)] Tm ∈ H) (hl : M.length ≤ 1000000) :
    GivesE Try.prog 157 #[.func (.func 159) #[] #[.pointer (some ⟨Bm, 0, none⟩)]] B w0 H (fun v' H' => ∃ ss : List Int, ss.Perm (M.map (·.1)) ∧ H' = .row v' 2 1 (ss.map zV) :: H) := by
  refine givesE_of (args := [.func (.func 159) #[] #[.pointer (some ⟨Bm, 0, none⟩)]]) [(0, .func (.func 159) #[] #[.pointer (some ⟨Bm, 0, none⟩)])] Try.func157 rfl Try.ntmps157 rfl (argsF_cons rfl argsF_nil) ?_
  repeat' (first | (apply JcE; exact rfl; exact rfl; exact rfl; infer_instance; (exact appI_gives hM hB hl); (intro v' H' hV; obtain ⟨ss, hp, rfl⟩ := hV)) | (apply Jq_move; exact rfl; exact rfl) | (apply Jq_assign; exact rfl; exact rfl) | refine thenQ_normal ?_ | refine thenQ_exit ?_ | refine thenQ_ret ?_ | refine inBlockQ_normal ?_ | refine inBlockQ_ret ?_ | refine inBlockQ_here ?_ | (apply inBlockQ_on; exact rfl) | refine JC_seq ?_ | refine JC_region ?_ | refine J_nil ?_ | refine JC_block ?_ | refine JC_skip ?_ | refine JC_ret ?_ | refine JC_exit ?_)
  refine SL.e1 (H' := .row v' 2 1 (ss.map zV) :: H) rfl rfl rfl ?_ ⟨ss, hp, rfl⟩
  (refine ent ?_ ?_; (repeat refine fr_cons rfl ?_); exact fr_nil; (repeat (first | exact List.nil_sublist _ | exact List.Sublist.refl _ | refine List.Sublist.cons_cons _ ?_ | refine List.Sublist.cons _ ?_)))
/-- slices.Sort over a row of numbers. -/
theorem sortI_gives {B : Nat} {w0 : World} {H2 : Hp} {v : Value} (zs : List Int) (hsz : zs.length < 4611686018427387904) (hpos : 0 < zs.length) :
    GivesE Try.prog 158 #[v] B w0 (.row v 2 1 (zs.map zV) :: H2)
      (fun v' H' => v' = .tuple #[] ∧ H' = .row v 2 1 ((zs.mergeSort fun x y => decide (x ≤ y)).map zV) :: H2) := by
  unfold GivesE
  intro w hw
  obtain ⟨m, hown⟩ := hw.row_slice (v := v) (e := 2) (sz := 1) (xs := zs.map zV) m0
  have hm : m = zs.length := by
    have := hown.1
    rw [List.length_map] at this
    omega
  subst hm
  rcases hown.2 with ⟨rfl, h0⟩ | ⟨gg, cap, cur, rfl, hB, hg, hnc, hcm, hcs, htake⟩
  · omega
  · have hblk : gg < w.heap.size := (Array.getElem?_eq_some_iff.1 hg).1
    have hH : Go.Sort.Holds (Value.int .i64) w gg 0 zs.toArray := fun j hj => by
      rw [List.size_toArray] at hj
      refine ⟨?_, ?_⟩
      · have h1 : w.cell? ⟨gg, 0 + j, none⟩ = (zs.map zV)[j]? := by
          rw [← htake, List.getElem?_take_of_lt (by omega)]
          simp [World.cell?, hg]
        rw [h1, List.getElem?_map, List.getElem?_eq_getElem hj, getElem!_pos _ j (by simpa using hj)]
        simp [zV]
      · simp [World.frozen?, hg]
    have hcon := Go.Proofs.AnyG.slices_Sort_int sortLaysI gg 0 cap zs w hH hblk hsz
    refine Calls.mono hcon ?_
    rintro e w' ⟨rfl, n, os, rfl⟩
    refine ⟨_, _, rfl, ⟨rfl, rfl⟩, ?_⟩
    have hs' : (zs.mergeSort fun x y => decide (x ≤ y)).length = zs.length := List.length_mergeSort ..
    generalize (zs.mergeSort fun x y => decide (x ≤ y)) = ys at hs' ⊢
    have hg' : (Go.Sort.grow (Go.Sort.putRow (Value.int .i64) (Go.Sort.ahead w n) gg 0 ys.toArray) os).heap[gg]? = some (Obj.cells (Go.Sort.putCells (Value.int .i64) 0 ys.toArray cur) 2 (0, 0)) := by
      simp only [Go.Sort.grow, Go.Sort.putRow, Go.Sort.mapBlock, Go.Sort.ahead]
      rw [Array.getElem?_append_left (by simpa using hblk), Array.getElem?_modify, if_pos rfl, hg]
      rfl
    refine Holds.swap (H1 := []) hw rfl rfl rfl ?_ ?_ ?_ ⟨zs.length, ?_, .inr ⟨gg, cap, _, rfl, hB, hg', hnc, hcm, ?_, ?_⟩⟩ (fun k hk => .inl hk)
    · simp [Go.Sort.grow, Go.Sort.putRow, Go.Sort.mapBlock, Go.Sort.ahead]
    · simp [Go.Sort.grow, Go.Sort.putRow, Go.Sort.mapBlock, Go.Sort.ahead]
    · intro k hk hne
      have hne' : gg ≠ k := fun e => hne (by rw [e]; rfl)
      simp only [Go.Sort.grow, Go.Sort.putRow, Go.Sort.mapBlock, Go.Sort.ahead]
      rw [Array.getElem?_append_left (by simpa using hk), Array.getElem?_modify, if_neg hne']
    · rw [List.length_map, hs', Nat.mul_one]
    · simp [Go.Sort.putCells, hcs]
    · refine List.ext_getElem? fun j => ?_
      by_cases hj : j < zs.length
      · rw [List.getElem?_take_of_lt (by omega), Array.getElem?_toList, Array.getElem?_eq_getElem (by simp [Go.Sort.putCells]; omega), List.getElem?_map, List.getElem?_eq_getElem (by omega)]
        simp only [Go.Sort.putCells, Array.getElem_mapIdx]
        rw [if_pos (by simp; omega), getElem!_pos _ _ (by simp; omega)]
        simp [zV]
      · rw [List.getElem?_eq_none (by simp [Go.Sort.putCells]; omega), List.getElem?_eq_none (by rw [List.length_map]; omega)]
theorem msort_asc {zs : List Int} (hn : zs.Nodup) : (zs.mergeSort fun x y => decide (x ≤ y)).Pairwise (· < ·) ∧ (zs.mergeSort fun x y => decide (x ≤ y)).Perm zs := by
  have hp := List.mergeSort_perm zs fun x y => decide (x ≤ y)
  have hs := List.pairwise_mergeSort (le := fun x y : Int => decide (x ≤ y)) (fun a b c h k => by simp only [decide_eq_true_eq] at *; omega) (fun a b => by simp only [Bool.or_eq_true, decide_eq_true_eq]; omega) zs
  refine ⟨?_, hp⟩
  have hn2 := List.nodup_iff_pairwise_ne.1 (hp.nodup_iff.2 hn)
  refine (hs.and hn2).imp fun {a b} h => ?_
  have h1 := h.1
  have h2 := h.2
  simp only [decide_eq_true_eq] at h1
  omega
set_option maxRecDepth 100000 in
theorem sortedI_gives {B : Nat} {w0 : World} {H : Hp} {Bm bm : Nat} {Tm : TypeId} {M : List (Int × Int)} (hn : (M.map (·.1)).Nodup) (hM : It.obj bm (mapO (encM zV zV M)) ∈ H) (hB : It.blk Bm [.map (some bm)] Tm ∈ H) (hl : M.length ≤ 1000000) (hpos : 0 < M.length) :
    GivesE Try.prog 105 #[.func (.func 159) #[] #[.pointer (some ⟨Bm, 0, none⟩)]] B w0 H (fun v' H' => ∃ ss : List Int, ss.Perm (M.map (·.1)) ∧ ss.Pairwise (· < ·) ∧ H' = .row v' 2 1 (ss.map zV) :: H) := by
  refine givesE_of (args := [.func (.func 159) #[] #[.pointer (some ⟨Bm, 0, none⟩)]]) [(0, .func (.func 159) #[] #[.pointer (some ⟨Bm, 0, none⟩)])] Try.func105 rfl Try.ntmps105 rfl (argsF_cons rfl argsF_nil) ?_
  repeat' (first | (apply JcE; exact rfl; exact rfl; exact rfl; infer_instance; (exact collectI_gives hM hB hl); (intro v' H' hV; obtain ⟨ss, hp, rfl⟩ := hV; have hlen := hp.length_eq; rw [List.length_map] at hlen; have hnd := hp.nodup_iff.2 hn)) | (apply JcE; exact rfl; exact rfl; exact rfl; infer_instance; (exact sortI_gives ss (by omega) (by omega)); (intro v2 H2 hV; obtain ⟨rfl, rfl⟩ := hV; obtain ⟨q1, q2⟩ := msort_asc hnd)) | (apply Jq_move; exact rfl; exact rfl) | (apply Jq_assign; exact rfl; exact rfl) | refine thenQ_normal ?_ | refine thenQ_exit ?_ | refine thenQ_ret ?_ | refine inBlockQ_normal ?_ | refine inBlockQ_ret ?_ | refine inBlockQ_here ?_ | (apply inBlockQ_on; exact rfl) | refine JC_seq ?_ | refine JC_region ?_ | refine J_nil ?_ | refine JC_block ?_ | refine JC_skip ?_ | refine JC_ret ?_ | refine JC_exit ?_)
  refine SL.e1 (H' := .row v' 2 1 ((ss.mergeSort fun x y => decide (x ≤ y)).map zV) :: H) rfl rfl rfl ?_ ⟨_, q2.trans hp, q1, rfl⟩
  (refine ent ?_ ?_; (repeat refine fr_cons rfl ?_); exact fr_nil; (repeat (first | exact List.nil_sublist _ | exact List.Sublist.refl _ | refine List.Sublist.cons_cons _ ?_ | refine List.Sublist.cons _ ?_)))
end Go.Proofs.Ythijakignhjmgaa
