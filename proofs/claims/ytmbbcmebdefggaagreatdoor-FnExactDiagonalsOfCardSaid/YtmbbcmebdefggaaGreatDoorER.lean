/- Keys of maps from grades to numbers, collected and sorted (printed by epgen.py out of RK and KB). Walks: sorting nothing. -/
import Derived.Test.YtmbbcmebdefggaaGreatDoorEN
import Derived.Test.YtmbbcmebdefggaaGreatDoorDQ
import Derived.Test.YtmbbcmebdefggaaGreatDoorKB
namespace Go.Proofs.YtmbbcmebdefggaaGreatDoor
open Go Go.RowKit SL
/-- The keys met. -/
def keysBt (M : TB) (seen : List Nat) : List GrB := seen.filterMap fun i => (M[i]?).map (·.1)
theorem keysBt_snoc {M : TB} {seen : List Nat} {i : Nat} {p : GrB × Int} (h : M[i]? = some p) : keysBt M (seen ++ [i]) = keysBt M seen ++ [p.1] := by
  unfold keysBt
  rw [List.filterMap_append]
  simp [h]
theorem keysBt_len (M : TB) (seen : List Nat) : (keysBt M seen).length ≤ seen.length := List.length_filterMap_le _ _
theorem keysBt_range (M : TB) : ∀ k, keysBt M (List.range k) = (M.take k).map (·.1)
  | 0 => rfl
  | k + 1 => by
    have ih := keysBt_range M k
    rw [List.range_succ, List.take_add_one, List.map_append, ← ih]
    unfold keysBt
    rw [List.filterMap_append]
    cases h : M[k]? <;> simp [h]
theorem keysBt_all {M : TB} {seen : List Nat} (h : seen.Perm (List.range M.length)) : (keysBt M seen).Perm (M.map (·.1)) := by
  have h2 := keysBt_range M M.length
  rw [List.take_length] at h2
  rw [← h2]
  exact h.filterMap _
set_option maxRecDepth 100000 in
theorem keysB_gives {B : Nat} {w0 : World} {o : Obj} {Bs Bm bm l0 : Nat} {Tm : TypeId} {M : TB} {sM : List Nat} {cM : Nat} {A : Hp} {v0 : Value} (hst : StOK sM cM M.length) (hM : It.obj bm (mapS (encM grK zV M) sM cM) ∈ A) (hB : It.blk Bm [.map (some bm)] Tm ∈ A)
    (hround : ∀ (v : Value) (ss : List GrB) (x : GrB) (A' : Hp) (w : World), ss.length < M.length → Holds B w0 (HdU Bs l0 o v ss A') w → Yl Tryz.prog l0 (grK x) B w0 w fun H' => ∃ v', Ent [] H' [] (HdU Bs l0 o v' (ss ++ [x]) A')) :
    GivesE Tryz.prog 142 #[.func (.yield l0) #[] #[], .pointer (some ⟨Bm, 0, none⟩)] B w0 (HdU Bs l0 o v0 [] A) (fun _ H' => ∃ (v : Value) (ss : List GrB), ss.Perm (M.map (·.1)) ∧ H' = HdU Bs l0 o v ss A) := by
  have iB : MB Bm A [.map (some bm)] Tm := ⟨hB⟩
  have iM : MO bm A (mapS (encM grK zV M) sM cM) := ⟨hM⟩
  refine givesE_of (args := [.func (.yield l0) #[] #[], .pointer (some ⟨Bm, 0, none⟩)]) [(0, .func (.yield l0) #[] #[]), (1, .pointer (some ⟨Bm, 0, none⟩))] Tryz.func142 rfl Tryz.ntmps142 rfl (argsF_cons rfl (argsF_cons rfl argsF_nil)) ?_
  unfold HdU
  repeat' (first | (apply J_rangeTS (eK := grK) (eV := zV); exact rfl; exact rfl; exact mo; (intro _)) | (apply Jq_load; exact rfl; exact rfl; (exact mb); (exact rfl)) | refine thenQ_normal ?_ | refine JC_seq ?_ | refine JC_region ?_ | refine J_nil ?_ | refine JC_block ?_)
  rename_i b5
  refine JC_loop (X := Value × List Nat) (fun p => p.2.Nodup ∧ ∀ i ∈ p.2, i < M.length) (fun p => [(0, .func (.yield l0) #[] #[]), (5, .pointer (some ⟨b5, 0, none⟩))]) (fun p => .obj b5 (itS bm sM cM p.2) :: HdU Bs l0 o p.1 (keysBt M p.2) A) (fun p => M.length - p.2.length) (v0, []) ⟨List.nodup_nil, fun i hi => absurd hi List.not_mem_nil⟩ ?_ ?_
  · (refine ent ?_ ?_; (repeat refine fr_cons rfl ?_); exact fr_nil; (repeat (exact List.Sublist.refl _)))
  · rintro ⟨v, seen⟩ ⟨hs1, hs2⟩
    dsimp only at hs1 hs2 ⊢
    have hsl : seen.length ≤ M.length := by
      have := List.Nodup.length_le_of_subset hs1 (l₂ := List.range M.length) fun a ha => List.mem_range.2 (hs2 a ha)
      rwa [List.length_range] at this
    unfold HdU
    repeat' (first | (refine JC_yield (l0 := l0) 2 rfl rfl rfl rfl ?_ ?_; (intro _ _ hq; (repeat (first | unfold thenQ at hq | unfold inBlockQ at hq | unfold eQ at hq)); exact hq); dsimp only [List.take, List.drop]) | refine J_nextTS (eK := grK) (eV := zV) (m := M) hst rfl rfl inferInstance rfl mo hs2 (fun hall => ?_) (fun i p hi hns => ?_) | (apply Jq_entryTS (eK := grK) (eV := zV) (m := M) (p := p); exact hst; exact rfl; exact rfl; exact mo; exact mo; exact hi) | (apply Jq_move; exact rfl; exact rfl) | (apply Jq_loadW; exact rfl; exact rfl; (exact mb); (exact rfl)) | (apply J_sW; exact rfl; exact rfl; infer_instance; (exact rfl); (exact rfl); (exact ones_of rfl); infer_instance) | (apply Jq_ext20; exact rfl; exact rfl) | (apply Jq_extract; exact rfl; exact rfl; exact rfl) | (apply J_alloc (cs := encGr (0, 0)); exact rfl; exact rfl; (intro _)) | refine thenQ_normal ?_ | refine thenQ_exit ?_ | refine inBlockQ_here ?_ | refine JC_seq ?_ | refine JC_region ?_ | refine J_nil ?_ | refine JC_block ?_ | refine JC_skip ?_ | refine JC_exit ?_ | (apply JC_if_true; exact rfl) | (apply JC_if_false; exact rfl))
    · refine e0 (H' := HdU Bs l0 o v (keysBt M seen) A) rfl rfl ?_ ⟨v, keysBt M seen, keysBt_all (all_met hs1 hs2 hall), rfl⟩
      unfold HdU
      (refine ent ?_ ?_; (repeat refine fr_cons rfl ?_); exact fr_nil; (repeat (first | exact List.Sublist.refl _ | refine List.Sublist.cons _ ?_)))
    · have hin : ∀ t ∈ seen ++ [i], t < M.length := fun t ht => by
        rcases List.mem_append.1 ht with h | h
        · exact hs2 t h
        · rw [List.mem_singleton] at h
          subst h
          exact (List.getElem?_eq_some_iff.1 hi).1
      have hnn : (seen ++ [i]).Nodup := List.nodup_append.2 ⟨hs1, by simp, fun a ha b hb e => hns (by rw [List.mem_singleton] at hb; subst hb e; exact ha)⟩
      have hlt : seen.length < M.length := by
        have := List.Nodup.length_le_of_subset hnn (l₂ := List.range M.length) fun a ha => List.mem_range.2 (hin a ha)
        rw [List.length_range, List.length_append, List.length_singleton] at this
        omega
      have hkl := keysBt_len M seen
      have hks := keysBt_snoc (seen := seen) hi
      rename_i b3
      unfold onlyN
      dsimp only
      refine ⟨rfl, grK p.1, rfl, fun w hw => ((hround v (keysBt M seen) p.1 (.blk b3 (encGr p.1) 108 :: .obj b5 (itS bm sM cM (seen ++ [i])) :: A) w (by omega) (Ent.holds (F := []) (F' := []) ?_ hw)).mono ?_)⟩
      · unfold HdU
        (refine entP (ent ?_ (List.nil_sublist _)) ?_; (repeat refine fr_cons rfl ?_); exact fr_nil; (repeat (first | exact sp_refl | (with_reducible apply sp2))))
      · rintro H2 ⟨v', he⟩
        refine J_ent he ?_
        unfold HdU
        repeat' (first | (apply Jq_not; exact rfl; exact rfl) | refine thenQ_normal ?_ | refine inBlockQ_normal ?_ | refine J_nil ?_ | refine JC_skip ?_ | (apply JC_if_false; exact rfl))
        refine ⟨(v', seen ++ [i]), ⟨hnn, hin⟩, by dsimp only; rw [List.length_append, List.length_singleton]; omega, ?_⟩
        dsimp only
        rw [hks]
        (refine entP (ent ?_ (List.nil_sublist _)) ?_; (repeat refine fr_cons rfl ?_); exact fr_nil; (repeat (first | exact sp_end | (with_reducible apply sp0) | (with_reducible apply sp4))))
set_option maxRecDepth 100000 in
theorem appB_gives {B : Nat} {w0 : World} {H : Hp} {Bm bm : Nat} {Tm : TypeId} {M : TB} {sM : List Nat} {cM : Nat} (hst : StOK sM cM M.length) (hM : It.obj bm (mapS (encM grK zV M) sM cM) ∈ H) (hB : It.blk Bm [.map (some bm)] Tm ∈ H) (hl : M.length ≤ 1000000) :
    GivesE Tryz.prog 161 #[.slice none 0 0, .func (.func 142) #[] #[.pointer (some ⟨Bm, 0, none⟩)]] B w0 H (fun v' H' => ∃ ss : List GrB, ss.Perm (M.map (·.1)) ∧ H' = .row v' 108 2 (ss.flatMap encGr) :: H) := by
  refine givesE_range (args := [.slice none 0 0, .func (.func 142) #[] #[.pointer (some ⟨Bm, 0, none⟩)]]) [(0, .slice none 0 0), (1, .func (.func 142) #[] #[.pointer (some ⟨Bm, 0, none⟩)])] Tryz.func161 rfl Tryz.ntmps161 rfl (argsF_cons rfl (argsF_cons rfl argsF_nil)) ?_
  refine JW_seq (JC_nilrow (e := 108) (sz := 2) ?_)
  repeat' (first | (apply Jq_assign; exact rfl; exact rfl) | (apply J_box; exact rfl; exact rfl; exact rfl; (intro _)) | refine JC_region ?_ | refine J_nil ?_)
  unfold onlyN
  dsimp only
  rename_i Bs
  refine JW_then (JW_seq ?_)
  repeat' (first | (apply Jq_move; exact rfl; exact rfl) | refine JC_region ?_ | refine J_nil ?_)
  unfold onlyN
  dsimp only
  refine JW_range (V := fun H1 => ∃ (v : Value) (ss : List GrB), ss.Perm (M.map (·.1)) ∧ H1 = .blk Bs [v] 123 :: .row v 108 2 (ss.flatMap encGr) :: H) (lb := #[.pointer (some ⟨Bm, 0, none⟩)]) ?_ (Runs.out (P := Tryz.prog) (k := 142)) ?_ ?_
  · exact rfl
  · intro l0 D fn tm hF
    generalize hoo : recO tm #[7] _ _ fn D LoopState.ready = o
    refine GivesE.re (keysB_gives (o := o) (Bs := Bs) (l0 := l0) (v0 := .slice none 0 0) (A := .obj D (.deferred (some [])) :: H) hst (mS hM) (mS hB) ?_) ?_ ?_
    · intro v ss x A' w hlt hw
      subst hoo
      have ux : (encGr x).length = 2 := rfl
      have hne : encGr x ≠ [] := fun e => by cases e
      have lf := fl_len (s := 2) (enc := encGr) (fun x => rfl) ss
      unfold HdU at hw
      refine yield_of (H1 := [.blk Bs [v] 123, .row v 108 2 (ss.flatMap encGr)]) (H2 := A') hw hF rfl ?_
      refine JR_region rfl (fun _ _ h => h) ?_
      dsimp only [List.cons_append, List.nil_append]
      repeat' (first | (apply J_sW; exact rfl; exact rfl; infer_instance; (exact rfl); (exact rfl); (exact ones_of rfl); infer_instance) | (apply J_alloc (cs := encGr (0, 0)); exact rfl; exact rfl; (intro _)) | refine J_nil ?_)
      rename_i b5
      unfold onlyN
      dsimp only
      refine ⟨[.blk b5 (encGr x) 108, .blk Bs [v] 123, .row v 108 2 (ss.flatMap encGr)], A', rfl, ?_⟩
      refine JR_block (JR_region rfl (fun _ _ hq => by unfold inBlockQ at hq; exact hq) ?_)
      dsimp only [List.cons_append, List.nil_append]
      repeat' (first | (apply J_s1; exact rfl; exact rfl; exact oa; infer_instance; exact Nat.one_pos; exact rfl; infer_instance) | (apply J_lit1s; exact rfl; exact rfl; exact ux; decide; decide; (intro _)) | (apply J_ap (v := v); decide; exact rfl; exact rfl; exact rfl; infer_instance; exact m0; exact hne; exact encGr_one _; ((show (_ + _) * _ ≤ _); omega); decide; exact fl_snoc; (intro v'); (refine J_row1' (v := v') (e := 108) (sz := 2) (xs := (ss ++ [x]).flatMap encGr) rb (fun oa _ => ?_))) | (apply Jq_load; exact rfl; exact rfl; (exact mb); (exact rfl)) | (apply Jq_loadW; exact rfl; exact rfl; (exact mb); (exact rfl)) | refine inBlockQ_normal ?_ | refine J_nil ?_)
      rename_i b6 _
      dsimp only
      refine ⟨[.row (.slice (some ⟨b6, 0, none⟩) 1 1) 108 2 (encGr x), .blk b5 (encGr x) 108, .blk Bs [v'] 123, .row v' 108 2 ((ss ++ [x]).flatMap encGr)], A', rfl, v', ?_⟩
      unfold HdU
      dsimp only [List.cons_append, List.nil_append]
      (refine entP (ent ?_ (List.nil_sublist _)) ?_; (repeat refine fr_cons rfl ?_); exact fr_nil; (repeat (exact sp_end)))
    · unfold HdU
      (refine entP (ent ?_ (List.nil_sublist _)) ?_; (repeat refine fr_cons rfl ?_); exact fr_nil; (repeat (first | exact sp_refl | (with_reducible apply sp2) | apply sp2)))
    · rintro _ _ ⟨v, ss, hp, rfl⟩
      refine ⟨_, ⟨_, rfl, v, ss, hp, rfl⟩, ?_⟩
      unfold HdU
      (refine entP (ent ?_ (List.nil_sublist _)) ?_; (repeat refine fr_cons rfl ?_); exact fr_nil; (repeat (first | exact sp_refl | (with_reducible apply sp2))))
  · rintro D H1 ⟨v, ss, hp, rfl⟩
    refine JD_seq (QQ := bodyPostM Fence.wide 0 Tryz.prog _ _) ?_
    repeat' (first | (apply Jq_assign; exact rfl; exact rfl) | (apply Jq_load; exact rfl; exact rfl; (exact mb); (exact rfl)) | refine J_nil ?_)
    unfold onlyN
    dsimp only
    refine JD_ret fun a w ha hd hw => eD1 (H' := .row v 108 2 (ss.flatMap encGr) :: H) rfl rfl ⟨ss, hp, rfl⟩ ?_ ha hd hw
    (refine ent ?_ ?_; (repeat refine fr_cons rfl ?_); exact fr_nil; (repeat (first | exact List.Sublist.refl _ | refine List.Sublist.cons _ ?_)))
set_option maxRecDepth 100000 in
theorem mapKeysB_gives {B : Nat} {w0 : World} {H : Hp} (bm : Nat) :
    GivesE Tryz.prog 107 #[.map (some bm)] B w0 H (fun v' H' => ∃ Bm, v' = .func (.func 142) #[] #[.pointer (some ⟨Bm, 0, none⟩)] ∧ H' = .blk Bm [.map (some bm)] 66 :: H) := by
  refine givesE_of (args := [.map (some bm)]) [(0, .map (some bm))] Tryz.func107 rfl Tryz.ntmps107 rfl (argsF_cons rfl argsF_nil) ?_
  repeat' (first | (apply Jq_func1; exact rfl; exact rfl) | (apply Jq_assign; exact rfl; exact rfl) | (apply J_box; exact rfl; exact rfl; exact rfl; (intro _)) | refine thenQ_normal ?_ | refine JC_seq ?_ | refine JC_region ?_ | refine J_nil ?_ | refine JC_ret ?_)
  rename_i Bm
  exact SL.e1 (H' := .blk Bm [.map (some bm)] 66 :: H) rfl rfl rfl (entS fun _ _ h => h) ⟨Bm, rfl, rfl⟩
set_option maxRecDepth 100000 in
theorem collectB_gives {B : Nat} {w0 : World} {H : Hp} {Bm bm : Nat} {Tm : TypeId} {M : TB} {sM : List Nat} {cM : Nat} (hst : StOK sM cM M.length) (hM : It.obj bm (mapS (encM grK zV M) sM cM) ∈ H) (hB : It.blk Bm [.map (some bm)] Tm ∈ H) (hl : M.length ≤ 1000000) :
    GivesE Tryz.prog 133 #[.func (.func 142) #[] #[.pointer (some ⟨Bm, 0, none⟩)]] B w0 H (fun v' H' => ∃ ss : List GrB, ss.Perm (M.map (·.1)) ∧ H' = .row v' 108 2 (ss.flatMap encGr) :: H) := by
  refine givesE_of (args := [.func (.func 142) #[] #[.pointer (some ⟨Bm, 0, none⟩)]]) [(0, .func (.func 142) #[] #[.pointer (some ⟨Bm, 0, none⟩)])] Tryz.func133 rfl Tryz.ntmps133 rfl (argsF_cons rfl argsF_nil) ?_
  repeat' (first | (apply JcE; exact rfl; exact rfl; exact rfl; infer_instance; (exact appB_gives hst hM hB hl); (intro v' H' hV; obtain ⟨ss, hp, rfl⟩ := hV)) | (apply Jq_move; exact rfl; exact rfl) | (apply Jq_assign; exact rfl; exact rfl) | refine thenQ_normal ?_ | refine JC_seq ?_ | refine JC_region ?_ | refine J_nil ?_ | refine JC_ret ?_)
  refine SL.e1 (H' := .row v' 108 2 (ss.flatMap encGr) :: H) rfl rfl rfl ?_ ⟨ss, hp, rfl⟩
  (refine ent ?_ ?_; (repeat refine fr_cons rfl ?_); exact fr_nil; (repeat (exact List.Sublist.refl _)))
end Go.Proofs.YtmbbcmebdefggaaGreatDoor
namespace Go.Proofs.YtmbbcmebdefggaaGreatDoor
open Go Go.RowKit SL
namespace SL
section
variable {P : Program} {B : Nat} {w0 : World} {n : Nat} {Q : Po} {F : Fr} {H : Hp} {ops : Array Oper} {l : List Oper} {ty : TypeId} {pos : String} {af : Array Edge} {d : Nat}
end
end SL
end Go.Proofs.YtmbbcmebdefggaaGreatDoor
