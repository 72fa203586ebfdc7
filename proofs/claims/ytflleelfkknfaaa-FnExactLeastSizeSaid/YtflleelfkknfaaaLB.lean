/- Walks: a round of the reference. -/
import Derived.Test.YtflleelfkknfaaaLA
import Derived.Test.YtflleelfkknfaaaSH
import Derived.Test.YtflleelfkknfaaaNI
namespace Go.Proofs.Ytflleelfkknfaaa
open Go Go.RowKit SL
namespace SL
theorem eT3 {P : Program} {B : Nat} {w0 : World} {n : Nat} {fn : Func} {e : Exit} {F : Fr} {H H' : Hp} {R : Value → Hp → Prop} {t u s : Tmp} {v1 v2 v3 : Value} (he : isEnd e = true) (h : fn.results = #[.tmp t, .tmp u, .tmp s]) (hv : look F t = some v1) (hv' : look F u = some v2) (hv'' : look F s = some v3) (hi : Ent [] H [] H') (hR : R (.tuple #[v1, v2, v3]) H') : eQ P B w0 n fn R e F H :=
  eQ_mk he hR fun _ w' ha hw => ⟨results3 h ha hv hv' hv'' w', hi.holds hw⟩
end SL
/-- What a round leaves. -/
def rdR (p : RSt) (H : Hp) (v' : Value) (H' : Hp) : Prop :=
  (rnd p = none ∧ v' = .tuple #[.slice none 0 0, .slice none 0 0, .bool false] ∧ ∀ x ∈ H, x ∈ H') ∨
  ∃ q v1 v2 L Hx, rnd p = some q ∧ v' = .tuple #[v1, v2, .bool true] ∧ Asc rkG L ∧ (∀ y, y ∈ L ↔ y ∈ q.1) ∧ L.length = q.1.length ∧ H' = .row v2 27 17 (q.2.flatMap encG) :: Hx ∧ It.row v1 27 17 (L.flatMap encG) ∈ Hx ∧ ∀ x ∈ H, x ∈ Hx
/-- So far: the grids met, the list, the new ones. -/
structure LI (p : RSt) (H : Hp) (met : List GridB) (S : List GridB) (v1 : Value) (L F : List GridB) (Hx : Hp) : Prop where
  st : fld (some (p.1, [])) met = some (S, F)
  ri : RI (S, F)
  asc : Asc rkG L
  mem : ∀ y, y ∈ L ↔ y ∈ S
  len : L.length = S.length
  row : It.row v1 27 17 (L.flatMap encG) ∈ Hx
  sub : ∀ x ∈ H, x ∈ Hx
theorem LI.old {p : RSt} {H Hx : Hp} {met S L F : List GridB} {v1 : Value} {x : GridB} (h : LI p H met S v1 L F Hx) (hx : x ∈ L) : LI p H (met ++ [x]) S v1 L F Hx :=
  ⟨by rw [fld_snoc, h.st, addG_old ((h.mem x).1 hx)], h.ri, h.asc, h.mem, h.len, h.row, h.sub⟩
theorem LI.new {p : RSt} {H Hx : Hp} {met S L L' F : List GridB} {v1 v1' : Value} {x : GridB} (h : LI p H met S v1 L F Hx) (hx : x ∉ L) (hl : S.length < 300) (ho : okB x) (ha : Asc rkG L') (hm : ∀ y, y ∈ L' ↔ y = x ∨ y ∈ L) (he : L'.length = L.length + 1) : LI p H (met ++ [x]) (S ++ [x]) v1' L' (F ++ [x]) (.row v1' 27 17 (L'.flatMap encG) :: Hx) :=
  ⟨by rw [fld_snoc, h.st, addG_new (fun k => hx ((h.mem x).2 k)) hl], h.ri.add (fun k => hx ((h.mem x).2 k)) hl ho, ha, fun y => by rw [hm, h.mem, List.mem_append, List.mem_singleton, or_comm], by rw [he, h.len]; simp, List.mem_cons_self, fun y hy => List.mem_cons_of_mem _ (h.sub y hy)⟩
theorem LI.full {p : RSt} {H Hx : Hp} {met rest S L F : List GridB} {v1 : Value} {x : GridB} (h : LI p H met S v1 L F Hx) (hx : x ∉ L) (hl : ¬ S.length < 300) (e : p.2.flatMap nbL = met ++ [x] ++ rest) : rnd p = none := by
  unfold rnd
  rw [e, fld_app, fld_snoc, h.st, addG_full (fun k => hx ((h.mem x).2 k)) hl, fld_none]
set_option maxRecDepth 100000 in
theorem round_gives {B : Nat} {w0 : World} {H : Hp} {v u : Value} (p : RSt) (hp : RI p) (L : List GridB) (ha : Asc rkG L) (hm : ∀ y, y ∈ L ↔ y ∈ p.1) (hl : L.length = p.1.length) (hv : It.row v 27 17 (L.flatMap encG) ∈ H) (hu : It.row u 27 17 (p.2.flatMap encG) ∈ H) :
    GivesE Try.prog 26 #[v, u] B w0 H (rdR p H) := by
  obtain ⟨S0, fr⟩ := p
  dsimp only at hm hl hu
  have lf := flat_len fr
  have hfr := hp.fl
  have hle := hp.le
  dsimp only at hfr hle
  have iu : RB u H 27 17 (fr.flatMap encG) := ⟨hu⟩
  have h1 : ∀ x : GridB, ∀ u ∈ encG x, u.oneCell' = true := fun x => gv_one _ _ _
  refine givesE_of (args := [v, u]) [(0, v), (1, u)] Try.func26 rfl Try.ntmps26 rfl (argsF_cons rfl (argsF_cons rfl argsF_nil)) ?_
  repeat' (first | (apply Jq_assign; exact rfl; exact rfl) | (apply J_lit0; exact rfl; (intro _)) | refine thenQ_normal ?_ | refine JC_seq ?_ | refine JC_region ?_ | refine J_nil ?_ | refine JC_block ?_)
  rename_i b13
  refine JC_loop (X := Nat × List GridB × Value × List GridB × Value × List GridB × Hp) (fun x => x.1 ≤ fr.length ∧ LI (S0, fr) H ((fr.take x.1).flatMap nbL) x.2.1 x.2.2.1 x.2.2.2.1 x.2.2.2.2.2.1 x.2.2.2.2.2.2)
    (fun x => [(8, .int .i64 (x.1 : Int)), (7, x.2.2.2.2.1), (0, x.2.2.1), (1, u)]) (fun x => .row x.2.2.2.2.1 27 17 (x.2.2.2.2.2.1.flatMap encG) :: x.2.2.2.2.2.2) (fun x => fr.length - x.1)
    (0, S0, v, L, .slice (some ⟨b13, 0, none⟩) 0 0, [], H) ⟨Nat.zero_le _, ⟨rfl, hp.clear, ha, hm, hl, hv, fun _ h => h⟩⟩ ?_ ?_
  · dsimp only
    (refine entP (ent ?_ (List.nil_sublist _)) ?_; (repeat refine fr_cons rfl ?_); exact fr_nil; (repeat (exact sp_refl)))
  · rintro ⟨i, S, v1, L1, v7, F, Hx⟩ ⟨hi, hI⟩
    dsimp only at hi hI ⊢
    have iu' : RB u Hx 27 17 (fr.flatMap encG) := ⟨hI.sub _ hu⟩
    by_cases hlt : i < fr.length
    · obtain ⟨g, hg⟩ : ∃ g, fr[i]? = some g := ⟨_, List.getElem?_eq_getElem hlt⟩
      have ug := encG_len g
      have hok : okB g := hp.ok g (hp.sub g (List.mem_of_getElem? hg))
      repeat' (first | (apply JcN (N := nbR g); exact rfl; exact rfl; exact rfl; infer_instance; (intro w _; exact snb_gives hok w); exact nbR_mine; (intro v9 its hV; obtain ⟨l', ha', hm', hl', rfl⟩ := hV; obtain rfl := nbL_eq ha' hm'; have ln := flat_len (nbL g); refine J_app1 ?_)) | (apply Jq_move; exact rfl; exact rfl) | (apply Jq_assign; exact rfl; exact rfl) | (apply Jq_cmp; exact rfl; exact rfl; exact rfl; exact rfl) | (apply Jq_lenRs; exact rfl; exact rfl; (exact rb); exact lf; decide) | (apply Jq_indexRs; exact rfl; exact rfl; exact rfl; (exact rb); omega) | (apply Jq_loadRA; exact rfl; exact rfl; (exact rb); (exact flat_at hg); (omega); decide) | refine thenQ_normal ?_ | refine JC_seq ?_ | refine JC_region ?_ | refine J_nil ?_ | refine JC_block ?_ | refine JC_skip ?_ | (apply JC_dec_true; exact rfl; omega))
      refine JC_loop (X := Nat × List GridB × Value × List GridB × Value × List GridB × Hp) (fun x => x.1 ≤ (nbL g).length ∧ LI (S0, fr) H ((fr.take i).flatMap nbL ++ (nbL g).take x.1) x.2.1 x.2.2.1 x.2.2.2.1 x.2.2.2.2.2.1 x.2.2.2.2.2.2)
        (fun x => [(10, .int .i64 (x.1 : Int)), (9, v9), (8, .int .i64 (i : Int)), (7, x.2.2.2.2.1), (0, x.2.2.1), (1, u)]) (fun x => .row x.2.2.2.2.1 27 17 (x.2.2.2.2.2.1.flatMap encG) :: .row v9 27 17 ((nbL g).flatMap encG) :: x.2.2.2.2.2.2) (fun x => (nbL g).length - x.1)
        (0, S, v1, L1, v7, F, Hx) ⟨Nat.zero_le _, by rw [List.take_zero, List.append_nil]; exact hI⟩ ?_ ?_
      · dsimp only
        (refine entP (ent ?_ (List.nil_sublist _)) ?_; (repeat refine fr_cons rfl ?_); exact fr_nil; (repeat (first | exact sp_refl | (with_reducible apply sp1))))
      · clear iu' hI
        clear S v1 L1 v7 F Hx
        rintro ⟨j, S, v1, L1, v7, F, Hx⟩ ⟨hj, hI⟩
        dsimp only at hj hI ⊢
        have iu' : RB u Hx 27 17 (fr.flatMap encG) := ⟨hI.sub _ hu⟩
        by_cases hltj : j < (nbL g).length
        · obtain ⟨x, hx⟩ : ∃ x, (nbL g)[j]? = some x := ⟨_, List.getElem?_eq_getElem hltj⟩
          have ux := encG_len x
          have hox : okB x := nbP_ok hok (nbL_ok (List.mem_of_getElem? hx))
          have i1 : RB v1 Hx 27 17 (L1.flatMap encG) := ⟨hI.row⟩
          have hS := hI.ri.le
          have hF := hI.ri.fl
          have hL := hI.len
          dsimp only at hS hF
          have lF := flat_len F
          have hsn : F.flatMap encG ++ encG x = (F ++ [x]).flatMap encG := by simp
          have hne : encG x ≠ [] := List.cons_ne_nil _ _
          have htk : (fr.take i).flatMap nbL ++ (nbL g).take (j + 1) = ((fr.take i).flatMap nbL ++ (nbL g).take j) ++ [x] := by rw [List.take_add_one, hx, List.append_assoc]; rfl
          by_cases hxL : x ∈ L1
          · repeat' (first | (apply JcE; exact rfl; exact rfl; exact rfl; infer_instance; (exact insert_gives L1 x rb (by omega) hI.asc); (intro v' H' hV; rcases hV with ⟨_, rfl, rfl⟩ | ⟨hm, _⟩; rotate_left; exact absurd hxL hm)) | (apply Jq_move; exact rfl; exact rfl) | (apply Jq_assign; exact rfl; exact rfl) | (apply Jq_cmp; exact rfl; exact rfl; exact rfl; exact rfl) | (apply Jq_add; exact rfl; exact rfl; exact rfl; omega) | (apply Jq_not; exact rfl; exact rfl) | (apply Jq_ext20; exact rfl; exact rfl) | (apply Jq_ext21; exact rfl; exact rfl) | (apply Jq_lenRs; exact rfl; exact rfl; (exact rb); exact ln; decide) | (apply Jq_indexRs; exact rfl; exact rfl; exact rfl; (exact rb); omega) | (apply Jq_loadRA; exact rfl; exact rfl; (exact rb); (exact flat_at hx); (omega); decide) | refine thenQ_normal ?_ | refine thenQ_exit ?_ | refine inBlockQ_here ?_ | refine JC_seq ?_ | refine JC_region ?_ | refine J_nil ?_ | refine JC_block ?_ | refine JC_skip ?_ | refine JC_exit ?_ | (apply JC_if_true; exact rfl) | (apply JC_dec_true; exact rfl; omega))
            refine ⟨(j + 1, S, v1, L1, v7, F, Hx), ⟨by dsimp only; omega, by dsimp only; rw [htk]; exact hI.old hxL⟩, by dsimp only; omega, ?_⟩
            dsimp only
            (refine entP (ent ?_ (List.nil_sublist _)) ?_; (repeat refine fr_cons rfl ?_); exact fr_nil; (repeat (exact sp_refl)))
          · by_cases hfull : S.length < 300
            · repeat' (first | (apply JcE; exact rfl; exact rfl; exact rfl; infer_instance; (exact insert_gives L1 x rb (by omega) hI.asc); (intro v' H' hV; rcases hV with ⟨hm, _⟩ | ⟨_, u2, L2, rfl, ha2, hm2, hl2, rfl⟩; exact absurd hm hxL; have lf2 := flat_len L2)) | (apply Jq_lenRs; exact rfl; exact rfl; exact rb; exact lf2; decide) | (apply J_ap; decide; exact rfl; exact rfl; exact rfl; infer_instance; exact rb; exact hne; exact h1 _; ((show (_ + _) * _ ≤ _); omega); decide; exact hsn; (intro v7')) | (apply Jq_move; exact rfl; exact rfl) | (apply Jq_assign; exact rfl; exact rfl) | (apply Jq_cmp; exact rfl; exact rfl; exact rfl; exact rfl) | (apply Jq_add; exact rfl; exact rfl; exact rfl; omega) | (apply Jq_not; exact rfl; exact rfl) | (apply Jq_ext20; exact rfl; exact rfl) | (apply Jq_ext21; exact rfl; exact rfl) | (apply Jq_lenRs; exact rfl; exact rfl; (exact rb); exact ln; decide) | (apply Jq_indexRs; exact rfl; exact rfl; exact rfl; (exact rb); omega) | (apply Jq_loadRA; exact rfl; exact rfl; (exact rb); (exact flat_at hx); (omega); decide) | (apply J_lit1s; exact rfl; exact rfl; (omega); decide; decide; (intro _)) | refine thenQ_normal ?_ | refine inBlockQ_normal ?_ | refine JC_seq ?_ | refine JC_region ?_ | refine J_nil ?_ | refine JC_block ?_ | refine JC_skip ?_ | (apply JC_if_false; exact rfl) | (apply JC_dec_true; exact rfl; omega) | (apply JC_dec_false; exact rfl; omega))
              refine ⟨(j + 1, S ++ [x], u2, L2, v7', F ++ [x], .row u2 27 17 (L2.flatMap encG) :: Hx), ⟨by dsimp only; omega, by dsimp only; rw [htk]; exact hI.new hxL hfull hox ha2 hm2 hl2⟩, by dsimp only; omega, ?_⟩
              dsimp only
              (refine entP (ent ?_ (List.nil_sublist _)) ?_; (repeat refine fr_cons rfl ?_); exact fr_nil; (repeat (first | exact sp_end | (with_reducible apply sp2))))
            · repeat' (first | (apply JcE; exact rfl; exact rfl; exact rfl; infer_instance; (exact insert_gives L1 x rb (by omega) hI.asc); (intro v' H' hV; rcases hV with ⟨hm, _⟩ | ⟨_, u2, L2, rfl, ha2, hm2, hl2, rfl⟩; exact absurd hm hxL; have lf2 := flat_len L2)) | (apply Jq_lenRs; exact rfl; exact rfl; exact rb; exact lf2; decide) | (apply Jq_move; exact rfl; exact rfl) | (apply Jq_assign; exact rfl; exact rfl) | (apply Jq_cmp; exact rfl; exact rfl; exact rfl; exact rfl) | (apply Jq_not; exact rfl; exact rfl) | (apply Jq_ext20; exact rfl; exact rfl) | (apply Jq_ext21; exact rfl; exact rfl) | (apply Jq_lenRs; exact rfl; exact rfl; (exact rb); exact ln; decide) | (apply Jq_indexRs; exact rfl; exact rfl; exact rfl; (exact rb); omega) | (apply Jq_loadRA; exact rfl; exact rfl; (exact rb); (exact flat_at hx); (omega); decide) | refine thenQ_normal ?_ | refine thenQ_ret ?_ | refine inBlockQ_ret ?_ | refine JC_seq ?_ | refine JC_region ?_ | refine J_nil ?_ | refine JC_block ?_ | refine JC_skip ?_ | refine JC_ret ?_ | (apply JC_if_false; exact rfl) | (apply JC_dec_true; exact rfl; omega))
              refine eT3 rfl rfl rfl rfl rfl ?_ (.inl ⟨hI.full hxL hfull (met_split hg hx), rfl, hI.sub⟩)
              exact ent (fun _ _ h => (by cases h)) (by repeat (first | exact List.Sublist.refl _ | refine List.Sublist.cons _ ?_))
        · obtain rfl : j = (nbL g).length := by omega
          repeat' (first | (apply Jq_move; exact rfl; exact rfl) | (apply Jq_assign; exact rfl; exact rfl) | (apply Jq_cmp; exact rfl; exact rfl; exact rfl; exact rfl) | (apply Jq_add; exact rfl; exact rfl; exact rfl; omega) | (apply Jq_lenRs; exact rfl; exact rfl; (exact rb); exact ln; decide) | refine thenQ_normal ?_ | refine thenQ_exit ?_ | refine inBlockQ_normal ?_ | refine inBlockQ_here ?_ | refine JC_seq ?_ | refine JC_region ?_ | refine J_nil ?_ | refine JC_exit ?_ | (apply JC_dec_false; exact rfl; omega))
          refine ⟨(i + 1, S, v1, L1, v7, F, Hx), ⟨by dsimp only; omega, by dsimp only; rw [flat_next hg, ← List.take_length (l := nbL g)]; exact hI⟩, by dsimp only; omega, ?_⟩
          dsimp only
          (refine entP (ent ?_ (List.nil_sublist _)) ?_; (repeat refine fr_cons rfl ?_); exact fr_nil; (repeat (first | exact sp_end | (with_reducible apply sp0))))
    · obtain rfl : i = fr.length := by omega
      repeat' (first | (apply Jq_move; exact rfl; exact rfl) | (apply Jq_assign; exact rfl; exact rfl) | (apply Jq_cmp; exact rfl; exact rfl; exact rfl; exact rfl) | (apply Jq_lenRs; exact rfl; exact rfl; (exact rb); exact lf; decide) | refine thenQ_normal ?_ | refine thenQ_exit ?_ | refine inBlockQ_here ?_ | refine JC_seq ?_ | refine JC_region ?_ | refine J_nil ?_ | refine JC_ret ?_ | refine JC_exit ?_ | (apply JC_dec_false; exact rfl; omega))
      refine eT3 rfl rfl rfl rfl rfl ?_ (.inr ⟨(S, F), v1, v7, L1, Hx, by rw [← hI.st, List.take_length]; rfl, rfl, hI.asc, hI.mem, hI.len, rfl, hI.row, hI.sub⟩)
      (refine ent ?_ ?_; (repeat refine fr_cons rfl ?_); exact fr_nil; (repeat (exact List.Sublist.refl _)))
end Go.Proofs.Ytflleelfkknfaaa
