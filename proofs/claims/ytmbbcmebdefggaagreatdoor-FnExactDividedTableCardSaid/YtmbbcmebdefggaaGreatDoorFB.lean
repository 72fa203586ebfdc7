/- Walks: the reference's divided table. Walks: the program's divided numbers. Walks: knots of at most six columns; the divided tables. Walks: knotListed at tables; the divided tables. -/
import Derived.Test.YtmbbcmebdefggaaGreatDoorEV
import Derived.Test.YtmbbcmebdefggaaGreatDoorSO
namespace Go.Proofs.YtmbbcmebdefggaaGreatDoor
open Go Go.RowKit SL
theorem mem_but {A C : Hp} {y x : It} (h : x ∈ A ++ y :: C) (hne : x ≠ y) : x ∈ A ++ C := by
  rcases List.mem_append.1 h with h | h
  · exact List.mem_append.2 (.inl h)
  · rcases List.mem_cons.1 h with h | h
    · exact absurd h hne
    · exact List.mem_append.2 (.inr h)
theorem mem_mid {A C : Hp} {y x z : It} (h : x ∈ A ++ y :: C) (hne : x ≠ y) : x ∈ A ++ z :: C := by
  rcases List.mem_append.1 h with h | h
  · exact List.mem_append.2 (.inl h)
  · rcases List.mem_cons.1 h with h | h
    · exact absurd h hne
    · exact List.mem_append.2 (.inr (mS h))
theorem notRow_ne {x : It} (h : notRow x) (v : Value) (e sz : Nat) (xs : List Value) : x ≠ .row v e sz xs := fun k => by rw [k] at h; exact h
theorem rowI_ne (v u : Value) (xs ys : List Value) : It.row v 2 1 xs ≠ .row u 50 1 ys := fun h => by
  injection h with _ h2
  exact absurd h2 (by decide)
theorem inT.but {L : LT} {A C : Hp} {u : Value} {ys : List Value} (h : inT L (A ++ .row u 50 1 ys :: C)) : inT L (A ++ C) := fun p hp => mem_but (h p hp) (rowI_ne _ _ _ _)
theorem tab_nodup {T : TB} (h : Tab T) : (T.map (·.1)).Nodup := (IsT.ofTab h fun _ => rfl).nd
theorem tab_front {T : TB} {e : GrB × Int} (h : Tab (T ++ [e])) : Tab T := ⟨(List.pairwise_append.1 h.srt).1, fun x hx => h.nz x (List.mem_append.2 (.inl hx))⟩
theorem tab_last {T : TB} {e : GrB × Int} (h : Tab (T ++ [e])) : ∀ x ∈ T, gLt x.1 e.1 := fun x hx => (List.pairwise_append.1 h.srt).2.2 x hx e (List.mem_singleton.2 rfl)
theorem tab_front_val {T : TB} {e : GrB × Int} (h : Tab (T ++ [e])) (g : GrB) : vT T g = vT (T ++ [e]) g + if g = e.1 then -e.2 else 0 := by
  have h2 := tab_front h
  by_cases hg : g = e.1
  · subst hg
    have h3 : vT (T ++ [e]) e.1 = e.2 := vT_mem (tab_nodup h) (List.mem_append.2 (.inr (List.mem_singleton.2 rfl)))
    have h4 : vT T e.1 = 0 := vT_out fun m => by
      obtain ⟨x, hx, hxe⟩ := List.mem_map.1 m
      have := tab_last h x hx
      rw [hxe] at this
      exact gLt.irr _ this
    rw [if_pos rfl, h3, h4]; omega
  · rw [if_neg hg, Int.add_zero]
    by_cases hm : g ∈ T.map (·.1)
    · obtain ⟨x, hx, rfl⟩ := List.mem_map.1 hm
      rw [vT_mem (tab_nodup h2) hx, vT_mem (tab_nodup h) (List.mem_append.2 (.inl hx))]
    · rw [vT_out hm, vT_out]
      intro m
      rw [List.map_append] at m
      rcases List.mem_append.1 m with m | m
      · exact hm m
      · rw [List.map_cons, List.map_nil, List.mem_singleton] at m; exact hg m
/-- One entry of a half divided table goes over. -/
theorem Dv.one {Q : GrB → Int} {T out : TB} {e : GrB × Int} (hq : ∀ g, 0 ≤ Q g) (hT : Tab (T ++ [e])) (hO : Tab out) (hlt : ∀ x ∈ T ++ [e], ∀ f ∈ out, gLt x.1 f.1) (d : Dv Q (T ++ [e]) out) :
    Tab (insT (dnG e.1) (-e.2) T) ∧ Tab (e :: out) ∧ (∀ x ∈ insT (dnG e.1) (-e.2) T, ∀ f ∈ e :: out, gLt x.1 f.1) ∧ Dv Q (insT (dnG e.1) (-e.2) T) (e :: out) := by
  have hem : e ∈ T ++ [e] := List.mem_append.2 (.inr (List.mem_singleton.2 rfl))
  have hnz : e.2 ≠ 0 := hT.nz e hem
  have hT1 := insT_tab (g := dnG e.1) (k := -e.2) (by omega) (tab_front hT)
  have hO1 : Tab (e :: out) := Tab.mk' (fun x hx => hlt e hem x hx) hO hnz
  have hmax : ∀ x ∈ T ++ [e], ¬ gLt e.1 x.1 := fun x hx h => by
    rcases List.mem_append.1 hx with hx | hx
    · exact (tab_last hT x hx).asym h
    · rw [List.mem_singleton] at hx; subst hx; exact gLt.irr _ h
  have hins : ∀ x ∈ insT (dnG e.1) (-e.2) T, gLt x.1 e.1 := fun x hx => by
    have h1 := ((hT1.mem x).1 hx)
    rw [insT_val (tab_front hT)] at h1
    by_cases hd : x.1 = dnG e.1
    · rw [hd]; exact dn_lt _
    · rw [if_neg hd, Int.add_zero] at h1
      exact tab_last hT x (((tab_front hT).mem x).2 h1)
  refine ⟨hT1, hO1, fun x hx f hf => ?_, d.step hq (k := e.1) (n := e.2) hem hmax (tab_nodup hT1) hT1.nz (fun g => ?_) (tab_nodup hO1) fun f => List.mem_cons⟩
  · rcases List.mem_cons.1 hf with rfl | hf
    · exact hins x hx
    · exact (hins x hx).tr (hlt e hem f hf)
  · rw [insT_val (tab_front hT), tab_front_val hT]
end Go.Proofs.YtmbbcmebdefggaaGreatDoor
namespace Go.Proofs.YtmbbcmebdefggaaGreatDoor
open Go Go.RowKit SL
namespace SL
theorem JC_ones {P : Program} {B : Nat} {w0 : World} {n : Nat} {Q : Po} {F : Fr} {H : Hp} {c : Code} {L : LT} (hin : inT L H) (k : (∀ v ∈ L.map (·.1), v.oneCell' = true) → JC P B w0 n c Q F H) : JC P B w0 n c Q F H := by
  unfold JC at *
  intro a w ha hw
  refine k (fun v hv => ?_) a w ha hw
  obtain ⟨p, hp, rfl⟩ := List.mem_map.1 hv
  obtain ⟨m, _, h2⟩ := hw.row_slice (hin p hp)
  rcases h2 with ⟨h, _⟩ | ⟨_, _, _, h, _⟩ <;> rw [h] <;> rfl
theorem JC_head {P : Program} {B : Nat} {w0 : World} {n : Nat} {Q : Po} {F : Fr} {A H : Hp} {c : Code} {v : Value} {e sz m j : Nat} {xs : List Value} (hm : It.row v e sz xs ∈ H) (hl : xs.length = m * sz) (hs : 0 < sz) (h0 : 0 < m) (hj : j ≤ m)
    (k : ∀ H1 H2, H = H1 ++ .row v e sz xs :: H2 → JC P B w0 n c Q F (A ++ (H1 ++ .row (partV sz v 0 j) e sz (xs.take (j * sz)) :: H2))) : JC P B w0 n c Q F (A ++ H) := by
  obtain ⟨H1, H2, rfl⟩ := List.append_of_mem hm
  unfold JC at *
  intro a w ha hw
  rw [← List.append_assoc] at hw
  have := hw.head hl hs h0 hj
  rw [List.append_assoc] at this
  exact k H1 H2 rfl a w ha this
end SL
theorem snoc_cases {α : Type} (l : List α) : l = [] ∨ ∃ m a, l = m ++ [a] := by
  rcases List.eq_nil_or_concat l with h | ⟨m, a, h⟩
  · exact .inl h
  · exact .inr ⟨m, a, by rw [h, List.concat_eq_append]⟩
theorem sp_front {x y : It} {A C : Hp} : SP (y :: (x :: (A ++ C))) (x :: (A ++ y :: C)) := ⟨_, (List.perm_middle.cons x).trans (List.Perm.swap _ _ _), .refl _⟩
set_option maxRecDepth 100000 in
theorem sdiv_gives {B : Nat} {w0 : World} {H : Hp} (n : Nat) (X O : List Nat) (bX : isB X) (bO : isB O) (h6 : n ≤ 6) (g0 : okG (n : Int) X O) {Q : Nat → GrB → Int} (t : Tower n X O Q) :
    GivesE Tryz.prog 85 #[.agg (gv (n : Int) X O).toArray] B w0 H (fun v' H' => ∃ L : LT, Tab (valsT L) ∧ (∀ g, vT (valsT L) g = Q (n - 1) g) ∧ It.row v' 50 1 (L.map (·.1)) ∈ H' ∧ inT L H' ∧ ∀ x ∈ H, notRow x → x ∈ H') := by
  have ug := gv_len (n := (n : Int)) bX.1 bO.1
  have hn2 := (okG.grd g0).h2
  refine givesE_of (args := [.agg (gv (n : Int) X O).toArray]) [(0, .agg (gv (n : Int) X O).toArray)] Tryz.func85 rfl Tryz.ntmps85 rfl (argsF_cons rfl argsF_nil) ?_
  repeat' (first | (apply JcE; exact rfl; exact rfl; exact rfl; infer_instance; (exact sblocked_gives n X O bX bO h6 g0); (intro v8 H' hV; obtain ⟨L, hTab, hval, hlen, hv8, hin, hsub⟩ := hV)) | (apply Jq_assign; exact rfl; exact rfl) | (apply Jq_loadW; exact rfl; exact rfl; (exact mb); (omega)) | (apply J_box; exact rfl; exact rfl; exact rfl; (intro _)) | refine thenQ_normal ?_ | refine JC_seq ?_ | refine JC_region ?_ | refine J_nil ?_ | refine JC_block ?_)
  rename_i b1
  refine JC_loop (X := Nat × Value × LT × Hp) (fun p => 1 ≤ p.1 ∧ p.1 ≤ n ∧ Tab (valsT p.2.2.1) ∧ (∀ g, vT (valsT p.2.2.1) g = Q (p.1 - 1) g) ∧ p.2.2.1.length ≤ 10000 ∧ It.row p.2.1 50 1 (p.2.2.1.map (·.1)) ∈ p.2.2.2 ∧ inT p.2.2.1 p.2.2.2 ∧ (∀ x ∈ H, notRow x → x ∈ p.2.2.2) ∧ It.blk b1 (gv (n : Int) X O) 28 ∈ p.2.2.2)
    (fun p => [(4, .int .i64 (p.1 : Int)), (3, p.2.1), (1, .pointer (some ⟨b1, 0, none⟩))]) (fun p => p.2.2.2) (fun p => n - p.1) (1, v8, L, H') ⟨Nat.le_refl _, by dsimp only; omega, hTab, fun g => (hval g).trans (t.zero g).symm, hlen, hv8, hin, fun x hx _ => hsub _ (mS hx), hsub _ m0⟩ ?_ ?_
  · dsimp only
    (refine ent ?_ ?_; (repeat refine fr_cons rfl ?_); exact fr_nil; (repeat (exact List.Sublist.refl _)))
  · clear hTab hval hlen hv8 hin hsub
    rintro ⟨k, v3, L2, Hx⟩ ⟨hk1, hkn, hTab2, hval2, hlen2, hv3, hin2, hkeep, hb1⟩
    dsimp only at hk1 hkn hTab2 hval2 hlen2 hv3 hin2 hkeep hb1 ⊢
    have i1 : MB b1 Hx (gv (n : Int) X O) 28 := ⟨hb1⟩
    by_cases hlt : k < n
    · have hqb := fun g => t.bd g0 h6 hlt g
      have hq := fun g => (hqb g).1
      have hsp := t.supp g0 h6 k hlt
      have hsplit : ∀ g, vT (valsT L2) g = Q k g + Q k (upG g) := fun g => by
        have h := t.split (k - 1) (by omega) g
        rw [show k - 1 + 1 = k by omega] at h
        rw [hval2, h]
      repeat' (first | (apply Jq_move; exact rfl; exact rfl) | (apply Jq_assign; exact rfl; exact rfl) | (apply Jq_load; exact rfl; exact rfl; (exact mb); (exact rfl)) | (apply Jq_fieldAddr; exact rfl; exact rfl) | (apply Jq_cmp; exact rfl; exact rfl; exact rfl; exact rfl) | (apply J_lit0; exact rfl; (intro _)) | refine thenQ_normal ?_ | refine JC_seq ?_ | refine JC_region ?_ | refine J_nil ?_ | refine JC_block ?_ | refine JC_skip ?_ | (apply JC_dec_true; exact rfl; omega))
      rename_i b5
      refine JC_cutB (Y := Value × LT × Hp) (fun y => Tab (valsT y.2.1) ∧ (∀ g, vT (valsT y.2.1) g = Q k g) ∧ y.2.1.length ≤ 720 ∧ inT y.2.1 y.2.2 ∧ (∀ x ∈ H, notRow x → x ∈ y.2.2) ∧ It.blk b1 (gv (n : Int) X O) 28 ∈ y.2.2)
        (fun y => [(5, y.1), (4, .int .i64 (k : Int)), (1, .pointer (some ⟨b1, 0, none⟩))]) (fun y => .row y.1 50 1 (y.2.1.map (·.1)) :: y.2.2) ?_ ?_
      · refine JC_loop (X := Value × LT × Value × LT × Hp) (fun p => Tab (valsT p.2.1) ∧ Tab (valsT p.2.2.2.1) ∧ (∀ x ∈ valsT p.2.1, ∀ f ∈ valsT p.2.2.2.1, gLt x.1 f.1) ∧ Dv (Q k) (valsT p.2.1) (valsT p.2.2.2.1) ∧ p.2.1.length ≤ 10000 ∧ It.row p.1 50 1 (p.2.1.map (·.1)) ∈ p.2.2.2.2 ∧ inT p.2.1 p.2.2.2.2 ∧ inT p.2.2.2.1 p.2.2.2.2 ∧ (∀ x ∈ H, notRow x → x ∈ p.2.2.2.2) ∧ It.blk b1 (gv (n : Int) X O) 28 ∈ p.2.2.2.2)
          (fun p => [(3, p.1), (5, p.2.2.1), (4, .int .i64 (k : Int)), (1, .pointer (some ⟨b1, 0, none⟩))]) (fun p => .row p.2.2.1 50 1 (p.2.2.2.1.map (·.1)) :: p.2.2.2.2) (fun p => 721 - p.2.2.2.1.length) (v3, L2, .slice (some ⟨b5, 0, none⟩) 0 0, [], Hx)
          ⟨hTab2, ⟨List.Pairwise.nil, fun e he => absurd he List.not_mem_nil⟩, fun x _ f hf => absurd hf List.not_mem_nil, Dv.start (tab_nodup hTab2) hTab2.nz hsplit, hlen2, hv3, hin2, fun p hp => absurd hp List.not_mem_nil, hkeep, hb1⟩ ?_ ?_
        · dsimp only
          (refine ent ?_ ?_; (repeat refine fr_cons rfl ?_); exact fr_nil; (repeat (exact List.Sublist.refl _)))
        · clear hTab2 hval2 hlen2 hv3 hin2 hkeep hb1 i1 hsplit
          rintro ⟨v3, L, v5, Lo, Hx⟩ ⟨hT, hO, hsep, hd, hlen, hv3, hin, hino, hkeep, hb1⟩
          dsimp only at hT hO hsep hd hlen hv3 hin hino hkeep hb1 ⊢
          have hol := hd.out720 h6 hsp
          have hol2 : Lo.length ≤ 720 := by unfold valsT at hol; rwa [List.length_map] at hol
          have i3 : RB v3 Hx 50 1 (L.map (·.1)) := ⟨hv3⟩
          have l1 : (L.map (·.1)).length = L.length := List.length_map _
          have l1' : (L.map (·.1)).length = L.length * 1 := by rw [l1, Nat.mul_one]
          rcases snoc_cases L with rfl | ⟨L0, ⟨vp, ⟨⟨a, m⟩, c⟩⟩, rfl⟩
          · repeat' (first | (apply Jq_move; exact rfl; exact rfl) | (apply Jq_cmp; exact rfl; exact rfl; exact rfl; exact rfl) | (apply Jq_lenR; exact rfl; exact rfl; (exact rb)) | refine thenQ_normal ?_ | refine thenQ_exit ?_ | refine inBlockQ_here ?_ | refine JC_seq ?_ | refine JC_region ?_ | refine J_nil ?_ | refine JC_exit ?_ | (apply JC_if_false; exact rfl))
            have hq0 := hd.done hq
            refine ⟨(v5, Lo, Hx), ⟨hO, hq0, hol2, hino, hkeep, hb1⟩, ?_⟩
            dsimp only
            (refine ent ?_ ?_; (repeat refine fr_cons rfl ?_); exact fr_nil; (repeat (exact List.Sublist.refl _)))
          · rw [valsT_app] at hT hsep hd
            obtain ⟨k1, k2, k3, k4⟩ := Dv.one hq hT hO hsep hd
            have hbd := hd.bd hqb
            have hem : ((a, m), c) ∈ valsT L0 ++ [((a, m), c)] := List.mem_append.2 (.inr (List.mem_singleton.2 rfl))
            have hkb := hd.keys h6 hq hsp hem
            have hcb : 0 ≤ c ∧ c ≤ 4000 := by have := hbd (a, m); rwa [vT_mem hd.rnd hem] at this
            have hc0 : c ≠ 0 := hT.nz _ hem
            have hsm : smallT L0 1000000000 := small_of (tab_front hT) fun g => by
              rw [tab_front_val hT]
              have := hbd g
              dsimp only
              split <;> omega
            have hlL : (L0 ++ [(vp, ((a, m), c))]).length = L0.length + 1 := by rw [List.length_append]; rfl
            have g1 : ((L0 ++ [(vp, ((a, m), c))]).map (·.1))[L0.length]? = some vp := by
              rw [List.map_append, List.getElem?_append_right (by rw [List.length_map]; exact Nat.le_refl _), List.length_map, Nat.sub_self]; rfl
            have hrow := hin _ (List.mem_append.2 (.inr (List.mem_singleton.2 rfl)))
            dsimp only at hkb hrow
            have ip : RB vp Hx 2 1 [.int .i64 a, .int .i64 m, .int .i64 c] := ⟨hrow⟩
            refine JC_row1' (mS hrow) fun oa ca => ?_
            refine JC_ones (inT.mono hino fun x hx => mS hx) fun ho => ?_
            have lo : (Lo.map (·.1)).length = Lo.length := List.length_map _
            repeat' (first | (apply Jq_subR (r := L0.length); exact rfl; exact rfl; exact rfl; omega; omega) | (apply Jq_partH; exact rfl; exact rfl; exact rfl; exact rb; exact l1'; decide; omega) | (apply J_lit1; exact rfl; exact rfl; exact ca; (intro _)) | (apply J_apR; decide; exact rfl; exact rfl; exact rfl; infer_instance; exact rb; exact ho; ((show (_ + _) * _ ≤ _); (simp only [List.length_cons, List.length_nil, List.length_map]); omega); decide; exact rfl; (intro v33)) | (apply Jq_move; exact rfl; exact rfl) | (apply Jq_assign; exact rfl; exact rfl) | (apply Jq_cmp; exact rfl; exact rfl; exact rfl; exact rfl) | (apply Jq_lenR; exact rfl; exact rfl; (exact rb)) | (apply Jq_indexRN; exact rfl; exact rfl; exact rfl; (exact rb); omega) | (apply Jq_loadR; exact rfl; exact rfl; (exact rb); (exact g1)) | refine thenQ_normal ?_ | refine JC_seq ?_ | refine JC_region ?_ | refine J_nil ?_ | refine JC_block ?_ | refine JC_skip ?_ | (apply JC_dec_true; exact rfl; omega))
            refine JC_head (A := [.row v33 50 1 ([vp] ++ Lo.map (·.1)), .row v5 50 1 (Lo.map (·.1))]) hv3 l1' Nat.one_pos (by omega) (show L0.length ≤ (L0 ++ [(vp, ((a, m), c))]).length by omega) fun H1 H2 hH => ?_
            have htk : ((L0 ++ [(vp, ((a, m), c))]).map (·.1)).take (L0.length * 1) = L0.map (·.1) := by
              rw [List.map_append, List.take_left' (by rw [List.length_map, Nat.mul_one])]
            rw [htk]
            obtain ⟨u3, hu3⟩ : ∃ u, u = partV 1 v3 0 L0.length := ⟨_, rfl⟩
            obtain ⟨Hy, hHy⟩ : ∃ Hy, Hy = H1 ++ .row (partV 1 v3 0 L0.length) 50 1 (L0.map (·.1)) :: H2 := ⟨_, rfl⟩
            have hyu : It.row u3 50 1 (L0.map (·.1)) ∈ Hy := by rw [hHy, hu3]; exact List.mem_append.2 (.inr m0)
            have hm1 : ∀ x ∈ Hx, x ≠ .row v3 50 1 ((L0 ++ [(vp, ((a, m), c))]).map (·.1)) → x ∈ Hy := fun x hx hne => by
              rw [hHy]; rw [hH] at hx; exact mem_mid hx hne
            have hy0 : inT L0 Hy := fun p hp => hm1 _ (hin p (List.mem_append.2 (.inl hp))) (rowI_ne _ _ _ _)
            have hyo : inT Lo Hy := fun p hp => hm1 _ (hino p hp) (rowI_ne _ _ _ _)
            have hyk : ∀ x ∈ H, notRow x → x ∈ Hy := fun x hx hh => hm1 _ (hkeep x hx hh) (notRow_ne hh _ _ _ _)
            have hyb : It.blk b1 (gv (n : Int) X O) 28 ∈ Hy := hm1 _ hb1 (fun h => by cases h)
            have hyr : It.row vp 2 1 [.int .i64 a, .int .i64 m, .int .i64 c] ∈ Hy := hm1 _ hrow (rowI_ne _ _ _ _)
            have hyl : inT ((vp, ((a, m), c)) :: Lo) Hy := fun p hp => by
              rcases List.mem_cons.1 hp with rfl | hp
              · exact hyr
              · exact hyo p hp
            rw [← hHy, ← hu3]
            clear hm1 hH hHy hv3 hin hino hkeep hb1 hrow ip i3 hu3
            have ip : RB vp Hy 2 1 [.int .i64 a, .int .i64 m, .int .i64 c] := ⟨hyr⟩
            have le : [Value.int .i64 a, Value.int .i64 m, Value.int .i64 c].length = 3 := rfl
            have hput := fun (H : Hp) h1 h2 => sputS_gives (B := B) (w0 := w0) (H := H) (v := u3) L0 (a - 2) (m - 1) (-c) (by omega) (tab_front hT) h1 h2 (by omega) (by omega) hsm
            have hfin : ∀ L' : LT, valsT L' = insT (a - 2, m - 1) (-c) (valsT L0) → L'.length ≤ 10000 := fun L' h => by
              have h1 := congrArg List.length h
              have h2 := insT_len (a - 2, m - 1) (-c) (valsT L0)
              unfold valsT at h1 h2
              rw [List.length_map] at h1 h2
              omega
            dsimp only [List.cons_append, List.nil_append]
            refine JC_any (m := 15) rfl [.row vp 2 1 [.int .i64 a, .int .i64 m, .int .i64 c]] mixed (by ((repeat (apply sub_cons; ((focus ((with_reducible (repeat (first | assumption | refine mS ?_))); done))))); exact sub_nil)) ?_
            (apply JF_q 0; exact rfl; kernel_rfl; exact rfl; (intro E hE; (apply q_move; exact rfl)))
            (apply JF_q 1; exact rfl; kernel_rfl; exact rfl; (intro E hE; (apply q_move; exact rfl)))
            (apply JF_q 2; exact rfl; kernel_rfl; exact rfl; (intro E hE; (apply q_indexRN (i := 0); exact rfl; exact rfl; (refine hE _ ?_; exact rb); omega)))
            (apply JF_q 3; exact rfl; kernel_rfl; exact rfl; (intro E hE; (apply q_loadR; exact rfl; (refine hE _ ?_; exact rb); (exact rfl))))
            (apply JF_q 4; exact rfl; kernel_rfl; exact rfl; (intro E hE; (apply q_sub; exact rfl; exact rfl; omega)))
            (apply JF_q 5; exact rfl; kernel_rfl; exact rfl; (intro E hE; (apply q_move; exact rfl)))
            (apply JF_q 6; exact rfl; kernel_rfl; exact rfl; (intro E hE; (apply q_indexRN (i := 1); exact rfl; exact rfl; (refine hE _ ?_; exact rb); omega)))
            (apply JF_q 7; exact rfl; kernel_rfl; exact rfl; (intro E hE; (apply q_loadR; exact rfl; (refine hE _ ?_; exact rb); (exact rfl))))
            (apply JF_q 8; exact rfl; kernel_rfl; exact rfl; (intro E hE; (apply q_sub; exact rfl; exact rfl; omega)))
            (apply JF_q 9; exact rfl; kernel_rfl; exact rfl; (intro E hE; (apply q_move; exact rfl)))
            (apply JF_q 10; exact rfl; kernel_rfl; exact rfl; (intro E hE; (apply q_indexRN (i := 2); exact rfl; exact rfl; (refine hE _ ?_; exact rb); omega)))
            (apply JF_q 11; exact rfl; kernel_rfl; exact rfl; (intro E hE; (apply q_loadR; exact rfl; (refine hE _ ?_; exact rb); (exact rfl))))
            (apply JF_q 12; exact rfl; kernel_rfl; exact rfl; (intro E hE; (apply q_neg; exact rfl; omega)))
            (apply JF_all [13]; kernel_rfl)
            (apply JFs_cons; exact rfl)
            · ((apply JcE; exact rfl; exact rfl; exact rfl; infer_instance; (exact hput _ (mS (mS hyu)) (hy0.mono fun x hx => mS (mS hx))); (intro v' H' hV; obtain ⟨L', H2, hL', rfl, hin2, hs2⟩ := hV)))
              (apply J_nil; apply JF_end; ((repeat (apply sub_cons; (exact mS (hs2 _ (mS (mS hyr)))))); exact sub_nil))
              (apply JF_q 14; exact rfl; kernel_rfl; exact rfl; (intro E hE; (apply q_assign; exact rfl)))
              (apply JF_done; kernel_rfl)
              ((repeat' (first | refine thenQ_normal ?_ | refine inBlockQ_normal ?_)); obtain ⟨P1, P2, rfl⟩ := List.append_of_mem (hs2 _ m0); refine ⟨(v', L', v33, (vp, ((a, m), c)) :: Lo, .row v' 50 1 (L'.map (·.1)) :: (P1 ++ P2)), ⟨(by dsimp only; rw [hL']; exact k1), k2, (by dsimp only; rw [hL']; exact k3), (by dsimp only; rw [hL']; exact k4), hfin _ hL', m0, hin2.but.mono (fun x hx => mS hx), (fun p hp => mS (mem_but (hs2 _ (mS (mS (hyl p hp)))) (rowI_ne _ _ _ _))), (fun x hx hh => mS (mem_but (hs2 _ (mS (mS (hyk x hx hh)))) (notRow_ne hh _ _ _ _))), mS (mem_but (hs2 _ (mS (mS hyb))) (fun h => by cases h))⟩, (by dsimp only; rw [List.length_cons]; omega), ?_⟩; dsimp only; refine entP (ent ?_ (List.nil_sublist _)) sp_front; (repeat refine fr_cons rfl ?_); exact fr_nil)
            exact JFs_nil
      · rintro ⟨v5, L5, Hz⟩ ⟨q1, q2, q3, q4, q5, q6⟩
        dsimp only at q1 q2 q3 q4 q5 q6 ⊢
        have i1 : MB b1 Hz (gv (n : Int) X O) 28 := ⟨q6⟩
        repeat' (first | (apply Jq_move; exact rfl; exact rfl) | (apply Jq_assign; exact rfl; exact rfl) | (apply Jq_add; exact rfl; exact rfl; exact rfl; omega) | refine thenQ_normal ?_ | refine inBlockQ_normal ?_ | refine JC_region ?_ | refine J_nil ?_)
        refine ⟨(k + 1, v5, L5, .row v5 50 1 (L5.map (·.1)) :: Hz), ⟨by dsimp only; omega, by dsimp only; omega, q1, q2, by dsimp only; omega, m0, q4.mono fun x hx => mS hx, fun x hx hh => mS (q5 x hx hh), mS q6⟩, by dsimp only; omega, ?_⟩
        dsimp only
        (refine ent ?_ ?_; (repeat refine fr_cons rfl ?_); exact fr_nil; (repeat (exact List.Sublist.refl _)))
    · obtain rfl : k = n := by omega
      repeat' (first | (apply Jq_move; exact rfl; exact rfl) | (apply Jq_assign; exact rfl; exact rfl) | (apply Jq_load; exact rfl; exact rfl; (exact mb); (exact rfl)) | (apply Jq_fieldAddr; exact rfl; exact rfl) | (apply Jq_cmp; exact rfl; exact rfl; exact rfl; exact rfl) | refine thenQ_normal ?_ | refine thenQ_exit ?_ | refine inBlockQ_here ?_ | refine JC_seq ?_ | refine JC_region ?_ | refine J_nil ?_ | refine JC_ret ?_ | refine JC_exit ?_ | (apply JC_dec_false; exact rfl; omega))
      exact e1 (H' := Hx) rfl rfl rfl (entS fun _ _ h => h) ⟨L2, hTab2, hval2, hv3, hin2, hkeep⟩
end Go.Proofs.YtmbbcmebdefggaaGreatDoor
namespace Go.Proofs.YtmbbcmebdefggaaGreatDoor
open Go Go.RowKit SL
theorem mem_put {R : TB} {k : GrB} {v : Int} {e : GrB × Int} (h : e ∈ putM R k v) : e = (k, v) ∨ e ∈ R := by
  unfold putM at h
  split at h
  · obtain ⟨p, hp, rfl⟩ := List.mem_map.1 h
    split
    · exact .inl rfl
    · exact .inr hp
  · rcases List.mem_append.1 h with h | h
    · exact .inr h
    · exact .inl (List.mem_singleton.1 h)
theorem put_len (R : TB) (k : GrB) (u v : Int) : (putM R k u).length = (putM R k v).length := by
  unfold putM
  split
  · rw [List.length_map, List.length_map]
  · rw [List.length_append, List.length_append]; rfl
theorem put_le (R : TB) (k : GrB) (v : Int) : (putM R k v).length ≤ R.length + 1 := by
  unfold putM
  split
  · rw [List.length_map]; omega
  · rw [List.length_append]; exact Nat.le_refl _
theorem del_len {R : TB} (hn : (R.map (·.1)).Nodup) {e : GrB × Int} (he : e ∈ R) : (delM R e.1).length + 1 = R.length := by
  obtain ⟨j, hj⟩ := List.getElem?_of_mem he
  rw [← delM_erase hn hj rfl, List.length_eraseIdx_of_lt (List.getElem?_eq_some_iff.1 hj).1]
  have := (List.getElem?_eq_some_iff.1 hj).1
  omega
theorem vT_del {R : TB} (hn : (R.map (·.1)).Nodup) (k q : GrB) : vT (delM R k) q = if q = k then 0 else vT R q := by
  by_cases h : q = k
  · rw [if_pos h]
    refine vT_out fun m => ?_
    obtain ⟨e, he, rfl⟩ := List.mem_map.1 m
    exact (delM_mem.1 he).2 h
  · rw [if_neg h]
    by_cases m : q ∈ R.map (·.1)
    · obtain ⟨e, he, rfl⟩ := List.mem_map.1 m
      rw [vT_mem hn he, vT_mem (delM_keys hn) (delM_mem.2 ⟨he, h⟩)]
    · rw [vT_out m]
      refine vT_out fun m' => m ?_
      obtain ⟨e, he, rfl⟩ := List.mem_map.1 m'
      exact List.mem_map.2 ⟨e, (delM_mem.1 he).1, rfl⟩
/-- What is left behind one entry. -/
def leftM (R : TB) (k : GrB) (n : Int) : TB := if vT R (dnG k) - n = 0 then delM (putM (delM R k) (dnG k) (vT R (dnG k) - n)) (dnG k) else putM (delM R k) (dnG k) (vT R (dnG k) - n)
theorem dn_ne (k : GrB) : dnG k ≠ k := fun h => gLt.irr k (by have := dn_lt k; rwa [h] at this)
theorem Dv.left1 {Q : GrB → Int} {R out : TB} (hq : ∀ g, 0 ≤ Q g) (d : Dv Q R out) {k : GrB} {n : Int} (hk : (k, n) ∈ R) (hmax : ∀ e ∈ R, ¬ gLt k e.1) :
    Dv Q (leftM R k n) (putM out k n) ∧ (leftM R k n).length ≤ R.length ∧ (putM out k n).length = out.length + 1 ∧ putM out k n = out ++ [(k, n)] := by
  obtain ⟨p1, p2, p3, p4⟩ := d.pick hq hk hmax
  have hout : putM out k n = out ++ [(k, n)] := by unfold putM; rw [if_neg p3]
  have hn1 := delM_keys (k := k) d.rnd
  have hn2 := putM_nodup hn1 (dnG k) (vT R (dnG k) - n)
  have hv1 : ∀ g, vT (putM (delM R k) (dnG k) (vT R (dnG k) - n)) g = vT R g + (if g = k then -n else 0) + (if g = dnG k then -n else 0) := fun g => by
    rw [vT_put, vT_del d.rnd]
    by_cases h1 : g = dnG k
    · have h2 : g ≠ k := fun e => dn_ne k (by rw [← h1, e])
      rw [if_pos h1, if_neg h2, if_pos h1, h1]; omega
    · rw [if_neg h1, if_neg h1]
      by_cases h2 : g = k
      · rw [if_pos h2, if_pos h2, h2, vT_mem d.rnd hk]; omega
      · rw [if_neg h2, if_neg h2]; omega
  have hl1 := del_len d.rnd hk
  have hl2 := put_le (delM R k) (dnG k) (vT R (dnG k) - n)
  dsimp only at hl1
  refine ⟨d.step hq hk hmax ?_ (fun e he => ?_) (fun g => ?_) (by rw [hout, List.map_append]; exact List.nodup_append.2 ⟨d.ond, by simp, fun a ha b hb e => p3 (by rw [List.map_cons, List.map_nil, List.mem_singleton] at hb; subst hb e; exact ha)⟩) (fun e => by rw [hout, List.mem_append, List.mem_singleton]; exact or_comm), ?_, by rw [hout, List.length_append]; rfl, hout⟩
  · unfold leftM
    split
    · exact delM_keys hn2
    · exact hn2
  · unfold leftM at he
    split at he
    · obtain ⟨h1, h2⟩ := delM_mem.1 he
      rcases mem_put h1 with rfl | h3
      · exact absurd rfl h2
      · exact d.rnz e (delM_mem.1 h3).1
    · rename_i hne
      rcases mem_put he with rfl | h3
      · exact hne
      · exact d.rnz e (delM_mem.1 h3).1
  · unfold leftM
    split
    · rename_i h0
      rw [vT_del hn2]
      by_cases h1 : g = dnG k
      · have h2 : g ≠ k := fun e => dn_ne k (by rw [← h1, e])
        rw [if_pos h1, if_neg h2, if_pos h1, h1]; omega
      · rw [if_neg h1, hv1]
    · exact hv1 g
  · unfold leftM
    split
    · exact Nat.le_trans (List.length_filter_le _ _) (by omega)
    · omega
end Go.Proofs.YtmbbcmebdefggaaGreatDoor
namespace Go.Proofs.YtmbbcmebdefggaaGreatDoor
open Go Go.RowKit SL
set_option maxRecDepth 100000 in
theorem idiv_gives {B : Nat} {w0 : World} {H : Hp} (n : Nat) (X O : List Nat) (bX : isB X) (bO : isB O) (h6 : n ≤ 6) (g0 : okG (n : Int) X O) (hTb : tabI ∈ H) {Q : Nat → GrB → Int} (t : Tower n X O Q) :
    GivesE Tryz.prog 131 #[.agg (gv (n : Int) X O).toArray] B w0 H (fun v' H' => ∃ b M, v' = .map (some b) ∧ IsT (Q (n - 1)) M ∧ M.length ≤ 720 ∧ H' = .obj b (mapO (encM grK zV M)) :: H) := by
  have ug := gv_len (n := (n : Int)) bX.1 bO.1
  have hn2 := (okG.grd g0).h2
  have hbl : ∀ y z : Int, Tryz.prog.built 108 [(0, .int .i64 y), (1, .int .i64 z)] = some (encGr (y, z)).toArray := fun y z => by kernel_rfl
  refine givesE_of (args := [.agg (gv (n : Int) X O).toArray]) [(0, .agg (gv (n : Int) X O).toArray)] Tryz.func131 rfl Tryz.ntmps131 rfl (argsF_cons rfl argsF_nil) ?_
  repeat' (first | (apply JcE; exact rfl; exact rfl; exact rfl; infer_instance; (exact iblocked_gives n X O bX bO h6 g0 (mS hTb)); (intro v' H' hV; obtain ⟨b3, R0, rfl, hnd, hnz, hval, rfl⟩ := hV; have hl0 := (BlT.mk hnd hnz hval).len g0 h6)) | (apply Jq_move; exact rfl; exact rfl) | (apply Jq_assign; exact rfl; exact rfl) | (apply Jq_sub; exact rfl; exact rfl; exact rfl; omega) | (apply Jc; exact rfl; exact rfl; exact rfl; infer_instance; ((intro w hw); exact n_gives n X O w)) | (apply Jq_loadW; exact rfl; exact rfl; (exact mb); (omega)) | (apply J_box; exact rfl; exact rfl; exact rfl; (intro _)) | refine thenQ_normal ?_ | refine JC_seq ?_ | refine JC_region ?_ | refine J_nil ?_ | refine JC_block ?_)
  rename_i b1
  refine JC_loop (X := Nat × TB × Nat) (fun p => p.1 ≤ n - 1 ∧ IsT (Q p.1) p.2.1 ∧ p.2.1.length ≤ 720) (fun p => [(13, .int .i64 (p.1 : Int)), (12, .int .i64 ((n : Int) - 1)), (3, .map (some p.2.2)), (1, .pointer (some ⟨b1, 0, none⟩))]) (fun p => .obj p.2.2 (mapO (encM grK zV p.2.1)) :: .blk b1 (gv (n : Int) X O) 28 :: H) (fun p => n - p.1) (0, R0, b3) ⟨Nat.zero_le _, ⟨hnd, hnz, fun g => (hval g).trans (t.zero g).symm⟩, hl0⟩ ?_ ?_
  · dsimp only
    (refine entP (ent ?_ (List.nil_sublist _)) ?_; (repeat refine fr_cons rfl ?_); exact fr_nil; (repeat (exact sp_refl)))
  · clear hnd hnz hval hl0
    rintro ⟨k, R, b⟩ ⟨hk, hR, hl⟩
    dsimp only at hk hR hl ⊢
    by_cases hlt : k < n - 1
    · have hqb := fun g => t.bd g0 h6 (show k + 1 < n by omega) g
      have hq := fun g => (hqb g).1
      have hsp := t.supp g0 h6 (k + 1) (by omega)
      have hsplit : ∀ g, vT R g = Q (k + 1) g + Q (k + 1) (upG g) := fun g => by rw [hR.val, t.split k (by omega) g]
      have eR : mapO (encM grK zV R) = mapS (encM grK zV R) (List.range R.length) R.length := by rw [mapO_S, encM_len]
      rw [eR]
      repeat' (first | (apply J_makeMap; exact rfl; (intro _)) | (apply Jq_assign; exact rfl; exact rfl) | (apply Jq_cmp; exact rfl; exact rfl; exact rfl; exact rfl) | refine thenQ_normal ?_ | refine JC_seq ?_ | refine JC_region ?_ | refine J_nil ?_ | refine JC_block ?_ | refine JC_skip ?_ | (apply JC_dec_true; exact rfl; omega))
      rename_i b4
      refine JC_cutB (Y := TB) (fun T => IsT (Q (k + 1)) T ∧ T.length ≤ 720) (fun _ => [(4, .map (some b4)), (13, .int .i64 (k : Int)), (12, .int .i64 ((n : Int) - 1)), (1, .pointer (some ⟨b1, 0, none⟩))]) (fun T => .obj b4 (mapO (encM grK zV T)) :: .blk b1 (gv (n : Int) X O) 28 :: H) ?_ ?_
      · refine JC_loop (X := TB × List Nat × Nat × TB) (fun p => StOK p.2.1 p.2.2.1 p.1.length ∧ Dv (Q (k + 1)) p.1 p.2.2.2 ∧ p.1.length ≤ 720) (fun p => [(3, .map (some b)), (4, .map (some b4)), (13, .int .i64 (k : Int)), (12, .int .i64 ((n : Int) - 1)), (1, .pointer (some ⟨b1, 0, none⟩))]) (fun p => .obj b (mapS (encM grK zV p.1) p.2.1 p.2.2.1) :: .obj b4 (mapO (encM grK zV p.2.2.2)) :: .blk b1 (gv (n : Int) X O) 28 :: H) (fun p => 721 - p.2.2.2.length) (R, List.range R.length, R.length, []) ⟨StOK.range _, Dv.start hR.nd hR.nz hsplit, hl⟩ ?_ ?_
        · dsimp only [encM, List.map_nil]
          (refine entP (ent ?_ (List.nil_sublist _)) ?_; (repeat refine fr_cons rfl ?_); exact fr_nil; (repeat (first | exact sp_refl | (with_reducible apply sp1))))
        · clear hR hl eR hsplit
          rintro ⟨R, s, c, out⟩ ⟨hst, hd, hl⟩
          dsimp only at hst hd hl ⊢
          have ho := hd.out720 h6 hsp
          by_cases h0 : R.length = 0
          · obtain rfl := List.eq_nil_of_length_eq_zero h0
            repeat' (first | (apply Jq_lenTS; exact hst; exact rfl; exact rfl; exact mo) | (apply Jq_move; exact rfl; exact rfl) | (apply Jq_cmp; exact rfl; exact rfl; exact rfl; exact rfl) | refine thenQ_normal ?_ | refine thenQ_exit ?_ | refine inBlockQ_here ?_ | refine JC_seq ?_ | refine JC_region ?_ | refine J_nil ?_ | refine JC_exit ?_ | (apply JC_if_false; exact rfl))
            refine ⟨out, ⟨⟨hd.ond, hd.onz, hd.done hq⟩, ho⟩, ?_⟩
            (refine entP (ent ?_ (List.nil_sublist _)) ?_; (repeat refine fr_cons rfl ?_); exact fr_nil; (repeat (exact sp_end)))
          · repeat' (first | (apply Jq_lenTS; exact hst; exact rfl; exact rfl; exact mo) | (apply JcE; exact rfl; exact rfl; exact rfl; infer_instance; (exact mapKeysB_gives b); (intro v' H' hV; obtain ⟨Bm, rfl, rfl⟩ := hV)) | (apply JcE; exact rfl; exact rfl; exact rfl; infer_instance; (exact collectB_gives hst (mS m0) m0 (by omega)); (intro vs H' hV; obtain ⟨ss, hp, rfl⟩ := hV; have hss := hp.length_eq; rw [List.length_map] at hss)) | (apply JcE; exact rfl; exact rfl; exact rfl; infer_instance; (exact maxU_gives ss m0 (by omega) (by omega)); (intro vm H' hV; obtain ⟨rfl, q, hmq, rfl⟩ := hV)) | (apply Jq_move; exact rfl; exact rfl) | (apply Jq_cmp; exact rfl; exact rfl; exact rfl; exact rfl) | (apply Jq_loadW; exact rfl; exact rfl; (exact mb); (exact rfl)) | (apply J_sW; exact rfl; exact rfl; infer_instance; (exact rfl); (exact rfl); (exact ones_of rfl); infer_instance) | (apply J_alloc (cs := encGr (0, 0)); exact rfl; exact rfl; (intro _)) | refine thenQ_normal ?_ | refine JC_seq ?_ | refine JC_region ?_ | refine J_nil ?_ | refine JC_block ?_ | refine JC_skip ?_ | (apply JC_dec_true; exact rfl; omega))
            rename_i b5
            obtain ⟨⟨q', nn⟩, hqn, hqe⟩ := List.mem_map.1 (hp.mem_iff.1 hmq.1)
            have hqe' : q' = q := hqe
            clear hqe
            subst hqe'
            obtain ⟨a, m⟩ := q'
            have hmax : ∀ e ∈ R, ¬ gLt (a, m) e.1 := fun e he => hmq.2 e.1 (hp.mem_iff.2 (List.mem_map.2 ⟨e, he, rfl⟩))
            have hkey := hd.pkey h6 hq hsp hqn hmax
            have hb1 := hd.bd hqb (a, m)
            have hb2 := hd.bd hqb (a - 2, m - 1)
            have hvq : vT R (a, m) = nn := vT_mem hd.rnd hqn
            obtain ⟨l1, l2, l3, l4⟩ := hd.left1 hq hqn hmax
            have hlk : ((lkM R (a, m)).map zV).getD (.int .i64 0) = .int .i64 nn := by rw [← hvq]; unfold vT; cases lkM R (a, m) <;> rfl
            have hv1 : vT (delM R (a, m)) (a - 2, m - 1) = vT R (a - 2, m - 1) := (vT_del hd.rnd _ _).trans (if_neg (dn_ne (a, m)))
            have hn1 := delM_keys (k := (a, m)) hd.rnd
            have hrd := hd.rnd
            have hod := hd.ond
            have hle : leftM R (a, m) nn = if vT R (a - 2, m - 1) - nn = 0 then delM (putM (delM R (a, m)) (a - 2, m - 1) (vT R (a - 2, m - 1) - nn)) (a - 2, m - 1) else putM (delM R (a, m)) (a - 2, m - 1) (vT R (a - 2, m - 1) - nn) := rfl
            generalize leftM R (a, m) nn = R3 at *
            rw [hvq] at hb1
            generalize vT R (a - 2, m - 1) = v1 at *
            clear hp hmq hss
            dsimp only at hkey
            repeat' (first | (apply Jq_lookTS (eV := zV) (E := kencGr) (k := (a, m)) (hs := hst); exact rfl; exact rfl; exact rfl; exact mo; exact hrd; exact hlk) | (apply J_delTS (k := (a, m)) (eV := zV) (E := kencGr) (hs := hst); exact rfl; exact rfl; infer_instance; exact rfl; exact hrd; (intro s1 hst1)) | (apply J_updT (k := (a, m)) (v := nn) (eV := zV) (E := kencGr); exact rfl; exact rfl; exact rfl; infer_instance; exact rfl; exact hod; exact l4) | (apply Jq_buildE; exact rfl; exact rfl; exact hbl _ _) | (apply Jq_move; exact rfl; exact rfl) | (apply Jq_assign; exact rfl; exact rfl) | (apply Jq_load; exact rfl; exact rfl; (exact mb); (exact rfl)) | (apply Jq_fieldAddr; exact rfl; exact rfl) | (apply Jq_sub; exact rfl; exact rfl; exact rfl; omega) | (apply Jq_loadW; exact rfl; exact rfl; (exact mb); (exact rfl)) | (apply J_sW; exact rfl; exact rfl; infer_instance; (exact rfl); (exact rfl); (exact ones_of rfl); infer_instance) | (apply J_alloc (cs := encGr (0, 0)); exact rfl; exact rfl; (intro _)) | refine thenQ_normal ?_ | refine JC_seq ?_ | refine JC_region ?_ | refine J_nil ?_)
            rename_i b7
            dsimp only
            obtain ⟨R1, hR1⟩ : ∃ R1, R1 = delM R (a, m) := ⟨_, rfl⟩
            rw [← hR1] at hn1 hle hv1 hst1 ⊢
            clear hR1
            have hlkA : ((lkM R1 (a - 2, m - 1)).map zV).getD (.int .i64 0) = .int .i64 v1 := by rw [← hv1]; unfold vT; cases lkM R1 (a - 2, m - 1) <;> rfl
            have hlkB : ((lkM (putM R1 (a - 2, m - 1) ((lkM R1 (a - 2, m - 1)).getD 0)) (a - 2, m - 1)).map zV).getD (.int .i64 0) = .int .i64 v1 := by rw [lkM_put, if_pos rfl, ← hv1]; rfl
            have hlkC : ((lkM (putM R1 (a - 2, m - 1) (v1 - nn)) (a - 2, m - 1)).map zV).getD (.int .i64 0) = .int .i64 (v1 - nn) := by rw [lkM_put, if_pos rfl]; rfl
            have hn2' := putM_nodup hn1 (a - 2, m - 1) ((lkM R1 (a - 2, m - 1)).getD 0)
            have hn3 := putM_nodup hn1 (a - 2, m - 1) (v1 - nn)
            refine JC_cutT (Y := List Nat × Nat) (fun y => StOK y.1 y.2 (putM R1 (a - 2, m - 1) (v1 - nn)).length) (fun _ => [(7, .pointer (some ⟨b7, 0, none⟩)), (6, .int .i64 nn), (5, .pointer (some ⟨b5, 0, none⟩)), (4, .map (some b4)), (3, .map (some b)), (13, .int .i64 (k : Int)), (12, .int .i64 ((n : Int) - 1)), (1, .pointer (some ⟨b1, 0, none⟩))]) (fun y => .blk b7 (encGr (a - 2, m - 1)) 108 :: .blk b5 (encGr (a, m)) 108 :: .obj b (mapS (encM grK zV (putM R1 (a - 2, m - 1) (v1 - nn))) y.1 y.2) :: .obj b4 (mapO (encM grK zV (out ++ [((a, m), nn)]))) :: .blk b1 (gv (n : Int) X O) 28 :: H) ?_ ?_
            ·
              refine JC_any (m := 8) rfl [.blk b7 (encGr (a - 2, m - 1)) 108] mixed (by ((repeat (apply sub_cons; (focus ((with_reducible (repeat (exact m0))); done)))); exact sub_nil)) ?_
              (apply JF_q 0; exact rfl; kernel_rfl; exact rfl; (intro E hE; (apply q_move; exact rfl)))
              (apply JF_q 1; exact rfl; kernel_rfl; exact rfl; (intro E hE; (apply q_loadW; exact rfl; (refine hE _ ?_; exact mb); (exact rfl))))
              (apply JF_q 3; exact rfl; kernel_rfl; exact rfl; (intro E hE; (apply q_move; exact rfl)))
              (apply JF_all [2, 5]; kernel_rfl)
              (apply JFs_cons; exact rfl)
              · (apply Jq_lookTS (hs := hst1) (eV := zV) (E := kencGr); exact rfl; exact rfl; exact rfl; exact mo; exact hn1; exact hlkA)
                (apply J_nil; apply JF_end; ((repeat (apply sub_cons; (focus ((with_reducible (repeat (exact m0))); done)))); exact sub_nil))
                (apply JF_q 4; exact rfl; kernel_rfl; exact rfl; (intro E hE; (apply q_sub; exact rfl; exact rfl; omega)))
                (apply JF_all [5]; kernel_rfl)
                (apply JFs_cons; exact rfl)
                · (apply J_entTS (hs := hst1) (u0 := 0) (eV := zV) (E := kencGr); exact rfl; exact rfl; exact rfl; infer_instance; exact rfl; exact hn1; exact rfl; (intro s2 c2 j hst2 hj))
                  (apply J_nil; apply JF_end; ((repeat (apply sub_cons; (focus ((with_reducible (repeat (exact m0))); done)))); exact sub_nil))
                  (apply JF_q 6; exact rfl; kernel_rfl; exact rfl; (intro E hE; (apply q_extract; exact rfl; exact rfl)))
                  (apply JF_all [7]; kernel_rfl)
                  (apply JFs_cons; exact rfl)
                  · (apply J_estTS (hs := hst2) (eV := zV) (E := kencGr) (v := v1 - nn); exact rfl; exact rfl; exact rfl; infer_instance; exact rfl; exact hn1; exact hj; exact rfl)
                    (apply J_nil; apply JF_end; ((repeat (apply sub_cons; (focus ((with_reducible (repeat (exact m0))); done)))); exact sub_nil))
                    (apply JF_done; kernel_rfl)
                    ((repeat' (refine thenQ_normal ?_)); refine ⟨(s2, c2), (by dsimp only; rw [put_len R1 (a - 2, m - 1) (v1 - nn) ((lkM R1 (a - 2, m - 1)).getD 0)]; exact hst2), ?_⟩; dsimp only; (refine entP (ent ?_ (List.nil_sublist _)) ?_; (repeat refine fr_cons rfl ?_); exact fr_nil; (repeat (first | exact sp_end | (with_reducible apply sp0)))))
                  exact JFs_nil
                exact JFs_nil
              (apply JFs_cons; exact rfl)
              · (apply J_entTS (hs := hst1) (u0 := 0) (eV := zV) (E := kencGr); exact rfl; exact rfl; exact rfl; infer_instance; exact rfl; exact hn1; exact rfl; (intro s2 c2 j hst2 hj))
                (apply J_nil; apply JF_end; ((repeat (apply sub_cons; (focus ((with_reducible (repeat (exact m0))); done)))); exact sub_nil))
                (apply JF_q 6; exact rfl; kernel_rfl; exact rfl; (intro E hE; (apply q_extract; exact rfl; exact rfl)))
                (apply JF_all [2]; kernel_rfl)
                (apply JFs_cons; exact rfl)
                · (apply Jq_lookTS (hs := hst2) (eV := zV) (E := kencGr); exact rfl; exact rfl; exact rfl; exact mo; exact hn2'; exact hlkB)
                  (apply J_nil; apply JF_end; ((repeat (apply sub_cons; (focus ((with_reducible (repeat (exact m0))); done)))); exact sub_nil))
                  (apply JF_q 4; exact rfl; kernel_rfl; exact rfl; (intro E hE; (apply q_sub; exact rfl; exact rfl; omega)))
                  (apply JF_all [7]; kernel_rfl)
                  (apply JFs_cons; exact rfl)
                  · (apply J_estTS (hs := hst2) (eV := zV) (E := kencGr) (v := v1 - nn); exact rfl; exact rfl; exact rfl; infer_instance; exact rfl; exact hn1; exact hj; exact rfl)
                    (apply J_nil; apply JF_end; ((repeat (apply sub_cons; (focus ((with_reducible (repeat (exact m0))); done)))); exact sub_nil))
                    (apply JF_done; kernel_rfl)
                    ((repeat' (refine thenQ_normal ?_)); refine ⟨(s2, c2), (by dsimp only; rw [put_len R1 (a - 2, m - 1) (v1 - nn) ((lkM R1 (a - 2, m - 1)).getD 0)]; exact hst2), ?_⟩; dsimp only; (refine entP (ent ?_ (List.nil_sublist _)) ?_; (repeat refine fr_cons rfl ?_); exact fr_nil; (repeat (first | exact sp_end | (with_reducible apply sp0)))))
                  exact JFs_nil
                exact JFs_nil
              exact JFs_nil
            rintro ⟨s2, c2⟩ hst2
            dsimp only at hst2 ⊢
            have hol : out.length + 1 ≤ 720 := by
              have := l1.out720 h6 hsp
              rwa [l3] at this
            by_cases hz : v1 - nn = 0
            · rw [if_pos hz] at hle
              repeat' (first | (apply Jq_lookTS (hs := hst2) (eV := zV) (E := kencGr); exact rfl; exact rfl; exact rfl; exact mo; exact hn3; exact hlkC) | (apply J_delTS (k := (a - 2, m - 1)) (eV := zV) (E := kencGr) (hs := hst2); exact rfl; exact rfl; infer_instance; exact rfl; exact hn3; (intro s3 hst3)) | (apply Jq_move; exact rfl; exact rfl) | (apply Jq_load; exact rfl; exact rfl; (exact mb); (exact rfl)) | (apply Jq_fieldAddr; exact rfl; exact rfl) | (apply Jq_cmp; exact rfl; exact rfl; exact rfl; exact rfl) | (apply Jq_loadW; exact rfl; exact rfl; (exact mb); (exact rfl)) | refine thenQ_normal ?_ | refine inBlockQ_normal ?_ | refine JC_seq ?_ | refine JC_region ?_ | refine J_nil ?_ | refine JC_skip ?_ | (apply JC_dec_true; exact rfl; omega) | (apply JC_dec_false; exact rfl; omega))
              all_goals first
                | (exfalso; omega)
                | (refine ⟨(R3, s3, c2, out ++ [((a, m), nn)]), ⟨by dsimp only; rw [hle]; exact hst3, by dsimp only; rw [← l4]; exact l1, by dsimp only; omega⟩, by dsimp only; rw [List.length_append, List.length_singleton]; omega, ?_⟩; dsimp only; rw [hle]; (refine entP (ent ?_ (List.nil_sublist _)) ?_; (repeat refine fr_cons rfl ?_); exact fr_nil; (repeat (exact sp_end))))
            · rw [if_neg hz] at hle
              repeat' (first | (apply Jq_lookTS (hs := hst2) (eV := zV) (E := kencGr); exact rfl; exact rfl; exact rfl; exact mo; exact hn3; exact hlkC) | (apply Jq_move; exact rfl; exact rfl) | (apply Jq_load; exact rfl; exact rfl; (exact mb); (exact rfl)) | (apply Jq_fieldAddr; exact rfl; exact rfl) | (apply Jq_cmp; exact rfl; exact rfl; exact rfl; exact rfl) | (apply Jq_loadW; exact rfl; exact rfl; (exact mb); (exact rfl)) | refine thenQ_normal ?_ | refine inBlockQ_normal ?_ | refine JC_seq ?_ | refine JC_region ?_ | refine J_nil ?_ | refine JC_skip ?_ | (apply JC_dec_false; exact rfl; omega))
              all_goals first
                | (exfalso; omega)
                | (refine ⟨(R3, s2, c2, out ++ [((a, m), nn)]), ⟨by dsimp only; rw [hle]; exact hst2, by dsimp only; rw [← l4]; exact l1, by dsimp only; omega⟩, by dsimp only; rw [List.length_append, List.length_singleton]; omega, ?_⟩; dsimp only; rw [hle]; (refine entP (ent ?_ (List.nil_sublist _)) ?_; (repeat refine fr_cons rfl ?_); exact fr_nil; (repeat (exact sp_end))))
      · intro T hT
        repeat' (first | (apply Jq_move; exact rfl; exact rfl) | (apply Jq_assign; exact rfl; exact rfl) | (apply Jq_add; exact rfl; exact rfl; exact rfl; omega) | refine thenQ_normal ?_ | refine inBlockQ_normal ?_ | refine JC_region ?_ | refine J_nil ?_)
        refine ⟨(k + 1, T, b4), ⟨by dsimp only; omega, hT.1, hT.2⟩, by dsimp only; omega, ?_⟩
        dsimp only
        (refine entP (ent ?_ (List.nil_sublist _)) ?_; (repeat refine fr_cons rfl ?_); exact fr_nil; (repeat (exact sp_refl)))
    · obtain rfl : k = n - 1 := by omega
      repeat' (first | (apply Jq_move; exact rfl; exact rfl) | (apply Jq_assign; exact rfl; exact rfl) | (apply Jq_cmp; exact rfl; exact rfl; exact rfl; exact rfl) | refine thenQ_normal ?_ | refine thenQ_exit ?_ | refine inBlockQ_here ?_ | refine JC_seq ?_ | refine JC_region ?_ | refine J_nil ?_ | refine JC_ret ?_ | refine JC_exit ?_ | (apply JC_dec_false; exact rfl; omega))
      refine e1 (H' := .obj b (mapO (encM grK zV R)) :: H) rfl rfl rfl ?_ ⟨b, R, rfl, hR, hl, rfl⟩
      (refine entP (ent ?_ (List.nil_sublist _)) ?_; (repeat refine fr_cons rfl ?_); exact fr_nil; (repeat (first | exact sp_end | (with_reducible apply sp0))))
end Go.Proofs.YtmbbcmebdefggaaGreatDoor
namespace Go.Proofs.YtmbbcmebdefggaaGreatDoor
open Go Go.RowKit SL
/-- The code that both hand back. -/
noncomputable def kcode (n : Int) (X O : List Nat) : Int := if codeS n X O [] = 0 then (if comps n.toNat X O = 1 then 0 else 5) else codeS n X O []
theorem kcode_cases {n : Int} {X O : List Nat} {c : Int} (hc : kcode n X O = c) : (c = 0 ∧ okG n X O ∧ n ≤ 6 ∧ comps n.toNat X O = 1) ∨ (c ≠ 0 ∧ ((c = 5 ∧ okG n X O ∧ n ≤ 6 ∧ comps n.toNat X O ≠ 1) ∨ ((¬ okG n X O ∧ c = 1) ∨ (okG n X O ∧ 6 < n ∧ c = 2)))) := by
  unfold kcode at hc
  rcases codeS_none (n := n) (X := X) (O := O) rfl with ⟨h0, g, h6⟩ | h
  · rw [if_pos h0] at hc
    by_cases h1 : comps n.toNat X O = 1
    · rw [if_pos h1] at hc
      exact .inl ⟨hc.symm, g, h6, h1⟩
    · rw [if_neg h1] at hc
      exact .inr ⟨by omega, .inl ⟨hc.symm, g, h6, h1⟩⟩
  · have h0 : codeS n X O [] ≠ 0 := by
      rcases h with ⟨_, h⟩ | ⟨_, _, h⟩ <;> rw [h] <;> decide
    rw [if_neg h0] at hc
    rw [hc] at h h0
    exact .inr ⟨h0, .inr h⟩
set_option maxRecDepth 100000 in
theorem l04knot_gives (n : Nat) (X O : List Nat) (bX : isB X) (bO : isB O) (g : okG (n : Int) X O) (w : World) :
    Gives Tryz.prog 129 #[.agg (gv n X O).toArray] (.int .i64 (if comps n X O = 1 then 0 else 5)) w := by
  have ug := gv_len (n := n) bX.1 bO.1
  have lz : (i64s Z8).length = 8 := rfl
  have hcomp := lcomponents_gives n X O bX bO g
  generalize comps n X O = c at *
  refine gives_of (args := [.agg (gv n X O).toArray]) [(0, .agg (gv n X O).toArray)] [] Tryz.func129 rfl Tryz.ntmps129 rfl (argsF_cons rfl argsF_nil) (Holds.start w) ?_
  by_cases h : c = 1
  · rw [if_pos h]
    repeat' (first | (apply JcN (N := compS c); exact rfl; exact rfl; exact rfl; infer_instance; (intro w _; exact hcomp w); (intro v its h; obtain ⟨rfl, _⟩ := h; intro x hx; cases hx); (intro v its hV; obtain ⟨rfl, L, rfl, lL⟩ := hV; have uL := i64m_len L; simp only [List.nil_append])) | (apply Jq_move; exact rfl; exact rfl) | (apply Jq_assign; exact rfl; exact rfl) | (apply Jq_cmp; exact rfl; exact rfl; exact rfl; exact rfl) | (apply Jq_not; exact rfl; exact rfl) | (apply Jc; exact rfl; exact rfl; exact rfl; infer_instance; ((intro w hw); exact l01Is_gives n X O bX bO w)) | (apply Jq_loadW; exact rfl; exact rfl; (exact mb); (omega)) | (apply J_sW; exact rfl; exact rfl; infer_instance; (exact rfl); (omega); (exact i64m_one _); infer_instance) | (apply Jq_ext20; exact rfl; exact rfl) | (apply Jq_ext21; exact rfl; exact rfl) | (apply J_box; exact rfl; exact rfl; exact rfl; (intro _)) | (apply J_alloc (cs := i64s Z8); exact rfl; exact rfl; (intro _)) | refine thenQ_normal ?_ | refine JC_seq ?_ | refine JC_region ?_ | refine J_nil ?_ | refine JC_skip ?_ | refine JC_ret ?_ | (apply JC_ndec_false; exact rfl; omega))
    all_goals first
      | (exfalso; omega)
      | (exfalso; rename_i hg; simp [g] at hg; done)
      | exact g1 rfl rfl rfl rfl
  · rw [if_neg h]
    repeat' (first | (apply JcN (N := compS c); exact rfl; exact rfl; exact rfl; infer_instance; (intro w _; exact hcomp w); (intro v its h; obtain ⟨rfl, _⟩ := h; intro x hx; cases hx); (intro v its hV; obtain ⟨rfl, L, rfl, lL⟩ := hV; have uL := i64m_len L; simp only [List.nil_append])) | (apply Jq_move; exact rfl; exact rfl) | (apply Jq_assign; exact rfl; exact rfl) | (apply Jq_cmp; exact rfl; exact rfl; exact rfl; exact rfl) | (apply Jq_not; exact rfl; exact rfl) | (apply Jc; exact rfl; exact rfl; exact rfl; infer_instance; ((intro w hw); exact l01Is_gives n X O bX bO w)) | (apply Jq_loadW; exact rfl; exact rfl; (exact mb); (omega)) | (apply J_sW; exact rfl; exact rfl; infer_instance; (exact rfl); (omega); (exact i64m_one _); infer_instance) | (apply Jq_ext20; exact rfl; exact rfl) | (apply Jq_ext21; exact rfl; exact rfl) | (apply J_box; exact rfl; exact rfl; exact rfl; (intro _)) | (apply J_alloc (cs := i64s Z8); exact rfl; exact rfl; (intro _)) | refine thenQ_normal ?_ | refine thenQ_ret ?_ | refine JC_seq ?_ | refine JC_region ?_ | refine J_nil ?_ | refine JC_skip ?_ | refine JC_ret ?_ | (apply JC_ndec_true; exact rfl; omega) | (apply JC_ndec_false; exact rfl; omega))
    all_goals first
      | (exfalso; omega)
      | (exfalso; rename_i hg; simp [g] at hg; done)
      | exact g1 rfl rfl rfl rfl
set_option maxRecDepth 100000 in
theorem lknot_gives {B : Nat} {w0 : World} {H : Hp} (n : Int) (X O : List Nat) (bX : isB X) (bO : isB O) {c : Int} (hc : kcode n X O = c) :
    GivesM Tryz.prog 84 #[.agg (gv n X O).toArray] B w0 H (.int .i64 c) H := by
  have ug := gv_len (n := n) bX.1 bO.1
  unfold kcode at hc
  by_cases h0 : codeS n X O [] = 0
  · rw [if_pos h0] at hc
    rcases codeS_none (n := n) (X := X) (O := O) rfl with ⟨_, g, h6⟩ | h
    · obtain ⟨k, rfl⟩ := okG_nat g
      rw [Int.toNat_natCast] at hc
      have hk := l04knot_gives k X O bX bO g
      rw [hc] at hk
      refine givesM_of (args := [.agg (gv (k : Int) X O).toArray]) [(0, .agg (gv (k : Int) X O).toArray)] Tryz.func84 rfl Tryz.ntmps84 rfl (argsF_cons rfl argsF_nil) ?_
      refine JC_nilrow (e := 35) (sz := 1) ?_
      repeat' (first | (apply Jq_move; exact rfl; exact rfl) | (apply Jq_assign; exact rfl; exact rfl) | (apply Jq_cmp; exact rfl; exact rfl; exact rfl; exact rfl) | (apply Jc; exact rfl; exact rfl; exact rfl; infer_instance; ((intro w hw); exact hk w)) | (apply Jq_loadW; exact rfl; exact rfl; (exact mb); (omega)) | (apply JqM; exact rfl; exact rfl; exact rfl; infer_instance; (exact lcode_is k X O bX bO [] (mS m0) (fun p hp => absurd hp List.not_mem_nil) (Nat.le_of_ble_eq_true rfl) h0)) | (apply J_box; exact rfl; exact rfl; exact rfl; (intro _)) | refine thenQ_normal ?_ | refine JC_seq ?_ | refine JC_region ?_ | refine J_nil ?_ | refine JC_skip ?_ | refine JC_ret ?_ | (apply JC_if_false; exact rfl))
      refine SL.m1 rfl rfl rfl rfl ?_
      (refine ent ?_ ?_; (repeat refine fr_cons rfl ?_); exact fr_nil; (repeat (first | exact List.Sublist.refl _ | refine List.Sublist.cons _ ?_)))
    · exfalso
      rcases h with ⟨_, h⟩ | ⟨_, _, h⟩ <;> rw [h] at h0 <;> exact absurd h0 (by decide)
  · rw [if_neg h0] at hc
    rw [hc] at h0
    refine givesM_of (args := [.agg (gv n X O).toArray]) [(0, .agg (gv n X O).toArray)] Tryz.func84 rfl Tryz.ntmps84 rfl (argsF_cons rfl argsF_nil) ?_
    refine JC_nilrow (e := 35) (sz := 1) ?_
    repeat' (first | (apply Jq_move; exact rfl; exact rfl) | (apply Jq_assign; exact rfl; exact rfl) | (apply Jq_cmp; exact rfl; exact rfl; exact rfl; exact rfl) | (apply Jq_loadW; exact rfl; exact rfl; (exact mb); (omega)) | (apply JqM; exact rfl; exact rfl; exact rfl; infer_instance; (exact lcode_is n X O bX bO [] (mS m0) (fun p hp => absurd hp List.not_mem_nil) (Nat.le_of_ble_eq_true rfl) hc)) | (apply J_box; exact rfl; exact rfl; exact rfl; (intro _)) | refine thenQ_normal ?_ | refine thenQ_ret ?_ | refine JC_seq ?_ | refine JC_region ?_ | refine J_nil ?_ | refine JC_ret ?_ | (apply JC_ndec_true; exact rfl; omega))
    refine SL.m1 rfl rfl rfl rfl ?_
    (refine ent ?_ ?_; (repeat refine fr_cons rfl ?_); exact fr_nil; (repeat (first | exact List.Sublist.refl _ | refine List.Sublist.cons _ ?_)))
set_option maxRecDepth 100000 in
theorem iknotE_gives {B : Nat} {w0 : World} {H : Hp} (n : Nat) (X O : List Nat) (bX : isB X) (bO : isB O) (g : okG (n : Int) X O) :
    GivesE Tryz.prog 130 #[.agg (gv n X O).toArray] B w0 H (fun v' H' => v' = .bool (decide ((comps n X O : Int) = 1)) ∧ H' = H) := by
  have ug := gv_len (n := n) bX.1 bO.1
  have lz : (i64s Z8).length = 8 := rfl
  refine givesE_of (args := [.agg (gv n X O).toArray]) [(0, .agg (gv n X O).toArray)] Tryz.func130 rfl Tryz.ntmps130 rfl (argsF_cons rfl argsF_nil) ?_
  repeat' (first | (apply JcComp; exact rfl; exact rfl; exact rfl; infer_instance; ((intro w hw); exact component_gives n X O bX bO g w); (intro L uL lL hL)) | (apply Jq_move; exact rfl; exact rfl) | (apply Jq_assign; exact rfl; exact rfl) | (apply Jq_cmp; exact rfl; exact rfl; exact rfl; exact rfl) | (apply Jq_loadW; exact rfl; exact rfl; (exact mb); (omega)) | (apply J_sW; exact rfl; exact rfl; infer_instance; (exact rfl); (omega); (exact i64s_one _); infer_instance) | (apply Jq_ext20; exact rfl; exact rfl) | (apply Jq_ext21; exact rfl; exact rfl) | (apply J_box; exact rfl; exact rfl; exact rfl; (intro _)) | (apply J_alloc (cs := i64s Z8); exact rfl; exact rfl; (intro _)) | refine thenQ_normal ?_ | refine JC_seq ?_ | refine JC_region ?_ | refine J_nil ?_ | refine JC_ret ?_)
  refine SL.e1 (H' := H) rfl rfl rfl ?_ ⟨rfl, rfl⟩
  (refine ent ?_ ?_; (repeat refine fr_cons rfl ?_); exact fr_nil; (repeat (first | exact List.Sublist.refl _ | refine List.Sublist.cons _ ?_)))
set_option maxRecDepth 100000 in
theorem klisted_good {B : Nat} {w0 : World} {H : Hp} (n : Nat) (X O : List Nat) (bX : isB X) (bO : isB O) (g : okG (n : Int) X O) (h6 : n ≤ 6) :
    GivesE Tryz.prog 123 #[.agg (gv (n : Int) X O).toArray, .func (.func 130) #[] #[]] B w0 H (fun v' H' => v' = .tuple #[.bool (decide ((comps n X O : Int) = 1)), .int .i64 0] ∧ H' = H) := by
  have ug := gv_len (n := (n : Int)) bX.1 bO.1
  refine givesE_of (args := [.agg (gv (n : Int) X O).toArray, .func (.func 130) #[] #[]]) [(0, .agg (gv (n : Int) X O).toArray), (1, .func (.func 130) #[] #[])] Tryz.func123 rfl Tryz.ntmps123 rfl (argsF_cons rfl (argsF_cons rfl argsF_nil)) ?_
  repeat' (first | (apply JcEcP (H1 := H); exact rfl; exact rfl; exact rfl; infer_instance; (refine entP (ent ?_ (List.nil_sublist _)) ?_; (repeat refine fr_cons rfl ?_); exact fr_nil; (repeat (exact sp_end))); exact iknotE_gives n X O bX bO g; (intro v' H' hV; obtain ⟨rfl, rfl⟩ := hV)) | (apply Jq_move; exact rfl; exact rfl) | (apply Jq_assign; exact rfl; exact rfl) | (apply Jq_load; exact rfl; exact rfl; (exact mb); (exact rfl)) | (apply Jq_fieldAddr; exact rfl; exact rfl) | (apply Jq_cmp; exact rfl; exact rfl; exact rfl; exact rfl) | (apply Jq_not; exact rfl; exact rfl) | (apply Jc; exact rfl; exact rfl; exact rfl; infer_instance; ((intro w hw); exact IsGrid_gives n X O bX bO w)) | (apply Jq_loadW; exact rfl; exact rfl; (exact mb); (omega)) | (apply J_box; exact rfl; exact rfl; exact rfl; (intro _)) | refine thenQ_normal ?_ | refine inBlockQ_normal ?_ | refine JC_seq ?_ | refine JC_region ?_ | refine J_nil ?_ | refine JC_block ?_ | refine JC_skip ?_ | refine JC_ret ?_ | (apply JC_dec_false; exact rfl; omega) | (apply JC_ndec_false; exact rfl; omega))
  exact eT2 rfl rfl rfl rfl (entS fun _ _ h => h) ⟨rfl, rfl⟩
set_option maxRecDepth 100000 in
theorem klisted_bad {B : Nat} {w0 : World} {H : Hp} {f : Value} (n : Int) (X O : List Nat) (bX : isB X) (bO : isB O) {c : Int} (hc : (¬ okG n X O ∧ c = 1) ∨ (okG n X O ∧ 6 < n ∧ c = 2)) :
    GivesE Tryz.prog 123 #[.agg (gv n X O).toArray, f] B w0 H (fun v' H' => v' = .tuple #[.bool false, .int .i64 c] ∧ H' = H) := by
  have ug := gv_len (n := n) bX.1 bO.1
  refine givesE_of (args := [.agg (gv n X O).toArray, f]) [(0, .agg (gv n X O).toArray), (1, f)] Tryz.func123 rfl Tryz.ntmps123 rfl (argsF_cons rfl (argsF_cons rfl argsF_nil)) ?_
  rcases hc with ⟨g, rfl⟩ | ⟨g, h6, rfl⟩
  · repeat' (first | (apply Jq_move; exact rfl; exact rfl) | (apply Jq_assign; exact rfl; exact rfl) | (apply Jq_not; exact rfl; exact rfl) | (apply Jc; exact rfl; exact rfl; exact rfl; infer_instance; ((intro w hw); exact IsGrid_gives n X O bX bO w)) | (apply Jq_loadW; exact rfl; exact rfl; (exact mb); (omega)) | (apply J_box; exact rfl; exact rfl; exact rfl; (intro _)) | refine thenQ_normal ?_ | refine thenQ_ret ?_ | refine inBlockQ_ret ?_ | refine JC_seq ?_ | refine JC_region ?_ | refine J_nil ?_ | refine JC_block ?_ | refine JC_ret ?_ | (apply JC_ndec_true; exact rfl; omega))
    refine eT2 (H' := H) rfl rfl rfl rfl ?_ ⟨rfl, rfl⟩
    (refine ent ?_ ?_; (repeat refine fr_cons rfl ?_); exact fr_nil; (repeat (first | exact List.Sublist.refl _ | refine List.Sublist.cons _ ?_)))
  · repeat' (first | (apply Jq_move; exact rfl; exact rfl) | (apply Jq_assign; exact rfl; exact rfl) | (apply Jq_load; exact rfl; exact rfl; (exact mb); (exact rfl)) | (apply Jq_fieldAddr; exact rfl; exact rfl) | (apply Jq_cmp; exact rfl; exact rfl; exact rfl; exact rfl) | (apply Jq_not; exact rfl; exact rfl) | (apply Jc; exact rfl; exact rfl; exact rfl; infer_instance; ((intro w hw); exact IsGrid_gives n X O bX bO w)) | (apply Jq_loadW; exact rfl; exact rfl; (exact mb); (omega)) | (apply J_box; exact rfl; exact rfl; exact rfl; (intro _)) | refine thenQ_normal ?_ | refine thenQ_ret ?_ | refine inBlockQ_ret ?_ | refine JC_seq ?_ | refine JC_region ?_ | refine J_nil ?_ | refine JC_block ?_ | refine JC_ret ?_ | (apply JC_dec_true; exact rfl; omega) | (apply JC_ndec_false; exact rfl; omega))
    refine eT2 (H' := H) rfl rfl rfl rfl ?_ ⟨rfl, rfl⟩
    (refine ent ?_ ?_; (repeat refine fr_cons rfl ?_); exact fr_nil; (repeat (first | exact List.Sublist.refl _ | refine List.Sublist.cons _ ?_)))
end Go.Proofs.YtmbbcmebdefggaaGreatDoor
namespace Go.Proofs.YtmbbcmebdefggaaGreatDoor
open Go Go.RowKit SL
set_option maxRecDepth 100000 in
theorem klM_bad {B : Nat} {w0 : World} {H : Hp} {f : Value} (n : Int) (X O : List Nat) (bX : isB X) (bO : isB O) {c : Int} (hc : (c = 5 ∧ okG n X O ∧ n ≤ 6 ∧ comps n.toNat X O ≠ 1) ∨ ((¬ okG n X O ∧ c = 1) ∨ (okG n X O ∧ 6 < n ∧ c = 2))) :
    GivesE Tryz.prog 91 #[.agg (gv n X O).toArray, f] B w0 H (ssR [] c H) := by
  have ug := gv_len (n := n) bX.1 bO.1
  rcases hc with ⟨rfl, g, h6, h1⟩ | hc
  · obtain ⟨k, rfl⟩ := okG_nat g
    have hcm : (comps k X O : Int) ≠ 1 := by rw [Int.toNat_natCast] at h1; omega
    refine givesE_of (args := [.agg (gv (k : Int) X O).toArray, f]) [(0, .agg (gv (k : Int) X O).toArray), (1, f)] Tryz.func91 rfl Tryz.ntmps91 rfl (argsF_cons rfl (argsF_cons rfl argsF_nil)) ?_
    repeat' (first | (apply JcE; exact rfl; exact rfl; exact rfl; infer_instance; (exact klisted_good k X O bX bO g (by omega)); (intro v' H' hV; obtain ⟨rfl, rfl⟩ := hV)) | (apply Jq_move; exact rfl; exact rfl) | (apply Jq_assign; exact rfl; exact rfl) | (apply Jq_cmp; exact rfl; exact rfl; exact rfl; exact rfl) | (apply Jq_not; exact rfl; exact rfl) | (apply Jq_loadW; exact rfl; exact rfl; (exact mb); (omega)) | (apply Jq_ext20; exact rfl; exact rfl) | (apply Jq_ext21; exact rfl; exact rfl) | (apply J_box; exact rfl; exact rfl; exact rfl; (intro _)) | refine thenQ_normal ?_ | refine thenQ_ret ?_ | refine inBlockQ_ret ?_ | refine JC_seq ?_ | refine JC_region ?_ | refine J_nil ?_ | refine JC_block ?_ | refine JC_ret ?_ | (apply JC_if_false; exact rfl) | (apply JC_ndec_true; exact rfl; omega))
    refine eT2nil (H' := H) rfl rfl rfl rfl ?_ ⟨_, [], rfl, rfl, rfl⟩
    (refine ent ?_ ?_; (repeat refine fr_cons rfl ?_); exact fr_nil; (repeat (first | exact List.Sublist.refl _ | refine List.Sublist.cons _ ?_)))
  · have h0 : c ≠ 0 := by omega
    refine givesE_of (args := [.agg (gv n X O).toArray, f]) [(0, .agg (gv n X O).toArray), (1, f)] Tryz.func91 rfl Tryz.ntmps91 rfl (argsF_cons rfl (argsF_cons rfl argsF_nil)) ?_
    repeat' (first | (apply JcE; exact rfl; exact rfl; exact rfl; infer_instance; (exact klisted_bad n X O bX bO hc); (intro v' H' hV; obtain ⟨rfl, rfl⟩ := hV)) | (apply Jq_move; exact rfl; exact rfl) | (apply Jq_assign; exact rfl; exact rfl) | (apply Jq_cmp; exact rfl; exact rfl; exact rfl; exact rfl) | (apply Jq_loadW; exact rfl; exact rfl; (exact mb); (omega)) | (apply Jq_ext20; exact rfl; exact rfl) | (apply Jq_ext21; exact rfl; exact rfl) | (apply J_box; exact rfl; exact rfl; exact rfl; (intro _)) | refine thenQ_normal ?_ | refine thenQ_ret ?_ | refine inBlockQ_ret ?_ | refine JC_seq ?_ | refine JC_region ?_ | refine J_nil ?_ | refine JC_block ?_ | refine JC_ret ?_ | (apply JC_ndec_true; exact rfl; omega))
    refine eT2nil (H' := H) rfl rfl rfl rfl ?_ ⟨_, [], rfl, rfl, rfl⟩
    (refine ent ?_ ?_; (repeat refine fr_cons rfl ?_); exact fr_nil; (repeat (first | exact List.Sublist.refl _ | refine List.Sublist.cons _ ?_)))
set_option maxRecDepth 100000 in
theorem klM_good {B : Nat} {w0 : World} {H : Hp} {fk : FuncId} {caps : Array Value} (hk : Runs Tryz.prog fk) (n : Nat) (X O : List Nat) (bX : isB X) (bO : isB O) (g0 : okG (n : Int) X O) (h6 : n ≤ 6) (h1 : comps n X O = 1) (hTb : tabI ∈ H) {Q : Nat → GrB → Int} (t : Tower n X O Q) (R : Nat → TB → Value → Hp → Prop)
    (hf : ∀ b M, IsT (Q (n - 1)) M → M.length ≤ 720 → GivesE Tryz.prog fk (([.map (some b)] : List Value) ++ caps.toList).toArray B w0 (.obj b (mapO (encM grK zV M)) :: H) (R b M)) :
    GivesE Tryz.prog 91 #[.agg (gv (n : Int) X O).toArray, .func (.func fk) #[] caps] B w0 H (fun v' H' => ∃ u b M, v' = .tuple #[u, .int .i64 0] ∧ IsT (Q (n - 1)) M ∧ M.length ≤ 720 ∧ R b M u H') := by
  have ug := gv_len (n := (n : Int)) bX.1 bO.1
  have hcm : (comps n X O : Int) = 1 := by omega
  refine givesE_of (args := [.agg (gv (n : Int) X O).toArray, .func (.func fk) #[] caps]) [(0, .agg (gv (n : Int) X O).toArray), (1, .func (.func fk) #[] caps)] Tryz.func91 rfl Tryz.ntmps91 rfl (argsF_cons rfl (argsF_cons rfl argsF_nil)) ?_
  repeat' (first | (apply JcE; exact rfl; exact rfl; exact rfl; infer_instance; (exact klisted_good n X O bX bO g0 h6); (intro v' H' hV; obtain ⟨rfl, rfl⟩ := hV)) | (apply JcE; exact rfl; exact rfl; exact rfl; infer_instance; (exact idiv_gives n X O bX bO h6 g0 (by (repeat (first | exact hTb | refine mS ?_))) t); (intro v' H' hV; obtain ⟨b, M, rfl, hM, hl, rfl⟩ := hV)) | (apply JcEcP (H1 := .obj b (mapO (encM grK zV M)) :: H); exact rfl; exact rfl; exact rfl; exact hk; (refine entP (ent ?_ (List.nil_sublist _)) ?_; (repeat refine fr_cons rfl ?_); exact fr_nil; (repeat (first | exact sp_end | (with_reducible apply sp0)))); exact hf b M hM hl; (intro u H' hV)) | (apply Jq_move; exact rfl; exact rfl) | (apply Jq_assign; exact rfl; exact rfl) | (apply Jq_cmp; exact rfl; exact rfl; exact rfl; exact rfl) | (apply Jq_not; exact rfl; exact rfl) | (apply Jq_loadW; exact rfl; exact rfl; (exact mb); (omega)) | (apply Jq_ext20; exact rfl; exact rfl) | (apply Jq_ext21; exact rfl; exact rfl) | (apply J_box; exact rfl; exact rfl; exact rfl; (intro _)) | refine thenQ_normal ?_ | refine inBlockQ_normal ?_ | refine JC_seq ?_ | refine JC_region ?_ | refine J_nil ?_ | refine JC_block ?_ | refine JC_skip ?_ | refine JC_ret ?_ | (apply JC_if_false; exact rfl) | (apply JC_ndec_false; exact rfl; omega))
  exact eT2 (H' := H') rfl rfl rfl rfl (entS fun _ _ h => h) ⟨u, b, M, rfl, hM, hl, hV⟩
set_option maxRecDepth 100000 in
theorem sdvt_good {B : Nat} {w0 : World} {H : Hp} (n : Nat) (X O : List Nat) (bX : isB X) (bO : isB O) (h6 : n ≤ 6) (g0 : okG (n : Int) X O) (hc : kcode n X O = 0) {Q : Nat → GrB → Int} (t : Tower n X O Q) {T : TB} (hT : Tab T) (hv : ∀ g, vT T g = Q (n - 1) g) :
    GivesE Tryz.prog 36 #[.agg (gv (n : Int) X O).toArray] B w0 H (sSS (T.map encT) 0 H) := by
  have ug := gv_len (n := (n : Int)) bX.1 bO.1
  refine givesE_of (args := [.agg (gv (n : Int) X O).toArray]) [(0, .agg (gv (n : Int) X O).toArray)] Tryz.func36 rfl Tryz.ntmps36 rfl (argsF_cons rfl argsF_nil) ?_
  repeat' (first | (apply JcE; exact rfl; exact rfl; exact rfl; infer_instance; (exact sdiv_gives n X O bX bO h6 g0 t); (intro v' H' hV; obtain ⟨L, hL, hval, hu, hin, hsub⟩ := hV)) | (apply Jq_move; exact rfl; exact rfl) | (apply Jq_assign; exact rfl; exact rfl) | (apply Jq_cmp; exact rfl; exact rfl; exact rfl; exact rfl) | (apply Jq_loadW; exact rfl; exact rfl; (exact mb); (omega)) | (apply JqM; exact rfl; exact rfl; exact rfl; infer_instance; (exact lknot_gives n X O bX bO hc)) | (apply J_box; exact rfl; exact rfl; exact rfl; (intro _)) | refine thenQ_normal ?_ | refine JC_seq ?_ | refine JC_region ?_ | refine J_nil ?_ | refine JC_skip ?_ | refine JC_ret ?_ | (apply JC_if_false; exact rfl))
  have e : valsT L = T := hL.ext hT fun g => by rw [hval, hv]
  refine eT2 (H' := H') rfl rfl rfl rfl (entS fun _ _ h => h) ⟨v', LT.rows L, rfl, by rw [LT.rows_snd, e], by rw [LT.rows_fst]; exact hu, LT.rows_in hin, fun x hx hh => hsub _ (by (repeat (first | exact hx | refine mS ?_))) hh⟩
set_option maxRecDepth 100000 in
theorem sdvt_bad {B : Nat} {w0 : World} {H : Hp} (n : Int) (X O : List Nat) (bX : isB X) (bO : isB O) {c : Int} (hc : kcode n X O = c) (h0 : c ≠ 0) :
    GivesE Tryz.prog 36 #[.agg (gv n X O).toArray] B w0 H (sSS [] c H) := by
  have ug := gv_len (n := n) bX.1 bO.1
  refine givesE_of (args := [.agg (gv n X O).toArray]) [(0, .agg (gv n X O).toArray)] Tryz.func36 rfl Tryz.ntmps36 rfl (argsF_cons rfl argsF_nil) ?_
  repeat' (first | (apply Jq_move; exact rfl; exact rfl) | (apply Jq_assign; exact rfl; exact rfl) | (apply Jq_cmp; exact rfl; exact rfl; exact rfl; exact rfl) | (apply Jq_loadW; exact rfl; exact rfl; (exact mb); (omega)) | (apply JqM; exact rfl; exact rfl; exact rfl; infer_instance; (exact lknot_gives n X O bX bO hc)) | (apply J_box; exact rfl; exact rfl; exact rfl; (intro _)) | refine thenQ_normal ?_ | refine thenQ_ret ?_ | refine JC_seq ?_ | refine JC_region ?_ | refine J_nil ?_ | refine JC_ret ?_ | (apply JC_ndec_true; exact rfl; omega))
  refine eT2nil (H' := H) rfl rfl rfl rfl ?_ ⟨_, [], rfl, rfl, m0, fun x hx => absurd hx List.not_mem_nil, fun x hx _ => mS hx⟩
  (refine ent ?_ ?_; (repeat refine fr_cons rfl ?_); exact fr_nil; (repeat (first | exact List.Sublist.refl _ | refine List.Sublist.cons _ ?_)))
set_option maxRecDepth 100000 in
theorem idvt_good {B : Nat} {w0 : World} {H : Hp} (n : Nat) (X O : List Nat) (bX : isB X) (bO : isB O) (h6 : n ≤ 6) (g0 : okG (n : Int) X O) (h1 : comps n X O = 1) (hTb : tabI ∈ H) {Q : Nat → GrB → Int} (t : Tower n X O Q) {T : TB} (hT : Tab T) (hv : ∀ g, vT T g = Q (n - 1) g) :
    GivesE Tryz.prog 37 #[.agg (gv (n : Int) X O).toArray] B w0 H (ssR (T.map encT) 0 H) := by
  have ug := gv_len (n := (n : Int)) bX.1 bO.1
  have hkl := fun (H : Hp) (hTb : tabI ∈ H) => klM_good (B := B) (w0 := w0) (H := H) (fk := 53) (caps := #[]) inferInstance n X O bX bO g0 h6 h1 hTb t (fun (b : Nat) (M : TB) v' H' => ∃ ss : List GrB, ss.Perm (M.map fun e : GrB × Int => e.1) ∧ ss.Pairwise ltGr ∧ ssV ((tabS M ss).map encT) (.obj b (mapO (encM grK zV M)) :: H) v' H') (fun b M hM hl => table_gives M hM.nd m0 (by omega))
  refine givesE_of (args := [.agg (gv (n : Int) X O).toArray]) [(0, .agg (gv (n : Int) X O).toArray)] Tryz.func37 rfl Tryz.ntmps37 rfl (argsF_cons rfl argsF_nil) ?_
  repeat' (first | (apply JcE; exact rfl; exact rfl; exact rfl; infer_instance; (exact hkl _ (mS hTb)); (intro v' H' hV; obtain ⟨u, b, M, rfl, hM, hl, ss, hp, hso, L, hL, rfl⟩ := hV)) | (apply Jq_assign; exact rfl; exact rfl) | (apply Jq_loadW; exact rfl; exact rfl; (exact mb); (omega)) | (apply Jq_ext20; exact rfl; exact rfl) | (apply Jq_ext21; exact rfl; exact rfl) | (apply J_box; exact rfl; exact rfl; exact rfl; (intro _)) | refine thenQ_normal ?_ | refine JC_seq ?_ | refine JC_region ?_ | refine J_nil ?_ | refine JC_ret ?_)
  have e : tabS M ss = T := (tabS_tab hM.nd hM.nz hp hso).ext hT fun g => by rw [tabS_val hM.nd hM.nz hp hso, hM.val, hv]
  rw [e] at hL
  refine eT2 (H' := .row u 50 1 (L.map (·.1)) :: (rwI L ++ H)) rfl rfl rfl rfl ?_ ⟨u, L, rfl, hL, rfl⟩
  refine entP (ent (fun _ _ h => by cases h) (List.nil_sublist _)) (sp_rows (.refl _) ?_)
  exact .cons _ (.cons _ (.refl _))
set_option maxRecDepth 100000 in
theorem idvt_bad {B : Nat} {w0 : World} {H : Hp} (n : Int) (X O : List Nat) (bX : isB X) (bO : isB O) {c : Int} (hc : (c = 5 ∧ okG n X O ∧ n ≤ 6 ∧ comps n.toNat X O ≠ 1) ∨ ((¬ okG n X O ∧ c = 1) ∨ (okG n X O ∧ 6 < n ∧ c = 2))) :
    GivesE Tryz.prog 37 #[.agg (gv n X O).toArray] B w0 H (ssR [] c H) := by
  have ug := gv_len (n := n) bX.1 bO.1
  refine givesE_of (args := [.agg (gv n X O).toArray]) [(0, .agg (gv n X O).toArray)] Tryz.func37 rfl Tryz.ntmps37 rfl (argsF_cons rfl argsF_nil) ?_
  repeat' (first | (apply JcE; exact rfl; exact rfl; exact rfl; infer_instance; (exact klM_bad n X O bX bO hc); (intro v' H' hV; obtain ⟨u, L, rfl, hL, rfl⟩ := hV)) | (apply Jq_assign; exact rfl; exact rfl) | (apply Jq_loadW; exact rfl; exact rfl; (exact mb); (omega)) | (apply Jq_ext20; exact rfl; exact rfl) | (apply Jq_ext21; exact rfl; exact rfl) | (apply J_box; exact rfl; exact rfl; exact rfl; (intro _)) | refine thenQ_normal ?_ | refine JC_seq ?_ | refine JC_region ?_ | refine J_nil ?_ | refine JC_ret ?_)
  refine eT2 (H' := .row u 50 1 (L.map (·.1)) :: (rwI L ++ H)) rfl rfl rfl rfl ?_ ⟨u, L, rfl, hL, rfl⟩
  refine entP (ent (fun _ _ h => by cases h) (List.nil_sublist _)) (sp_rows (.refl _) ?_)
  exact .cons _ (.refl _)
theorem dvt_res (n : Int) (X O : List Nat) : ∃ (M : List (List Value)) (c : Int), M.length ≤ 46656 ∧ (∀ r ∈ M, isNums r ∧ r.length ≤ 46656) ∧ ∀ (B : Nat) (w0 : World) (H : Hp), tabI ∈ H → isB X → isB O →
    GivesE Tryz.prog 36 #[.agg (gv n X O).toArray] B w0 H (sSS M c H) ∧
    GivesE Tryz.prog 37 #[.agg (gv n X O).toArray] B w0 H (ssR M c H) := by
  rcases kcode_cases (n := n) (X := X) (O := O) rfl with ⟨h0, g, h6, h1⟩ | ⟨h0, h⟩
  · obtain ⟨k, rfl⟩ := okG_nat g
    have h6' : k ≤ 6 := by omega
    rw [Int.toNat_natCast] at h1
    obtain ⟨Q, t⟩ := knot_tower g (show k ≤ 8 by omega) h1
    have hn2 := (okG.grd g).h2
    obtain ⟨T, hT, hv, hl⟩ := tab_of (X := X) (O := O) h6' (Q (k - 1)) (t.supp g h6' (k - 1) (by omega))
    exact ⟨T.map encT, 0, (tabM_fact hl).1, (tabM_fact hl).2, fun B w0 H hTb bX bO => ⟨sdvt_good k X O bX bO h6' g h0 t hT hv, idvt_good k X O bX bO h6' g h1 hTb t hT hv⟩⟩
  · exact ⟨[], kcode n X O, Nat.zero_le _, fun r hr => absurd hr List.not_mem_nil, fun B w0 H _ bX bO => ⟨sdvt_bad n X O bX bO rfl h0, idvt_bad n X O bX bO h⟩⟩
set_option maxRecDepth 100000 in
theorem lawDvt_gives {B : Nat} {w0 : World} {H : Hp} (hT : tabI ∈ H) (n : Int) (X O : List Nat) (bX : isB X) (bO : isB O) :
    GivesE Tryz.prog 8 #[.agg (gv n X O).toArray] B w0 H (fun v' _ => v' = .bool true) := by
  have ug := gv_len (n := n) bX.1 bO.1
  obtain ⟨M, c, hM1, hM2, hres⟩ := dvt_res n X O
  refine givesE_of (args := [.agg (gv n X O).toArray]) [(0, .agg (gv n X O).toArray)] Tryz.func8 rfl Tryz.ntmps8 rfl (argsF_cons rfl argsF_nil) ?_
  repeat' (first | (apply JcE; exact rfl; exact rfl; exact rfl; infer_instance; (exact (hres _ _ _ (by (repeat (first | exact hT | refine mS ?_))) bX bO).1); (intro v0 H0 hV; obtain ⟨u0, L0, rfl, hL0, hu0, hr0, hk0⟩ := hV; have i3 : MB _ H0 _ _ := ⟨hk0 _ m0 trivial⟩)) | (apply JcE; exact rfl; exact rfl; exact rfl; infer_instance; (exact (hres _ _ _ (by (repeat (first | exact hT | exact hk0 _ (by (repeat (first | exact hT | refine mS ?_))) trivial | refine mS ?_ | refine List.mem_append.2 (.inr ?_)))) bX bO).2); (intro v' H' hV; obtain ⟨u, L, rfl, hL, rfl⟩ := hV; obtain ⟨hq1, hq2, hq3⟩ := rows_fact hL hM1 hM2)) | (apply Jq_move; exact rfl; exact rfl) | (apply Jq_assign; exact rfl; exact rfl) | (apply Jq_cmp; exact rfl; exact rfl; exact rfl; exact rfl) | (apply Jq_not; exact rfl; exact rfl) | (apply Jq_pick_false; exact rfl; exact rfl; exact rfl) | (apply J_on; exact rfl; exact rfl) | (apply Jc; exact rfl; exact rfl; exact rfl; infer_instance; ((intro w hw); exact toGrid_gives n X O bX.1 bO.1 w)) | (apply Jq_loadW; exact rfl; exact rfl; (exact mb); (omega)) | (apply JqM; exact rfl; exact rfl; exact rfl; infer_instance; (first | (focus (apply eqSS_gives; (repeat (first | exact m0 | exact hu0 | refine mS ?_ | refine List.mem_append.2 (.inr ?_))); (repeat (exact m0)); (intro x hx; (repeat (first | exact List.mem_append.2 (.inl hx) | refine mS ?_))); (intro x hx; (repeat (first | exact hr0 x hx | refine mS ?_ | refine List.mem_append.2 (.inr ?_)))); (refine Eq.trans (b := M) ?_ (Eq.symm ?_) <;> assumption); assumption; assumption)) | (focus (apply heldSS_gives 1; (repeat (first | exact m0 | refine mS ?_ | refine List.mem_append.2 (.inr ?_))); (intro x hx; (repeat (first | exact List.mem_append.2 (.inl hx) | refine mS ?_ | refine List.mem_append.2 (.inr ?_)))); omega; assumption)))) | (apply JcM; exact rfl; exact rfl; exact rfl; infer_instance; (exact markSS_gives 1 _ (by omega) (by assumption) (rows_lens (by assumption)))) | (apply Jq_ext20; exact rfl; exact rfl) | (apply Jq_ext21; exact rfl; exact rfl) | (apply J_box; exact rfl; exact rfl; exact rfl; (intro _)) | refine thenQ_normal ?_ | refine JC_seq ?_ | refine JC_region ?_ | refine J_nil ?_ | refine JC_skip ?_ | refine JC_ret ?_ | (apply JC_if_false; exact rfl) | (apply JC_ndec_false; exact rfl; omega))
  refine SL.e1 rfl rfl rfl (entS fun _ _ h => h) ?_
  exact rfl

end Go.Proofs.YtmbbcmebdefggaaGreatDoor
