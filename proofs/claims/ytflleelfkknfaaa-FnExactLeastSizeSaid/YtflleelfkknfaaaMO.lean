/- Walks: the reference's neighbours. -/
import Derived.Test.YtflleelfkknfaaaMN
namespace Go.Proofs.Ytflleelfkknfaaa
open Go Go.RowKit SL
theorem mem_ite {α : Type} {b : Bool} {x y : α} : y ∈ (if b = true then [x] else []) ↔ b = true ∧ y = x := by
  cases b <;> simp
theorem mem_ml0 {n : Nat} {X O : List Nat} {k : Nat} {m : MvB} : m ∈ ml0 n X O k ↔ ∃ c, c < k ∧ fit0 n X O c ∧ m = (0, c, 0) := by
  unfold ml0
  simp only [List.mem_flatMap, List.mem_range, mem_ite, @decide_eq_true_iff]
theorem mem_ml1 {n : Nat} {X O : List Nat} {k : Nat} {m : MvB} : m ∈ ml1 n X O k ↔ ∃ c, c < k ∧ fit1 n X O c ∧ m = (1, 0, c) := by
  unfold ml1
  simp only [List.mem_flatMap, List.mem_range, mem_ite, @decide_eq_true_iff]
theorem mem_ml3 {n : Nat} {X O : List Nat} {k : Nat} {m : MvB} : m ∈ ml3 n X O k ↔ ∃ i, i < k ∧ ∃ r, r < n ∧ fit3 n X O i r ∧ m = (3, i, r) := by
  unfold ml3 ml3r
  simp only [List.mem_flatMap, List.mem_range, mem_ite, @decide_eq_true_iff]
theorem mem_pl {n : Nat} {X O : List Nat} {k : Nat} {m : Nat × Nat} : m ∈ pl n X O k ↔ ∃ i, i < k ∧ ∃ r, r < n - 1 ∧ fit3 n X O i r ∧ m = (i, r) := by
  unfold pl plr
  simp only [List.mem_flatMap, List.mem_range, mem_ite, @decide_eq_true_iff]
theorem ml2_kind {n k : Nat} {s : MvS} (h : s ∈ ml2 n k) : s.1 = 2 := by
  unfold ml2 at h
  split at h
  · obtain ⟨i, _, h⟩ := List.mem_flatMap.1 h
    obtain ⟨q, _, rfl⟩ := List.mem_map.1 h
    rfl
  · cases h
/-- The reference's moves, but for those that add columns, are the program's. -/
theorem mvS_iff {n : Nat} {X O : List Nat} {m : MvB} : m ∈ mvI n X O ↔ e4 m ∈ mvS n X O ∧ m.1 ≠ 2 := by
  unfold mvI mvS
  rw [List.mem_append, List.mem_append, List.mem_append, List.mem_append, List.mem_append, mem_ml0, mem_ml1, mem_ml3]
  constructor
  · rintro ((⟨c, _, hf, rfl⟩ | ⟨c, _, hf, rfl⟩) | ⟨i, _, r, _, hf, rfl⟩)
    · have := hf.1
      exact ⟨.inl (.inl (.inl (List.mem_map.2 ⟨_, mem_ml0.2 ⟨c, by omega, hf, rfl⟩, rfl⟩))), fun h => by cases h⟩
    · have := hf.1
      exact ⟨.inl (.inl (.inr (List.mem_map.2 ⟨_, mem_ml1.2 ⟨c, by omega, hf, rfl⟩, rfl⟩))), fun h => by cases h⟩
    · have h1 := hf.1
      have h2 := hf.2.1
      exact ⟨.inr (List.mem_map.2 ⟨(i, r), mem_pl.2 ⟨i, by omega, r, by omega, hf, rfl⟩, rfl⟩), fun h => by cases h⟩
  · rintro ⟨((h | h) | h) | h, hk⟩
    · obtain ⟨m', h', e⟩ := List.mem_map.1 h
      obtain ⟨c, hc, hf, rfl⟩ := mem_ml0.1 h'
      have e' : m = (0, c, 0) := by unfold e4 at e; injection e with e1 e2; injection e2 with e2 e3; injection e3 with e3 e4; exact Prod.ext e1.symm (Prod.ext e2.symm e3.symm)
      exact .inl (.inl ⟨c, by omega, hf, e'⟩)
    · obtain ⟨m', h', e⟩ := List.mem_map.1 h
      obtain ⟨c, hc, hf, rfl⟩ := mem_ml1.1 h'
      have e' : m = (1, 0, c) := by unfold e4 at e; injection e with e1 e2; injection e2 with e2 e3; injection e3 with e3 e4; exact Prod.ext e1.symm (Prod.ext e2.symm e3.symm)
      exact .inl (.inr ⟨c, by omega, hf, e'⟩)
    · exact absurd (ml2_kind h) hk
    · obtain ⟨⟨i, r⟩, h', e⟩ := List.mem_map.1 h
      obtain ⟨i', hi, r', hr, hf, e2⟩ := mem_pl.1 h'
      injection e2 with e2 e3
      subst e2 e3
      have e' : m = (3, i, r) := by unfold e4 at e; injection e with e1 e2; injection e2 with e2 e3; injection e3 with e3 e4; exact Prod.ext e1.symm (Prod.ext e2.symm e3.symm)
      exact .inr ⟨i, by omega, r, by omega, hf, e'⟩
theorem mvS_e4 {n : Nat} {X O : List Nat} {s : MvS} (h : s ∈ mvS n X O) (hk : s.1 ≠ 2) : s = e4 (s.1, s.2.1, s.2.2.1) := by
  unfold mvS at h
  rw [List.mem_append, List.mem_append, List.mem_append] at h
  rcases h with ((h | h) | h) | h
  · obtain ⟨m, _, rfl⟩ := List.mem_map.1 h; rfl
  · obtain ⟨m, _, rfl⟩ := List.mem_map.1 h; rfl
  · exact absurd (ml2_kind h) hk
  · obtain ⟨m, _, rfl⟩ := List.mem_map.1 h; rfl
noncomputable def mvSB (p : GridB) : List MvS := mvS p.1.1.toNat p.1.2.1 p.1.2.2
theorem mvSB_iff {p : GridB} {m : MvB} : m ∈ mvB p ↔ e4 m ∈ mvSB p ∧ m.1 ≠ 2 := mvS_iff
theorem mvSB_len {p : GridB} (h : okB p) : (mvSB p).length ≤ 128 := by
  obtain ⟨n, X, O, b, rfl, g⟩ := okB_nat h
  have hg := g.1
  unfold mvSB
  dsimp only
  rw [Int.toNat_natCast]
  unfold mvS
  have l0 := ml0_len n X O (n - 1)
  have l1 := ml1_len n X O (n - 1)
  have l3 := pl_len n X O (n - 1)
  have l2 : (ml2 n n).length ≤ 56 := by
    have := ml2_len n n
    unfold ml2 at this ⊢
    split at this
    · rename_i h8
      rw [if_pos h8]
      omega
    · rename_i h8
      rw [if_neg h8]
      decide
  have h64 : (n - 1) * (n - 1) ≤ 7 * 7 := Nat.mul_le_mul (by omega) (by omega)
  rw [List.length_append, List.length_append, List.length_append, List.length_map, List.length_map, List.length_map]
  omega
theorem movesS_givesB {p : GridB} (h : okB p) (w : World) : GivesN Try.prog 48 #[.agg (encG p).toArray] (isRow 73 6 ((mvSB p).flatMap encMs)) w := by
  obtain ⟨n, X, O, b, rfl, g⟩ := okB_nat h
  have := movesS_gives n X O b.1 b.2 g w
  unfold mvSB
  dsimp only
  rw [Int.toNat_natCast]
  exact this
def ds3 (p : GridB) (n V U K : Nat) (q : GridB) : Prop := dn2 p n V U q ∨ ∃ s ∈ (mvSB (rolB p V U)).take K, s.1 ≠ 2 ∧ q = resB (rolB p V U) (s.1, s.2.1, s.2.2.1)
theorem ds3_zero {p : GridB} {n V U : Nat} {q : GridB} : ds3 p n V U 0 q ↔ dn2 p n V U q := ⟨fun h => h.resolve_right fun ⟨m, h, _⟩ => (by rw [List.take_zero] at h; cases h), .inl⟩
theorem ds3_next {p : GridB} {n V U K : Nat} {s : MvS} (hs : (mvSB (rolB p V U))[K]? = some s) {q : GridB} : ds3 p n V U (K + 1) q ↔ ds3 p n V U K q ∨ (s.1 ≠ 2 ∧ q = resB (rolB p V U) (s.1, s.2.1, s.2.2.1)) := by
  unfold ds3
  rw [List.take_add_one, hs]
  constructor
  · rintro (h | ⟨s', h, e⟩)
    · exact .inl (.inl h)
    · rcases List.mem_append.1 h with h | h
      · exact .inl (.inr ⟨s', h, e⟩)
      · simp at h
        subst h
        exact .inr e
  · rintro ((h | ⟨s', h, e⟩) | e)
    · exact .inl h
    · exact .inr ⟨s', List.mem_append.2 (.inl h), e⟩
    · exact .inr ⟨s, List.mem_append.2 (.inr (by simp)), e⟩
theorem ds3_end {p : GridB} {n V U : Nat} {q : GridB} : ds3 p n V U (mvSB (rolB p V U)).length q ↔ dn2 p n V (U + 1) q := by
  rw [← dn2_next]
  unfold ds3 dn3
  rw [List.take_length, List.take_length]
  refine or_congr_right ⟨fun ⟨s, hs, hk, e⟩ => ?_, fun ⟨m, hm, e⟩ => ?_⟩
  · have h4 := mvS_e4 hs hk
    exact ⟨_, mvSB_iff.2 ⟨h4 ▸ hs, hk⟩, e⟩
  · obtain ⟨h1, h2⟩ := mvSB_iff.1 hm
    exact ⟨_, h1, h2, e⟩
/-- The list laid. -/
structure NS (p : GridB) (D : GridB → Prop) (c : Nat) (L : List GridB) : Prop where
  asc : Asc rkG L
  mem : ∀ y, y ∈ L ↔ y ≠ canB p ∧ ∃ q, D q ∧ y = canB q
  ll : L.length ≤ c
theorem NS.congr {p : GridB} {D D' : GridB → Prop} {c c' : Nat} {L : List GridB} (h : NS p D c L) (e : ∀ q, D q ↔ D' q) (hc : c ≤ c') : NS p D' c' L :=
  ⟨h.asc, fun y => (h.mem y).trans (and_congr_right fun _ => exists_congr fun q => and_congr_left fun _ => e q), by have := h.ll; omega⟩
theorem NS.next {p : GridB} {D D' : GridB → Prop} {c : Nat} {L L' : List GridB} {q : GridB} (h : NS p D c L) (e : ∀ x, D' x ↔ D x ∨ x = q) (ha : Asc rkG L') (hm : ∀ y, y ∈ L' ↔ (y = canB q ∧ canB q ≠ canB p) ∨ y ∈ L) (hl : L'.length ≤ L.length + 1) : NS p D' (c + 1) L' := by
  refine ⟨ha, fun y => ?_, by have := h.ll; omega⟩
  rw [hm, h.mem]
  constructor
  · rintro (⟨rfl, hc⟩ | ⟨hy, x, hx, k⟩)
    · exact ⟨hc, q, (e q).2 (.inr rfl), rfl⟩
    · exact ⟨hy, x, (e x).2 (.inl hx), k⟩
  · rintro ⟨hy, x, hx, k⟩
    rcases (e x).1 hx with hx | rfl
    · exact .inr ⟨hy, x, hx, k⟩
    · exact .inl ⟨k, k ▸ hy⟩
set_option maxHeartbeats 1000000 in
set_option maxRecDepth 100000 in
theorem snb_gives {p : GridB} (hp : okB p) (w : World) : GivesN Try.prog 32 #[.agg (encG p).toArray] (nbR p) w := by
  have ug := encG_len p
  obtain ⟨n, hn, h2, h8⟩ : ∃ n : Nat, p.1.1 = (n : Int) ∧ 2 ≤ n ∧ n ≤ 8 := by
    obtain ⟨n, X, O, b, rfl, g⟩ := okB_nat hp
    exact ⟨n, rfl, by have := g.1; omega, by have := g.1; omega⟩
  have hcan := canB_spec hp
  have uc := encG_len (canB p)
  have h1 : ∀ x : GridB, ∀ u ∈ encG x, u.oneCell' = true := fun x => gv_one _ _ _
  have hsz : (encG p)[0 + 0]? = some (.int .i64 (n : Int)) := by rw [← hn]; rfl
  refine givesN_of (args := [.agg (encG p).toArray]) [(0, .agg (encG p).toArray)] [] Try.func32 rfl Try.ntmps32 rfl (argsF_cons rfl argsF_nil) (Holds.start w) ?_
  repeat' (first | (apply Jq_assign; exact rfl; exact rfl) | (apply Jc; exact rfl; exact rfl; exact rfl; infer_instance; ((intro w hw); exact hcan.2.2 w)) | (apply Jq_loadW; exact rfl; exact rfl; (exact mb); (omega)) | (apply J_sW; exact rfl; exact rfl; infer_instance; (exact rfl); (omega); (exact gv_one _ _ _); infer_instance) | (apply J_box; exact rfl; exact rfl; exact rfl; (intro _)) | (apply J_alloc (cs := gv 0 Z8 Z8); exact rfl; exact rfl; (intro _)) | (apply J_lit0; exact rfl; (intro _)) | refine thenQ_normal ?_ | refine JC_seq ?_ | refine JC_region ?_ | refine J_nil ?_ | refine JC_block ?_)
  rename_i b1 b13 b4
  refine JC_loop (X := Nat × Value × List GridB) (fun x => x.1 ≤ n ∧ NS p (dn1 p n x.1) (x.1 * 1024) x.2.2) (fun x => [(5, .int .i64 (x.1 : Int)), (3, x.2.1), (1, .pointer (some ⟨b1, 0, none⟩)), (4, .pointer (some ⟨b4, 0, none⟩))])
    (fun x => [.row x.2.1 27 17 (x.2.2.flatMap encG), .blk b4 (encG (canB p)) 27, .blk b1 (encG p) 27]) (fun x => n - x.1) (0, .slice (some ⟨b13, 0, none⟩) 0 0, []) ⟨Nat.zero_le _, ⟨List.Pairwise.nil, fun y => ⟨fun h => (by cases h), fun ⟨_, _, ⟨_, _, h, _⟩, _⟩ => absurd h (Nat.not_lt_zero _)⟩, Nat.zero_le _⟩⟩ ?_ ?_
  · dsimp only
    (refine entP (ent ?_ (List.nil_sublist _)) ?_; (repeat refine fr_cons rfl ?_); exact fr_nil; (repeat (first | exact sp_refl | apply sp1)))
  · rintro ⟨V, v, L⟩ ⟨hV, hI⟩
    dsimp only at hV hI ⊢
    by_cases hlt : V < n
    · repeat' (first | (apply Jq_move; exact rfl; exact rfl) | (apply Jq_assign; exact rfl; exact rfl) | (apply Jq_load; exact rfl; exact rfl; (exact mb); (exact rfl)) | (apply Jq_fieldAddr; exact rfl; exact rfl) | (apply Jq_cmp; exact rfl; exact rfl; exact rfl; exact rfl) | refine thenQ_normal ?_ | refine JC_seq ?_ | refine JC_region ?_ | refine J_nil ?_ | refine JC_block ?_ | refine JC_skip ?_ | (apply JC_dec_true; exact rfl; omega))
      refine JC_loop (X := Nat × Value × List GridB) (fun x => x.1 ≤ n ∧ NS p (dn2 p n V x.1) (V * 1024 + x.1 * 128) x.2.2) (fun x => [(6, .int .i64 (x.1 : Int)), (5, .int .i64 (V : Int)), (3, x.2.1), (1, .pointer (some ⟨b1, 0, none⟩)), (4, .pointer (some ⟨b4, 0, none⟩))])
        (fun x => [.row x.2.1 27 17 (x.2.2.flatMap encG), .blk b4 (encG (canB p)) 27, .blk b1 (encG p) 27]) (fun x => n - x.1) (0, v, L) ⟨Nat.zero_le _, hI.congr (fun q => dn2_zero.symm) (by omega)⟩ ?_ ?_
      · (refine entP (ent ?_ (List.nil_sublist _)) ?_; (repeat refine fr_cons rfl ?_); exact fr_nil; (repeat (exact sp_refl)))
      · clear hI L v
        rintro ⟨U, v, L⟩ ⟨hU, hI⟩
        dsimp only at hU hI ⊢
        by_cases hltU : U < n
        · have hr := rolB_spec hp (v := V) (u := U) (by omega) (by omega)
          have hmv := movesS_givesB hr.1
          have hml := mvSB_len hr.1
          have ur := encG_len (rolB p V U)
          have flm := flatMs_len (mvSB (rolB p V U))
          have hres := fun m hm => resB_spec hr.1 (m := m) hm
          have hD0 := fun q => @ds3_zero p n V U q
          have hDn := fun (K : Nat) (s : MvS) hs (q : GridB) => @ds3_next p n V U K s hs q
          have hDe := fun q => @ds3_end p n V U q
          have hif := fun (m : MvB) => @mvSB_iff (rolB p V U) m
          have h4 := fun (s : MvS) (hs : s ∈ mvSB (rolB p V U)) hk => mvS_e4 hs hk
          have hrs := hr.2.2.2
          generalize hMV : mvSB (rolB p V U) = MV at *
          generalize rolB p V U = R at *
          repeat' (first | (apply Jq_move; exact rfl; exact rfl) | (apply Jq_assign; exact rfl; exact rfl) | (apply Jq_load; exact rfl; exact rfl; (exact mb); (exact rfl)) | (apply Jq_fieldAddr; exact rfl; exact rfl) | (apply Jq_cmp; exact rfl; exact rfl; exact rfl; exact rfl) | (apply Jc; exact rfl; exact rfl; exact rfl; infer_instance; ((intro w hw); exact hrs w)) | (apply Jq_loadW; exact rfl; exact rfl; (exact mb); (omega)) | (apply J_sW; exact rfl; exact rfl; infer_instance; (exact rfl); (omega); (exact gv_one _ _ _); infer_instance) | (apply JcR; exact rfl; exact rfl; exact rfl; infer_instance; ((intro w hw); exact hmv w); (intro _)) | (apply J_alloc (cs := gv 0 Z8 Z8); exact rfl; exact rfl; (intro _)) | refine thenQ_normal ?_ | refine JC_seq ?_ | refine JC_region ?_ | refine J_nil ?_ | refine JC_block ?_ | refine JC_skip ?_ | (apply JC_dec_true; exact rfl; omega))
          rename_i b7 vm
          refine JC_loop (X := Nat × Value × List GridB) (fun x => x.1 ≤ MV.length ∧ NS p (ds3 p n V U x.1) (V * 1024 + U * 128 + x.1) x.2.2) (fun x => [(9, .int .i64 (x.1 : Int)), (8, vm), (7, .pointer (some ⟨b7, 0, none⟩)), (6, .int .i64 (U : Int)), (5, .int .i64 (V : Int)), (3, x.2.1), (1, .pointer (some ⟨b1, 0, none⟩)), (4, .pointer (some ⟨b4, 0, none⟩))])
            (fun x => [.row x.2.1 27 17 (x.2.2.flatMap encG), .row vm 73 6 (MV.flatMap encMs), .blk b7 (encG R) 27, .blk b4 (encG (canB p)) 27, .blk b1 (encG p) 27]) (fun x => MV.length - x.1) (0, v, L) ⟨Nat.zero_le _, hI.congr (fun q => (hD0 q).symm) (by omega)⟩ ?_ ?_
          · (refine entP (ent ?_ (List.nil_sublist _)) ?_; (repeat refine fr_cons rfl ?_); exact fr_nil; (repeat (first | exact sp_refl | (with_reducible apply sp2))))
          · clear hI L v
            rintro ⟨K, v, L⟩ ⟨hK, hI⟩
            dsimp only at hK hI ⊢
            by_cases hltK : K < MV.length
            · obtain ⟨s, hs⟩ : ∃ s, MV[K]? = some s := ⟨_, List.getElem?_eq_getElem hltK⟩
              have hsm := List.mem_of_getElem? hs
              have hD := hDn K s hs
              have hgm : ((MV.flatMap encMs).drop (K * 6)).take 6 = encMs s := fl_at encMs_len hs
              have hg0 : (MV.flatMap encMs)[K * 6 + 0]? = some (.int .i64 (s.1 : Int)) := by
                have h := congrArg (·[0]?) hgm
                rw [List.getElem?_take_of_lt (by decide), List.getElem?_drop] at h
                exact h
              have umv := encMs_len s
              have onem : ∀ x ∈ encMs s, x.oneCell' = true := encMs_one s
              by_cases hk : s.1 = 2
              · have hD' : ∀ q, ds3 p n V U (K + 1) q ↔ ds3 p n V U K q := fun q => (hD q).trans ⟨fun h => h.resolve_right fun h => h.1 hk, .inl⟩
                repeat' (first | (apply Jq_loadR; exact rfl; exact rfl; exact rb; exact hg0) | (apply Jq_move; exact rfl; exact rfl) | (apply Jq_assign; exact rfl; exact rfl) | (apply Jq_fieldAddr; exact rfl; exact rfl) | (apply Jq_cmp; exact rfl; exact rfl; exact rfl; exact rfl) | (apply Jq_add; exact rfl; exact rfl; exact rfl; omega) | (apply Jq_lenRs; exact rfl; exact rfl; (exact rb); exact flm; decide) | (apply Jq_indexRs; exact rfl; exact rfl; exact rfl; (exact rb); omega) | refine thenQ_normal ?_ | refine thenQ_exit ?_ | refine inBlockQ_here ?_ | refine JC_seq ?_ | refine JC_region ?_ | refine J_nil ?_ | refine JC_block ?_ | refine JC_skip ?_ | refine JC_exit ?_ | (apply JC_dec_true; exact rfl; omega))
                refine ⟨(K + 1, v, L), ⟨by dsimp only; omega, hI.congr (fun q => (hD' q).symm) (by omega)⟩, by dsimp only; omega, ?_⟩
                (refine entP (ent ?_ (List.nil_sublist _)) ?_; (repeat refine fr_cons rfl ?_); exact fr_nil; (repeat (exact sp_refl)))
              · have hmem := (hif (s.1, s.2.1, s.2.2.1)).2 ⟨h4 s hsm hk ▸ hsm, hk⟩
                have hq := hres _ hmem
                have hD' : ∀ q, ds3 p n V U (K + 1) q ↔ ds3 p n V U K q ∨ q = resB R (s.1, s.2.1, s.2.2.1) := fun q => (hD q).trans (or_congr_right ⟨fun h => h.2, fun h => ⟨hk, h⟩⟩)
                have hap : ∀ w, Gives Try.prog 49 #[.agg (encG R).toArray, .agg (encMs s).toArray] (.agg (encG (resB R (s.1, s.2.1, s.2.2.1))).toArray) w := by
                  rw [h4 s hsm hk, encMs_e4]
                  exact hq.2.2
                have hqok := hq.1
                generalize resB R (s.1, s.2.1, s.2.2.1) = q at *
                have uq := encG_len q
                have hcq := canB_spec hqok
                have ucq := encG_len (canB q)
                have hll := hI.ll
                have hasc := hI.asc
                have hLl : L.length ≤ 1000000 := by omega
                repeat' (first | (apply Jq_loadR; exact rfl; exact rfl; exact rb; exact hg0) | (apply Jq_move; exact rfl; exact rfl) | (apply Jq_fieldAddr; exact rfl; exact rfl) | (apply Jq_cmp; exact rfl; exact rfl; exact rfl; exact rfl) | (apply Jq_lenRs; exact rfl; exact rfl; (exact rb); exact flm; decide) | (apply Jq_indexRs; exact rfl; exact rfl; exact rfl; (exact rb); omega) | refine thenQ_normal ?_ | refine JC_seq ?_ | refine JC_region ?_ | refine J_nil ?_ | refine JC_block ?_ | refine JC_skip ?_ | (apply JC_dec_true; exact rfl; omega) | (apply JC_dec_false; exact rfl; omega))
                refine JC_cutT (Y := Nat) (fun _ => True) (fun b => [(10, .pointer (some ⟨b, 0, none⟩)), (9, .int .i64 (K : Int)), (8, vm), (7, .pointer (some ⟨b7, 0, none⟩)), (6, .int .i64 (U : Int)), (5, .int .i64 (V : Int)), (3, v), (1, .pointer (some ⟨b1, 0, none⟩)), (4, .pointer (some ⟨b4, 0, none⟩))])
                  (fun b => [.blk b (encG (canB q)) 27, .row v 27 17 (L.flatMap encG), .row vm 73 6 (MV.flatMap encMs), .blk b7 (encG R) 27, .blk b4 (encG (canB p)) 27, .blk b1 (encG p) 27]) ?_ ?_
                ·
                  refine JC_any (m := 9) rfl [.row vm 73 6 (MV.flatMap encMs), .blk b7 (encG R) 27] mixed (by ((repeat (apply sub_cons; (focus ((with_reducible (repeat (first | exact m0 | refine mS ?_))); done)))); exact sub_nil)) ?_
                  (apply JF_q 0; exact rfl; kernel_rfl; exact rfl; (intro E hE; (apply q_loadW; exact rfl; (refine hE _ ?_; exact mb); (omega))))
                  (apply JF_q 1; exact rfl; kernel_rfl; exact rfl; (intro E hE; (apply q_move; exact rfl)))
                  (apply JF_q 2; exact rfl; kernel_rfl; exact rfl; (intro E hE; (apply q_move; exact rfl)))
                  (apply JF_q 3; exact rfl; kernel_rfl; exact rfl; (intro E hE; (apply q_indexRs; exact rfl; exact rfl; (refine hE _ ?_; exact rb); omega)))
                  (apply JF_q 4; exact rfl; kernel_rfl; exact rfl; (intro E hE; (apply q_loadRA; exact rfl; (refine hE _ ?_; exact rb); (exact hgm); (exact rfl); decide)))
                  (apply JF_q 5; exact rfl; kernel_rfl; exact rfl; (intro E hE; (apply q_callE; exact rfl; exact rfl; infer_instance; ((intro w hw); exact hap w))))
                  (apply JF_q 6; exact rfl; kernel_rfl; exact rfl; (intro E hE; (apply q_callE; exact rfl; exact rfl; infer_instance; ((intro w hw); exact hcq.2.2 w))))
                  (apply JF_all [7]; kernel_rfl)
                  (apply JFs_cons; exact rfl)
                  · (apply J_alloc (cs := gv 0 Z8 Z8); exact rfl; exact rfl; (intro b10))
                    (apply J_nil; apply JF_end; ((repeat (apply sub_cons; (focus ((with_reducible (repeat (first | exact m0 | refine mS ?_))); done)))); exact sub_nil))
                    (apply JF_all [8]; kernel_rfl)
                    (apply JFs_cons; exact rfl)
                    · (apply J_sW; exact rfl; exact rfl; infer_instance; (exact rfl); (omega); (exact gv_one _ _ _); infer_instance)
                      (apply J_nil; apply JF_end; ((repeat (apply sub_cons; (focus ((with_reducible (repeat (first | exact m0 | refine mS ?_))); done)))); exact sub_nil))
                      (apply JF_done; kernel_rfl)
                      (apply thenQ_normal; refine ⟨b10, trivial, ?_⟩; (refine entP (ent ?_ (List.nil_sublist _)) ?_; (repeat refine fr_cons rfl ?_); exact fr_nil; (repeat (exact sp_refl))))
                    exact JFs_nil
                  exact JFs_nil
                · intro b10 _
                  repeat' (first | (apply Jq_neA; exact rfl; exact rfl; exact rfl; kernel_rfl; (intro w; exact eqG_run _ _ w)) | (apply JcE; exact rfl; exact rfl; exact rfl; infer_instance; (exact insert_gives L (canB q) rb hLl hasc); (intro v' H' hV; rcases hV with ⟨hin, rfl, rfl⟩ | ⟨hnin, u, l', rfl, ha', hm', hl', rfl⟩)) | (apply Jq_move; exact rfl; exact rfl) | (apply Jq_assign; exact rfl; exact rfl) | (apply Jq_add; exact rfl; exact rfl; exact rfl; omega) | (apply Jq_loadW; exact rfl; exact rfl; (exact mb); (omega)) | (apply Jq_ext20; exact rfl; exact rfl) | (apply Jq_ext21; exact rfl; exact rfl) | refine thenQ_normal ?_ | refine inBlockQ_normal ?_ | refine JC_seq ?_ | refine JC_region ?_ | refine J_nil ?_ | refine JC_skip ?_ | refine JC_ndec rfl (fun _ => ?_) (fun _ => ?_))
                  · rename_i hcne
                    refine ⟨(K + 1, v, L), ⟨by dsimp only; omega, hI.next hD' hasc (fun y => ⟨.inr, fun h => h.elim (fun h => h.1 ▸ hin) id⟩) (Nat.le_succ _)⟩, by dsimp only; omega, ?_⟩
                    dsimp only
                    (refine entP (ent ?_ (List.nil_sublist _)) ?_; (repeat refine fr_cons rfl ?_); exact fr_nil; (repeat (exact sp_end)))
                  · rename_i hcne
                    refine ⟨(K + 1, u, l'), ⟨by dsimp only; omega, hI.next hD' ha' (fun y => (hm' y).trans (or_congr_left ⟨fun h => ⟨h, hcne⟩, fun h => h.1⟩)) (Nat.le_of_eq hl')⟩, by dsimp only; omega, ?_⟩
                    dsimp only
                    (refine entP (ent ?_ (List.nil_sublist _)) ?_; (repeat refine fr_cons rfl ?_); exact fr_nil; (repeat (first | exact sp_end | (with_reducible apply sp0))))
                  · rename_i hceq
                    refine ⟨(K + 1, v, L), ⟨by dsimp only; omega, hI.next hD' hasc (fun y => ⟨.inr, fun h => h.elim (fun h => absurd hceq h.2) id⟩) (Nat.le_succ _)⟩, by dsimp only; omega, ?_⟩
                    dsimp only
                    (refine entP (ent ?_ (List.nil_sublist _)) ?_; (repeat refine fr_cons rfl ?_); exact fr_nil; (repeat (exact sp_end)))
            · have eK : K = MV.length := by omega
              rw [eK] at hI
              repeat' (first | (apply Jq_move; exact rfl; exact rfl) | (apply Jq_assign; exact rfl; exact rfl) | (apply Jq_cmp; exact rfl; exact rfl; exact rfl; exact rfl) | (apply Jq_add; exact rfl; exact rfl; exact rfl; omega) | (apply Jq_lenRs; exact rfl; exact rfl; (exact rb); exact flm; decide) | refine thenQ_normal ?_ | refine thenQ_exit ?_ | refine inBlockQ_normal ?_ | refine inBlockQ_here ?_ | refine JC_seq ?_ | refine JC_region ?_ | refine J_nil ?_ | refine JC_exit ?_ | (apply JC_dec_false; exact rfl; omega))
              refine ⟨(U + 1, v, L), ⟨by dsimp only; omega, hI.congr hDe (by omega)⟩, by dsimp only; omega, ?_⟩
              dsimp only
              (refine entP (ent ?_ (List.nil_sublist _)) ?_; (repeat refine fr_cons rfl ?_); exact fr_nil; (repeat (first | exact sp_end | (with_reducible apply sp0))))
        · have eU : U = n := by omega
          rw [eU] at hI
          repeat' (first | (apply Jq_move; exact rfl; exact rfl) | (apply Jq_assign; exact rfl; exact rfl) | (apply Jq_load; exact rfl; exact rfl; (exact mb); (exact rfl)) | (apply Jq_fieldAddr; exact rfl; exact rfl) | (apply Jq_cmp; exact rfl; exact rfl; exact rfl; exact rfl) | (apply Jq_add; exact rfl; exact rfl; exact rfl; omega) | refine thenQ_normal ?_ | refine thenQ_exit ?_ | refine inBlockQ_normal ?_ | refine inBlockQ_here ?_ | refine JC_seq ?_ | refine JC_region ?_ | refine J_nil ?_ | refine JC_exit ?_ | (apply JC_dec_false; exact rfl; omega))
          refine ⟨(V + 1, v, L), ⟨by dsimp only; omega, hI.congr (fun q => dn1_next) (by omega)⟩, by dsimp only; omega, ?_⟩
          dsimp only
          (refine entP (ent ?_ (List.nil_sublist _)) ?_; (repeat refine fr_cons rfl ?_); exact fr_nil; (repeat (exact sp_refl)))
    · have eV : V = n := by omega
      rw [eV] at hI
      repeat' (first | (apply Jq_move; exact rfl; exact rfl) | (apply Jq_assign; exact rfl; exact rfl) | (apply Jq_load; exact rfl; exact rfl; (exact mb); (exact rfl)) | (apply Jq_fieldAddr; exact rfl; exact rfl) | (apply Jq_cmp; exact rfl; exact rfl; exact rfl; exact rfl) | refine thenQ_normal ?_ | refine thenQ_exit ?_ | refine inBlockQ_here ?_ | refine JC_seq ?_ | refine JC_region ?_ | refine J_nil ?_ | refine JC_ret ?_ | refine JC_exit ?_ | (apply JC_dec_false; exact rfl; omega))
      refine n1 (its := [.row v 27 17 (L.flatMap encG)]) rfl rfl rfl ?_ ⟨L, hI.asc, fun y => ?_, ?_, rfl⟩
      · (refine entP (ent ?_ (List.nil_sublist _)) ?_; (repeat refine fr_cons rfl ?_); exact fr_nil; (repeat (first | exact sp_nil | (with_reducible apply sp0))))
      · rw [hI.mem]
        exact and_congr_right fun _ => ⟨fun ⟨q, ⟨v, u, hv, hu, m, hm, e⟩, k⟩ => ⟨v, u, by omega, by omega, m, hm, k.trans (by rw [e])⟩, fun ⟨v, u, hv, hu, m, hm, k⟩ => ⟨_, ⟨v, u, by omega, by omega, m, hm, rfl⟩, k⟩⟩
      · have h3 := hI.ll
        have h4 : n * 1024 ≤ 8 * 1024 := Nat.mul_le_mul_right _ h8
        omega
end Go.Proofs.Ytflleelfkknfaaa
