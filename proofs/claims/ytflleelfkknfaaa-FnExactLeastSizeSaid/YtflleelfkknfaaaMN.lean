/- Walks: the program's neighbours. -/
import Derived.Test.YtflleelfkknfaaaMK2
import Derived.Test.YtflleelfkknfaaaMM
import Derived.Test.YtflleelfkknfaaaSE
import Derived.Test.YtflleelfkknfaaaSJ
namespace Go.Proofs.Ytflleelfkknfaaa
open Go Go.RowKit SL
def uV (_ : Unit) : Value := .bool true
theorem n_givesB {p : GridB} {n : Nat} (h : p.1.1 = (n : Int)) (w : World) : Gives Try.prog 46 #[.agg (encG p).toArray] (.int .i64 (n : Int)) w := by
  unfold encG
  rw [h]
  exact n_gives n p.1.2.1 p.1.2.2 w
theorem moves_givesB {p : GridB} (h : okB p) (w : World) : GivesN Try.prog 50 #[.agg (encG p).toArray, .bool false] (isRow 73 6 ((mvB p).flatMap encMv)) w := by
  obtain ⟨n, X, O, b, rfl, g⟩ := okB_nat h
  have := moves_gives n X O b.1 b.2 g w
  unfold mvB
  dsimp only
  rw [Int.toNat_natCast]
  exact this
theorem mvB_len {p : GridB} (h : okB p) : (mvB p).length ≤ 80 := by
  obtain ⟨n, X, O, b, rfl, g⟩ := okB_nat h
  have hg := g.1
  unfold mvB
  dsimp only
  rw [Int.toNat_natCast]
  unfold mvI
  have l0 := ml0_len n X O n
  have l1 := ml1_len n X O n
  have l3 := ml3_len n X O n
  have h64 : n * n ≤ 8 * 8 := Nat.mul_le_mul (by omega) (by omega)
  rw [List.length_append, List.length_append]
  omega
/-- What has come of the first moves. -/
def dn1 (p : GridB) (n V : Nat) (q : GridB) : Prop := ∃ v u : Nat, v < V ∧ u < n ∧ ∃ m ∈ mvB (rolB p v u), q = resB (rolB p v u) m
def dn2 (p : GridB) (n V U : Nat) (q : GridB) : Prop := dn1 p n V q ∨ ∃ u, u < U ∧ ∃ m ∈ mvB (rolB p V u), q = resB (rolB p V u) m
def dn3 (p : GridB) (n V U K : Nat) (q : GridB) : Prop := dn2 p n V U q ∨ ∃ m ∈ (mvB (rolB p V U)).take K, q = resB (rolB p V U) m
theorem dn1_next {p : GridB} {n V : Nat} {q : GridB} : dn2 p n V n q ↔ dn1 p n (V + 1) q := by
  unfold dn2 dn1
  constructor
  · rintro (⟨v, u, hv, hu, h⟩ | ⟨u, hu, h⟩)
    · exact ⟨v, u, by omega, hu, h⟩
    · exact ⟨V, u, by omega, hu, h⟩
  · rintro ⟨v, u, hv, hu, h⟩
    by_cases e : v = V
    · subst e; exact .inr ⟨u, hu, h⟩
    · exact .inl ⟨v, u, by omega, hu, h⟩
theorem dn2_zero {p : GridB} {n V : Nat} {q : GridB} : dn2 p n V 0 q ↔ dn1 p n V q := ⟨fun h => h.resolve_right fun ⟨_, h, _⟩ => absurd h (Nat.not_lt_zero _), .inl⟩
theorem dn2_next {p : GridB} {n V U : Nat} {q : GridB} : dn3 p n V U (mvB (rolB p V U)).length q ↔ dn2 p n V (U + 1) q := by
  unfold dn3 dn2
  rw [List.take_length]
  constructor
  · rintro ((h | ⟨u, hu, h⟩) | h)
    · exact .inl h
    · exact .inr ⟨u, by omega, h⟩
    · exact .inr ⟨U, by omega, h⟩
  · rintro (h | ⟨u, hu, h⟩)
    · exact .inl (.inl h)
    · by_cases e : u = U
      · subst e; exact .inr h
      · exact .inl (.inr ⟨u, by omega, h⟩)
theorem dn3_zero {p : GridB} {n V U : Nat} {q : GridB} : dn3 p n V U 0 q ↔ dn2 p n V U q := ⟨fun h => h.resolve_right fun ⟨m, h, _⟩ => (by rw [List.take_zero] at h; cases h), .inl⟩
theorem dn3_next {p : GridB} {n V U K : Nat} {m : MvB} (hm : (mvB (rolB p V U))[K]? = some m) {q : GridB} : dn3 p n V U (K + 1) q ↔ dn3 p n V U K q ∨ q = resB (rolB p V U) m := by
  unfold dn3
  rw [List.take_add_one, hm]
  constructor
  · rintro (h | ⟨m', h, e⟩)
    · exact .inl (.inl h)
    · rcases List.mem_append.1 h with h | h
      · exact .inl (.inr ⟨m', h, e⟩)
      · simp at h
        subst h
        exact .inr e
  · rintro ((h | ⟨m', h, e⟩) | e)
    · exact .inl h
    · exact .inr ⟨m', List.mem_append.2 (.inl h), e⟩
    · exact .inr ⟨m, List.mem_append.2 (.inr (by simp)), e⟩
/-- The keys met, and the list laid. -/
structure NB (p : GridB) (D : GridB → Prop) (c : Nat) (v : Value) (L : List GridB) (M : List (GridB × Unit)) : Prop where
  nd : (M.map (·.1)).Nodup
  key : ∀ q, q ∈ M.map (·.1) ↔ D q
  mem : ∀ y, y ∈ L ↔ y ≠ canB p ∧ ∃ q, D q ∧ y = canB q
  ml : M.length ≤ c
  ll : L.length ≤ M.length
  nn : L = [] → v ≠ .slice none 0 0
theorem NB.congr {p : GridB} {D D' : GridB → Prop} {c c' : Nat} {v : Value} {L : List GridB} {M : List (GridB × Unit)} (h : NB p D c v L M) (e : ∀ q, D q ↔ D' q) (hc : c ≤ c') : NB p D' c' v L M :=
  ⟨h.nd, fun q => (h.key q).trans (e q), fun y => (h.mem y).trans (and_congr_right fun _ => exists_congr fun q => and_congr_left fun _ => e q), by have := h.ml; omega, h.ll, h.nn⟩
theorem NB.seen {p : GridB} {D D' : GridB → Prop} {c : Nat} {v : Value} {L : List GridB} {M : List (GridB × Unit)} {q : GridB} (h : NB p D c v L M) (hq : q ∈ M.map (·.1)) (e : ∀ x, D' x ↔ D x ∨ x = q) : NB p D' (c + 1) v L M :=
  h.congr (fun x => ⟨fun hx => (e x).2 (.inl hx), fun hx => ((e x).1 hx).elim id fun hx => hx ▸ (h.key q).1 hq⟩) (Nat.le_succ _)
theorem NB.same {p : GridB} {D D' : GridB → Prop} {c : Nat} {v : Value} {L : List GridB} {M : List (GridB × Unit)} {q : GridB} (h : NB p D c v L M) (hq : q ∉ M.map (·.1)) (e : ∀ x, D' x ↔ D x ∨ x = q) (hc : canB q = canB p) : NB p D' (c + 1) v L (M ++ [(q, ())]) := by
  refine ⟨?_, fun x => ?_, fun y => ?_, by rw [List.length_append]; have := h.ml; simp; omega, by rw [List.length_append]; have := h.ll; omega, h.nn⟩
  · rw [List.map_append]
    exact List.nodup_append.2 ⟨h.nd, by simp, fun a ha b hb => by simp at hb; subst hb; exact fun e => hq (e ▸ ha)⟩
  · rw [List.map_append, List.mem_append, h.key, e]
    simp
  · rw [h.mem]
    refine and_congr_right fun hy => ⟨fun ⟨x, hx, k⟩ => ⟨x, (e x).2 (.inl hx), k⟩, fun ⟨x, hx, k⟩ => ?_⟩
    rcases (e x).1 hx with hx | rfl
    · exact ⟨x, hx, k⟩
    · exact absurd (k.trans hc) hy
theorem NB.more {p : GridB} {D D' : GridB → Prop} {c : Nat} {v v' : Value} {L : List GridB} {M : List (GridB × Unit)} {q : GridB} (h : NB p D c v L M) (hq : q ∉ M.map (·.1)) (e : ∀ x, D' x ↔ D x ∨ x = q) (hc : canB q ≠ canB p) : NB p D' (c + 1) v' (L ++ [canB q]) (M ++ [(q, ())]) := by
  refine ⟨?_, fun x => ?_, fun y => ?_, by rw [List.length_append]; have := h.ml; simp; omega, by rw [List.length_append, List.length_append]; have := h.ll; simp; omega, fun k => by simp at k⟩
  · rw [List.map_append]
    exact List.nodup_append.2 ⟨h.nd, by simp, fun a ha b hb => by simp at hb; subst hb; exact fun e => hq (e ▸ ha)⟩
  · rw [List.map_append, List.mem_append, h.key, e]
    simp
  · rw [List.mem_append, h.mem, List.mem_singleton]
    constructor
    · rintro (⟨hy, x, hx, k⟩ | rfl)
      · exact ⟨hy, x, (e x).2 (.inl hx), k⟩
      · exact ⟨hc, q, (e q).2 (.inr rfl), rfl⟩
    · rintro ⟨hy, x, hx, k⟩
      rcases (e x).1 hx with hx | rfl
      · exact .inl ⟨hy, x, hx, k⟩
      · exact .inr k
theorem putM_new' {M : List (GridB × Unit)} {q : GridB} (hq : q ∉ M.map (·.1)) : putM M q () = M ++ [(q, ())] := by unfold putM; rw [if_neg hq]
theorem lkM_no {M : List (GridB × Unit)} {q : GridB} (hq : q ∉ M.map (·.1)) : ((lkM M q).map uV).getD (.bool false) = .bool false := by
  have h := lkM_isSome M q
  cases e : lkM M q with
  | none => rfl
  | some u => rw [e] at h; exact absurd (h.1 rfl) hq
theorem lkM_yes {M : List (GridB × Unit)} {q : GridB} (hq : q ∈ M.map (·.1)) : ((lkM M q).map uV).getD (.bool false) = .bool true := by
  have h := lkM_isSome M q
  cases e : lkM M q with
  | none => rw [e] at h; have := h.2 hq; cases this
  | some u => rfl
theorem sorted_le {d d' : Array GridB} (hp : Go.Sort.PermIn 0 d.size d d') (hs : Go.Sort.SortedIn (Go.Proofs.ltOf cfG) 0 d.size d') :
    d'.toList.Pairwise (fun x y => rkG x ≤ rkG y) ∧ (∀ x, x ∈ d'.toList ↔ x ∈ d.toList) ∧ d'.toList.length = d.toList.length := by
  have hsz := hp.1
  have hperm : d'.toList.Perm d.toList := by
    have := hp.2.2
    rwa [← hsz, Array.extract_size, hsz, Array.extract_size] at this
  refine ⟨List.pairwise_iff_getElem.2 fun i j hi hj hij => ?_, fun x => hperm.mem_iff, hperm.length_eq⟩
  have h := hs i j (Nat.zero_le _) hij (by simpa [hsz] using hj)
  rw [getElem!_pos d' j (by simpa using hj), getElem!_pos d' i (by simpa using hi)] at h
  unfold Go.Proofs.ltOf at h
  rw [decide_eq_false_iff_not, cfG_rk] at h
  simpa using h
/-- The neighbours, in order. -/
def nbR (p : GridB) : Value → Hp → Prop := fun v its => ∃ l', Asc rkG l' ∧ (∀ y, y ∈ l' ↔ nbP p y) ∧ l'.length ≤ 10000 ∧ its = [.row v 27 17 (l'.flatMap encG)]
set_option maxHeartbeats 1000000 in
set_option maxRecDepth 100000 in
theorem inb_gives {p : GridB} (hp : okB p) (w : World) : GivesN Try.prog 34 #[.agg (encG p).toArray] (nbR p) w := by
  have ug := encG_len p
  obtain ⟨n, hn, h2, h8⟩ : ∃ n : Nat, p.1.1 = (n : Int) ∧ 2 ≤ n ∧ n ≤ 8 := by
    obtain ⟨n, X, O, b, rfl, g⟩ := okB_nat hp
    exact ⟨n, rfl, by have := g.1; omega, by have := g.1; omega⟩
  have hcan := canB_spec hp
  have uc := encG_len (canB p)
  have h1 : ∀ x : GridB, ∀ u ∈ encG x, u.oneCell' = true := fun x => gv_one _ _ _
  refine givesN_of (args := [.agg (encG p).toArray]) [(0, .agg (encG p).toArray)] [] Try.func34 rfl Try.ntmps34 rfl (argsF_cons rfl argsF_nil) (Holds.start w) ?_
  repeat' (first | (apply J_makeMap; exact rfl; (intro bm)) | (apply Jq_move; exact rfl; exact rfl) | (apply Jq_assign; exact rfl; exact rfl) | (apply Jc; exact rfl; exact rfl; exact rfl; infer_instance; ((intro w hw); first | exact hcan.2.1 w | exact n_givesB hn w)) | (apply Jq_loadW; exact rfl; exact rfl; (exact mb); (omega)) | (apply J_sW; exact rfl; exact rfl; infer_instance; (exact rfl); (omega); (exact gv_one _ _ _); infer_instance) | (apply J_box; exact rfl; exact rfl; exact rfl; (intro _)) | (apply J_alloc (cs := gv 0 Z8 Z8); exact rfl; exact rfl; (intro _)) | (apply J_lit0; exact rfl; (intro _)) | refine thenQ_normal ?_ | refine JC_seq ?_ | refine JC_region ?_ | refine J_nil ?_ | refine JC_block ?_)
  rename_i b1 b16 b3
  refine JC_loop (X := Nat × Value × List GridB × List (GridB × Unit)) (fun x => x.1 ≤ n ∧ NB p (dn1 p n x.1) (x.1 * 640) x.2.1 x.2.2.1 x.2.2.2) (fun x => [(19, .int .i64 (x.1 : Int)), (18, .int .i64 (n : Int)), (4, .map (some bm)), (5, x.2.1), (1, .pointer (some ⟨b1, 0, none⟩)), (3, .pointer (some ⟨b3, 0, none⟩))])
    (fun x => [.row x.2.1 27 17 (x.2.2.1.flatMap encG), .obj bm (mapO (encM grV uV x.2.2.2)), .blk b3 (encG (canB p)) 27, .blk b1 (encG p) 27]) (fun x => n - x.1) (0, .slice (some ⟨b16, 0, none⟩) 0 0, [], []) ⟨Nat.zero_le _, ⟨List.nodup_nil, fun q => ⟨fun h => (by cases h), fun ⟨_, _, h, _⟩ => absurd h (Nat.not_lt_zero _)⟩, fun y => ⟨fun h => (by cases h), fun ⟨_, _, ⟨_, _, h, _⟩, _⟩ => absurd h (Nat.not_lt_zero _)⟩, Nat.zero_le _, Nat.zero_le _, fun _ h => by cases h⟩⟩ ?_ ?_
  · dsimp only
    (refine entP (ent ?_ (List.nil_sublist _)) ?_; (repeat refine fr_cons rfl ?_); exact fr_nil; (repeat (first | exact sp_refl | apply sp1)))
  · rintro ⟨V, v, L, M⟩ ⟨hV, hI⟩
    dsimp only at hV hI ⊢
    by_cases hlt : V < n
    · repeat' (first | (apply Jq_move; exact rfl; exact rfl) | (apply Jq_assign; exact rfl; exact rfl) | (apply Jq_cmp; exact rfl; exact rfl; exact rfl; exact rfl) | (apply Jc; exact rfl; exact rfl; exact rfl; infer_instance; ((intro w hw); exact n_givesB hn w)) | (apply Jq_loadW; exact rfl; exact rfl; (exact mb); (omega)) | refine thenQ_normal ?_ | refine JC_seq ?_ | refine JC_region ?_ | refine J_nil ?_ | refine JC_block ?_ | refine JC_skip ?_ | (apply JC_dec_true; exact rfl; omega))
      refine JC_loop (X := Nat × Value × List GridB × List (GridB × Unit)) (fun x => x.1 ≤ n ∧ NB p (dn2 p n V x.1) (V * 640 + x.1 * 80) x.2.1 x.2.2.1 x.2.2.2) (fun x => [(24, .int .i64 (x.1 : Int)), (23, .int .i64 (n : Int)), (6, .int .i64 (V : Int)), (19, .int .i64 (V : Int)), (18, .int .i64 (n : Int)), (4, .map (some bm)), (5, x.2.1), (1, .pointer (some ⟨b1, 0, none⟩)), (3, .pointer (some ⟨b3, 0, none⟩))])
        (fun x => [.row x.2.1 27 17 (x.2.2.1.flatMap encG), .obj bm (mapO (encM grV uV x.2.2.2)), .blk b3 (encG (canB p)) 27, .blk b1 (encG p) 27]) (fun x => n - x.1) (0, v, L, M) ⟨Nat.zero_le _, hI.congr (fun q => dn2_zero.symm) (by omega)⟩ ?_ ?_
      · (refine entP (ent ?_ (List.nil_sublist _)) ?_; (repeat refine fr_cons rfl ?_); exact fr_nil; (repeat (exact sp_refl)))
      · clear hI
        clear L M v
        rintro ⟨U, v, L, M⟩ ⟨hU, hI⟩
        dsimp only at hU hI ⊢
        by_cases hltU : U < n
        · have hr := rolB_spec hp (v := V) (u := U) (by omega) (by omega)
          have hmv := moves_givesB hr.1
          have hml := mvB_len hr.1
          have ur := encG_len (rolB p V U)
          have flm := flatMv_len (mvB (rolB p V U))
          have hres := fun m hm => resB_spec hr.1 (m := m) hm
          have hD0 := fun q => @dn3_zero p n V U q
          have hDn := fun (K : Nat) (m : MvB) hm (q : GridB) => @dn3_next p n V U K m hm q
          have hDe := fun q => @dn2_next p n V U q
          have hrs := hr.2.2.1
          generalize hMV : mvB (rolB p V U) = MV at *
          generalize rolB p V U = R at *
          repeat' (first | (apply Jq_move; exact rfl; exact rfl) | (apply Jq_assign; exact rfl; exact rfl) | (apply Jq_cmp; exact rfl; exact rfl; exact rfl; exact rfl) | (apply Jc; exact rfl; exact rfl; exact rfl; infer_instance; ((intro w hw); exact hrs w)) | (apply Jq_loadW; exact rfl; exact rfl; (exact mb); (omega)) | (apply J_sW; exact rfl; exact rfl; infer_instance; (exact rfl); (omega); (exact gv_one _ _ _); infer_instance) | (apply JcR; exact rfl; exact rfl; exact rfl; infer_instance; ((intro w hw); exact hmv w); (intro _)) | (apply Jq_lenRs; exact rfl; exact rfl; (exact rb); exact flm; decide) | (apply J_alloc (cs := gv 0 Z8 Z8); exact rfl; exact rfl; (intro _)) | refine thenQ_normal ?_ | refine JC_seq ?_ | refine JC_region ?_ | refine J_nil ?_ | refine JC_block ?_ | refine JC_skip ?_ | (apply JC_dec_true; exact rfl; omega))
          rename_i b8 vm
          refine JC_loop (X := Nat × Value × List GridB × List (GridB × Unit)) (fun x => x.1 ≤ MV.length ∧ NB p (dn3 p n V U x.1) (V * 640 + U * 80 + x.1) x.2.1 x.2.2.1 x.2.2.2) (fun x => [(34, .int .i64 (x.1 : Int)), (33, .int .i64 (MV.length : Int)), (32, vm), (8, .pointer (some ⟨b8, 0, none⟩)), (7, .int .i64 (U : Int)), (24, .int .i64 (U : Int)), (23, .int .i64 (n : Int)), (6, .int .i64 (V : Int)), (19, .int .i64 (V : Int)), (18, .int .i64 (n : Int)), (4, .map (some bm)), (5, x.2.1), (1, .pointer (some ⟨b1, 0, none⟩)), (3, .pointer (some ⟨b3, 0, none⟩))])
            (fun x => [.row x.2.1 27 17 (x.2.2.1.flatMap encG), .obj bm (mapO (encM grV uV x.2.2.2)), .row vm 73 6 (MV.flatMap encMv), .blk b8 (encG R) 27, .blk b3 (encG (canB p)) 27, .blk b1 (encG p) 27]) (fun x => MV.length - x.1) (0, v, L, M) ⟨Nat.zero_le _, hI.congr (fun q => (hD0 q).symm) (by omega)⟩ ?_ ?_
          · (refine entP (ent ?_ (List.nil_sublist _)) ?_; (repeat refine fr_cons rfl ?_); exact fr_nil; (repeat (first | exact sp_refl | (with_reducible apply sp2))))
          · clear hI
            clear L M v
            rintro ⟨K, v, L, M⟩ ⟨hK, hI⟩
            dsimp only at hK hI ⊢
            by_cases hltK : K < MV.length
            · obtain ⟨m, hm⟩ : ∃ m, MV[K]? = some m := ⟨_, List.getElem?_eq_getElem hltK⟩
              have hq := hres m (List.mem_of_getElem? hm)
              have hD := hDn K m hm
              have hgm : ((MV.flatMap encMv).drop (K * 6)).take 6 = encMv m := fl_at encMv_len hm
              have umv := encMv_len m
              have onem : ∀ x ∈ encMv m, x.oneCell' = true := encMo_one _ _ _ _ _ _
              generalize resB R m = q at *
              have uq := encG_len q
              have hcq := canB_spec hq.1
              have ucq := encG_len (canB q)
              have hnd := hI.nd
              by_cases hs : q ∈ M.map (·.1)
              · have hlk := lkM_yes hs
                repeat' (first | (apply Jq_lookT (eV := uV) (E := kencG) (k := q); exact rfl; exact rfl; exact rfl; exact mo; exact hnd; exact hlk) | (apply Jq_move; exact rfl; exact rfl) | (apply Jq_cmp; exact rfl; exact rfl; exact rfl; exact rfl) | (apply Jq_add; exact rfl; exact rfl; exact rfl; omega) | (apply Jc; exact rfl; exact rfl; exact rfl; infer_instance; ((intro w hw); exact hq.2.1 w)) | (apply Jq_loadW; exact rfl; exact rfl; (exact mb); (first | exact rfl | omega)) | (apply J_sW; exact rfl; exact rfl; infer_instance; (exact rfl); (first | exact rfl | omega); (first | exact ones_of rfl | exact gv_one _ _ _); infer_instance) | (apply Jq_indexRs; exact rfl; exact rfl; exact rfl; (exact rb); omega) | (apply Jq_loadRA; exact rfl; exact rfl; (exact rb); (exact hgm); (exact rfl); decide) | (apply J_alloc (cs := gv 0 Z8 Z8); exact rfl; exact rfl; (intro _)) | (apply J_alloc; exact rfl; exact rfl; (intro _)) | refine thenQ_normal ?_ | refine thenQ_exit ?_ | refine inBlockQ_here ?_ | refine JC_seq ?_ | refine JC_region ?_ | refine J_nil ?_ | refine JC_block ?_ | refine JC_skip ?_ | refine JC_exit ?_ | (apply JC_if_true; exact rfl) | (apply JC_dec_true; exact rfl; omega))
                refine ⟨(K + 1, v, L, M), ⟨by dsimp only; omega, hI.seen hs hD⟩, by dsimp only; omega, ?_⟩
                (refine entP (ent ?_ (List.nil_sublist _)) ?_; (repeat refine fr_cons rfl ?_); exact fr_nil; (repeat (exact sp_end)))
              · have hlk := lkM_no hs
                have hput := putM_new' hs
                have hlf := flat_len L
                have hll := hI.ll
                have hmll := hI.ml
                have e1 : L.flatMap encG ++ encG (canB q) = (L ++ [canB q]).flatMap encG := by simp
                have hne : encG (canB q) ≠ [] := List.cons_ne_nil _ _
                repeat' (first | (apply Jq_lookT (eV := uV) (E := kencG) (k := q); exact rfl; exact rfl; exact rfl; exact mo; exact hnd; exact hlk) | (apply J_updT (eV := uV) (v := ()) (E := kencG) (k := q); exact rfl; exact rfl; exact rfl; infer_instance; exact rfl; exact hnd; exact hput) | (apply Jq_neA; exact rfl; exact rfl; exact rfl; kernel_rfl; (intro w; exact eqG_run _ _ w)) | (apply J_ap; decide; exact rfl; exact rfl; exact rfl; infer_instance; exact rb; exact hne; exact h1 _; ((show (_ + _) * _ ≤ _); omega); decide; exact e1; (intro v')) | (apply Jq_move; exact rfl; exact rfl) | (apply Jq_assign; exact rfl; exact rfl) | (apply Jq_cmp; exact rfl; exact rfl; exact rfl; exact rfl) | (apply Jq_add; exact rfl; exact rfl; exact rfl; omega) | (apply Jc; exact rfl; exact rfl; exact rfl; infer_instance; ((intro w hw); first | exact hq.2.1 w | exact hcq.2.1 w)) | (apply Jq_loadW; exact rfl; exact rfl; (exact mb); (first | exact rfl | omega)) | (apply J_sW; exact rfl; exact rfl; infer_instance; (exact rfl); (first | exact rfl | omega); (first | exact ones_of rfl | exact gv_one _ _ _); infer_instance) | (apply Jq_indexRs; exact rfl; exact rfl; exact rfl; (exact rb); omega) | (apply Jq_loadRA; exact rfl; exact rfl; (exact rb); (exact hgm); (exact rfl); decide) | (apply J_lit1s; exact rfl; exact rfl; (omega); decide; decide; (intro _)) | (apply J_alloc (cs := gv 0 Z8 Z8); exact rfl; exact rfl; (intro _)) | (apply J_alloc; exact rfl; exact rfl; (intro _)) | refine thenQ_normal ?_ | refine inBlockQ_normal ?_ | refine JC_seq ?_ | refine JC_region ?_ | refine J_nil ?_ | refine JC_block ?_ | refine JC_skip ?_ | (apply JC_if_false; exact rfl) | (apply JC_dec_true; exact rfl; omega) | refine JC_ndec rfl (fun _ => ?_) (fun _ => ?_))
                · rename_i hcne _
                  refine ⟨(K + 1, v', L ++ [canB q], M ++ [(q, ())]), ⟨by dsimp only; omega, hI.more hs hD hcne⟩, by dsimp only; omega, ?_⟩
                  dsimp only
                  (refine entP (ent ?_ (List.nil_sublist _)) ?_; (repeat refine fr_cons rfl ?_); exact fr_nil; (repeat (exact sp_end)))
                · rename_i hceq
                  refine ⟨(K + 1, v, L, M ++ [(q, ())]), ⟨by dsimp only; omega, hI.same hs hD hceq⟩, by dsimp only; omega, ?_⟩
                  dsimp only
                  (refine entP (ent ?_ (List.nil_sublist _)) ?_; (repeat refine fr_cons rfl ?_); exact fr_nil; (repeat (exact sp_end)))
            · have eK : K = MV.length := by omega
              rw [eK] at hI
              repeat' (first | (apply Jq_move; exact rfl; exact rfl) | (apply Jq_cmp; exact rfl; exact rfl; exact rfl; exact rfl) | (apply Jq_add; exact rfl; exact rfl; exact rfl; omega) | refine thenQ_normal ?_ | refine thenQ_exit ?_ | refine inBlockQ_normal ?_ | refine inBlockQ_here ?_ | refine JC_seq ?_ | refine JC_region ?_ | refine J_nil ?_ | refine JC_exit ?_ | (apply JC_dec_false; exact rfl; omega))
              refine ⟨(U + 1, v, L, M), ⟨by dsimp only; omega, hI.congr hDe (by omega)⟩, by dsimp only; omega, ?_⟩
              dsimp only
              (refine entP (ent ?_ (List.nil_sublist _)) ?_; (repeat refine fr_cons rfl ?_); exact fr_nil; (repeat (first | exact sp_end | (with_reducible apply sp0))))
        · have eU : U = n := by omega
          rw [eU] at hI
          repeat' (first | (apply Jq_move; exact rfl; exact rfl) | (apply Jq_cmp; exact rfl; exact rfl; exact rfl; exact rfl) | (apply Jq_add; exact rfl; exact rfl; exact rfl; omega) | refine thenQ_normal ?_ | refine thenQ_exit ?_ | refine inBlockQ_normal ?_ | refine inBlockQ_here ?_ | refine JC_seq ?_ | refine JC_region ?_ | refine J_nil ?_ | refine JC_exit ?_ | (apply JC_dec_false; exact rfl; omega))
          refine ⟨(V + 1, v, L, M), ⟨by dsimp only; omega, hI.congr (fun q => dn1_next) (by omega)⟩, by dsimp only; omega, ?_⟩
          dsimp only
          (refine entP (ent ?_ (List.nil_sublist _)) ?_; (repeat refine fr_cons rfl ?_); exact fr_nil; (repeat (exact sp_refl)))
    · have eV : V = n := by omega
      rw [eV] at hI
      have hll : L.length ≤ 10000 := by
        have h1 := hI.ll
        have h3 := hI.ml
        have h4 : n * 640 ≤ 8 * 640 := Nat.mul_le_mul_right _ h8
        omega
      have he : L.flatMap encG = rowG L.toArray := by rw [rowG_flat, List.toList_toArray]
      have hpos : 0 < L.toArray.size ∨ v ≠ .slice none 0 0 := by
        by_cases hL : L = []
        · exact .inr (hI.nn hL)
        · exact .inl (by simpa using List.length_pos_iff.2 hL)
      rw [he]
      repeat' (first | (apply JcE; exact rfl; exact rfl; exact rfl; infer_instance; (exact sort_gives L.toArray (by simp only [List.size_toArray]; omega) hpos); (intro vs H' hV; obtain ⟨rfl, d', hperm, hso, rfl⟩ := hV; obtain ⟨hd1, hd2, hd3⟩ := sorted_le hperm hso; rw [rowG_flat])) | (apply JcE; exact rfl; exact rfl; exact rfl; infer_instance; (exact compact_gives d'.toList v (by rw [hd3, List.toList_toArray]; omega) hd1); (intro vr H' hV; obtain ⟨l', ha, hm, hl', rfl⟩ := hV)) | (apply Jq_move; exact rfl; exact rfl) | (apply Jq_assign; exact rfl; exact rfl) | (apply Jq_cmp; exact rfl; exact rfl; exact rfl; exact rfl) | refine thenQ_normal ?_ | refine thenQ_exit ?_ | refine inBlockQ_here ?_ | refine JC_seq ?_ | refine JC_region ?_ | refine J_nil ?_ | refine JC_ret ?_ | refine JC_exit ?_ | (apply JC_dec_false; exact rfl; omega))
      refine n1 (its := [.row vr 27 17 (l'.flatMap encG)]) rfl rfl rfl ?_ ⟨l', ha, fun y => ?_, ?_, rfl⟩
      · (refine entP (ent ?_ (List.nil_sublist _)) ?_; (repeat refine fr_cons rfl ?_); exact fr_nil; (repeat (first | exact sp_nil | (with_reducible apply sp0))))
      · rw [hm, hd2, List.toList_toArray, hI.mem]
        exact and_congr_right fun _ => ⟨fun ⟨q, ⟨v, u, hv, hu, m, hm, e⟩, k⟩ => ⟨v, u, by omega, by omega, m, hm, k.trans (by rw [e])⟩, fun ⟨v, u, hv, hu, m, hm, k⟩ => ⟨_, ⟨v, u, by omega, by omega, m, hm, rfl⟩, k⟩⟩
      · rw [hd3] at hl'
        simp only [List.toList_toArray] at hl'
        omega
end Go.Proofs.Ytflleelfkknfaaa
