/- Plain: the table of a map, in order. Walks: the head of a row for the row. Walks: slices.MaxFunc at grades. Plain: polynomials with powers of either sign: their coefficients tell them. Plain: what is told of a divided table: the greatest number, the sum at it, the diagonals. Walks: the program's table of a map; the blocked tables. -/
import Derived.Test.YtmbbcmebdefggaaGreatDoorEO
import Derived.Test.YtmbbcmebdefggaaGreatDoorER
import Derived.Test.YtmbbcmebdefggaaGreatDoorAP
import Derived.Test.YtmbbcmebdefggaaGreatDoorPO
import Derived.Test.YtmbbcmebdefggaaGreatDoorHU
import Derived.Test.YtmbbcmebdefggaaGreatDoorKB
namespace Go.Proofs.YtmbbcmebdefggaaGreatDoor
open Go Go.RowKit SL
def tabS (M : TB) (ss : List GrB) : TB := ss.map fun g => (g, vT M g)
theorem tabS_mem {M : TB} {ss : List GrB} {e : GrB × Int} : e ∈ tabS M ss ↔ e.1 ∈ ss ∧ e.2 = vT M e.1 := by
  unfold tabS
  rw [List.mem_map]
  constructor
  · rintro ⟨g, hg, rfl⟩; exact ⟨hg, rfl⟩
  · rintro ⟨h1, h2⟩; exact ⟨e.1, h1, by rw [← h2]⟩
theorem tabS_tab {M : TB} {ss : List GrB} (hn : (M.map (·.1)).Nodup) (hz : ∀ e ∈ M, e.2 ≠ 0) (hp : ss.Perm (M.map (·.1))) (hs : ss.Pairwise ltGr) : Tab (tabS M ss) where
  srt := List.pairwise_map.2 (hs.imp fun {a b} h => h)
  nz := fun e he => by
    obtain ⟨h1, h2⟩ := tabS_mem.1 he
    rw [h2]
    exact (vT_in hn hz).2 (hp.mem_iff.1 h1)
theorem tabS_val {M : TB} {ss : List GrB} (hn : (M.map (·.1)).Nodup) (hz : ∀ e ∈ M, e.2 ≠ 0) (hp : ss.Perm (M.map (·.1))) (hs : ss.Pairwise ltGr) (g : GrB) : vT (tabS M ss) g = vT M g := by
  have h := tabS_tab hn hz hp hs
  by_cases k : g ∈ ss
  · have h1 : vT M g ≠ 0 := (vT_in hn hz).2 (hp.mem_iff.1 k)
    exact ((h.mem (g, vT M g)).1 (tabS_mem.2 ⟨k, rfl⟩)).1
  · have h1 : vT M g = 0 := vT_out fun m => k (hp.mem_iff.2 m)
    rw [h1]
    apply vT_out
    intro m
    obtain ⟨e, he, rfl⟩ := List.mem_map.1 m
    exact k (tabS_mem.1 he).1
theorem tabS_len (M : TB) (ss : List GrB) : (tabS M ss).length = ss.length := List.length_map _
theorem tabS_snoc (M : TB) (ss : List GrB) (g : GrB) : tabS M (ss ++ [g]) = tabS M ss ++ [(g, vT M g)] := List.map_append
/-! Bounds. -/
theorem some_st {n : Nat} {X O : List Nat} {g : GrB} (h : cN n X O g ≠ 0) : ∃ x ∈ stB n, grd n X O x = g := by
  have h5 : (stB n).filter (selG n X O g.1 g.2) ≠ [] := fun k => h (by show ((stB n).filter (selG n X O g.1 g.2)).length = 0; rw [k]; rfl)
  obtain ⟨x, hx⟩ := List.exists_mem_of_ne_nil _ h5
  exact ⟨x, (List.mem_filter.1 hx).1, of_decide_eq_true (List.mem_filter.1 hx).2⟩
theorem keys_720 {n : Nat} {X O : List Nat} {T : TB} (h6 : n ≤ 6) (hn : (T.map (·.1)).Nodup) (h : ∀ e ∈ T, cN n X O e.1 ≠ 0) : T.length ≤ 720 := by
  have h1 := List.Nodup.length_le_of_subset hn (l₂ := (stB n).map (grd n X O)) fun q hq => by
    obtain ⟨e, he, rfl⟩ := List.mem_map.1 hq
    obtain ⟨x, hx, hg⟩ := some_st (h e he)
    exact List.mem_map.2 ⟨x, hx, hg⟩
  rw [List.length_map, List.length_map] at h1
  exact Nat.le_trans h1 (stB_720 h6)
theorem cN_keys {n : Nat} {X O : List Nat} (h6 : n ≤ 6) {g : GrB} (h : cN n X O g ≠ 0) : (-300 ≤ g.1 ∧ g.1 ≤ 300) ∧ (-127 ≤ g.2 ∧ g.2 ≤ 129) := by
  obtain ⟨x, _, rfl⟩ := some_st h
  have h1 := mX_bd (n := n) (by omega) x.1 O
  have h2 := mX_bd (n := n) (by omega) x.1 X
  unfold grd
  dsimp only
  omega
theorem Tower.le {n : Nat} {X O : List Nat} {Q : Nat → GrB → Int} (t : Tower n X O Q) : ∀ i, i < n → ∀ g, Q i g ≤ hN n X O g
  | 0, _, g => by rw [t.zero]; exact Int.le_refl _
  | i + 1, hi, g => by
    have h1 := t.split i hi g
    have h2 := t.le i (by omega) g
    have h3 := t.nn (i + 1) hi (upG g)
    omega
theorem Tower.bd {n : Nat} {X O : List Nat} {Q : Nat → GrB → Int} (t : Tower n X O Q) (g0 : okG (n : Int) X O) (h6 : n ≤ 6) {i : Nat} (hi : i < n) (g : GrB) : 0 ≤ Q i g ∧ Q i g ≤ 2000 := by
  have h1 := t.le i hi g
  have h2 := (hN_bd g0 h6 g).2
  exact ⟨t.nn i hi g, by omega⟩
theorem Dv.rest {Q : GrB → Int} {R out : TB} (hq : ∀ g, 0 ≤ Q g) (d : Dv Q R out) (g : GrB) : 0 ≤ Q g - vT out g ∧ Q g - vT out g ≤ Q g := by
  have := hq g
  rcases d.left hq g with h | h <;> omega
/-- What a walk needs while it divides. -/
theorem Dv.bd {Q : GrB → Int} {R out : TB} (hb : ∀ g, 0 ≤ Q g ∧ Q g ≤ 2000) (d : Dv Q R out) (g : GrB) : 0 ≤ vT R g ∧ vT R g ≤ 4000 := by
  have h1 := d.rest (fun g => (hb g).1) g
  have h2 := d.rest (fun g => (hb g).1) (upG g)
  have h3 := hb g
  have h4 := hb (upG g)
  rw [d.val]
  omega
theorem Dv.out720 {n : Nat} {X O : List Nat} {Q : GrB → Int} {R out : TB} (h6 : n ≤ 6) (hs : ∀ g, Q g ≠ 0 → cN n X O g ≠ 0) (d : Dv Q R out) : out.length ≤ 720 :=
  keys_720 h6 d.ond fun e he => hs _ (by rw [← d.oval e he]; exact d.onz e he)
theorem Dv.keys {n : Nat} {X O : List Nat} {Q : GrB → Int} {R out : TB} (h6 : n ≤ 6) (hq : ∀ g, 0 ≤ Q g) (hs : ∀ g, Q g ≠ 0 → cN n X O g ≠ 0) (d : Dv Q R out) {e : GrB × Int} (he : e ∈ R) : (-302 ≤ e.1.1 ∧ e.1.1 ≤ 300) ∧ (-128 ≤ e.1.2 ∧ e.1.2 ≤ 129) := by
  have h1 := d.rnz e he
  rw [← vT_mem d.rnd he, d.val] at h1
  have h2 := d.rest hq e.1
  have h3 := d.rest hq (upG e.1)
  by_cases k : Q e.1 = 0
  · have h5 := cN_keys h6 (hs (upG e.1) (by omega))
    unfold upG at h5
    dsimp only at h5
    omega
  · have h5 := cN_keys h6 (hs e.1 k)
    omega
theorem Dv.pkey {n : Nat} {X O : List Nat} {Q : GrB → Int} {R out : TB} (h6 : n ≤ 6) (hq : ∀ g, 0 ≤ Q g) (hs : ∀ g, Q g ≠ 0 → cN n X O g ≠ 0) (d : Dv Q R out) {k : GrB} {m : Int} (hk : (k, m) ∈ R) (hmax : ∀ e ∈ R, ¬ gLt k e.1) : (-300 ≤ k.1 ∧ k.1 ≤ 300) ∧ (-127 ≤ k.2 ∧ k.2 ≤ 129) := by
  have h := d.pick hq hk hmax
  exact cN_keys h6 (hs k (by omega))
end Go.Proofs.YtmbbcmebdefggaaGreatDoor
namespace Go.Proofs.YtmbbcmebdefggaaGreatDoor
open Go Go.RowKit SL
namespace SL
theorem Holds.head {B : Nat} {w0 : World} {H1 H2 : Hp} {w : World} {v : Value} {e sz m j : Nat} {xs : List Value} (h : Holds B w0 (H1 ++ .row v e sz xs :: H2) w) (hl : xs.length = m * sz) (hs : 0 < sz) (h0 : 0 < m) (hj : j ≤ m) :
    Holds B w0 (H1 ++ .row (partV sz v 0 j) e sz (xs.take (j * sz)) :: H2) w := by
  obtain ⟨k, h1, h2⟩ := h.row_slice (v := v) (e := e) (sz := sz) (xs := xs) (by simp)
  obtain rfl : k = m := Nat.eq_of_mul_eq_mul_right hs (h1.symm.trans hl)
  rcases h2 with ⟨rfl, rfl⟩ | ⟨gg, cap, cur, rfl, hB, hg, hc, hm, hz, ht⟩
  · omega
  · have e1 : partV sz (.slice (some ⟨gg, 0, none⟩) k cap) 0 j = .slice (some ⟨gg, 0, none⟩) j cap := by
      simp only [partV, if_neg (show ¬ cap = 0 by omega), Option.map_some, add_eq, Nat.zero_add, Nat.zero_mul, Nat.sub_zero]
    rw [e1]
    have hjk : j * sz ≤ k * sz := Nat.mul_le_mul_right _ hj
    refine ⟨h.below, h.base, fun x hx => ?_, ?_⟩
    · rcases List.mem_append.1 hx with hx | hx
      · exact h.ok x (List.mem_append.2 (.inl hx))
      · rcases List.mem_cons.1 hx with rfl | hx
        · refine ⟨j, ?_, .inr ⟨gg, cap, cur, rfl, hB, hg, by omega, hm, hz, ?_⟩⟩
          · rw [List.length_take, hl]; omega
          · rw [← ht, List.take_take, Nat.min_eq_left hjk]
        · exact h.ok x (List.mem_append.2 (.inr (mS hx)))
    · have := h.apart
      unfold owned at *
      rw [List.filterMap_append, List.filterMap_cons] at *
      exact this
end SL
end Go.Proofs.YtmbbcmebdefggaaGreatDoor
namespace Go.Proofs.YtmbbcmebdefggaaGreatDoor
open Go Go.RowKit SL
theorem cfGr_pos (x y : GrB) : 0 < cfGr x y ↔ gLt y x := by
  unfold cfGr cmpI gLt
  repeat' split
  all_goals omega
def isMost (l : List GrB) (m : GrB) : Prop := m ∈ l ∧ ∀ y ∈ l, ¬ gLt m y
theorem isMost.old {l : List GrB} {m x : GrB} {j : Nat} (h : isMost (l.take j) m) (hx : l[j]? = some x) (hc : ¬ gLt m x) : isMost (l.take (j + 1)) m := by
  rw [List.take_add_one, hx, Option.toList_some]
  refine ⟨List.mem_append.2 (.inl h.1), fun y hy => ?_⟩
  rcases List.mem_append.1 hy with hy | hy
  · exact h.2 y hy
  · rw [List.mem_singleton] at hy; subst hy; exact hc
theorem isMost.new {l : List GrB} {m x : GrB} {j : Nat} (h : isMost (l.take j) m) (hx : l[j]? = some x) (hc : gLt m x) : isMost (l.take (j + 1)) x := by
  rw [List.take_add_one, hx, Option.toList_some]
  refine ⟨List.mem_append.2 (.inr (List.mem_singleton.2 rfl)), fun y hy => ?_⟩
  rcases List.mem_append.1 hy with hy | hy
  · exact fun k => h.2 y hy (hc.tr k)
  · rw [List.mem_singleton] at hy; subst hy; exact gLt.irr y
theorem flU (l : List GrB) : (l.flatMap encGr).length = l.length * 2 := fl_len (s := 2) (enc := encGr) (fun _ => rfl) l
set_option maxRecDepth 100000 in
theorem maxU_gives {B : Nat} {w0 : World} {H : Hp} {v : Value} (l : List GrB) (hv : It.row v 108 2 (l.flatMap encGr) ∈ H) (h0 : 0 < l.length) (hl : l.length ≤ 1000000) :
    GivesE Tryz.prog 132 #[v, .func (.func 108) #[] #[]] B w0 H (fun v' H' => H' = H ∧ ∃ m, isMost l m ∧ v' = .agg (encGr m).toArray) := by
  have lf := flU l
  have iv : RB v H 108 2 (l.flatMap encGr) := ⟨hv⟩
  obtain ⟨x0, hx0⟩ : ∃ x, l[0]? = some x := ⟨_, List.getElem?_eq_getElem h0⟩
  have ux0 := encGr_len x0
  have f0 := fl_at (s := 2) (enc := encGr) (fun _ => rfl) hx0
  refine givesE_of (args := [v, .func (.func 108) #[] #[]]) [(0, v), (1, .func (.func 108) #[] #[])] Tryz.func132 rfl Tryz.ntmps132 rfl (argsF_cons rfl (argsF_cons rfl argsF_nil)) ?_
  repeat' (first | (apply Jq_indexRs (i := 0); exact rfl; exact rfl; exact rfl; exact rb; omega) | (apply Jq_move; exact rfl; exact rfl) | (apply Jq_assign; exact rfl; exact rfl) | (apply Jq_cmp; exact rfl; exact rfl; exact rfl; exact rfl) | (apply J_sW; exact rfl; exact rfl; infer_instance; (exact rfl); (exact rfl); (exact ones_of rfl); infer_instance) | (apply Jq_lenRs; exact rfl; exact rfl; (exact rb); exact lf; decide) | (apply Jq_loadRA; exact rfl; exact rfl; (exact rb); (exact f0); (exact rfl); decide) | (apply J_alloc; exact rfl; exact rfl; (intro _)) | refine thenQ_normal ?_ | refine JC_seq ?_ | refine JC_region ?_ | refine J_nil ?_ | refine JC_block ?_ | refine JC_skip ?_ | (apply JC_dec_false; exact rfl; omega))
  rename_i b4 b5
  refine JC_loop (X := Nat × GrB) (fun q => 1 ≤ q.1 ∧ q.1 ≤ l.length ∧ isMost (l.take q.1) q.2) (fun q => [(6, .int .i64 (q.1 : Int)), (5, .pointer (some ⟨b5, 0, none⟩)), (4, .pointer (some ⟨b4, 0, none⟩)), (1, .func (.func 108) #[] #[]), (0, v)]) (fun q => .blk b5 (encGr q.2) 108 :: .blk b4 (encGr (0, 0)) 108 :: H) (fun q => l.length - q.1) (1, x0) ⟨Nat.le_refl _, h0, ?_⟩ ?_ ?_
  · rw [List.take_add_one, hx0]
    exact ⟨by simp, fun y hy => by simp at hy; subst hy; exact gLt.irr y⟩
  · dsimp only
    (refine entP (ent ?_ (List.nil_sublist _)) ?_; (repeat refine fr_cons rfl ?_); exact fr_nil; (repeat (exact sp_refl)))
  · rintro ⟨j, m⟩ ⟨hj1, hj, hm⟩
    dsimp only at hj1 hj hm ⊢
    have um := encGr_len m
    by_cases hlt : j < l.length
    · obtain ⟨x, hx⟩ : ∃ x, l[j]? = some x := ⟨_, List.getElem?_eq_getElem hlt⟩
      have ux := encGr_len x
      have hc := cfGr_pos x m
      have fx := fl_at (s := 2) (enc := encGr) (fun _ => rfl) hx
      by_cases hxm : gLt m x
      · have hneg := hc.2 hxm
        repeat' (first | (apply JC_draw mixed; kernel_rfl) | (apply Jq_move; exact rfl; exact rfl) | (apply Jq_assign; exact rfl; exact rfl) | (apply Jq_cmp; exact rfl; exact rfl; exact rfl; exact rfl) | (apply Jq_add; exact rfl; exact rfl; exact rfl; omega) | (apply Jc; exact rfl; exact rfl; exact rfl; infer_instance; ((intro w hw); exact compareGr_gives x m w)) | (apply Jq_loadW; exact rfl; exact rfl; (exact mb); (exact rfl)) | (apply J_sW; exact rfl; exact rfl; infer_instance; (exact rfl); (exact rfl); (exact ones_of rfl); infer_instance) | (apply Jq_lenRs; exact rfl; exact rfl; (exact rb); exact lf; decide) | (apply Jq_indexRs; exact rfl; exact rfl; exact rfl; (exact rb); omega) | (apply Jq_loadRA; exact rfl; exact rfl; (exact rb); (exact fx); (exact rfl); decide) | refine thenQ_normal ?_ | refine inBlockQ_normal ?_ | refine JC_seq ?_ | refine JC_region ?_ | refine J_nil ?_ | refine JC_block ?_ | refine JC_skip ?_ | (apply JC_dec_true; exact rfl; omega))
        refine ⟨(j + 1, x), ⟨by dsimp only; omega, by dsimp only; omega, hm.new hx hxm⟩, by dsimp only; omega, ?_⟩
        dsimp only
        (refine entP (ent ?_ (List.nil_sublist _)) ?_; (repeat refine fr_cons rfl ?_); exact fr_nil; (repeat (exact sp_refl)))
      · have hneg := fun h => hxm (hc.1 h)
        repeat' (first | (apply JC_draw mixed; kernel_rfl) | (apply Jq_move; exact rfl; exact rfl) | (apply Jq_assign; exact rfl; exact rfl) | (apply Jq_cmp; exact rfl; exact rfl; exact rfl; exact rfl) | (apply Jq_add; exact rfl; exact rfl; exact rfl; omega) | (apply Jc; exact rfl; exact rfl; exact rfl; infer_instance; ((intro w hw); exact compareGr_gives x m w)) | (apply Jq_loadW; exact rfl; exact rfl; (exact mb); (exact rfl)) | (apply Jq_lenRs; exact rfl; exact rfl; (exact rb); exact lf; decide) | (apply Jq_indexRs; exact rfl; exact rfl; exact rfl; (exact rb); omega) | (apply Jq_loadRA; exact rfl; exact rfl; (exact rb); (exact fx); (exact rfl); decide) | refine thenQ_normal ?_ | refine inBlockQ_normal ?_ | refine JC_seq ?_ | refine JC_region ?_ | refine J_nil ?_ | refine JC_block ?_ | refine JC_skip ?_ | (apply JC_dec_true; exact rfl; omega) | (apply JC_dec_false; exact rfl; omega))
        refine ⟨(j + 1, m), ⟨by dsimp only; omega, by dsimp only; omega, hm.old hx hxm⟩, by dsimp only; omega, ?_⟩
        dsimp only
        (refine entP (ent ?_ (List.nil_sublist _)) ?_; (repeat refine fr_cons rfl ?_); exact fr_nil; (repeat (exact sp_refl)))
    · obtain rfl : j = l.length := by omega
      rw [List.take_length] at hm
      repeat' (first | (apply Jq_move; exact rfl; exact rfl) | (apply Jq_cmp; exact rfl; exact rfl; exact rfl; exact rfl) | (apply Jq_loadW; exact rfl; exact rfl; (exact mb); (exact rfl)) | (apply J_sW; exact rfl; exact rfl; infer_instance; (exact rfl); (exact rfl); (exact ones_of rfl); infer_instance) | (apply Jq_lenRs; exact rfl; exact rfl; (exact rb); exact lf; decide) | refine thenQ_normal ?_ | refine thenQ_exit ?_ | refine inBlockQ_here ?_ | refine JC_seq ?_ | refine JC_region ?_ | refine J_nil ?_ | refine JC_ret ?_ | refine JC_exit ?_ | (apply JC_dec_false; exact rfl; omega))
      refine eC (b := b4) rfl rfl rfl (mS m0) um ?_ ⟨rfl, m, hm, rfl⟩
      (refine entP (ent ?_ (List.nil_sublist _)) ?_; (repeat refine fr_cons rfl ?_); exact fr_nil; (repeat (exact sp_end)))
end Go.Proofs.YtmbbcmebdefggaaGreatDoor
namespace Go.Proofs.YtmbbcmebdefggaaGreatDoor
open Go
end Go.Proofs.YtmbbcmebdefggaaGreatDoor
namespace Go.Proofs.YtmbbcmebdefggaaGreatDoor
open Go Go.RowKit SL
/-- The table T tells the numbers F. -/
structure IsT (F : GrB → Int) (T : TB) : Prop where
  nd : (T.map (·.1)).Nodup
  nz : ∀ e ∈ T, e.2 ≠ 0
  val : ∀ g, vT T g = F g
theorem IsT.mem {F : GrB → Int} {T : TB} (h : IsT F T) (e : GrB × Int) : e ∈ T ↔ F e.1 = e.2 ∧ e.2 ≠ 0 := by
  constructor
  · intro he
    exact ⟨by rw [← h.val, vT_mem h.nd he], h.nz e he⟩
  · rintro ⟨h1, h2⟩
    have h3 : e.1 ∈ T.map (·.1) := (vT_in h.nd h.nz).1 (by rw [h.val, h1]; exact h2)
    obtain ⟨q, hq, e1⟩ := List.mem_map.1 h3
    have h4 := vT_mem h.nd hq
    rw [h.val, e1, h1] at h4
    have : q = e := Prod.ext e1 h4.symm
    rw [← this]; exact hq
theorem IsT.ofTab {F : GrB → Int} {T : TB} (h : Tab T) (hv : ∀ g, vT T g = F g) : IsT F T := ⟨by
  rw [List.nodup_iff_pairwise_ne, List.pairwise_map]
  exact h.srt.imp fun {a b} (k : gLt a.1 b.1) (e : a.1 = b.1) => gLt.irr b.1 (by rwa [e] at k), h.nz, hv⟩
end Go.Proofs.YtmbbcmebdefggaaGreatDoor
namespace Go.Proofs.YtmbbcmebdefggaaGreatDoor
open Go Go.RowKit SL
set_option maxRecDepth 100000 in
theorem table_gives {B : Nat} {w0 : World} {H : Hp} {bm : Nat} (M : TB) (hn : (M.map (·.1)).Nodup) (hM : It.obj bm (mapO (encM grK zV M)) ∈ H) (hl : M.length ≤ 100000) :
    GivesE Tryz.prog 53 #[.map (some bm)] B w0 H (fun v' H' => ∃ ss : List GrB, ss.Perm (M.map (·.1)) ∧ ss.Pairwise ltGr ∧ ssV ((tabS M ss).map encT) H v' H') := by
  have hMS := hM
  rw [mapO_S] at hMS
  have hst := StOK.enc (eK := grK) (eV := zV) (StOK.range M.length)
  rw [encM_len] at hMS
  have hsb := fun (Bm : Nat) (v6 : Value) => sortedB_any (B := B) (w0 := w0) (H := .blk Bm [.map (some bm)] 66 :: .row v6 50 1 [] :: H) (bm := bm) hn (StOK.range M.length) (mS (mS hMS)) m0 (by omega)
  refine givesE_of (args := [.map (some bm)]) [(0, .map (some bm))] Tryz.func53 rfl Tryz.ntmps53 rfl (argsF_cons rfl argsF_nil) ?_
  repeat' (first | (apply J_lit0; decide; (intro b6; generalize Value.slice (some ⟨b6, 0, none⟩) 0 0 = v6)) | (apply JcE; exact rfl; exact rfl; exact rfl; infer_instance; (exact mapKeysB_gives bm); (intro v' H' hV; obtain ⟨Bm, rfl, rfl⟩ := hV)) | (apply JcE; exact rfl; exact rfl; exact rfl; infer_instance; (exact hsb _ _); (intro vS H' hV; obtain ⟨ss, hp, hso, rfl⟩ := hV; have lf := flU ss)) | (apply Jq_move; exact rfl; exact rfl) | (apply Jq_assign; exact rfl; exact rfl) | (apply Jq_lenRs; exact rfl; exact rfl; (exact rb); exact lf; decide) | refine thenQ_normal ?_ | refine JC_seq ?_ | refine JC_region ?_ | refine J_nil ?_ | refine JC_block ?_)
  have hss := hp.length_eq
  rw [List.length_map] at hss
  refine JC_loop (X := Nat × Value × List (Value × List Value)) (fun p => p.1 ≤ ss.length ∧ p.2.2.map (·.2) = (tabS M (ss.take p.1)).map encT) (fun p => [(11, .int .i64 (p.1 : Int)), (10, .int .i64 (ss.length : Int)), (9, vS), (3, p.2.1), (0, .map (some bm))])
    (fun p => .row p.2.1 50 1 (p.2.2.map (·.1)) :: (rwR p.2.2 ++ (.row vS 108 2 (ss.flatMap encGr) :: H))) (fun p => ss.length - p.1) (0, v6, []) ⟨Nat.zero_le _, rfl⟩ ?_ ?_
  · dsimp only [rwR, rwI, List.map_nil, List.reverse_nil, List.nil_append]
    (refine entP (ent ?_ (List.nil_sublist _)) ?_; (repeat refine fr_cons rfl ?_); exact fr_nil; (repeat (first | exact sp_end | apply sp0 | apply sp2)))
  · rintro ⟨k, v, L⟩ ⟨hk, hL⟩
    dsimp only at hk hL ⊢
    have hLl : L.length = k := by
      have := congrArg List.length hL
      rw [List.length_map, List.length_map, tabS_len, List.length_take] at this
      omega
    have lm : (L.map (·.1)).length = L.length := List.length_map _
    by_cases hlt : k < ss.length
    · obtain ⟨x, hx⟩ : ∃ x, ss[k]? = some x := ⟨_, List.getElem?_eq_getElem hlt⟩
      have ux := encGr_len x
      have htk : (tabS M (ss.take (k + 1))).map encT = (tabS M (ss.take k)).map encT ++ [encT (x, vT M x)] := by
        rw [List.take_add_one, hx, Option.toList_some, tabS_snoc, List.map_append]; rfl
      have hu : ((lkM M x).map zV).getD (.int .i64 0) = .int .i64 (vT M x) := by unfold vT; cases lkM M x <;> rfl
      obtain ⟨T2, hT2⟩ : ∃ T2 : Hp, T2 = rwR L ++ (.row vS 108 2 (ss.flatMap encGr) :: H) := ⟨_, rfl⟩
      have kS : RB vS T2 108 2 (ss.flatMap encGr) := ⟨by rw [hT2]; exact List.mem_append.2 (.inr m0)⟩
      have km : It.obj bm (mapO (encM grK zV M)) ∈ T2 := by rw [hT2]; exact List.mem_append.2 (.inr (mS hM))
      have ikm : MO bm T2 (mapO (encM grK zV M)) := ⟨km⟩
      rw [← hT2]
      repeat' (first | (apply Jq_cmp; exact rfl; exact rfl; exact rfl; exact rfl) | (apply J_sW; exact rfl; exact rfl; infer_instance; (exact rfl); (exact rfl); (exact ones_of rfl); infer_instance) | (apply Jq_indexRs; exact rfl; exact rfl; exact rfl; (exact rb); omega) | (apply Jq_loadRA; exact rfl; exact rfl; (exact rb); (exact fl_at encGr_len hx); (exact rfl); decide) | (apply J_alloc; exact rfl; exact rfl; (intro _)) | refine thenQ_normal ?_ | refine JC_seq ?_ | refine JC_region ?_ | refine J_nil ?_ | refine JC_block ?_ | refine JC_skip ?_ | (apply JC_dec_true; exact rfl; omega))
      rename_i b6
      refine JC_any (m := 12) rfl [.blk b6 (encGr x) 108, .obj bm (mapO (encM grK zV M))] mixed (by ((repeat (apply sub_cons; (focus ((with_reducible (repeat (first | exact m0 | assumption | refine mS ?_))); done)))); exact sub_nil)) ?_
      (apply JF_q 0; exact rfl; kernel_rfl; exact rfl; (intro E hE; (apply q_move; exact rfl)))
      (apply JF_q 1; exact rfl; kernel_rfl; exact rfl; (intro E hE; (apply q_fieldAddr; exact rfl)))
      (apply JF_q 2; exact rfl; kernel_rfl; exact rfl; (intro E hE; (apply q_load; exact rfl; (refine hE _ ?_; exact mb); (exact rfl))))
      (apply JF_q 3; exact rfl; kernel_rfl; exact rfl; (intro E hE; (apply q_fieldAddr; exact rfl)))
      (apply JF_q 4; exact rfl; kernel_rfl; exact rfl; (intro E hE; (apply q_load; exact rfl; (refine hE _ ?_; exact mb); (exact rfl))))
      (apply JF_q 5; exact rfl; kernel_rfl; exact rfl; (intro E hE; (apply q_move; exact rfl)))
      (apply JF_q 6; exact rfl; kernel_rfl; exact rfl; (intro E hE; (apply q_loadW; exact rfl; (refine hE _ ?_; exact mb); (exact rfl))))
      (apply JF_q 7; exact rfl; kernel_rfl; exact rfl; (intro E hE; (apply q_lookT (eV := zV) (E := kencGr); exact rfl; exact rfl; (refine hE _ ?_; exact mS m0); exact hn; exact hu)))
      (apply JF_all [8]; kernel_rfl)
      (apply JFs_cons; exact rfl)
      · (apply J_lit3; exact rfl; exact rfl; exact rfl; exact rfl; exact rfl; exact rfl; exact rfl; (intro _))
        (apply J_nil; apply JF_end; ((repeat (apply sub_cons; (focus ((with_reducible (repeat (first | exact m0 | assumption | refine mS ?_))); done)))); exact sub_nil))
        (apply JF_all [9]; kernel_rfl)
        (apply JFs_cons; exact rfl)
        · (apply J_lit1; exact rfl; exact rfl; exact rfl; (intro _))
          (apply J_nil; apply JF_end; ((repeat (apply sub_cons; (focus ((with_reducible (repeat (first | exact m0 | assumption | refine mS ?_))); done)))); exact sub_nil))
          (apply JF_all [10]; kernel_rfl)
          (apply JFs_cons; exact rfl)
          · ((apply J_ap; decide; exact rfl; exact rfl; exact rfl; infer_instance; exact m0; exact List.cons_ne_nil _ _; exact ones_of rfl; ((show (_ + _) * _ ≤ _); (simp only [List.length_cons, List.length_nil]); omega); decide; exact rfl; (intro v')))
            (apply J_nil; apply JF_end; ((repeat (apply sub_cons; (focus ((with_reducible (repeat (first | exact m0 | assumption | refine mS ?_))); done)))); exact sub_nil))
            (apply JF_q 11; exact rfl; kernel_rfl; exact rfl; (intro E hE; (apply q_assign; exact rfl)))
            (apply JF_done; kernel_rfl)
            ((repeat' (first | (apply Jq_move; exact rfl; exact rfl) | (apply Jq_add; exact rfl; exact rfl; exact rfl; omega) | refine thenQ_normal ?_ | refine inBlockQ_normal ?_ | refine JC_region ?_ | refine J_nil ?_)); rename_i b27 b28; refine ⟨(k + 1, v', L ++ [(.slice (some ⟨b27, 0, none⟩) 3 3, encT (x, vT M x))]), ⟨by (dsimp only; omega), by (dsimp only; rw [List.map_append, hL, htk]; rfl)⟩, by (dsimp only; omega), ?_⟩; dsimp only; rw [rwR_snoc, List.map_append, hT2]; (refine entP (ent ?_ (List.nil_sublist _)) ?_; (repeat refine fr_cons rfl ?_); exact fr_nil; (repeat (first | exact sp_end | apply sp1 | apply sp3))))
          exact JFs_nil
        exact JFs_nil
      exact JFs_nil
    · obtain rfl : k = ss.length := by omega
      rw [List.take_length] at hL
      repeat' (first | (apply Jq_move; exact rfl; exact rfl) | (apply Jq_assign; exact rfl; exact rfl) | (apply Jq_cmp; exact rfl; exact rfl; exact rfl; exact rfl) | refine thenQ_normal ?_ | refine thenQ_exit ?_ | refine inBlockQ_here ?_ | refine JC_seq ?_ | refine JC_region ?_ | refine J_nil ?_ | refine JC_ret ?_ | refine JC_exit ?_ | (apply JC_dec_false; exact rfl; omega))
      refine SL.e1 (H' := .row v 50 1 (L.map (·.1)) :: (rwI L ++ H)) rfl rfl rfl (entP (ent (fun _ _ h => by cases h) (List.nil_sublist _)) (sp_rows (rwR_perm L) ?_)) ⟨ss, hp, hso, L, hL, rfl⟩
      exact .cons _ (.refl _)
theorem tab_exists (F : GrB → Int) : ∀ ks : List GrB, ∃ T, Tab T ∧ ∀ g, vT T g = if g ∈ ks then F g else 0
  | [] => ⟨[], ⟨List.Pairwise.nil, fun e he => absurd he List.not_mem_nil⟩, fun g => by rw [if_neg List.not_mem_nil]; exact vT_nil g⟩
  | k :: ks => by
    obtain ⟨T, h1, h2⟩ := tab_exists F ks
    by_cases hk : k ∈ ks ∨ F k = 0
    · refine ⟨T, h1, fun g => ?_⟩
      rw [h2]
      by_cases e : g = k
      · subst e
        rcases hk with hk | hk
        · rw [if_pos hk, if_pos List.mem_cons_self]
        · rw [hk, ite_self, ite_self]
      · by_cases hg : g ∈ ks
        · rw [if_pos hg, if_pos (List.mem_cons_of_mem _ hg)]
        · rw [if_neg hg, if_neg fun h => (List.mem_cons.1 h).elim e hg]
    · have hk1 : k ∉ ks := fun h => hk (.inl h)
      have hk2 : F k ≠ 0 := fun h => hk (.inr h)
      refine ⟨insT k (F k) T, insT_tab hk2 h1, fun g => ?_⟩
      rw [insT_val h1, h2]
      by_cases e : g = k
      · subst e
        rw [if_neg hk1, if_pos rfl, if_pos List.mem_cons_self]; omega
      · rw [if_neg e, Int.add_zero]
        by_cases hg : g ∈ ks
        · rw [if_pos hg, if_pos (List.mem_cons_of_mem _ hg)]
        · rw [if_neg hg, if_neg fun h => (List.mem_cons.1 h).elim e hg]
/-- The table of a function that is 0 where no state is. -/
theorem tab_of {n : Nat} {X O : List Nat} (h6 : n ≤ 6) (F : GrB → Int) (hs : ∀ g, F g ≠ 0 → cN n X O g ≠ 0) : ∃ T, Tab T ∧ (∀ g, vT T g = F g) ∧ T.length ≤ 720 := by
  obtain ⟨T, h1, h2⟩ := tab_exists F ((stB n).map (grd n X O))
  have hv : ∀ g, vT T g = F g := fun g => by
    rw [h2]
    by_cases hg : g ∈ (stB n).map (grd n X O)
    · rw [if_pos hg]
    · rw [if_neg hg]
      apply Classical.byContradiction
      intro h
      obtain ⟨x, hx, e⟩ := some_st (hs g (Ne.symm h))
      exact hg (List.mem_map.2 ⟨x, hx, e⟩)
  have hi := IsT.ofTab h1 hv
  exact ⟨T, h1, hv, keys_720 h6 hi.nd fun e he => hs _ (by rw [((hi.mem e).1 he).1]; exact h1.nz e he)⟩
/-- No row. -/
def notRow : It → Prop
  | .row _ _ _ _ => False
  | _ => True
/-- The reference's table: rows somewhere in memory, and the code. -/
def sSS (M : List (List Value)) (c : Int) (H : Hp) (v' : Value) (H' : Hp) : Prop := ∃ u LL, v' = .tuple #[u, .int .i64 c] ∧ LL.map (·.2) = M ∧ It.row u 50 1 (LL.map (·.1)) ∈ H' ∧ (∀ x ∈ rwI LL, x ∈ H') ∧ ∀ x ∈ H, notRow x → x ∈ H'
def LT.rows (L : LT) : List (Value × List Value) := L.map fun p => (p.1, encT p.2)
theorem LT.rows_fst (L : LT) : (LT.rows L).map (·.1) = L.map (·.1) := by unfold LT.rows; rw [List.map_map]; rfl
theorem LT.rows_snd (L : LT) : (LT.rows L).map (·.2) = (valsT L).map encT := by unfold LT.rows valsT; rw [List.map_map, List.map_map]; rfl
theorem LT.rows_in {L : LT} {H : Hp} (h : inT L H) : ∀ x ∈ rwI (LT.rows L), x ∈ H := fun x hx => by
  unfold rwI LT.rows at hx
  rw [List.map_map] at hx
  obtain ⟨p, hp, rfl⟩ := List.mem_map.1 hx
  exact h p hp
theorem encT_nums (e : GrB × Int) : isNums (encT e) := fun j hj => by
  have hj' : j < 3 := hj
  rcases (show j = 0 ∨ j = 1 ∨ j = 2 by omega) with rfl | rfl | rfl <;> exact ⟨_, rfl⟩
theorem tabM_fact {T : TB} (hl : T.length ≤ 720) : (T.map encT).length ≤ 46656 ∧ ∀ r ∈ T.map encT, isNums r ∧ r.length ≤ 46656 := by
  refine ⟨by rw [List.length_map]; omega, fun r hr => ?_⟩
  obtain ⟨e, _, rfl⟩ := List.mem_map.1 hr
  exact ⟨encT_nums e, by show 3 ≤ _; omega⟩
end Go.Proofs.YtmbbcmebdefggaaGreatDoor
namespace Go.Proofs.YtmbbcmebdefggaaGreatDoor
open Go Go.RowKit SL
end Go.Proofs.YtmbbcmebdefggaaGreatDoor
