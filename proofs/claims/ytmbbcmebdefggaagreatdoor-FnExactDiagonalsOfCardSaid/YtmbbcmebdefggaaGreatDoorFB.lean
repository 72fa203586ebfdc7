/- Plain: the table of a map, in order. Walks: the head of a row for the row. Walks: slices.MaxFunc at grades. Plain: polynomials with powers of either sign: their coefficients tell them. Plain: what is told of a divided table: the greatest number, the sum at it, the diagonals. Walks: the program's table of a map; the blocked tables. Walks: the reference's divided table. Walks: the program's divided numbers. Walks: knots of at most six columns; the divided tables. Walks: knotListed at tables; the divided tables. -/
import Derived.Test.YtmbbcmebdefggaaGreatDoorEO
import Derived.Test.YtmbbcmebdefggaaGreatDoorER
import Derived.Test.YtmbbcmebdefggaaGreatDoorAP
import Derived.Test.YtmbbcmebdefggaaGreatDoorPO
import Derived.Test.YtmbbcmebdefggaaGreatDoorHO
import Derived.Test.YtmbbcmebdefggaaGreatDoorHH
import Derived.Test.YtmbbcmebdefggaaGreatDoorTK
import Derived.Test.YtmbbcmebdefggaaGreatDoorKB
import Derived.Test.YtmbbcmebdefggaaGreatDoorSO
namespace Go.Proofs.YtmbbcmebdefggaaGreatDoor
open Go Go.RowKit SL
/-! Bounds. -/
theorem some_st {n : Nat} {X O : List Nat} {g : GrB} (h : cN n X O g ≠ 0) : ∃ x ∈ stB n, grd n X O x = g := by
  have h5 : (stB n).filter (selG n X O g.1 g.2) ≠ [] := fun k => h (by show ((stB n).filter (selG n X O g.1 g.2)).length = 0; rw [k]; rfl)
  obtain ⟨x, hx⟩ := List.exists_mem_of_ne_nil _ h5
  exact ⟨x, (List.mem_filter.1 hx).1, of_decide_eq_true (List.mem_filter.1 hx).2⟩
theorem keys_720 {n : Nat} {X O : List Nat} {T : TB} (h6 : n ≤ 6) (hn : (T.map (·.1)).Nodup) (h : ∀ e ∈ T, cN n X O e.1 ≠ 0) : T.length ≤ 720 := by
  have h1 := List.Nodup.length_le_of_subset hn (l₂ := (stB n).map (grd n X O)) fun q hq => by
    obtain ⟨e, he, rfl⟩ := List.mem_map.1 hq
    obtain ⟨x, hx, hg⟩ := some_st (h e he)
    exact List.mem_map.2 ⟨x, hx, hg⟩
  rw [List.length_map, List.length_map] at h1
  exact Nat.le_trans h1 (stB_720 h6)
theorem cN_keys {n : Nat} {X O : List Nat} (h6 : n ≤ 6) {g : GrB} (h : cN n X O g ≠ 0) : (-300 ≤ g.1 ∧ g.1 ≤ 300) ∧ (-127 ≤ g.2 ∧ g.2 ≤ 129) := by
  obtain ⟨x, _, rfl⟩ := some_st h
  have h1 := mX_bd (n := n) (by omega) x.1 O
  have h2 := mX_bd (n := n) (by omega) x.1 X
  unfold grd
  dsimp only
  omega
theorem Tower.le {n : Nat} {X O : List Nat} {Q : Nat → GrB → Int} (t : Tower n X O Q) : ∀ i, i < n → ∀ g, Q i g ≤ hN n X O g
  | 0, _, g => by rw [t.zero]; exact Int.le_refl _
  | i + 1, hi, g => by
    have h1 := t.split i hi g
    have h2 := t.le i (by omega) g
    have h3 := t.nn (i + 1) hi (upG g)
    omega
theorem Tower.bd {n : Nat} {X O : List Nat} {Q : Nat → GrB → Int} (t : Tower n X O Q) (g0 : okG (n : Int) X O) (h6 : n ≤ 6) {i : Nat} (hi : i < n) (g : GrB) : 0 ≤ Q i g ∧ Q i g ≤ 2000 := by
  have h1 := t.le i hi g
  have h2 := (hN_bd g0 h6 g).2
  exact ⟨t.nn i hi g, by omega⟩
theorem Dv.rest {Q : GrB → Int} {R out : TB} (hq : ∀ g, 0 ≤ Q g) (d : Dv Q R out) (g : GrB) : 0 ≤ Q g - vT out g ∧ Q g - vT out g ≤ Q g := by
  have := hq g
  rcases d.left hq g with h | h <;> omega
/-- What a walk needs while it divides. -/
theorem Dv.bd {Q : GrB → Int} {R out : TB} (hb : ∀ g, 0 ≤ Q g ∧ Q g ≤ 2000) (d : Dv Q R out) (g : GrB) : 0 ≤ vT R g ∧ vT R g ≤ 4000 := by
  have h1 := d.rest (fun g => (hb g).1) g
  have h2 := d.rest (fun g => (hb g).1) (upG g)
  have h3 := hb g
  have h4 := hb (upG g)
  rw [d.val]
  omega
theorem Dv.out720 {n : Nat} {X O : List Nat} {Q : GrB → Int} {R out : TB} (h6 : n ≤ 6) (hs : ∀ g, Q g ≠ 0 → cN n X O g ≠ 0) (d : Dv Q R out) : out.length ≤ 720 :=
  keys_720 h6 d.ond fun e he => hs _ (by rw [← d.oval e he]; exact d.onz e he)
theorem Dv.keys {n : Nat} {X O : List Nat} {Q : GrB → Int} {R out : TB} (h6 : n ≤ 6) (hq : ∀ g, 0 ≤ Q g) (hs : ∀ g, Q g ≠ 0 → cN n X O g ≠ 0) (d : Dv Q R out) {e : GrB × Int} (he : e ∈ R) : (-302 ≤ e.1.1 ∧ e.1.1 ≤ 300) ∧ (-128 ≤ e.1.2 ∧ e.1.2 ≤ 129) := by
  have h1 := d.rnz e he
  rw [← vT_mem d.rnd he, d.val] at h1
  have h2 := d.rest hq e.1
  have h3 := d.rest hq (upG e.1)
  by_cases k : Q e.1 = 0
  · have h5 := cN_keys h6 (hs (upG e.1) (by omega))
    unfold upG at h5
    dsimp only at h5
    omega
  · have h5 := cN_keys h6 (hs e.1 k)
    omega
theorem Dv.pkey {n : Nat} {X O : List Nat} {Q : GrB → Int} {R out : TB} (h6 : n ≤ 6) (hq : ∀ g, 0 ≤ Q g) (hs : ∀ g, Q g ≠ 0 → cN n X O g ≠ 0) (d : Dv Q R out) {k : GrB} {m : Int} (hk : (k, m) ∈ R) (hmax : ∀ e ∈ R, ¬ gLt k e.1) : (-300 ≤ k.1 ∧ k.1 ≤ 300) ∧ (-127 ≤ k.2 ∧ k.2 ≤ 129) := by
  have h := d.pick hq hk hmax
  exact cN_keys h6 (hs k (by omega))
end Go.Proofs.YtmbbcmebdefggaaGreatDoor
namespace Go.Proofs.YtmbbcmebdefggaaGreatDoor
open Go Go.RowKit SL
namespace SL
theorem Holds.head {B : Nat} {w0 : World} {H1 H2 : Hp} {w : World} {v : Value} {e sz m j : Nat} {xs : List Value} (h : Holds B w0 (H1 ++ .row v e sz xs :: H2) w) (hl : xs.length = m * sz) (hs : 0 < sz) (h0 : 0 < m) (hj : j ≤ m) :
    Holds B w0 (H1 ++ .row (partV sz v 0 j) e sz (xs.take (j * sz)) :: H2) w := by
  obtain ⟨k, h1, h2⟩ := h.row_slice (v := v) (e := e) (sz := sz) (xs := xs) (by simp)
  obtain rfl : k = m := Nat.eq_of_mul_eq_mul_right hs (h1.symm.trans hl)
  rcases h2 with ⟨rfl, rfl⟩ | ⟨gg, cap, cur, rfl, hB, hg, hc, hm, hz, ht⟩
  · omega
  · have e1 : partV sz (.slice (some ⟨gg, 0, none⟩) k cap) 0 j = .slice (some ⟨gg, 0, none⟩) j cap := by
      simp only [partV, if_neg (show ¬ cap = 0 by omega), Option.map_some, add_eq, Nat.zero_add, Nat.zero_mul, Nat.sub_zero]
    rw [e1]
    have hjk : j * sz ≤ k * sz := Nat.mul_le_mul_right _ hj
    refine ⟨h.below, h.base, fun x hx => ?_, ?_⟩
    · rcases List.mem_append.1 hx with hx | hx
      · exact h.ok x (List.mem_append.2 (.inl hx))
      · rcases List.mem_cons.1 hx with rfl | hx
        · refine ⟨j, ?_, .inr ⟨gg, cap, cur, rfl, hB, hg, by omega, hm, hz, ?_⟩⟩
          · rw [List.length_take, hl]; omega
          · rw [← ht, List.take_take, Nat.min_eq_left hjk]
        · exact h.ok x (List.mem_append.2 (.inr (mS hx)))
    · have := h.apart
      unfold owned at *
      rw [List.filterMap_append, List.filterMap_cons] at *
      exact this
end SL
end Go.Proofs.YtmbbcmebdefggaaGreatDoor
namespace Go.Proofs.YtmbbcmebdefggaaGreatDoor
open Go Go.RowKit SL
theorem cfGr_pos (x y : GrB) : 0 < cfGr x y ↔ gLt y x := by
  unfold cfGr cmpI gLt
  repeat' split
  all_goals omega
def isMost (l : List GrB) (m : GrB) : Prop := m ∈ l ∧ ∀ y ∈ l, ¬ gLt m y
theorem isMost.old {l : List GrB} {m x : GrB} {j : Nat} (h : isMost (l.take j) m) (hx : l[j]? = some x) (hc : ¬ gLt m x) : isMost (l.take (j + 1)) m := by
  rw [List.take_add_one, hx, Option.toList_some]
  refine ⟨List.mem_append.2 (.inl h.1), fun y hy => ?_⟩
  rcases List.mem_append.1 hy with hy | hy
  · exact h.2 y hy
  · rw [List.mem_singleton] at hy; subst hy; exact hc
theorem isMost.new {l : List GrB} {m x : GrB} {j : Nat} (h : isMost (l.take j) m) (hx : l[j]? = some x) (hc : gLt m x) : isMost (l.take (j + 1)) x := by
  rw [List.take_add_one, hx, Option.toList_some]
  refine ⟨List.mem_append.2 (.inr (List.mem_singleton.2 rfl)), fun y hy => ?_⟩
  rcases List.mem_append.1 hy with hy | hy
  · exact fun k => h.2 y hy (hc.tr k)
  · rw [List.mem_singleton] at hy; subst hy; exact gLt.irr y
theorem flU (l : List GrB) : (l.flatMap encGr).length = l.length * 2 := fl_len (s := 2) (enc := encGr) (fun _ => rfl) l
set_option maxRecDepth 100000 in
theorem maxU_gives {B : Nat} {w0 : World} {H : Hp} {v : Value} (l : List GrB) (hv : It.row v 108 2 (l.flatMap encGr) ∈ H) (h0 : 0 < l.length) (hl : l.length ≤ 1000000) :
    GivesE Tryz.prog 132 #[v, .func (.func 108) #[] #[]] B w0 H (fun v' H' => H' = H ∧ ∃ m, isMost l m ∧ v' = .agg (encGr m).toArray) := by
  have lf := flU l
  have iv : RB v H 108 2 (l.flatMap encGr) := ⟨hv⟩
  obtain ⟨x0, hx0⟩ : ∃ x, l[0]? = some x := ⟨_, List.getElem?_eq_getElem h0⟩
  have ux0 := encGr_len x0
  have f0 := fl_at (s := 2) (enc := encGr) (fun _ => rfl) hx0
  refine givesE_of (args := [v, .func (.func 108) #[] #[]]) [(0, v), (1, .func (.func 108) #[] #[])] Tryz.func132 rfl Tryz.ntmps132 rfl (argsF_cons rfl (argsF_cons rfl argsF_nil)) ?_
  repeat' (first | (apply Jq_indexRs (i := 0); exact rfl; exact rfl; exact rfl; exact rb; omega) | (apply Jq_move; exact rfl; exact rfl) | (apply Jq_assign; exact rfl; exact rfl) | (apply Jq_cmp; exact rfl; exact rfl; exact rfl; exact rfl) | (apply J_sW; exact rfl; exact rfl; infer_instance; (exact rfl); (exact rfl); (exact ones_of rfl); infer_instance) | (apply Jq_lenRs; exact rfl; exact rfl; (exact rb); exact lf; decide) | (apply Jq_loadRA; exact rfl; exact rfl; (exact rb); (exact f0); (exact rfl); decide) | (apply J_alloc; exact rfl; exact rfl; (intro _)) | refine thenQ_normal ?_ | refine JC_seq ?_ | refine JC_region ?_ | refine J_nil ?_ | refine JC_block ?_ | refine JC_skip ?_ | (apply JC_dec_false; exact rfl; omega))
  rename_i b4 b5
  refine JC_loop (X := Nat × GrB) (fun q => 1 ≤ q.1 ∧ q.1 ≤ l.length ∧ isMost (l.take q.1) q.2) (fun q => [(6, .int .i64 (q.1 : Int)), (5, .pointer (some ⟨b5, 0, none⟩)), (4, .pointer (some ⟨b4, 0, none⟩)), (1, .func (.func 108) #[] #[]), (0, v)]) (fun q => .blk b5 (encGr q.2) 108 :: .blk b4 (encGr (0, 0)) 108 :: H) (fun q => l.length - q.1) (1, x0) ⟨Nat.le_refl _, h0, ?_⟩ ?_ ?_
  · rw [List.take_add_one, hx0]
    exact ⟨by simp, fun y hy => by simp at hy; subst hy; exact gLt.irr y⟩
  · dsimp only
    (refine entP (ent ?_ (List.nil_sublist _)) ?_; (repeat refine fr_cons rfl ?_); exact fr_nil; (repeat (exact sp_refl)))
  · rintro ⟨j, m⟩ ⟨hj1, hj, hm⟩
    dsimp only at hj1 hj hm ⊢
    have um := encGr_len m
    by_cases hlt : j < l.length
    · obtain ⟨x, hx⟩ : ∃ x, l[j]? = some x := ⟨_, List.getElem?_eq_getElem hlt⟩
      have ux := encGr_len x
      have hc := cfGr_pos x m
      have fx := fl_at (s := 2) (enc := encGr) (fun _ => rfl) hx
      by_cases hxm : gLt m x
      · have hneg := hc.2 hxm
        repeat' (first | (apply JC_draw mixed; kernel_rfl) | (apply Jq_move; exact rfl; exact rfl) | (apply Jq_assign; exact rfl; exact rfl) | (apply Jq_cmp; exact rfl; exact rfl; exact rfl; exact rfl) | (apply Jq_add; exact rfl; exact rfl; exact rfl; omega) | (apply Jc; exact rfl; exact rfl; exact rfl; infer_instance; ((intro w hw); exact compareGr_gives x m w)) | (apply Jq_loadW; exact rfl; exact rfl; (exact mb); (exact rfl)) | (apply J_sW; exact rfl; exact rfl; infer_instance; (exact rfl); (exact rfl); (exact ones_of rfl); infer_instance) | (apply Jq_lenRs; exact rfl; exact rfl; (exact rb); exact lf; decide) | (apply Jq_indexRs; exact rfl; exact rfl; exact rfl; (exact rb); omega) | (apply Jq_loadRA; exact rfl; exact rfl; (exact rb); (exact fx); (exact rfl); decide) | refine thenQ_normal ?_ | refine inBlockQ_normal ?_ | refine JC_seq ?_ | refine JC_region ?_ | refine J_nil ?_ | refine JC_block ?_ | refine JC_skip ?_ | (apply JC_dec_true; exact rfl; omega))
        refine ⟨(j + 1, x), ⟨by dsimp only; omega, by dsimp only; omega, hm.new hx hxm⟩, by dsimp only; omega, ?_⟩
        dsimp only
        (refine entP (ent ?_ (List.nil_sublist _)) ?_; (repeat refine fr_cons rfl ?_); exact fr_nil; (repeat (exact sp_refl)))
      · have hneg := fun h => hxm (hc.1 h)
        repeat' (first | (apply JC_draw mixed; kernel_rfl) | (apply Jq_move; exact rfl; exact rfl) | (apply Jq_assign; exact rfl; exact rfl) | (apply Jq_cmp; exact rfl; exact rfl; exact rfl; exact rfl) | (apply Jq_add; exact rfl; exact rfl; exact rfl; omega) | (apply Jc; exact rfl; exact rfl; exact rfl; infer_instance; ((intro w hw); exact compareGr_gives x m w)) | (apply Jq_loadW; exact rfl; exact rfl; (exact mb); (exact rfl)) | (apply Jq_lenRs; exact rfl; exact rfl; (exact rb); exact lf; decide) | (apply Jq_indexRs; exact rfl; exact rfl; exact rfl; (exact rb); omega) | (apply Jq_loadRA; exact rfl; exact rfl; (exact rb); (exact fx); (exact rfl); decide) | refine thenQ_normal ?_ | refine inBlockQ_normal ?_ | refine JC_seq ?_ | refine JC_region ?_ | refine J_nil ?_ | refine JC_block ?_ | refine JC_skip ?_ | (apply JC_dec_true; exact rfl; omega) | (apply JC_dec_false; exact rfl; omega))
        refine ⟨(j + 1, m), ⟨by dsimp only; omega, by dsimp only; omega, hm.old hx hxm⟩, by dsimp only; omega, ?_⟩
        dsimp only
        (refine entP (ent ?_ (List.nil_sublist _)) ?_; (repeat refine fr_cons rfl ?_); exact fr_nil; (repeat (exact sp_refl)))
    · obtain rfl : j = l.length := by omega
      rw [List.take_length] at hm
      repeat' (first | (apply Jq_move; exact rfl; exact rfl) | (apply Jq_cmp; exact rfl; exact rfl; exact rfl; exact rfl) | (apply Jq_loadW; exact rfl; exact rfl; (exact mb); (exact rfl)) | (apply J_sW; exact rfl; exact rfl; infer_instance; (exact rfl); (exact rfl); (exact ones_of rfl); infer_instance) | (apply Jq_lenRs; exact rfl; exact rfl; (exact rb); exact lf; decide) | refine thenQ_normal ?_ | refine thenQ_exit ?_ | refine inBlockQ_here ?_ | refine JC_seq ?_ | refine JC_region ?_ | refine J_nil ?_ | refine JC_ret ?_ | refine JC_exit ?_ | (apply JC_dec_false; exact rfl; omega))
      refine eC (b := b4) rfl rfl rfl (mS m0) um ?_ ⟨rfl, m, hm, rfl⟩
      (refine entP (ent ?_ (List.nil_sublist _)) ?_; (repeat refine fr_cons rfl ?_); exact fr_nil; (repeat (exact sp_end)))
end Go.Proofs.YtmbbcmebdefggaaGreatDoor
namespace Go.Proofs.YtmbbcmebdefggaaGreatDoor
open Go
end Go.Proofs.YtmbbcmebdefggaaGreatDoor
namespace Go.Proofs.YtmbbcmebdefggaaGreatDoor
open Go Go.RowKit SL
/-- The table T tells the numbers F. -/
structure IsT (F : GrB → Int) (T : TB) : Prop where
  nd : (T.map (·.1)).Nodup
  nz : ∀ e ∈ T, e.2 ≠ 0
  val : ∀ g, vT T g = F g
theorem IsT.mem {F : GrB → Int} {T : TB} (h : IsT F T) (e : GrB × Int) : e ∈ T ↔ F e.1 = e.2 ∧ e.2 ≠ 0 := by
  constructor
  · intro he
    exact ⟨by rw [← h.val, vT_mem h.nd he], h.nz e he⟩
  · rintro ⟨h1, h2⟩
    have h3 : e.1 ∈ T.map (·.1) := (vT_in h.nd h.nz).1 (by rw [h.val, h1]; exact h2)
    obtain ⟨q, hq, e1⟩ := List.mem_map.1 h3
    have h4 := vT_mem h.nd hq
    rw [h.val, e1, h1] at h4
    have : q = e := Prod.ext e1 h4.symm
    rw [← this]; exact hq
theorem IsT.ofTab {F : GrB → Int} {T : TB} (h : Tab T) (hv : ∀ g, vT T g = F g) : IsT F T := ⟨by
  rw [List.nodup_iff_pairwise_ne, List.pairwise_map]
  exact h.srt.imp fun {a b} (k : gLt a.1 b.1) (e : a.1 = b.1) => gLt.irr b.1 (by rwa [e] at k), h.nz, hv⟩
/-- The greatest grade. -/
def isTop (F : GrB → Int) (k : GrB) : Prop := F k ≠ 0 ∧ ∀ g, F g ≠ 0 → ¬ gLt k g
theorem isTop.last {F : GrB → Int} {T : TB} (h : Tab T) (hv : ∀ g, vT T g = F g) {e : GrB × Int} (hl : T[T.length - 1]? = some e) : isTop F e.1 := by
  have hi := IsT.ofTab h hv
  have he := List.mem_of_getElem? hl
  refine ⟨by rw [((hi.mem e).1 he).1]; exact h.nz e he, fun g hg => ?_⟩
  have h3 : (g, F g) ∈ T := (hi.mem (g, F g)).2 ⟨rfl, hg⟩
  obtain ⟨i, hi', ei⟩ := List.getElem_of_mem h3
  have hlt : T.length - 1 < T.length := by omega
  rw [List.getElem?_eq_getElem hlt, Option.some.injEq] at hl
  by_cases hij : i = T.length - 1
  · subst hij
    rw [ei] at hl
    subst hl
    exact gLt.irr _
  · have := List.pairwise_iff_getElem.1 h.srt i (T.length - 1) hi' hlt (by omega)
    rw [ei, hl] at this
    exact this.asym
/-- The diagonal of a grade. -/
def dgG (g : GrB) : Int := Int.tdiv g.1 2 - g.2
def isDia (F : GrB → Int) (l : List Int) : Prop := Asc id l ∧ ∀ x, x ∈ l ↔ ∃ g, F g ≠ 0 ∧ dgG g = x
theorem isDia.one {F : GrB → Int} {l m : List Int} (h : isDia F l) (k : isDia F m) : l = m := h.1.ext k.1 fun x => by rw [h.2, k.2]
end Go.Proofs.YtmbbcmebdefggaaGreatDoor
namespace Go.Proofs.YtmbbcmebdefggaaGreatDoor
open Go Go.RowKit SL
theorem tab_exists (F : GrB → Int) : ∀ ks : List GrB, ∃ T, Tab T ∧ ∀ g, vT T g = if g ∈ ks then F g else 0
  | [] => ⟨[], ⟨List.Pairwise.nil, fun e he => absurd he List.not_mem_nil⟩, fun g => by rw [if_neg List.not_mem_nil]; exact vT_nil g⟩
  | k :: ks => by
    obtain ⟨T, h1, h2⟩ := tab_exists F ks
    by_cases hk : k ∈ ks ∨ F k = 0
    · refine ⟨T, h1, fun g => ?_⟩
      rw [h2]
      by_cases e : g = k
      · subst e
        rcases hk with hk | hk
        · rw [if_pos hk, if_pos List.mem_cons_self]
        · rw [hk, ite_self, ite_self]
      · by_cases hg : g ∈ ks
        · rw [if_pos hg, if_pos (List.mem_cons_of_mem _ hg)]
        · rw [if_neg hg, if_neg fun h => (List.mem_cons.1 h).elim e hg]
    · have hk1 : k ∉ ks := fun h => hk (.inl h)
      have hk2 : F k ≠ 0 := fun h => hk (.inr h)
      refine ⟨insT k (F k) T, insT_tab hk2 h1, fun g => ?_⟩
      rw [insT_val h1, h2]
      by_cases e : g = k
      · subst e
        rw [if_neg hk1, if_pos rfl, if_pos List.mem_cons_self]; omega
      · rw [if_neg e, Int.add_zero]
        by_cases hg : g ∈ ks
        · rw [if_pos hg, if_pos (List.mem_cons_of_mem _ hg)]
        · rw [if_neg hg, if_neg fun h => (List.mem_cons.1 h).elim e hg]
/-- The table of a function that is 0 where no state is. -/
theorem tab_of {n : Nat} {X O : List Nat} (h6 : n ≤ 6) (F : GrB → Int) (hs : ∀ g, F g ≠ 0 → cN n X O g ≠ 0) : ∃ T, Tab T ∧ (∀ g, vT T g = F g) ∧ T.length ≤ 720 := by
  obtain ⟨T, h1, h2⟩ := tab_exists F ((stB n).map (grd n X O))
  have hv : ∀ g, vT T g = F g := fun g => by
    rw [h2]
    by_cases hg : g ∈ (stB n).map (grd n X O)
    · rw [if_pos hg]
    · rw [if_neg hg]
      apply Classical.byContradiction
      intro h
      obtain ⟨x, hx, e⟩ := some_st (hs g (Ne.symm h))
      exact hg (List.mem_map.2 ⟨x, hx, e⟩)
  have hi := IsT.ofTab h1 hv
  exact ⟨T, h1, hv, keys_720 h6 hi.nd fun e he => hs _ (by rw [((hi.mem e).1 he).1]; exact h1.nz e he)⟩
/-- No row. -/
def notRow : It → Prop
  | .row _ _ _ _ => False
  | _ => True
end Go.Proofs.YtmbbcmebdefggaaGreatDoor
namespace Go.Proofs.YtmbbcmebdefggaaGreatDoor
open Go Go.RowKit SL
end Go.Proofs.YtmbbcmebdefggaaGreatDoor
namespace Go.Proofs.YtmbbcmebdefggaaGreatDoor
open Go Go.RowKit SL
theorem mem_but {A C : Hp} {y x : It} (h : x ∈ A ++ y :: C) (hne : x ≠ y) : x ∈ A ++ C := by
  rcases List.mem_append.1 h with h | h
  · exact List.mem_append.2 (.inl h)
  · rcases List.mem_cons.1 h with h | h
    · exact absurd h hne
    · exact List.mem_append.2 (.inr h)
theorem mem_mid {A C : Hp} {y x z : It} (h : x ∈ A ++ y :: C) (hne : x ≠ y) : x ∈ A ++ z :: C := by
  rcases List.mem_append.1 h with h | h
  · exact List.mem_append.2 (.inl h)
  · rcases List.mem_cons.1 h with h | h
    · exact absurd h hne
    · exact List.mem_append.2 (.inr (mS h))
theorem notRow_ne {x : It} (h : notRow x) (v : Value) (e sz : Nat) (xs : List Value) : x ≠ .row v e sz xs := fun k => by rw [k] at h; exact h
theorem rowI_ne (v u : Value) (xs ys : List Value) : It.row v 2 1 xs ≠ .row u 50 1 ys := fun h => by
  injection h with _ h2
  exact absurd h2 (by decide)
theorem inT.but {L : LT} {A C : Hp} {u : Value} {ys : List Value} (h : inT L (A ++ .row u 50 1 ys :: C)) : inT L (A ++ C) := fun p hp => mem_but (h p hp) (rowI_ne _ _ _ _)
theorem tab_nodup {T : TB} (h : Tab T) : (T.map (·.1)).Nodup := (IsT.ofTab h fun _ => rfl).nd
theorem tab_front {T : TB} {e : GrB × Int} (h : Tab (T ++ [e])) : Tab T := ⟨(List.pairwise_append.1 h.srt).1, fun x hx => h.nz x (List.mem_append.2 (.inl hx))⟩
theorem tab_last {T : TB} {e : GrB × Int} (h : Tab (T ++ [e])) : ∀ x ∈ T, gLt x.1 e.1 := fun x hx => (List.pairwise_append.1 h.srt).2.2 x hx e (List.mem_singleton.2 rfl)
theorem tab_front_val {T : TB} {e : GrB × Int} (h : Tab (T ++ [e])) (g : GrB) : vT T g = vT (T ++ [e]) g + if g = e.1 then -e.2 else 0 := by
  have h2 := tab_front h
  by_cases hg : g = e.1
  · subst hg
    have h3 : vT (T ++ [e]) e.1 = e.2 := vT_mem (tab_nodup h) (List.mem_append.2 (.inr (List.mem_singleton.2 rfl)))
    have h4 : vT T e.1 = 0 := vT_out fun m => by
      obtain ⟨x, hx, hxe⟩ := List.mem_map.1 m
      have := tab_last h x hx
      rw [hxe] at this
      exact gLt.irr _ this
    rw [if_pos rfl, h3, h4]; omega
  · rw [if_neg hg, Int.add_zero]
    by_cases hm : g ∈ T.map (·.1)
    · obtain ⟨x, hx, rfl⟩ := List.mem_map.1 hm
      rw [vT_mem (tab_nodup h2) hx, vT_mem (tab_nodup h) (List.mem_append.2 (.inl hx))]
    · rw [vT_out hm, vT_out]
      intro m
      rw [List.map_append] at m
      rcases List.mem_append.1 m with m | m
      · exact hm m
      · rw [List.map_cons, List.map_nil, List.mem_singleton] at m; exact hg m
/-- One entry of a half divided table goes over. -/
theorem Dv.one {Q : GrB → Int} {T out : TB} {e : GrB × Int} (hq : ∀ g, 0 ≤ Q g) (hT : Tab (T ++ [e])) (hO : Tab out) (hlt : ∀ x ∈ T ++ [e], ∀ f ∈ out, gLt x.1 f.1) (d : Dv Q (T ++ [e]) out) :
    Tab (insT (dnG e.1) (-e.2) T) ∧ Tab (e :: out) ∧ (∀ x ∈ insT (dnG e.1) (-e.2) T, ∀ f ∈ e :: out, gLt x.1 f.1) ∧ Dv Q (insT (dnG e.1) (-e.2) T) (e :: out) := by
  have hem : e ∈ T ++ [e] := List.mem_append.2 (.inr (List.mem_singleton.2 rfl))
  have hnz : e.2 ≠ 0 := hT.nz e hem
  have hT1 := insT_tab (g := dnG e.1) (k := -e.2) (by omega) (tab_front hT)
  have hO1 : Tab (e :: out) := Tab.mk' (fun x hx => hlt e hem x hx) hO hnz
  have hmax : ∀ x ∈ T ++ [e], ¬ gLt e.1 x.1 := fun x hx h => by
    rcases List.mem_append.1 hx with hx | hx
    · exact (tab_last hT x hx).asym h
    · rw [List.mem_singleton] at hx; subst hx; exact gLt.irr _ h
  have hins : ∀ x ∈ insT (dnG e.1) (-e.2) T, gLt x.1 e.1 := fun x hx => by
    have h1 := ((hT1.mem x).1 hx)
    rw [insT_val (tab_front hT)] at h1
    by_cases hd : x.1 = dnG e.1
    · rw [hd]; exact dn_lt _
    · rw [if_neg hd, Int.add_zero] at h1
      exact tab_last hT x (((tab_front hT).mem x).2 h1)
  refine ⟨hT1, hO1, fun x hx f hf => ?_, d.step hq (k := e.1) (n := e.2) hem hmax (tab_nodup hT1) hT1.nz (fun g => ?_) (tab_nodup hO1) fun f => List.mem_cons⟩
  · rcases List.mem_cons.1 hf with rfl | hf
    · exact hins x hx
    · exact (hins x hx).tr (hlt e hem f hf)
  · rw [insT_val (tab_front hT), tab_front_val hT]
end Go.Proofs.YtmbbcmebdefggaaGreatDoor
namespace Go.Proofs.YtmbbcmebdefggaaGreatDoor
open Go Go.RowKit SL
namespace SL
theorem JC_ones {P : Program} {B : Nat} {w0 : World} {n : Nat} {Q : Po} {F : Fr} {H : Hp} {c : Code} {L : LT} (hin : inT L H) (k : (∀ v ∈ L.map (·.1), v.oneCell' = true) → JC P B w0 n c Q F H) : JC P B w0 n c Q F H := by
  unfold JC at *
  intro a w ha hw
  refine k (fun v hv => ?_) a w ha hw
  obtain ⟨p, hp, rfl⟩ := List.mem_map.1 hv
  obtain ⟨m, _, h2⟩ := hw.row_slice (hin p hp)
  rcases h2 with ⟨h, _⟩ | ⟨_, _, _, h, _⟩ <;> rw [h] <;> rfl
theorem JC_head {P : Program} {B : Nat} {w0 : World} {n : Nat} {Q : Po} {F : Fr} {A H : Hp} {c : Code} {v : Value} {e sz m j : Nat} {xs : List Value} (hm : It.row v e sz xs ∈ H) (hl : xs.length = m * sz) (hs : 0 < sz) (h0 : 0 < m) (hj : j ≤ m)
    (k : ∀ H1 H2, H = H1 ++ .row v e sz xs :: H2 → JC P B w0 n c Q F (A ++ (H1 ++ .row (partV sz v 0 j) e sz (xs.take (j * sz)) :: H2))) : JC P B w0 n c Q F (A ++ H) := by
  obtain ⟨H1, H2, rfl⟩ := List.append_of_mem hm
  unfold JC at *
  intro a w ha hw
  rw [← List.append_assoc] at hw
  have := hw.head hl hs h0 hj
  rw [List.append_assoc] at this
  exact k H1 H2 rfl a w ha this
end SL
theorem snoc_cases {α : Type} (l : List α) : l = [] ∨ ∃ m a, l = m ++ [a] := by
  rcases List.eq_nil_or_concat l with h | ⟨m, a, h⟩
  · exact .inl h
  · exact .inr ⟨m, a, by rw [h, List.concat_eq_append]⟩
theorem sp_front {x y : It} {A C : Hp} : SP (y :: (x :: (A ++ C))) (x :: (A ++ y :: C)) := ⟨_, (List.perm_middle.cons x).trans (List.Perm.swap _ _ _), .refl _⟩
set_option maxRecDepth 100000 in
theorem sdiv_gives {B : Nat} {w0 : World} {H : Hp} (n : Nat) (X O : List Nat) (bX : isB X) (bO : isB O) (h6 : n ≤ 6) (g0 : okG (n : Int) X O) {Q : Nat → GrB → Int} (t : Tower n X O Q) :
    GivesE Tryz.prog 85 #[.agg (gv (n : Int) X O).toArray] B w0 H (fun v' H' => ∃ L : LT, Tab (valsT L) ∧ (∀ g, vT (valsT L) g = Q (n - 1) g) ∧ It.row v' 50 1 (L.map (·.1)) ∈ H' ∧ inT L H' ∧ ∀ x ∈ H, notRow x → x ∈ H') := by
  have ug := gv_len (n := (n : Int)) bX.1 bO.1
  have hn2 := (okG.grd g0).h2
  refine givesE_of (args := [.agg (gv (n : Int) X O).toArray]) [(0, .agg (gv (n : Int) X O).toArray)] Tryz.func85 rfl Tryz.ntmps85 rfl (argsF_cons rfl argsF_nil) ?_
  repeat' (first | (apply JcE; exact rfl; exact rfl; exact rfl; infer_instance; (exact sblocked_gives n X O bX bO h6 g0); (intro v8 H' hV; obtain ⟨L, hTab, hval, hlen, hv8, hin, hsub⟩ := hV)) | (apply Jq_assign; exact rfl; exact rfl) | (apply Jq_loadW; exact rfl; exact rfl; (exact mb); (omega)) | (apply J_box; exact rfl; exact rfl; exact rfl; (intro _)) | refine thenQ_normal ?_ | refine JC_seq ?_ | refine JC_region ?_ | refine J_nil ?_ | refine JC_block ?_)
  rename_i b1
  refine JC_loop (X := Nat × Value × LT × Hp) (fun p => 1 ≤ p.1 ∧ p.1 ≤ n ∧ Tab (valsT p.2.2.1) ∧ (∀ g, vT (valsT p.2.2.1) g = Q (p.1 - 1) g) ∧ p.2.2.1.length ≤ 10000 ∧ It.row p.2.1 50 1 (p.2.2.1.map (·.1)) ∈ p.2.2.2 ∧ inT p.2.2.1 p.2.2.2 ∧ (∀ x ∈ H, notRow x → x ∈ p.2.2.2) ∧ It.blk b1 (gv (n : Int) X O) 28 ∈ p.2.2.2)
    (fun p => [(4, .int .i64 (p.1 : Int)), (3, p.2.1), (1, .pointer (some ⟨b1, 0, none⟩))]) (fun p => p.2.2.2) (fun p => n - p.1) (1, v8, L, H') ⟨Nat.le_refl _, by dsimp only; omega, hTab, fun g => (hval g).trans (t.zero g).symm, hlen, hv8, hin, fun x hx _ => hsub _ (mS hx), hsub _ m0⟩ ?_ ?_
  · dsimp only
    (refine ent ?_ ?_; (repeat refine fr_cons rfl ?_); exact fr_nil; (repeat (exact List.Sublist.refl _)))
  · clear hTab hval hlen hv8 hin hsub
    rintro ⟨k, v3, L2, Hx⟩ ⟨hk1, hkn, hTab2, hval2, hlen2, hv3, hin2, hkeep, hb1⟩
    dsimp only at hk1 hkn hTab2 hval2 hlen2 hv3 hin2 hkeep hb1 ⊢
    have i1 : MB b1 Hx (gv (n : Int) X O) 28 := ⟨hb1⟩
    by_cases hlt : k < n
    · have hqb := fun g => t.bd g0 h6 hlt g
      have hq := fun g => (hqb g).1
      have hsp := t.supp g0 h6 k hlt
      have hsplit : ∀ g, vT (valsT L2) g = Q k g + Q k (upG g) := fun g => by
        have h := t.split (k - 1) (by omega) g
        rw [show k - 1 + 1 = k by omega] at h
        rw [hval2, h]
      repeat' (first | (apply Jq_move; exact rfl; exact rfl) | (apply Jq_assign; exact rfl; exact rfl) | (apply Jq_load; exact rfl; exact rfl; (exact mb); (exact rfl)) | (apply Jq_fieldAddr; exact rfl; exact rfl) | (apply Jq_cmp; exact rfl; exact rfl; exact rfl; exact rfl) | (apply J_lit0; exact rfl; (intro _)) | refine thenQ_normal ?_ | refine JC_seq ?_ | refine JC_region ?_ | refine J_nil ?_ | refine JC_block ?_ | refine JC_skip ?_ | (apply JC_dec_true; exact rfl; omega))
      rename_i b5
      refine JC_cutB (Y := Value × LT × Hp) (fun y => Tab (valsT y.2.1) ∧ (∀ g, vT (valsT y.2.1) g = Q k g) ∧ y.2.1.length ≤ 720 ∧ inT y.2.1 y.2.2 ∧ (∀ x ∈ H, notRow x → x ∈ y.2.2) ∧ It.blk b1 (gv (n : Int) X O) 28 ∈ y.2.2)
        (fun y => [(5, y.1), (4, .int .i64 (k : Int)), (1, .pointer (some ⟨b1, 0, none⟩))]) (fun y => .row y.1 50 1 (y.2.1.map (·.1)) :: y.2.2) ?_ ?_
      · refine JC_loop (X := Value × LT × Value × LT × Hp) (fun p => Tab (valsT p.2.1) ∧ Tab (valsT p.2.2.2.1) ∧ (∀ x ∈ valsT p.2.1, ∀ f ∈ valsT p.2.2.2.1, gLt x.1 f.1) ∧ Dv (Q k) (valsT p.2.1) (valsT p.2.2.2.1) ∧ p.2.1.length ≤ 10000 ∧ It.row p.1 50 1 (p.2.1.map (·.1)) ∈ p.2.2.2.2 ∧ inT p.2.1 p.2.2.2.2 ∧ inT p.2.2.2.1 p.2.2.2.2 ∧ (∀ x ∈ H, notRow x → x ∈ p.2.2.2.2) ∧ It.blk b1 (gv (n : Int) X O) 28 ∈ p.2.2.2.2)
          (fun p => [(3, p.1), (5, p.2.2.1), (4, .int .i64 (k : Int)), (1, .pointer (some ⟨b1, 0, none⟩))]) (fun p => .row p.2.2.1 50 1 (p.2.2.2.1.map (·.1)) :: p.2.2.2.2) (fun p => 721 - p.2.2.2.1.length) (v3, L2, .slice (some ⟨b5, 0, none⟩) 0 0, [], Hx)
          ⟨hTab2, ⟨List.Pairwise.nil, fun e he => absurd he List.not_mem_nil⟩, fun x _ f hf => absurd hf List.not_mem_nil, Dv.start (tab_nodup hTab2) hTab2.nz hsplit, hlen2, hv3, hin2, fun p hp => absurd hp List.not_mem_nil, hkeep, hb1⟩ ?_ ?_
        · dsimp only
          (refine ent ?_ ?_; (repeat refine fr_cons rfl ?_); exact fr_nil; (repeat (exact List.Sublist.refl _)))
        · clear hTab2 hval2 hlen2 hv3 hin2 hkeep hb1 i1 hsplit
          rintro ⟨v3, L, v5, Lo, Hx⟩ ⟨hT, hO, hsep, hd, hlen, hv3, hin, hino, hkeep, hb1⟩
          dsimp only at hT hO hsep hd hlen hv3 hin hino hkeep hb1 ⊢
          have hol := hd.out720 h6 hsp
          have hol2 : Lo.length ≤ 720 := by unfold valsT at hol; rwa [List.length_map] at hol
          have i3 : RB v3 Hx 50 1 (L.map (·.1)) := ⟨hv3⟩
          have l1 : (L.map (·.1)).length = L.length := List.length_map _
          have l1' : (L.map (·.1)).length = L.length * 1 := by rw [l1, Nat.mul_one]
          rcases snoc_cases L with rfl | ⟨L0, ⟨vp, ⟨⟨a, m⟩, c⟩⟩, rfl⟩
          · repeat' (first | (apply Jq_move; exact rfl; exact rfl) | (apply Jq_cmp; exact rfl; exact rfl; exact rfl; exact rfl) | (apply Jq_lenR; exact rfl; exact rfl; (exact rb)) | refine thenQ_normal ?_ | refine thenQ_exit ?_ | refine inBlockQ_here ?_ | refine JC_seq ?_ | refine JC_region ?_ | refine J_nil ?_ | refine JC_exit ?_ | (apply JC_if_false; exact rfl))
            have hq0 := hd.done hq
            refine ⟨(v5, Lo, Hx), ⟨hO, hq0, hol2, hino, hkeep, hb1⟩, ?_⟩
            dsimp only
            (refine ent ?_ ?_; (repeat refine fr_cons rfl ?_); exact fr_nil; (repeat (exact List.Sublist.refl _)))
          · rw [valsT_app] at hT hsep hd
            obtain ⟨k1, k2, k3, k4⟩ := Dv.one hq hT hO hsep hd
            have hbd := hd.bd hqb
            have hem : ((a, m), c) ∈ valsT L0 ++ [((a, m), c)] := List.mem_append.2 (.inr (List.mem_singleton.2 rfl))
            have hkb := hd.keys h6 hq hsp hem
            have hcb : 0 ≤ c ∧ c ≤ 4000 := by have := hbd (a, m); rwa [vT_mem hd.rnd hem] at this
            have hc0 : c ≠ 0 := hT.nz _ hem
            have hsm : smallT L0 1000000000 := small_of (tab_front hT) fun g => by
              rw [tab_front_val hT]
              have := hbd g
              dsimp only
              split <;> omega
            have hlL : (L0 ++ [(vp, ((a, m), c))]).length = L0.length + 1 := by rw [List.length_append]; rfl
            have g1 : ((L0 ++ [(vp, ((a, m), c))]).map (·.1))[L0.length]? = some vp := by
              rw [List.map_append, List.getElem?_append_right (by rw [List.length_map]; exact Nat.le_refl _), List.length_map, Nat.sub_self]; rfl
            have hrow := hin _ (List.mem_append.2 (.inr (List.mem_singleton.2 rfl)))
            dsimp only at hkb hrow
            have ip : RB vp Hx 2 1 [.int .i64 a, .int .i64 m, .int .i64 c] := ⟨hrow⟩
            refine JC_row1' (mS hrow) fun oa ca => ?_
            refine JC_ones (inT.mono hino fun x hx => mS hx) fun ho => ?_
            have lo : (Lo.map (·.1)).length = Lo.length := List.length_map _
            repeat' (first | (apply Jq_subR (r := L0.length); exact rfl; exact rfl; exact rfl; omega; omega) | (apply Jq_partH; exact rfl; exact rfl; exact rfl; exact rb; exact l1'; decide; omega) | (apply J_lit1; exact rfl; exact rfl; exact ca; (intro _)) | (apply J_apR; decide; exact rfl; exact rfl; exact rfl; infer_instance; exact rb; exact ho; ((show (_ + _) * _ ≤ _); (simp only [List.length_cons, List.length_nil, List.length_map]); omega); decide; exact rfl; (intro v33)) | (apply Jq_move; exact rfl; exact rfl) | (apply Jq_assign; exact rfl; exact rfl) | (apply Jq_cmp; exact rfl; exact rfl; exact rfl; exact rfl) | (apply Jq_lenR; exact rfl; exact rfl; (exact rb)) | (apply Jq_indexRN; exact rfl; exact rfl; exact rfl; (exact rb); omega) | (apply Jq_loadR; exact rfl; exact rfl; (exact rb); (exact g1)) | refine thenQ_normal ?_ | refine JC_seq ?_ | refine JC_region ?_ | refine J_nil ?_ | refine JC_block ?_ | refine JC_skip ?_ | (apply JC_dec_true; exact rfl; omega))
            refine JC_head (A := [.row v33 50 1 ([vp] ++ Lo.map (·.1)), .row v5 50 1 (Lo.map (·.1))]) hv3 l1' Nat.one_pos (by omega) (show L0.length ≤ (L0 ++ [(vp, ((a, m), c))]).length by omega) fun H1 H2 hH => ?_
            have htk : ((L0 ++ [(vp, ((a, m), c))]).map (·.1)).take (L0.length * 1) = L0.map (·.1) := by
              rw [List.map_append, List.take_left' (by rw [List.length_map, Nat.mul_one])]
            rw [htk]
            obtain ⟨u3, hu3⟩ : ∃ u, u = partV 1 v3 0 L0.length := ⟨_, rfl⟩
            obtain ⟨Hy, hHy⟩ : ∃ Hy, Hy = H1 ++ .row (partV 1 v3 0 L0.length) 50 1 (L0.map (·.1)) :: H2 := ⟨_, rfl⟩
            have hyu : It.row u3 50 1 (L0.map (·.1)) ∈ Hy := by rw [hHy, hu3]; exact List.mem_append.2 (.inr m0)
            have hm1 : ∀ x ∈ Hx, x ≠ .row v3 50 1 ((L0 ++ [(vp, ((a, m), c))]).map (·.1)) → x ∈ Hy := fun x hx hne => by
              rw [hHy]; rw [hH] at hx; exact mem_mid hx hne
            have hy0 : inT L0 Hy := fun p hp => hm1 _ (hin p (List.mem_append.2 (.inl hp))) (rowI_ne _ _ _ _)
            have hyo : inT Lo Hy := fun p hp => hm1 _ (hino p hp) (rowI_ne _ _ _ _)
            have hyk : ∀ x ∈ H, notRow x → x ∈ Hy := fun x hx hh => hm1 _ (hkeep x hx hh) (notRow_ne hh _ _ _ _)
            have hyb : It.blk b1 (gv (n : Int) X O) 28 ∈ Hy := hm1 _ hb1 (fun h => by cases h)
            have hyr : It.row vp 2 1 [.int .i64 a, .int .i64 m, .int .i64 c] ∈ Hy := hm1 _ hrow (rowI_ne _ _ _ _)
            have hyl : inT ((vp, ((a, m), c)) :: Lo) Hy := fun p hp => by
              rcases List.mem_cons.1 hp with rfl | hp
              · exact hyr
              · exact hyo p hp
            rw [← hHy, ← hu3]
            clear hm1 hH hHy hv3 hin hino hkeep hb1 hrow ip i3 hu3
            have ip : RB vp Hy 2 1 [.int .i64 a, .int .i64 m, .int .i64 c] := ⟨hyr⟩
            have le : [Value.int .i64 a, Value.int .i64 m, Value.int .i64 c].length = 3 := rfl
            have hput := fun (H : Hp) h1 h2 => sputS_gives (B := B) (w0 := w0) (H := H) (v := u3) L0 (a - 2) (m - 1) (-c) (by omega) (tab_front hT) h1 h2 (by omega) (by omega) hsm
            have hfin : ∀ L' : LT, valsT L' = insT (a - 2, m - 1) (-c) (valsT L0) → L'.length ≤ 10000 := fun L' h => by
              have h1 := congrArg List.length h
              have h2 := insT_len (a - 2, m - 1) (-c) (valsT L0)
              unfold valsT at h1 h2
              rw [List.length_map] at h1 h2
              omega
            dsimp only [List.cons_append, List.nil_append]
            refine JC_any (m := 15) rfl [.row vp 2 1 [.int .i64 a, .int .i64 m, .int .i64 c]] mixed (by ((repeat (apply sub_cons; ((focus ((with_reducible (repeat (first | assumption | refine mS ?_))); done))))); exact sub_nil)) ?_
            (apply JF_q 0; exact rfl; kernel_rfl; exact rfl; (intro E hE; (apply q_move; exact rfl)))
            (apply JF_q 1; exact rfl; kernel_rfl; exact rfl; (intro E hE; (apply q_move; exact rfl)))
            (apply JF_q 2; exact rfl; kernel_rfl; exact rfl; (intro E hE; (apply q_indexRN (i := 0); exact rfl; exact rfl; (refine hE _ ?_; exact rb); omega)))
            (apply JF_q 3; exact rfl; kernel_rfl; exact rfl; (intro E hE; (apply q_loadR; exact rfl; (refine hE _ ?_; exact rb); (exact rfl))))
            (apply JF_q 4; exact rfl; kernel_rfl; exact rfl; (intro E hE; (apply q_sub; exact rfl; exact rfl; omega)))
            (apply JF_q 5; exact rfl; kernel_rfl; exact rfl; (intro E hE; (apply q_move; exact rfl)))
            (apply JF_q 6; exact rfl; kernel_rfl; exact rfl; (intro E hE; (apply q_indexRN (i := 1); exact rfl; exact rfl; (refine hE _ ?_; exact rb); omega)))
            (apply JF_q 7; exact rfl; kernel_rfl; exact rfl; (intro E hE; (apply q_loadR; exact rfl; (refine hE _ ?_; exact rb); (exact rfl))))
            (apply JF_q 8; exact rfl; kernel_rfl; exact rfl; (intro E hE; (apply q_sub; exact rfl; exact rfl; omega)))
            (apply JF_q 9; exact rfl; kernel_rfl; exact rfl; (intro E hE; (apply q_move; exact rfl)))
            (apply JF_q 10; exact rfl; kernel_rfl; exact rfl; (intro E hE; (apply q_indexRN (i := 2); exact rfl; exact rfl; (refine hE _ ?_; exact rb); omega)))
            (apply JF_q 11; exact rfl; kernel_rfl; exact rfl; (intro E hE; (apply q_loadR; exact rfl; (refine hE _ ?_; exact rb); (exact rfl))))
            (apply JF_q 12; exact rfl; kernel_rfl; exact rfl; (intro E hE; (apply q_neg; exact rfl; omega)))
            (apply JF_all [13]; kernel_rfl)
            (apply JFs_cons; exact rfl)
            · ((apply JcE; exact rfl; exact rfl; exact rfl; infer_instance; (exact hput _ (mS (mS hyu)) (hy0.mono fun x hx => mS (mS hx))); (intro v' H' hV; obtain ⟨L', H2, hL', rfl, hin2, hs2⟩ := hV)))
              (apply J_nil; apply JF_end; ((repeat (apply sub_cons; (exact mS (hs2 _ (mS (mS hyr)))))); exact sub_nil))
              (apply JF_q 14; exact rfl; kernel_rfl; exact rfl; (intro E hE; (apply q_assign; exact rfl)))
              (apply JF_done; kernel_rfl)
              ((repeat' (first | refine thenQ_normal ?_ | refine inBlockQ_normal ?_)); obtain ⟨P1, P2, rfl⟩ := List.append_of_mem (hs2 _ m0); refine ⟨(v', L', v33, (vp, ((a, m), c)) :: Lo, .row v' 50 1 (L'.map (·.1)) :: (P1 ++ P2)), ⟨(by dsimp only; rw [hL']; exact k1), k2, (by dsimp only; rw [hL']; exact k3), (by dsimp only; rw [hL']; exact k4), hfin _ hL', m0, hin2.but.mono (fun x hx => mS hx), (fun p hp => mS (mem_but (hs2 _ (mS (mS (hyl p hp)))) (rowI_ne _ _ _ _))), (fun x hx hh => mS (mem_but (hs2 _ (mS (mS (hyk x hx hh)))) (notRow_ne hh _ _ _ _))), mS (mem_but (hs2 _ (mS (mS hyb))) (fun h => by cases h))⟩, (by dsimp only; rw [List.length_cons]; omega), ?_⟩; dsimp only; refine entP (ent ?_ (List.nil_sublist _)) sp_front; (repeat refine fr_cons rfl ?_); exact fr_nil)
            exact JFs_nil
      · rintro ⟨v5, L5, Hz⟩ ⟨q1, q2, q3, q4, q5, q6⟩
        dsimp only at q1 q2 q3 q4 q5 q6 ⊢
        have i1 : MB b1 Hz (gv (n : Int) X O) 28 := ⟨q6⟩
        repeat' (first | (apply Jq_move; exact rfl; exact rfl) | (apply Jq_assign; exact rfl; exact rfl) | (apply Jq_add; exact rfl; exact rfl; exact rfl; omega) | refine thenQ_normal ?_ | refine inBlockQ_normal ?_ | refine JC_region ?_ | refine J_nil ?_)
        refine ⟨(k + 1, v5, L5, .row v5 50 1 (L5.map (·.1)) :: Hz), ⟨by dsimp only; omega, by dsimp only; omega, q1, q2, by dsimp only; omega, m0, q4.mono fun x hx => mS hx, fun x hx hh => mS (q5 x hx hh), mS q6⟩, by dsimp only; omega, ?_⟩
        dsimp only
        (refine ent ?_ ?_; (repeat refine fr_cons rfl ?_); exact fr_nil; (repeat (exact List.Sublist.refl _)))
    · obtain rfl : k = n := by omega
      repeat' (first | (apply Jq_move; exact rfl; exact rfl) | (apply Jq_assign; exact rfl; exact rfl) | (apply Jq_load; exact rfl; exact rfl; (exact mb); (exact rfl)) | (apply Jq_fieldAddr; exact rfl; exact rfl) | (apply Jq_cmp; exact rfl; exact rfl; exact rfl; exact rfl) | refine thenQ_normal ?_ | refine thenQ_exit ?_ | refine inBlockQ_here ?_ | refine JC_seq ?_ | refine JC_region ?_ | refine J_nil ?_ | refine JC_ret ?_ | refine JC_exit ?_ | (apply JC_dec_false; exact rfl; omega))
      exact e1 (H' := Hx) rfl rfl rfl (entS fun _ _ h => h) ⟨L2, hTab2, hval2, hv3, hin2, hkeep⟩
end Go.Proofs.YtmbbcmebdefggaaGreatDoor
namespace Go.Proofs.YtmbbcmebdefggaaGreatDoor
open Go Go.RowKit SL
theorem mem_put {R : TB} {k : GrB} {v : Int} {e : GrB × Int} (h : e ∈ putM R k v) : e = (k, v) ∨ e ∈ R := by
  unfold putM at h
  split at h
  · obtain ⟨p, hp, rfl⟩ := List.mem_map.1 h
    split
    · exact .inl rfl
    · exact .inr hp
  · rcases List.mem_append.1 h with h | h
    · exact .inr h
    · exact .inl (List.mem_singleton.1 h)
theorem put_len (R : TB) (k : GrB) (u v : Int) : (putM R k u).length = (putM R k v).length := by
  unfold putM
  split
  · rw [List.length_map, List.length_map]
  · rw [List.length_append, List.length_append]; rfl
theorem put_le (R : TB) (k : GrB) (v : Int) : (putM R k v).length ≤ R.length + 1 := by
  unfold putM
  split
  · rw [List.length_map]; omega
  · rw [List.length_append]; exact Nat.le_refl _
theorem del_len {R : TB} (hn : (R.map (·.1)).Nodup) {e : GrB × Int} (he : e ∈ R) : (delM R e.1).length + 1 = R.length := by
  obtain ⟨j, hj⟩ := List.getElem?_of_mem he
  rw [← delM_erase hn hj rfl, List.length_eraseIdx_of_lt (List.getElem?_eq_some_iff.1 hj).1]
  have := (List.getElem?_eq_some_iff.1 hj).1
  omega
theorem vT_del {R : TB} (hn : (R.map (·.1)).Nodup) (k q : GrB) : vT (delM R k) q = if q = k then 0 else vT R q := by
  by_cases h : q = k
  · rw [if_pos h]
    refine vT_out fun m => ?_
    obtain ⟨e, he, rfl⟩ := List.mem_map.1 m
    exact (delM_mem.1 he).2 h
  · rw [if_neg h]
    by_cases m : q ∈ R.map (·.1)
    · obtain ⟨e, he, rfl⟩ := List.mem_map.1 m
      rw [vT_mem hn he, vT_mem (delM_keys hn) (delM_mem.2 ⟨he, h⟩)]
    · rw [vT_out m]
      refine vT_out fun m' => m ?_
      obtain ⟨e, he, rfl⟩ := List.mem_map.1 m'
      exact List.mem_map.2 ⟨e, (delM_mem.1 he).1, rfl⟩
/-- What is left behind one entry. -/
def leftM (R : TB) (k : GrB) (n : Int) : TB := if vT R (dnG k) - n = 0 then delM (putM (delM R k) (dnG k) (vT R (dnG k) - n)) (dnG k) else putM (delM R k) (dnG k) (vT R (dnG k) - n)
theorem dn_ne (k : GrB) : dnG k ≠ k := fun h => gLt.irr k (by have := dn_lt k; rwa [h] at this)
theorem Dv.left1 {Q : GrB → Int} {R out : TB} (hq : ∀ g, 0 ≤ Q g) (d : Dv Q R out) {k : GrB} {n : Int} (hk : (k, n) ∈ R) (hmax : ∀ e ∈ R, ¬ gLt k e.1) :
    Dv Q (leftM R k n) (putM out k n) ∧ (leftM R k n).length ≤ R.length ∧ (putM out k n).length = out.length + 1 ∧ putM out k n = out ++ [(k, n)] := by
  obtain ⟨p1, p2, p3, p4⟩ := d.pick hq hk hmax
  have hout : putM out k n = out ++ [(k, n)] := by unfold putM; rw [if_neg p3]
  have hn1 := delM_keys (k := k) d.rnd
  have hn2 := putM_nodup hn1 (dnG k) (vT R (dnG k) - n)
  have hv1 : ∀ g, vT (putM (delM R k) (dnG k) (vT R (dnG k) - n)) g = vT R g + (if g = k then -n else 0) + (if g = dnG k then -n else 0) := fun g => by
    rw [vT_put, vT_del d.rnd]
    by_cases h1 : g = dnG k
    · have h2 : g ≠ k := fun e => dn_ne k (by rw [← h1, e])
      rw [if_pos h1, if_neg h2, if_pos h1, h1]; omega
    · rw [if_neg h1, if_neg h1]
      by_cases h2 : g = k
      · rw [if_pos h2, if_pos h2, h2, vT_mem d.rnd hk]; omega
      · rw [if_neg h2, if_neg h2]; omega
  have hl1 := del_len d.rnd hk
  have hl2 := put_le (delM R k) (dnG k) (vT R (dnG k) - n)
  dsimp only at hl1
  refine ⟨d.step hq hk hmax ?_ (fun e he => ?_) (fun g => ?_) (by rw [hout, List.map_append]; exact List.nodup_append.2 ⟨d.ond, by simp, fun a ha b hb e => p3 (by rw [List.map_cons, List.map_nil, List.mem_singleton] at hb; subst hb e; exact ha)⟩) (fun e => by rw [hout, List.mem_append, List.mem_singleton]; exact or_comm), ?_, by rw [hout, List.length_append]; rfl, hout⟩
  · unfold leftM
    split
    · exact delM_keys hn2
    · exact hn2
  · unfold leftM at he
    split at he
    · obtain ⟨h1, h2⟩ := delM_mem.1 he
      rcases mem_put h1 with rfl | h3
      · exact absurd rfl h2
      · exact d.rnz e (delM_mem.1 h3).1
    · rename_i hne
      rcases mem_put he with rfl | h3
      · exact hne
      · exact d.rnz e (delM_mem.1 h3).1
  · unfold leftM
    split
    · rename_i h0
      rw [vT_del hn2]
      by_cases h1 : g = dnG k
      · have h2 : g ≠ k := fun e => dn_ne k (by rw [← h1, e])
        rw [if_pos h1, if_neg h2, if_pos h1, h1]; omega
      · rw [if_neg h1, hv1]
    · exact hv1 g
  · unfold leftM
    split
    · exact Nat.le_trans (List.length_filter_le _ _) (by omega)
    · omega
end Go.Proofs.YtmbbcmebdefggaaGreatDoor
namespace Go.Proofs.YtmbbcmebdefggaaGreatDoor
open Go Go.RowKit SL
set_option maxRecDepth 100000 in
theorem idiv_gives {B : Nat} {w0 : World} {H : Hp} (n : Nat) (X O : List Nat) (bX : isB X) (bO : isB O) (h6 : n ≤ 6) (g0 : okG (n : Int) X O) (hTb : tabI ∈ H) {Q : Nat → GrB → Int} (t : Tower n X O Q) :
    GivesE Tryz.prog 131 #[.agg (gv (n : Int) X O).toArray] B w0 H (fun v' H' => ∃ b M, v' = .map (some b) ∧ IsT (Q (n - 1)) M ∧ M.length ≤ 720 ∧ H' = .obj b (mapO (encM grK zV M)) :: H) := by
  have ug := gv_len (n := (n : Int)) bX.1 bO.1
  have hn2 := (okG.grd g0).h2
  have hbl : ∀ y z : Int, Tryz.prog.built 108 [(0, .int .i64 y), (1, .int .i64 z)] = some (encGr (y, z)).toArray := fun y z => by kernel_rfl
  refine givesE_of (args := [.agg (gv (n : Int) X O).toArray]) [(0, .agg (gv (n : Int) X O).toArray)] Tryz.func131 rfl Tryz.ntmps131 rfl (argsF_cons rfl argsF_nil) ?_
  repeat' (first | (apply JcE; exact rfl; exact rfl; exact rfl; infer_instance; (exact iblocked_gives n X O bX bO h6 g0 (mS hTb)); (intro v' H' hV; obtain ⟨b3, R0, rfl, hnd, hnz, hval, rfl⟩ := hV; have hl0 := (BlT.mk hnd hnz hval).len g0 h6)) | (apply Jq_move; exact rfl; exact rfl) | (apply Jq_assign; exact rfl; exact rfl) | (apply Jq_sub; exact rfl; exact rfl; exact rfl; omega) | (apply Jc; exact rfl; exact rfl; exact rfl; infer_instance; ((intro w hw); exact n_gives n X O w)) | (apply Jq_loadW; exact rfl; exact rfl; (exact mb); (omega)) | (apply J_box; exact rfl; exact rfl; exact rfl; (intro _)) | refine thenQ_normal ?_ | refine JC_seq ?_ | refine JC_region ?_ | refine J_nil ?_ | refine JC_block ?_)
  rename_i b1
  refine JC_loop (X := Nat × TB × Nat) (fun p => p.1 ≤ n - 1 ∧ IsT (Q p.1) p.2.1 ∧ p.2.1.length ≤ 720) (fun p => [(13, .int .i64 (p.1 : Int)), (12, .int .i64 ((n : Int) - 1)), (3, .map (some p.2.2)), (1, .pointer (some ⟨b1, 0, none⟩))]) (fun p => .obj p.2.2 (mapO (encM grK zV p.2.1)) :: .blk b1 (gv (n : Int) X O) 28 :: H) (fun p => n - p.1) (0, R0, b3) ⟨Nat.zero_le _, ⟨hnd, hnz, fun g => (hval g).trans (t.zero g).symm⟩, hl0⟩ ?_ ?_
  · dsimp only
    (refine entP (ent ?_ (List.nil_sublist _)) ?_; (repeat refine fr_cons rfl ?_); exact fr_nil; (repeat (exact sp_refl)))
  · clear hnd hnz hval hl0
    rintro ⟨k, R, b⟩ ⟨hk, hR, hl⟩
    dsimp only at hk hR hl ⊢
    by_cases hlt : k < n - 1
    · have hqb := fun g => t.bd g0 h6 (show k + 1 < n by omega) g
      have hq := fun g => (hqb g).1
      have hsp := t.supp g0 h6 (k + 1) (by omega)
      have hsplit : ∀ g, vT R g = Q (k + 1) g + Q (k + 1) (upG g) := fun g => by rw [hR.val, t.split k (by omega) g]
      have eR : mapO (encM grK zV R) = mapS (encM grK zV R) (List.range R.length) R.length := by rw [mapO_S, encM_len]
      rw [eR]
      repeat' (first | (apply J_makeMap; exact rfl; (intro _)) | (apply Jq_assign; exact rfl; exact rfl) | (apply Jq_cmp; exact rfl; exact rfl; exact rfl; exact rfl) | refine thenQ_normal ?_ | refine JC_seq ?_ | refine JC_region ?_ | refine J_nil ?_ | refine JC_block ?_ | refine JC_skip ?_ | (apply JC_dec_true; exact rfl; omega))
      rename_i b4
      refine JC_cutB (Y := TB) (fun T => IsT (Q (k + 1)) T ∧ T.length ≤ 720) (fun _ => [(4, .map (some b4)), (13, .int .i64 (k : Int)), (12, .int .i64 ((n : Int) - 1)), (1, .pointer (some ⟨b1, 0, none⟩))]) (fun T => .obj b4 (mapO (encM grK zV T)) :: .blk b1 (gv (n : Int) X O) 28 :: H) ?_ ?_
      · refine JC_loop (X := TB × List Nat × Nat × TB) (fun p => StOK p.2.1 p.2.2.1 p.1.length ∧ Dv (Q (k + 1)) p.1 p.2.2.2 ∧ p.1.length ≤ 720) (fun p => [(3, .map (some b)), (4, .map (some b4)), (13, .int .i64 (k : Int)), (12, .int .i64 ((n : Int) - 1)), (1, .pointer (some ⟨b1, 0, none⟩))]) (fun p => .obj b (mapS (encM grK zV p.1) p.2.1 p.2.2.1) :: .obj b4 (mapO (encM grK zV p.2.2.2)) :: .blk b1 (gv (n : Int) X O) 28 :: H) (fun p => 721 - p.2.2.2.length) (R, List.range R.length, R.length, []) ⟨StOK.range _, Dv.start hR.nd hR.nz hsplit, hl⟩ ?_ ?_
        · dsimp only [encM, List.map_nil]
          (refine entP (ent ?_ (List.nil_sublist _)) ?_; (repeat refine fr_cons rfl ?_); exact fr_nil; (repeat (first | exact sp_refl | (with_reducible apply sp1))))
        · clear hR hl eR hsplit
          rintro ⟨R, s, c, out⟩ ⟨hst, hd, hl⟩
          dsimp only at hst hd hl ⊢
          have ho := hd.out720 h6 hsp
          by_cases h0 : R.length = 0
          · obtain rfl := List.eq_nil_of_length_eq_zero h0
            repeat' (first | (apply Jq_lenTS; exact hst; exact rfl; exact rfl; exact mo) | (apply Jq_move; exact rfl; exact rfl) | (apply Jq_cmp; exact rfl; exact rfl; exact rfl; exact rfl) | refine thenQ_normal ?_ | refine thenQ_exit ?_ | refine inBlockQ_here ?_ | refine JC_seq ?_ | refine JC_region ?_ | refine J_nil ?_ | refine JC_exit ?_ | (apply JC_if_false; exact rfl))
            refine ⟨out, ⟨⟨hd.ond, hd.onz, hd.done hq⟩, ho⟩, ?_⟩
            (refine entP (ent ?_ (List.nil_sublist _)) ?_; (repeat refine fr_cons rfl ?_); exact fr_nil; (repeat (exact sp_end)))
          · repeat' (first | (apply Jq_lenTS; exact hst; exact rfl; exact rfl; exact mo) | (apply JcE; exact rfl; exact rfl; exact rfl; infer_instance; (exact mapKeysB_gives b); (intro v' H' hV; obtain ⟨Bm, rfl, rfl⟩ := hV)) | (apply JcE; exact rfl; exact rfl; exact rfl; infer_instance; (exact collectB_gives hst (mS m0) m0 (by omega)); (intro vs H' hV; obtain ⟨ss, hp, rfl⟩ := hV; have hss := hp.length_eq; rw [List.length_map] at hss)) | (apply JcE; exact rfl; exact rfl; exact rfl; infer_instance; (exact maxU_gives ss m0 (by omega) (by omega)); (intro vm H' hV; obtain ⟨rfl, q, hmq, rfl⟩ := hV)) | (apply Jq_move; exact rfl; exact rfl) | (apply Jq_cmp; exact rfl; exact rfl; exact rfl; exact rfl) | (apply Jq_loadW; exact rfl; exact rfl; (exact mb); (exact rfl)) | (apply J_sW; exact rfl; exact rfl; infer_instance; (exact rfl); (exact rfl); (exact ones_of rfl); infer_instance) | (apply J_alloc (cs := encGr (0, 0)); exact rfl; exact rfl; (intro _)) | refine thenQ_normal ?_ | refine JC_seq ?_ | refine JC_region ?_ | refine J_nil ?_ | refine JC_block ?_ | refine JC_skip ?_ | (apply JC_dec_true; exact rfl; omega))
            rename_i b5
            obtain ⟨⟨q', nn⟩, hqn, hqe⟩ := List.mem_map.1 (hp.mem_iff.1 hmq.1)
            have hqe' : q' = q := hqe
            clear hqe
            subst hqe'
            obtain ⟨a, m⟩ := q'
            have hmax : ∀ e ∈ R, ¬ gLt (a, m) e.1 := fun e he => hmq.2 e.1 (hp.mem_iff.2 (List.mem_map.2 ⟨e, he, rfl⟩))
            have hkey := hd.pkey h6 hq hsp hqn hmax
            have hb1 := hd.bd hqb (a, m)
            have hb2 := hd.bd hqb (a - 2, m - 1)
            have hvq : vT R (a, m) = nn := vT_mem hd.rnd hqn
            obtain ⟨l1, l2, l3, l4⟩ := hd.left1 hq hqn hmax
            have hlk : ((lkM R (a, m)).map zV).getD (.int .i64 0) = .int .i64 nn := by rw [← hvq]; unfold vT; cases lkM R (a, m) <;> rfl
            have hv1 : vT (delM R (a, m)) (a - 2, m - 1) = vT R (a - 2, m - 1) := (vT_del hd.rnd _ _).trans (if_neg (dn_ne (a, m)))
            have hn1 := delM_keys (k := (a, m)) hd.rnd
            have hrd := hd.rnd
            have hod := hd.ond
            have hle : leftM R (a, m) nn = if vT R (a - 2, m - 1) - nn = 0 then delM (putM (delM R (a, m)) (a - 2, m - 1) (vT R (a - 2, m - 1) - nn)) (a - 2, m - 1) else putM (delM R (a, m)) (a - 2, m - 1) (vT R (a - 2, m - 1) - nn) := rfl
            generalize leftM R (a, m) nn = R3 at *
            rw [hvq] at hb1
            generalize vT R (a - 2, m - 1) = v1 at *
            clear hp hmq hss
            dsimp only at hkey
            repeat' (first | (apply Jq_lookTS (eV := zV) (E := kencGr) (k := (a, m)) (hs := hst); exact rfl; exact rfl; exact rfl; exact mo; exact hrd; exact hlk) | (apply J_delTS (k := (a, m)) (eV := zV) (E := kencGr) (hs := hst); exact rfl; exact rfl; infer_instance; exact rfl; exact hrd; (intro s1 hst1)) | (apply J_updT (k := (a, m)) (v := nn) (eV := zV) (E := kencGr); exact rfl; exact rfl; exact rfl; infer_instance; exact rfl; exact hod; exact l4) | (apply Jq_buildE; exact rfl; exact rfl; exact hbl _ _) | (apply Jq_move; exact rfl; exact rfl) | (apply Jq_assign; exact rfl; exact rfl) | (apply Jq_load; exact rfl; exact rfl; (exact mb); (exact rfl)) | (apply Jq_fieldAddr; exact rfl; exact rfl) | (apply Jq_sub; exact rfl; exact rfl; exact rfl; omega) | (apply Jq_loadW; exact rfl; exact rfl; (exact mb); (exact rfl)) | (apply J_sW; exact rfl; exact rfl; infer_instance; (exact rfl); (exact rfl); (exact ones_of rfl); infer_instance) | (apply J_alloc (cs := encGr (0, 0)); exact rfl; exact rfl; (intro _)) | refine thenQ_normal ?_ | refine JC_seq ?_ | refine JC_region ?_ | refine J_nil ?_)
            rename_i b7
            dsimp only
            obtain ⟨R1, hR1⟩ : ∃ R1, R1 = delM R (a, m) := ⟨_, rfl⟩
            rw [← hR1] at hn1 hle hv1 hst1 ⊢
            clear hR1
            have hlkA : ((lkM R1 (a - 2, m - 1)).map zV).getD (.int .i64 0) = .int .i64 v1 := by rw [← hv1]; unfold vT; cases lkM R1 (a - 2, m - 1) <;> rfl
            have hlkB : ((lkM (putM R1 (a - 2, m - 1) ((lkM R1 (a - 2, m - 1)).getD 0)) (a - 2, m - 1)).map zV).getD (.int .i64 0) = .int .i64 v1 := by rw [lkM_put, if_pos rfl, ← hv1]; rfl
            have hlkC : ((lkM (putM R1 (a - 2, m - 1) (v1 - nn)) (a - 2, m - 1)).map zV).getD (.int .i64 0) = .int .i64 (v1 - nn) := by rw [lkM_put, if_pos rfl]; rfl
            have hn2' := putM_nodup hn1 (a - 2, m - 1) ((lkM R1 (a - 2, m - 1)).getD 0)
            have hn3 := putM_nodup hn1 (a - 2, m - 1) (v1 - nn)
            refine JC_cutT (Y := List Nat × Nat) (fun y => StOK y.1 y.2 (putM R1 (a - 2, m - 1) (v1 - nn)).length) (fun _ => [(7, .pointer (some ⟨b7, 0, none⟩)), (6, .int .i64 nn), (5, .pointer (some ⟨b5, 0, none⟩)), (4, .map (some b4)), (3, .map (some b)), (13, .int .i64 (k : Int)), (12, .int .i64 ((n : Int) - 1)), (1, .pointer (some ⟨b1, 0, none⟩))]) (fun y => .blk b7 (encGr (a - 2, m - 1)) 108 :: .blk b5 (encGr (a, m)) 108 :: .obj b (mapS (encM grK zV (putM R1 (a - 2, m - 1) (v1 - nn))) y.1 y.2) :: .obj b4 (mapO (encM grK zV (out ++ [((a, m), nn)]))) :: .blk b1 (gv (n : Int) X O) 28 :: H) ?_ ?_
            ·
              refine JC_any (m := 8) rfl [.blk b7 (encGr (a - 2, m - 1)) 108] mixed (by ((repeat (apply sub_cons; (focus ((with_reducible (repeat (exact m0))); done)))); exact sub_nil)) ?_
              (apply JF_q 0; exact rfl; kernel_rfl; exact rfl; (intro E hE; (apply q_move; exact rfl)))
              (apply JF_q 1; exact rfl; kernel_rfl; exact rfl; (intro E hE; (apply q_loadW; exact rfl; (refine hE _ ?_; exact mb); (exact rfl))))
              (apply JF_q 3; exact rfl; kernel_rfl; exact rfl; (intro E hE; (apply q_move; exact rfl)))
              (apply JF_all [2, 5]; kernel_rfl)
              (apply JFs_cons; exact rfl)
              · (apply Jq_lookTS (hs := hst1) (eV := zV) (E := kencGr); exact rfl; exact rfl; exact rfl; exact mo; exact hn1; exact hlkA)
                (apply J_nil; apply JF_end; ((repeat (apply sub_cons; (focus ((with_reducible (repeat (exact m0))); done)))); exact sub_nil))
                (apply JF_q 4; exact rfl; kernel_rfl; exact rfl; (intro E hE; (apply q_sub; exact rfl; exact rfl; omega)))
                (apply JF_all [5]; kernel_rfl)
                (apply JFs_cons; exact rfl)
                · (apply J_entTS (hs := hst1) (u0 := 0) (eV := zV) (E := kencGr); exact rfl; exact rfl; exact rfl; infer_instance; exact rfl; exact hn1; exact rfl; (intro s2 c2 j hst2 hj))
                  (apply J_nil; apply JF_end; ((repeat (apply sub_cons; (focus ((with_reducible (repeat (exact m0))); done)))); exact sub_nil))
                  (apply JF_q 6; exact rfl; kernel_rfl; exact rfl; (intro E hE; (apply q_extract; exact rfl; exact rfl)))
                  (apply JF_all [7]; kernel_rfl)
                  (apply JFs_cons; exact rfl)
                  · (apply J_estTS (hs := hst2) (eV := zV) (E := kencGr) (v := v1 - nn); exact rfl; exact rfl; exact rfl; infer_instance; exact rfl; exact hn1; exact hj; exact rfl)
                    (apply J_nil; apply JF_end; ((repeat (apply sub_cons; (focus ((with_reducible (repeat (exact m0))); done)))); exact sub_nil))
                    (apply JF_done; kernel_rfl)
                    ((repeat' (refine thenQ_normal ?_)); refine ⟨(s2, c2), (by dsimp only; rw [put_len R1 (a - 2, m - 1) (v1 - nn) ((lkM R1 (a - 2, m - 1)).getD 0)]; exact hst2), ?_⟩; dsimp only; (refine entP (ent ?_ (List.nil_sublist _)) ?_; (repeat refine fr_cons rfl ?_); exact fr_nil; (repeat (first | exact sp_end | (with_reducible apply sp0)))))
                  exact JFs_nil
                exact JFs_nil
              (apply JFs_cons; exact rfl)
              · (apply J_entTS (hs := hst1) (u0 := 0) (eV := zV) (E := kencGr); exact rfl; exact rfl; exact rfl; infer_instance; exact rfl; exact hn1; exact rfl; (intro s2 c2 j hst2 hj))
                (apply J_nil; apply JF_end; ((repeat (apply sub_cons; (focus ((with_reducible (repeat (exact m0))); done)))); exact sub_nil))
                (apply JF_q 6; exact rfl; kernel_rfl; exact rfl; (intro E hE; (apply q_extract; exact rfl; exact rfl)))
                (apply JF_all [2]; kernel_rfl)
                (apply JFs_cons; exact rfl)
                · (apply Jq_lookTS (hs := hst2) (eV := zV) (E := kencGr); exact rfl; exact rfl; exact rfl; exact mo; exact hn2'; exact hlkB)
                  (apply J_nil; apply JF_end; ((repeat (apply sub_cons; (focus ((with_reducible (repeat (exact m0))); done)))); exact sub_nil))
                  (apply JF_q 4; exact rfl; kernel_rfl; exact rfl; (intro E hE; (apply q_sub; exact rfl; exact rfl; omega)))
                  (apply JF_all [7]; kernel_rfl)
                  (apply JFs_cons; exact rfl)
                  · (apply J_estTS (hs := hst2) (eV := zV) (E := kencGr) (v := v1 - nn); exact rfl; exact rfl; exact rfl; infer_instance; exact rfl; exact hn1; exact hj; exact rfl)
                    (apply J_nil; apply JF_end; ((repeat (apply sub_cons; (focus ((with_reducible (repeat (exact m0))); done)))); exact sub_nil))
                    (apply JF_done; kernel_rfl)
                    ((repeat' (refine thenQ_normal ?_)); refine ⟨(s2, c2), (by dsimp only; rw [put_len R1 (a - 2, m - 1) (v1 - nn) ((lkM R1 (a - 2, m - 1)).getD 0)]; exact hst2), ?_⟩; dsimp only; (refine entP (ent ?_ (List.nil_sublist _)) ?_; (repeat refine fr_cons rfl ?_); exact fr_nil; (repeat (first | exact sp_end | (with_reducible apply sp0)))))
                  exact JFs_nil
                exact JFs_nil
              exact JFs_nil
            rintro ⟨s2, c2⟩ hst2
            dsimp only at hst2 ⊢
            have hol : out.length + 1 ≤ 720 := by
              have := l1.out720 h6 hsp
              rwa [l3] at this
            by_cases hz : v1 - nn = 0
            · rw [if_pos hz] at hle
              repeat' (first | (apply Jq_lookTS (hs := hst2) (eV := zV) (E := kencGr); exact rfl; exact rfl; exact rfl; exact mo; exact hn3; exact hlkC) | (apply J_delTS (k := (a - 2, m - 1)) (eV := zV) (E := kencGr) (hs := hst2); exact rfl; exact rfl; infer_instance; exact rfl; exact hn3; (intro s3 hst3)) | (apply Jq_move; exact rfl; exact rfl) | (apply Jq_load; exact rfl; exact rfl; (exact mb); (exact rfl)) | (apply Jq_fieldAddr; exact rfl; exact rfl) | (apply Jq_cmp; exact rfl; exact rfl; exact rfl; exact rfl) | (apply Jq_loadW; exact rfl; exact rfl; (exact mb); (exact rfl)) | refine thenQ_normal ?_ | refine inBlockQ_normal ?_ | refine JC_seq ?_ | refine JC_region ?_ | refine J_nil ?_ | refine JC_skip ?_ | (apply JC_dec_true; exact rfl; omega) | (apply JC_dec_false; exact rfl; omega))
              all_goals first
                | (exfalso; omega)
                | (refine ⟨(R3, s3, c2, out ++ [((a, m), nn)]), ⟨by dsimp only; rw [hle]; exact hst3, by dsimp only; rw [← l4]; exact l1, by dsimp only; omega⟩, by dsimp only; rw [List.length_append, List.length_singleton]; omega, ?_⟩; dsimp only; rw [hle]; (refine entP (ent ?_ (List.nil_sublist _)) ?_; (repeat refine fr_cons rfl ?_); exact fr_nil; (repeat (exact sp_end))))
            · rw [if_neg hz] at hle
              repeat' (first | (apply Jq_lookTS (hs := hst2) (eV := zV) (E := kencGr); exact rfl; exact rfl; exact rfl; exact mo; exact hn3; exact hlkC) | (apply Jq_move; exact rfl; exact rfl) | (apply Jq_load; exact rfl; exact rfl; (exact mb); (exact rfl)) | (apply Jq_fieldAddr; exact rfl; exact rfl) | (apply Jq_cmp; exact rfl; exact rfl; exact rfl; exact rfl) | (apply Jq_loadW; exact rfl; exact rfl; (exact mb); (exact rfl)) | refine thenQ_normal ?_ | refine inBlockQ_normal ?_ | refine JC_seq ?_ | refine JC_region ?_ | refine J_nil ?_ | refine JC_skip ?_ | (apply JC_dec_false; exact rfl; omega))
              all_goals first
                | (exfalso; omega)
                | (refine ⟨(R3, s2, c2, out ++ [((a, m), nn)]), ⟨by dsimp only; rw [hle]; exact hst2, by dsimp only; rw [← l4]; exact l1, by dsimp only; omega⟩, by dsimp only; rw [List.length_append, List.length_singleton]; omega, ?_⟩; dsimp only; rw [hle]; (refine entP (ent ?_ (List.nil_sublist _)) ?_; (repeat refine fr_cons rfl ?_); exact fr_nil; (repeat (exact sp_end))))
      · intro T hT
        repeat' (first | (apply Jq_move; exact rfl; exact rfl) | (apply Jq_assign; exact rfl; exact rfl) | (apply Jq_add; exact rfl; exact rfl; exact rfl; omega) | refine thenQ_normal ?_ | refine inBlockQ_normal ?_ | refine JC_region ?_ | refine J_nil ?_)
        refine ⟨(k + 1, T, b4), ⟨by dsimp only; omega, hT.1, hT.2⟩, by dsimp only; omega, ?_⟩
        dsimp only
        (refine entP (ent ?_ (List.nil_sublist _)) ?_; (repeat refine fr_cons rfl ?_); exact fr_nil; (repeat (exact sp_refl)))
    · obtain rfl : k = n - 1 := by omega
      repeat' (first | (apply Jq_move; exact rfl; exact rfl) | (apply Jq_assign; exact rfl; exact rfl) | (apply Jq_cmp; exact rfl; exact rfl; exact rfl; exact rfl) | refine thenQ_normal ?_ | refine thenQ_exit ?_ | refine inBlockQ_here ?_ | refine JC_seq ?_ | refine JC_region ?_ | refine J_nil ?_ | refine JC_ret ?_ | refine JC_exit ?_ | (apply JC_dec_false; exact rfl; omega))
      refine e1 (H' := .obj b (mapO (encM grK zV R)) :: H) rfl rfl rfl ?_ ⟨b, R, rfl, hR, hl, rfl⟩
      (refine entP (ent ?_ (List.nil_sublist _)) ?_; (repeat refine fr_cons rfl ?_); exact fr_nil; (repeat (first | exact sp_end | (with_reducible apply sp0))))
end Go.Proofs.YtmbbcmebdefggaaGreatDoor
namespace Go.Proofs.YtmbbcmebdefggaaGreatDoor
open Go Go.RowKit SL
/-- The code that both hand back. -/
noncomputable def kcode (n : Int) (X O : List Nat) : Int := if codeS n X O [] = 0 then (if comps n.toNat X O = 1 then 0 else 5) else codeS n X O []
theorem kcode_cases {n : Int} {X O : List Nat} {c : Int} (hc : kcode n X O = c) : (c = 0 ∧ okG n X O ∧ n ≤ 6 ∧ comps n.toNat X O = 1) ∨ (c ≠ 0 ∧ ((c = 5 ∧ okG n X O ∧ n ≤ 6 ∧ comps n.toNat X O ≠ 1) ∨ ((¬ okG n X O ∧ c = 1) ∨ (okG n X O ∧ 6 < n ∧ c = 2)))) := by
  unfold kcode at hc
  rcases codeS_none (n := n) (X := X) (O := O) rfl with ⟨h0, g, h6⟩ | h
  · rw [if_pos h0] at hc
    by_cases h1 : comps n.toNat X O = 1
    · rw [if_pos h1] at hc
      exact .inl ⟨hc.symm, g, h6, h1⟩
    · rw [if_neg h1] at hc
      exact .inr ⟨by omega, .inl ⟨hc.symm, g, h6, h1⟩⟩
  · have h0 : codeS n X O [] ≠ 0 := by
      rcases h with ⟨_, h⟩ | ⟨_, _, h⟩ <;> rw [h] <;> decide
    rw [if_neg h0] at hc
    rw [hc] at h h0
    exact .inr ⟨h0, .inr h⟩
set_option maxRecDepth 100000 in
theorem l04knot_gives (n : Nat) (X O : List Nat) (bX : isB X) (bO : isB O) (g : okG (n : Int) X O) (w : World) :
    Gives Tryz.prog 129 #[.agg (gv n X O).toArray] (.int .i64 (if comps n X O = 1 then 0 else 5)) w := by
  have ug := gv_len (n := n) bX.1 bO.1
  have lz : (i64s Z8).length = 8 := rfl
  have hcomp := lcomponents_gives n X O bX bO g
  generalize comps n X O = c at *
  refine gives_of (args := [.agg (gv n X O).toArray]) [(0, .agg (gv n X O).toArray)] [] Tryz.func129 rfl Tryz.ntmps129 rfl (argsF_cons rfl argsF_nil) (Holds.start w) ?_
  by_cases h : c = 1
  · rw [if_pos h]
    repeat' (first | (apply JcN (N := compS c); exact rfl; exact rfl; exact rfl; infer_instance; (intro w _; exact hcomp w); (intro v its h; obtain ⟨rfl, _⟩ := h; intro x hx; cases hx); (intro v its hV; obtain ⟨rfl, L, rfl, lL⟩ := hV; have uL := i64m_len L; simp only [List.nil_append])) | (apply Jq_move; exact rfl; exact rfl) | (apply Jq_assign; exact rfl; exact rfl) | (apply Jq_cmp; exact rfl; exact rfl; exact rfl; exact rfl) | (apply Jq_not; exact rfl; exact rfl) | (apply Jc; exact rfl; exact rfl; exact rfl; infer_instance; ((intro w hw); exact l01Is_gives n X O bX bO w)) | (apply Jq_loadW; exact rfl; exact rfl; (exact mb); (omega)) | (apply J_sW; exact rfl; exact rfl; infer_instance; (exact rfl); (omega); (exact i64m_one _); infer_instance) | (apply Jq_ext20; exact rfl; exact rfl) | (apply Jq_ext21; exact rfl; exact rfl) | (apply J_box; exact rfl; exact rfl; exact rfl; (intro _)) | (apply J_alloc (cs := i64s Z8); exact rfl; exact rfl; (intro _)) | refine thenQ_normal ?_ | refine JC_seq ?_ | refine JC_region ?_ | refine J_nil ?_ | refine JC_skip ?_ | refine JC_ret ?_ | (apply JC_ndec_false; exact rfl; omega))
    all_goals first
      | (exfalso; omega)
      | (exfalso; rename_i hg; simp [g] at hg; done)
      | exact g1 rfl rfl rfl rfl
  · rw [if_neg h]
    repeat' (first | (apply JcN (N := compS c); exact rfl; exact rfl; exact rfl; infer_instance; (intro w _; exact hcomp w); (intro v its h; obtain ⟨rfl, _⟩ := h; intro x hx; cases hx); (intro v its hV; obtain ⟨rfl, L, rfl, lL⟩ := hV; have uL := i64m_len L; simp only [List.nil_append])) | (apply Jq_move; exact rfl; exact rfl) | (apply Jq_assign; exact rfl; exact rfl) | (apply Jq_cmp; exact rfl; exact rfl; exact rfl; exact rfl) | (apply Jq_not; exact rfl; exact rfl) | (apply Jc; exact rfl; exact rfl; exact rfl; infer_instance; ((intro w hw); exact l01Is_gives n X O bX bO w)) | (apply Jq_loadW; exact rfl; exact rfl; (exact mb); (omega)) | (apply J_sW; exact rfl; exact rfl; infer_instance; (exact rfl); (omega); (exact i64m_one _); infer_instance) | (apply Jq_ext20; exact rfl; exact rfl) | (apply Jq_ext21; exact rfl; exact rfl) | (apply J_box; exact rfl; exact rfl; exact rfl; (intro _)) | (apply J_alloc (cs := i64s Z8); exact rfl; exact rfl; (intro _)) | refine thenQ_normal ?_ | refine thenQ_ret ?_ | refine JC_seq ?_ | refine JC_region ?_ | refine J_nil ?_ | refine JC_skip ?_ | refine JC_ret ?_ | (apply JC_ndec_true; exact rfl; omega) | (apply JC_ndec_false; exact rfl; omega))
    all_goals first
      | (exfalso; omega)
      | (exfalso; rename_i hg; simp [g] at hg; done)
      | exact g1 rfl rfl rfl rfl
set_option maxRecDepth 100000 in
theorem lknot_gives {B : Nat} {w0 : World} {H : Hp} (n : Int) (X O : List Nat) (bX : isB X) (bO : isB O) {c : Int} (hc : kcode n X O = c) :
    GivesM Tryz.prog 84 #[.agg (gv n X O).toArray] B w0 H (.int .i64 c) H := by
  have ug := gv_len (n := n) bX.1 bO.1
  unfold kcode at hc
  by_cases h0 : codeS n X O [] = 0
  · rw [if_pos h0] at hc
    rcases codeS_none (n := n) (X := X) (O := O) rfl with ⟨_, g, h6⟩ | h
    · obtain ⟨k, rfl⟩ := okG_nat g
      rw [Int.toNat_natCast] at hc
      have hk := l04knot_gives k X O bX bO g
      rw [hc] at hk
      refine givesM_of (args := [.agg (gv (k : Int) X O).toArray]) [(0, .agg (gv (k : Int) X O).toArray)] Tryz.func84 rfl Tryz.ntmps84 rfl (argsF_cons rfl argsF_nil) ?_
      refine JC_nilrow (e := 35) (sz := 1) ?_
      repeat' (first | (apply Jq_move; exact rfl; exact rfl) | (apply Jq_assign; exact rfl; exact rfl) | (apply Jq_cmp; exact rfl; exact rfl; exact rfl; exact rfl) | (apply Jc; exact rfl; exact rfl; exact rfl; infer_instance; ((intro w hw); exact hk w)) | (apply Jq_loadW; exact rfl; exact rfl; (exact mb); (omega)) | (apply JqM; exact rfl; exact rfl; exact rfl; infer_instance; (exact lcode_is k X O bX bO [] (mS m0) (fun p hp => absurd hp List.not_mem_nil) (Nat.le_of_ble_eq_true rfl) h0)) | (apply J_box; exact rfl; exact rfl; exact rfl; (intro _)) | refine thenQ_normal ?_ | refine JC_seq ?_ | refine JC_region ?_ | refine J_nil ?_ | refine JC_skip ?_ | refine JC_ret ?_ | (apply JC_if_false; exact rfl))
      refine SL.m1 rfl rfl rfl rfl ?_
      (refine ent ?_ ?_; (repeat refine fr_cons rfl ?_); exact fr_nil; (repeat (first | exact List.Sublist.refl _ | refine List.Sublist.cons _ ?_)))
    · exfalso
      rcases h with ⟨_, h⟩ | ⟨_, _, h⟩ <;> rw [h] at h0 <;> exact absurd h0 (by decide)
  · rw [if_neg h0] at hc
    rw [hc] at h0
    refine givesM_of (args := [.agg (gv n X O).toArray]) [(0, .agg (gv n X O).toArray)] Tryz.func84 rfl Tryz.ntmps84 rfl (argsF_cons rfl argsF_nil) ?_
    refine JC_nilrow (e := 35) (sz := 1) ?_
    repeat' (first | (apply Jq_move; exact rfl; exact rfl) | (apply Jq_assign; exact rfl; exact rfl) | (apply Jq_cmp; exact rfl; exact rfl; exact rfl; exact rfl) | (apply Jq_loadW; exact rfl; exact rfl; (exact mb); (omega)) | (apply JqM; exact rfl; exact rfl; exact rfl; infer_instance; (exact lcode_is n X O bX bO [] (mS m0) (fun p hp => absurd hp List.not_mem_nil) (Nat.le_of_ble_eq_true rfl) hc)) | (apply J_box; exact rfl; exact rfl; exact rfl; (intro _)) | refine thenQ_normal ?_ | refine thenQ_ret ?_ | refine JC_seq ?_ | refine JC_region ?_ | refine J_nil ?_ | refine JC_ret ?_ | (apply JC_ndec_true; exact rfl; omega))
    refine SL.m1 rfl rfl rfl rfl ?_
    (refine ent ?_ ?_; (repeat refine fr_cons rfl ?_); exact fr_nil; (repeat (first | exact List.Sublist.refl _ | refine List.Sublist.cons _ ?_)))
set_option maxRecDepth 100000 in
theorem iknotE_gives {B : Nat} {w0 : World} {H : Hp} (n : Nat) (X O : List Nat) (bX : isB X) (bO : isB O) (g : okG (n : Int) X O) :
    GivesE Tryz.prog 130 #[.agg (gv n X O).toArray] B w0 H (fun v' H' => v' = .bool (decide ((comps n X O : Int) = 1)) ∧ H' = H) := by
  have ug := gv_len (n := n) bX.1 bO.1
  have lz : (i64s Z8).length = 8 := rfl
  refine givesE_of (args := [.agg (gv n X O).toArray]) [(0, .agg (gv n X O).toArray)] Tryz.func130 rfl Tryz.ntmps130 rfl (argsF_cons rfl argsF_nil) ?_
  repeat' (first | (apply JcComp; exact rfl; exact rfl; exact rfl; infer_instance; ((intro w hw); exact component_gives n X O bX bO g w); (intro L uL lL hL)) | (apply Jq_move; exact rfl; exact rfl) | (apply Jq_assign; exact rfl; exact rfl) | (apply Jq_cmp; exact rfl; exact rfl; exact rfl; exact rfl) | (apply Jq_loadW; exact rfl; exact rfl; (exact mb); (omega)) | (apply J_sW; exact rfl; exact rfl; infer_instance; (exact rfl); (omega); (exact i64s_one _); infer_instance) | (apply Jq_ext20; exact rfl; exact rfl) | (apply Jq_ext21; exact rfl; exact rfl) | (apply J_box; exact rfl; exact rfl; exact rfl; (intro _)) | (apply J_alloc (cs := i64s Z8); exact rfl; exact rfl; (intro _)) | refine thenQ_normal ?_ | refine JC_seq ?_ | refine JC_region ?_ | refine J_nil ?_ | refine JC_ret ?_)
  refine SL.e1 (H' := H) rfl rfl rfl ?_ ⟨rfl, rfl⟩
  (refine ent ?_ ?_; (repeat refine fr_cons rfl ?_); exact fr_nil; (repeat (first | exact List.Sublist.refl _ | refine List.Sublist.cons _ ?_)))
set_option maxRecDepth 100000 in
theorem klisted_good {B : Nat} {w0 : World} {H : Hp} (n : Nat) (X O : List Nat) (bX : isB X) (bO : isB O) (g : okG (n : Int) X O) (h6 : n ≤ 6) :
    GivesE Tryz.prog 123 #[.agg (gv (n : Int) X O).toArray, .func (.func 130) #[] #[]] B w0 H (fun v' H' => v' = .tuple #[.bool (decide ((comps n X O : Int) = 1)), .int .i64 0] ∧ H' = H) := by
  have ug := gv_len (n := (n : Int)) bX.1 bO.1
  refine givesE_of (args := [.agg (gv (n : Int) X O).toArray, .func (.func 130) #[] #[]]) [(0, .agg (gv (n : Int) X O).toArray), (1, .func (.func 130) #[] #[])] Tryz.func123 rfl Tryz.ntmps123 rfl (argsF_cons rfl (argsF_cons rfl argsF_nil)) ?_
  repeat' (first | (apply JcEcP (H1 := H); exact rfl; exact rfl; exact rfl; infer_instance; (refine entP (ent ?_ (List.nil_sublist _)) ?_; (repeat refine fr_cons rfl ?_); exact fr_nil; (repeat (exact sp_end))); exact iknotE_gives n X O bX bO g; (intro v' H' hV; obtain ⟨rfl, rfl⟩ := hV)) | (apply Jq_move; exact rfl; exact rfl) | (apply Jq_assign; exact rfl; exact rfl) | (apply Jq_load; exact rfl; exact rfl; (exact mb); (exact rfl)) | (apply Jq_fieldAddr; exact rfl; exact rfl) | (apply Jq_cmp; exact rfl; exact rfl; exact rfl; exact rfl) | (apply Jq_not; exact rfl; exact rfl) | (apply Jc; exact rfl; exact rfl; exact rfl; infer_instance; ((intro w hw); exact IsGrid_gives n X O bX bO w)) | (apply Jq_loadW; exact rfl; exact rfl; (exact mb); (omega)) | (apply J_box; exact rfl; exact rfl; exact rfl; (intro _)) | refine thenQ_normal ?_ | refine inBlockQ_normal ?_ | refine JC_seq ?_ | refine JC_region ?_ | refine J_nil ?_ | refine JC_block ?_ | refine JC_skip ?_ | refine JC_ret ?_ | (apply JC_dec_false; exact rfl; omega) | (apply JC_ndec_false; exact rfl; omega))
  exact eT2 rfl rfl rfl rfl (entS fun _ _ h => h) ⟨rfl, rfl⟩
set_option maxRecDepth 100000 in
theorem klisted_bad {B : Nat} {w0 : World} {H : Hp} {f : Value} (n : Int) (X O : List Nat) (bX : isB X) (bO : isB O) {c : Int} (hc : (¬ okG n X O ∧ c = 1) ∨ (okG n X O ∧ 6 < n ∧ c = 2)) :
    GivesE Tryz.prog 123 #[.agg (gv n X O).toArray, f] B w0 H (fun v' H' => v' = .tuple #[.bool false, .int .i64 c] ∧ H' = H) := by
  have ug := gv_len (n := n) bX.1 bO.1
  refine givesE_of (args := [.agg (gv n X O).toArray, f]) [(0, .agg (gv n X O).toArray), (1, f)] Tryz.func123 rfl Tryz.ntmps123 rfl (argsF_cons rfl (argsF_cons rfl argsF_nil)) ?_
  rcases hc with ⟨g, rfl⟩ | ⟨g, h6, rfl⟩
  · repeat' (first | (apply Jq_move; exact rfl; exact rfl) | (apply Jq_assign; exact rfl; exact rfl) | (apply Jq_not; exact rfl; exact rfl) | (apply Jc; exact rfl; exact rfl; exact rfl; infer_instance; ((intro w hw); exact IsGrid_gives n X O bX bO w)) | (apply Jq_loadW; exact rfl; exact rfl; (exact mb); (omega)) | (apply J_box; exact rfl; exact rfl; exact rfl; (intro _)) | refine thenQ_normal ?_ | refine thenQ_ret ?_ | refine inBlockQ_ret ?_ | refine JC_seq ?_ | refine JC_region ?_ | refine J_nil ?_ | refine JC_block ?_ | refine JC_ret ?_ | (apply JC_ndec_true; exact rfl; omega))
    refine eT2 (H' := H) rfl rfl rfl rfl ?_ ⟨rfl, rfl⟩
    (refine ent ?_ ?_; (repeat refine fr_cons rfl ?_); exact fr_nil; (repeat (first | exact List.Sublist.refl _ | refine List.Sublist.cons _ ?_)))
  · repeat' (first | (apply Jq_move; exact rfl; exact rfl) | (apply Jq_assign; exact rfl; exact rfl) | (apply Jq_load; exact rfl; exact rfl; (exact mb); (exact rfl)) | (apply Jq_fieldAddr; exact rfl; exact rfl) | (apply Jq_cmp; exact rfl; exact rfl; exact rfl; exact rfl) | (apply Jq_not; exact rfl; exact rfl) | (apply Jc; exact rfl; exact rfl; exact rfl; infer_instance; ((intro w hw); exact IsGrid_gives n X O bX bO w)) | (apply Jq_loadW; exact rfl; exact rfl; (exact mb); (omega)) | (apply J_box; exact rfl; exact rfl; exact rfl; (intro _)) | refine thenQ_normal ?_ | refine thenQ_ret ?_ | refine inBlockQ_ret ?_ | refine JC_seq ?_ | refine JC_region ?_ | refine J_nil ?_ | refine JC_block ?_ | refine JC_ret ?_ | (apply JC_dec_true; exact rfl; omega) | (apply JC_ndec_false; exact rfl; omega))
    refine eT2 (H' := H) rfl rfl rfl rfl ?_ ⟨rfl, rfl⟩
    (refine ent ?_ ?_; (repeat refine fr_cons rfl ?_); exact fr_nil; (repeat (first | exact List.Sublist.refl _ | refine List.Sublist.cons _ ?_)))
end Go.Proofs.YtmbbcmebdefggaaGreatDoor
namespace Go.Proofs.YtmbbcmebdefggaaGreatDoor
open Go Go.RowKit SL
end Go.Proofs.YtmbbcmebdefggaaGreatDoor
