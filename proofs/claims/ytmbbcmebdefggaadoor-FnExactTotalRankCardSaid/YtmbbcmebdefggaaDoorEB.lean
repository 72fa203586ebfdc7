/- Walks: the reference's sums with different leading states. Walks: the reference's families of sums, images, ranks. -/
import Derived.Test.YtmbbcmebdefggaaDoorHO
import Derived.Test.YtmbbcmebdefggaaDoorVA
namespace Go.Proofs.YtmbbcmebdefggaaDoor
open Go Go.RowKit SL
/-- A sum of states of n columns. -/
structure Vec (n : Nat) (l : List StB) : Prop where
  asc : Asc rkT l
  pm : ∀ x ∈ l, isPerm x.1 n
theorem Vec.len {n : Nat} {l : List StB} (h6 : n ≤ 6) (h : Vec n l) : l.length ≤ 46656 := sums_len h6 h.asc h.pm
theorem Vec.sd {n : Nat} {a b : List StB} (ha : Vec n a) (hb : Vec n b) : Vec n (sd rkT a b) := ⟨sd_asc a b ha.asc hb.asc, fun x hx => (sd_sub a b x hx).elim (ha.pm x) (hb.pm x)⟩
/-- One leading state taken away. -/
noncomputable def less1 (s b : List StB) : List StB := match b with
  | [] => s
  | x :: _ => open Classical in if x ∈ s then sd rkT s b else s
noncomputable def lessL (s : List StB) (B : List (List StB)) : List StB := B.foldl less1 s
theorem less1_vec {n : Nat} {s b : List StB} (hs : Vec n s) (hb : Vec n b) : Vec n (less1 s b) := by
  unfold less1
  split
  · exact hs
  · split
    · exact hs.sd hb
    · exact hs
theorem lessL_snoc (s : List StB) (B : List (List StB)) (b : List StB) : lessL s (B ++ [b]) = less1 (lessL s B) b := by unfold lessL; rw [List.foldl_append]; rfl
theorem less1_yes {s b : List StB} {x : StB} (hb : b.head? = some x) (h : x ∈ s) : less1 s b = sd rkT s b := by
  cases b with
  | nil => cases hb
  | cons y t => cases hb; exact if_pos h
theorem less1_no {s b : List StB} {x : StB} (hb : b.head? = some x) (h : x ∉ s) : less1 s b = s := by
  cases b with
  | nil => cases hb
  | cons y t => cases hb; exact if_neg h
abbrev LsV : Type := List (Value × List StB)
def vecs (L : LsV) : List (List StB) := L.map (·.2)
/-- Where they lie. -/
def inH (L : LsV) (H : Hp) : Prop := ∀ p ∈ L, It.row p.1 43 8 (p.2.flatMap encS) ∈ H
theorem inH.mono {L : LsV} {H H' : Hp} (h : inH L H) (k : ∀ x ∈ H, x ∈ H') : inH L H' := fun p hp => k _ (h p hp)
theorem head_get {b : List StB} {x : StB} (h : b.head? = some x) : b[0]? = some x := by
  cases b with
  | nil => cases h
  | cons y t => exact h
/-- The first that is not before a state: there, or none. -/
theorem at_mem_iff {s : List StB} {k : Nat} {x : StB} (ha : Asc rkT s) (hlo : ∀ j y, j < k → s[j]? = some y → rkT y < rkT x) (hhi : ∀ y, s[k]? = some y → ¬ rkT y < rkT x) : x ∈ s ↔ s[k]? = some x := by
  constructor
  · intro h
    obtain ⟨i, hi, e⟩ := List.getElem_of_mem h
    have hix : s[i]? = some x := by rw [List.getElem?_eq_getElem hi, e]
    rcases Nat.lt_trichotomy i k with h1 | h1 | h1
    · have := hlo i x h1 hix
      omega
    · rw [← h1]; exact hix
    · have hk : k < s.length := by omega
      have h2 := hhi _ (List.getElem?_eq_getElem hk)
      have h3 := List.pairwise_iff_getElem.1 ha k i hk hi h1
      rw [e] at h3
      omega
  · exact fun h => List.mem_of_getElem? h
set_option maxRecDepth 100000 in
theorem elim_gives {B : Nat} {w0 : World} {H : Hp} {v u : Value} {n : Nat} (h6 : n ≤ 6) (s : List StB) (Bs : LsV) (hv : It.row v 43 8 (s.flatMap encS) ∈ H) (hu : It.row u 31 1 (Bs.map (·.1)) ∈ H) (hB : inH Bs H) (hs : Vec n s) (hbv : ∀ b ∈ vecs Bs, Vec n b ∧ b ≠ []) (hl : Bs.length ≤ 46656) :
    GivesE Tryd.prog 19 #[v, u] B w0 H (fun v' H' => It.row v' 43 8 ((lessL s (vecs Bs)).flatMap encS) ∈ H' ∧ ∀ x ∈ H, x ∈ H') := by
  have l1 : (Bs.map (·.1)).length = Bs.length := List.length_map _
  have iu0 : RB u H 31 1 (Bs.map (·.1)) := ⟨hu⟩
  refine givesE_of (args := [v, u]) [(0, v), (1, u)] Tryd.func19 rfl Tryd.ntmps19 rfl (argsF_cons rfl (argsF_cons rfl argsF_nil)) ?_
  repeat' (first | (apply Jq_assign; exact rfl; exact rfl) | refine thenQ_normal ?_ | refine JC_seq ?_ | refine JC_region ?_ | refine J_nil ?_ | refine JC_block ?_)
  refine JC_loop (X := Nat × Value × List StB × Hp) (fun p => p.1 ≤ Bs.length ∧ p.2.2.1 = lessL s ((vecs Bs).take p.1) ∧ It.row p.2.1 43 8 (p.2.2.1.flatMap encS) ∈ p.2.2.2 ∧ (∀ x ∈ H, x ∈ p.2.2.2) ∧ Vec n p.2.2.1)
    (fun p => [(5, .int .i64 (p.1 : Int)), (0, p.2.1), (1, u)]) (fun p => p.2.2.2) (fun p => Bs.length - p.1) (0, v, s, H) ⟨Nat.zero_le _, rfl, hv, fun _ h => h, hs⟩ ?_ ?_
  · dsimp only
    (refine ent ?_ ?_; (repeat refine fr_cons rfl ?_); exact fr_nil; (repeat (exact List.Sublist.refl _)))
  · rintro ⟨i, v0, t, Hx⟩ ⟨hi, ht, hv0, hsub, htv⟩
    dsimp only at hi ht hv0 hsub htv ⊢
    have iu : RB u Hx 31 1 (Bs.map (·.1)) := ⟨hsub _ hu⟩
    have iv : RB v0 Hx 43 8 (t.flatMap encS) := ⟨hv0⟩
    have lt' := fl_len encS_len t
    have htl := htv.len h6
    by_cases hlt : i < Bs.length
    · obtain ⟨p, hp⟩ : ∃ p, Bs[i]? = some p := ⟨_, List.getElem?_eq_getElem hlt⟩
      have hp2 : (vecs Bs)[i]? = some p.2 := by unfold vecs; rw [List.getElem?_map, hp]; rfl
      obtain ⟨hpv, hpn⟩ := hbv p.2 (List.mem_of_getElem? hp2)
      have g1 : (Bs.map (·.1))[i]? = some p.1 := by rw [List.getElem?_map, hp]; rfl
      have hpm := hsub _ (hB p (List.mem_of_getElem? hp))
      have ip : RB p.1 Hx 43 8 (p.2.flatMap encS) := ⟨hpm⟩
      have lp := fl_len encS_len p.2
      have hpl := hpv.len h6
      obtain ⟨x, hx⟩ : ∃ x, p.2.head? = some x := by
        cases e : p.2 with
        | nil => exact absurd e hpn
        | cons y r => exact ⟨y, rfl⟩
      have hx0 := head_get hx
      have hpos : 0 < p.2.length := (List.getElem?_eq_some_iff.1 hx0).1
      have ux := encS_len x
      have gx0 := fl_at encS_len hx0
      have hsn : lessL s ((vecs Bs).take (i + 1)) = less1 t p.2 := by rw [List.take_add_one, hp2, ht]; exact lessL_snoc _ _ _
      repeat' (first | (apply Jq_move; exact rfl; exact rfl) | (apply Jq_assign; exact rfl; exact rfl) | (apply Jq_cmp; exact rfl; exact rfl; exact rfl; exact rfl) | (apply Jq_lenR; exact rfl; exact rfl; (exact rb)) | refine thenQ_normal ?_ | refine JC_seq ?_ | refine JC_region ?_ | refine J_nil ?_ | refine JC_block ?_ | refine JC_skip ?_ | (apply JC_dec_true; exact rfl; omega))
      refine JC_cutB (Y := Nat) (fun k => k ≤ t.length ∧ (∀ j y, j < k → t[j]? = some y → rkT y < rkT x) ∧ ∀ y, t[k]? = some y → ¬ rkT y < rkT x) (fun k => [(6, .int .i64 (k : Int)), (5, .int .i64 (i : Int)), (0, v0), (1, u)]) (fun _ => Hx) ?_ ?_
      · refine JC_loop (X := Nat) (fun k => k ≤ t.length ∧ ∀ j y, j < k → t[j]? = some y → rkT y < rkT x) (fun k => [(6, .int .i64 (k : Int)), (5, .int .i64 (i : Int)), (0, v0), (1, u)]) (fun _ => Hx) (fun k => t.length - k) 0 ⟨Nat.zero_le _, fun j y h => absurd h (Nat.not_lt_zero _)⟩ ?_ ?_
        · (refine ent ?_ ?_; (repeat refine fr_cons rfl ?_); exact fr_nil; (repeat (exact List.Sublist.refl _)))
        · rintro k ⟨hk, hlo⟩
          by_cases hkl : k < t.length
          · obtain ⟨y, hy⟩ := get_in hkl
            have uy := encS_len y
            have gy := fl_at encS_len hy
            by_cases hyx : rkT y < rkT x
            · repeat' (first | (apply JC_draw mixed; kernel_rfl) | (apply Jq_indexRs (i := 0) (xs := p.2.flatMap encS); exact rfl; exact rfl; exact rfl; exact rb; omega) | (apply Jq_loadRA (xs := p.2.flatMap encS); exact rfl; exact rfl; exact rb; exact gx0; exact ux; decide) | (apply Jq_move; exact rfl; exact rfl) | (apply Jq_assign; exact rfl; exact rfl) | (apply Jq_cmp; exact rfl; exact rfl; exact rfl; exact rfl) | (apply Jq_add; exact rfl; exact rfl; exact rfl; omega) | (apply Jq_pick_true; exact rfl; exact rfl; exact rfl) | (apply J_on; exact rfl; exact rfl) | (apply Jc; exact rfl; exact rfl; exact rfl; infer_instance; ((intro w hw); exact before_gives y x w)) | (apply Jq_indexRN; exact rfl; exact rfl; exact rfl; (exact rb); omega) | (apply Jq_loadR; exact rfl; exact rfl; (exact rb); (exact g1)) | (apply Jq_lenRs; exact rfl; exact rfl; (exact rb); exact lt'; decide) | (apply Jq_indexRs; exact rfl; exact rfl; exact rfl; (exact rb); omega) | (apply Jq_loadRA; exact rfl; exact rfl; (exact rb); (exact gy); (omega); decide) | refine thenQ_normal ?_ | refine inBlockQ_normal ?_ | refine JC_seq ?_ | refine JC_region ?_ | refine J_nil ?_ | refine JC_block ?_ | refine JC_skip ?_ | (apply JC_dec_true; exact rfl; omega) | (apply J_gdT; exact rfl; exact rfl; omega))
              refine ⟨k + 1, ⟨by omega, fun j z hj hz => ?_⟩, by omega, ?_⟩
              · by_cases e : j = k
                · subst e; rw [hy] at hz; cases hz; exact hyx
                · exact hlo j z (by omega) hz
              · (refine ent ?_ ?_; (repeat refine fr_cons rfl ?_); exact fr_nil; (repeat (exact List.Sublist.refl _)))
            · repeat' (first | (apply JC_draw mixed; kernel_rfl) | (apply Jq_indexRs (i := 0) (xs := p.2.flatMap encS); exact rfl; exact rfl; exact rfl; exact rb; omega) | (apply Jq_loadRA (xs := p.2.flatMap encS); exact rfl; exact rfl; exact rb; exact gx0; exact ux; decide) | (apply Jq_move; exact rfl; exact rfl) | (apply Jq_cmp; exact rfl; exact rfl; exact rfl; exact rfl) | (apply Jq_pick_true; exact rfl; exact rfl; exact rfl) | (apply J_on; exact rfl; exact rfl) | (apply Jc; exact rfl; exact rfl; exact rfl; infer_instance; ((intro w hw); exact before_gives y x w)) | (apply Jq_indexRN; exact rfl; exact rfl; exact rfl; (exact rb); omega) | (apply Jq_loadR; exact rfl; exact rfl; (exact rb); (exact g1)) | (apply Jq_lenRs; exact rfl; exact rfl; (exact rb); exact lt'; decide) | (apply Jq_indexRs; exact rfl; exact rfl; exact rfl; (exact rb); omega) | (apply Jq_loadRA; exact rfl; exact rfl; (exact rb); (exact gy); (omega); decide) | refine thenQ_normal ?_ | refine thenQ_exit ?_ | refine inBlockQ_here ?_ | refine JC_seq ?_ | refine J_nil ?_ | refine JC_exit ?_ | (apply JC_dec_false; exact rfl; omega) | (apply J_gdT; exact rfl; exact rfl; omega))
              refine ⟨k, ⟨hk, hlo, fun z hz => by rw [hy] at hz; cases hz; exact hyx⟩, ?_⟩
              (refine ent ?_ ?_; (repeat refine fr_cons rfl ?_); exact fr_nil; (repeat (exact List.Sublist.refl _)))
          · repeat' (first | (apply JC_draw mixed; kernel_rfl) | (apply Jq_move; exact rfl; exact rfl) | (apply Jq_cmp; exact rfl; exact rfl; exact rfl; exact rfl) | (apply Jq_pick_false; exact rfl; exact rfl; exact rfl) | (apply J_skip; exact rfl; exact rfl; exact rfl; exact rfl) | (apply Jq_lenRs; exact rfl; exact rfl; (exact rb); exact lt'; decide) | refine thenQ_normal ?_ | refine thenQ_exit ?_ | refine inBlockQ_here ?_ | refine JC_seq ?_ | refine J_nil ?_ | refine JC_exit ?_ | (apply JC_if_false; exact rfl) | (apply J_gdF; exact rfl; exact rfl; omega))
            refine ⟨k, ⟨hk, hlo, fun z hz => by rw [List.getElem?_eq_none (by omega)] at hz; cases hz⟩, ?_⟩
            (refine ent ?_ ?_; (repeat refine fr_cons rfl ?_); exact fr_nil; (repeat (exact List.Sublist.refl _)))
      · rintro k ⟨hk, hlo, hhi⟩
        have hiff := at_mem_iff htv.asc hlo hhi
        by_cases hxt : x ∈ t
        · have hy := hiff.1 hxt
          have hkl : k < t.length := (List.getElem?_eq_some_iff.1 hy).1
          have gy := fl_at encS_len hy
          rw [less1_yes hx hxt] at hsn
          repeat' (first | (apply JC_draw mixed; kernel_rfl) | (apply Jq_indexRs (i := 0) (xs := p.2.flatMap encS); exact rfl; exact rfl; exact rfl; exact rb; omega) | (apply Jq_loadRA (xs := p.2.flatMap encS); exact rfl; exact rfl; exact rb; exact gx0; exact ux; decide) | (apply Jq_eqA; exact rfl; exact rfl; exact rfl; kernel_rfl; (intro w; exact eqS_run _ _ w)) | (apply JcE; exact rfl; exact rfl; exact rfl; infer_instance; (exact ladd_gives t p.2 hv0 hpm (by omega) (by omega)); (intro v' H' hV; subst hV)) | (apply Jq_move; exact rfl; exact rfl) | (apply Jq_assign; exact rfl; exact rfl) | (apply Jq_cmp; exact rfl; exact rfl; exact rfl; exact rfl) | (apply Jq_add; exact rfl; exact rfl; exact rfl; omega) | (apply Jq_pick_true; exact rfl; exact rfl; exact rfl) | (apply J_on; exact rfl; exact rfl) | (apply Jq_indexRN; exact rfl; exact rfl; exact rfl; (exact rb); omega) | (apply Jq_loadR; exact rfl; exact rfl; (exact rb); (exact g1)) | (apply Jq_lenRs; exact rfl; exact rfl; (exact rb); exact lt'; decide) | (apply Jq_indexRs; exact rfl; exact rfl; exact rfl; (exact rb); omega) | (apply Jq_loadRA; exact rfl; exact rfl; (exact rb); (exact gy); (omega); decide) | refine thenQ_normal ?_ | refine inBlockQ_normal ?_ | refine JC_seq ?_ | refine JC_region ?_ | refine J_nil ?_ | refine JC_skip ?_ | (apply J_gdT; exact rfl; exact rfl; omega) | refine JC_dec rfl (fun _ => ?_) (fun _ => ?_))
          · refine ⟨(i + 1, v', sd rkT t p.2, .row v' 43 8 ((sd rkT t p.2).flatMap encS) :: Hx), ⟨by dsimp only; omega, hsn.symm, m0, fun z hz => mS (hsub z hz), htv.sd hpv⟩, by dsimp only; omega, ?_⟩
            dsimp only
            (refine ent ?_ ?_; (repeat refine fr_cons rfl ?_); exact fr_nil; (repeat (exact List.Sublist.refl _)))
          · rename_i hne
            exact absurd rfl hne
        · rw [less1_no hx hxt, ht] at hsn
          by_cases hkl : k < t.length
          · obtain ⟨y, hy⟩ := get_in hkl
            have uy := encS_len y
            have gy := fl_at encS_len hy
            have hyx : y ≠ x := fun e => hxt (by rw [← e]; exact List.mem_of_getElem? hy)
            repeat' (first | (apply JC_draw mixed; kernel_rfl) | (apply Jq_indexRs (i := 0) (xs := p.2.flatMap encS); exact rfl; exact rfl; exact rfl; exact rb; omega) | (apply Jq_loadRA (xs := p.2.flatMap encS); exact rfl; exact rfl; exact rb; exact gx0; exact ux; decide) | (apply Jq_eqA; exact rfl; exact rfl; exact rfl; kernel_rfl; (intro w; exact eqS_run _ _ w)) | (apply Jq_move; exact rfl; exact rfl) | (apply Jq_assign; exact rfl; exact rfl) | (apply Jq_cmp; exact rfl; exact rfl; exact rfl; exact rfl) | (apply Jq_add; exact rfl; exact rfl; exact rfl; omega) | (apply Jq_pick_true; exact rfl; exact rfl; exact rfl) | (apply J_on; exact rfl; exact rfl) | (apply Jq_indexRN; exact rfl; exact rfl; exact rfl; (exact rb); omega) | (apply Jq_loadR; exact rfl; exact rfl; (exact rb); (exact g1)) | (apply Jq_lenRs; exact rfl; exact rfl; (exact rb); exact lt'; decide) | (apply Jq_indexRs; exact rfl; exact rfl; exact rfl; (exact rb); omega) | (apply Jq_loadRA; exact rfl; exact rfl; (exact rb); (exact gy); (omega); decide) | refine thenQ_normal ?_ | refine inBlockQ_normal ?_ | refine JC_seq ?_ | refine JC_region ?_ | refine J_nil ?_ | refine JC_skip ?_ | (apply JC_dec_false; exact rfl; omega) | (apply J_gdT; exact rfl; exact rfl; omega))
            all_goals first
              | (rename_i he; exact absurd he hyx)
              | (refine ⟨(i + 1, v0, t, Hx), ⟨by dsimp only; omega, ht.trans hsn.symm, hv0, hsub, htv⟩, by dsimp only; omega, ?_⟩; dsimp only; (refine ent ?_ ?_; (repeat refine fr_cons rfl ?_); exact fr_nil; (repeat (exact List.Sublist.refl _))))
          · repeat' (first | (apply JC_draw mixed; kernel_rfl) | (apply Jq_move; exact rfl; exact rfl) | (apply Jq_assign; exact rfl; exact rfl) | (apply Jq_cmp; exact rfl; exact rfl; exact rfl; exact rfl) | (apply Jq_add; exact rfl; exact rfl; exact rfl; omega) | (apply Jq_pick_false; exact rfl; exact rfl; exact rfl) | (apply J_skip; exact rfl; exact rfl; exact rfl; exact rfl) | (apply Jq_lenRs; exact rfl; exact rfl; (exact rb); exact lt'; decide) | refine thenQ_normal ?_ | refine inBlockQ_normal ?_ | refine JC_seq ?_ | refine JC_region ?_ | refine J_nil ?_ | refine JC_skip ?_ | (apply JC_if_false; exact rfl) | (apply J_gdF; exact rfl; exact rfl; omega))
            refine ⟨(i + 1, v0, t, Hx), ⟨by dsimp only; omega, ht.trans hsn.symm, hv0, hsub, htv⟩, by dsimp only; omega, ?_⟩
            dsimp only
            (refine ent ?_ ?_; (repeat refine fr_cons rfl ?_); exact fr_nil; (repeat (exact List.Sublist.refl _)))
    · obtain rfl : i = Bs.length := by omega
      have hlv : (vecs Bs).length = Bs.length := List.length_map _
      rw [← hlv, List.take_length] at ht
      repeat' (first | (apply Jq_move; exact rfl; exact rfl) | (apply Jq_assign; exact rfl; exact rfl) | (apply Jq_cmp; exact rfl; exact rfl; exact rfl; exact rfl) | (apply Jq_lenR; exact rfl; exact rfl; (exact rb)) | refine thenQ_normal ?_ | refine thenQ_exit ?_ | refine inBlockQ_here ?_ | refine JC_seq ?_ | refine JC_region ?_ | refine J_nil ?_ | refine JC_ret ?_ | refine JC_exit ?_ | (apply JC_dec_false; exact rfl; omega))
      refine e1 rfl rfl rfl ?_ ⟨by rw [← ht]; exact hv0, hsub⟩
      (refine ent ?_ ?_; (repeat refine fr_cons rfl ?_); exact fr_nil; (repeat (exact List.Sublist.refl _)))
/-! Plain: what is left bears no leading state. -/
def hLt (a b : List StB) : Prop := ∀ x y, a.head? = some x → b.head? = some y → rkT x < rkT y
theorem head_le {b : List StB} {x y : StB} (ha : Asc rkT b) (hx : b.head? = some x) (hy : y ∈ b) : rkT x ≤ rkT y := by
  cases b with
  | nil => cases hx
  | cons z t =>
    cases hx
    rcases List.mem_cons.1 hy with rfl | h
    · exact Int.le_refl _
    · exact Int.le_of_lt (asc_head ha h)
theorem less1_keep {s b : List StB} {x z : StB} (hs : Asc rkT s) (hb : Asc rkT b) (hx : b.head? = some x) (hz : rkT z < rkT x) (h : z ∉ s) : z ∉ less1 s b := by
  by_cases hxs : x ∈ s
  · rw [less1_yes hx hxs]
    intro k
    rcases sd_sub s b z k with k | k
    · exact h k
    · have := head_le hb hx k
      omega
  · rw [less1_no hx hxs]; exact h
theorem less1_gone {s b : List StB} {x : StB} (hs : Asc rkT s) (hb : Asc rkT b) (hx : b.head? = some x) : x ∉ less1 s b := by
  by_cases hxs : x ∈ s
  · rw [less1_yes hx hxs, sd_mem rkT_inj s b hs hb]
    have : x ∈ b := List.mem_of_getElem? (head_get hx)
    exact fun k => k ⟨fun _ => this, fun _ => hxs⟩
  · rw [less1_no hx hxs]; exact hxs
theorem lessL_asc {s : List StB} {B : List (List StB)} (hs : Asc rkT s) (hB : AscL rkT B) : Asc rkT (lessL s B) := by
  unfold lessL
  induction B generalizing s with
  | nil => exact hs
  | cons b B ih =>
    rw [List.foldl_cons]
    refine ih ?_ fun c hc => hB c (List.mem_cons_of_mem _ hc)
    cases e : b.head? with
    | none =>
      cases b with
      | nil => exact hs
      | cons y t => cases e
    | some x =>
      by_cases hx : x ∈ s
      · rw [less1_yes e hx]; exact sd_asc s b hs (hB b List.mem_cons_self)
      · rw [less1_no e hx]; exact hs
theorem lessL_free {B : List (List StB)} : ∀ {s : List StB}, Asc rkT s → AscL rkT B → B.Pairwise hLt → (∀ z, z ∉ s → (∀ b ∈ B, ∀ x, b.head? = some x → rkT z < rkT x) → z ∉ lessL s B) ∧ ∀ b ∈ B, ∀ x, b.head? = some x → x ∉ lessL s B := by
  induction B with
  | nil => exact fun _ _ _ => ⟨fun z h _ => h, fun b hb => absurd hb List.not_mem_nil⟩
  | cons b B ih =>
    intro s hs hB hp
    obtain ⟨hp1, hp2⟩ := List.pairwise_cons.1 hp
    have hB' : AscL rkT B := fun c hc => hB c (List.mem_cons_of_mem _ hc)
    have hb := hB b List.mem_cons_self
    have hs1 : Asc rkT (less1 s b) := lessL_asc (B := [b]) hs fun c hc => by rw [List.mem_singleton] at hc; subst hc; exact hb
    obtain ⟨k1, k2⟩ := ih hs1 hB' hp2
    refine ⟨fun z hz h => k1 z ?_ fun c hc => h c (List.mem_cons_of_mem _ hc), fun c hc x hx => ?_⟩
    · cases e : b.head? with
      | none =>
        cases b with
        | nil => exact hz
        | cons y t => cases e
      | some x => exact less1_keep hs hb e (h b List.mem_cons_self x e) hz
    · rcases List.mem_cons.1 hc with rfl | hc
      · exact k1 x (less1_gone hs hb hx) fun d hd y hy => hp1 d hd x y hx hy
      · exact k2 c hc x hx
theorem lessL_spn {B : List (List StB)} : ∀ {s : List StB}, Asc rkT s → AscL rkT B → ∃ w, Spn rkT B w ∧ lessL s B = sd rkT s w := by
  induction B with
  | nil => exact fun _ _ => ⟨[], Spn.nil _, (sd_right _).symm⟩
  | cons b B ih =>
    intro s hs hB
    have hB' : AscL rkT B := fun c hc => hB c (List.mem_cons_of_mem _ hc)
    have hb := hB b List.mem_cons_self
    have hs1 : Asc rkT (less1 s b) := lessL_asc (B := [b]) hs fun c hc => by rw [List.mem_singleton] at hc; subst hc; exact hb
    obtain ⟨w, hw, e⟩ := ih hs1 hB'
    have hw' : Spn rkT (b :: B) w := Spn.mono rkT_inj hB (fun g hg => Spn.one (List.mem_cons_of_mem _ hg)) hw
    have hwa := hw.asc hB'
    have step : less1 s b = s ∨ less1 s b = sd rkT s b := by
      cases e : b.head? with
      | none =>
        cases b with
        | nil => exact .inl rfl
        | cons y t => cases e
      | some x =>
        by_cases hx : x ∈ s
        · exact .inr (less1_yes e hx)
        · exact .inl (less1_no e hx)
    rcases step with k | k
    · refine ⟨w, hw', ?_⟩
      show lessL (less1 s b) B = sd rkT s w
      rw [e, k]
    · refine ⟨sd rkT b w, Spn.sd rkT_inj hB (Spn.one List.mem_cons_self) hw', ?_⟩
      show lessL (less1 s b) B = sd rkT s (sd rkT b w)
      rw [e, k, sd_assoc rkT_inj hs hb hwa]
/-- Families in order of their leading states. -/
structure Bas (n : Nat) (B : List (List StB)) : Prop where
  vec : ∀ b ∈ B, Vec n b
  ne : ∀ b ∈ B, b ≠ []
  srt : B.Pairwise hLt
theorem Bas.ascL {n : Nat} {B : List (List StB)} (h : Bas n B) : AscL rkT B := fun b hb => (h.vec b hb).asc
theorem Bas.ech {n : Nat} {B : List (List StB)} (h : Bas n B) : Ech rkT B := ⟨h.ascL, h.ne, by
  refine List.Pairwise.imp_of_mem (fun {a b} ha _ hab e => ?_) h.srt
  cases k : a.head? with
  | none =>
    cases a with
    | nil => exact h.ne _ ha rfl
    | cons y t => cases k
  | some x =>
    have := hab x x k (e ▸ k)
    omega⟩
/-- One more sum. -/
theorem Bas.more {n : Nat} {B : List (List StB)} (h : Bas n B) {g : List StB} (hg : Vec n g) {x : StB} (hx : (lessL g B).head? = some x) {k : Nat} (hlo : ∀ j b y, j < k → B[j]? = some b → b.head? = some y → rkT y < rkT x) (hhi : ∀ b y, B[k]? = some b → b.head? = some y → ¬ rkT y < rkT x) :
    Bas n (B.take k ++ lessL g B :: B.drop k) ∧ ∀ v, Spn rkT (B.take k ++ lessL g B :: B.drop k) v ↔ Spn rkT (g :: B) v := by
  have hasc := lessL_asc hg.asc h.ascL
  obtain ⟨w, hw, e⟩ := lessL_spn hg.asc h.ascL
  have hfree := (lessL_free hg.asc h.ascL h.srt).2
  have hp : (B.take k ++ lessL g B :: B.drop k).Perm (lessL g B :: B) := by
    refine List.perm_middle.trans (List.Perm.cons _ ?_)
    rw [List.take_append_drop]
  have hvec : Vec n (lessL g B) := by
    have : ∀ {C : List (List StB)} {s : List StB}, Vec n s → (∀ b ∈ C, Vec n b) → Vec n (lessL s C) := fun {C} => by
      induction C with
      | nil => exact fun hs _ => hs
      | cons c C ih => exact fun hs hC => ih (less1_vec hs (hC c List.mem_cons_self)) fun b hb => hC b (List.mem_cons_of_mem _ hb)
    exact this hg h.vec
  have hxm : x ∈ lessL g B := List.mem_of_getElem? (head_get hx)
  refine ⟨⟨fun b hb => ?_, fun b hb => ?_, ?_⟩, fun v => ?_⟩
  · rcases List.mem_cons.1 (hp.mem_iff.1 hb) with rfl | hb
    · exact hvec
    · exact h.vec b hb
  · rcases List.mem_cons.1 (hp.mem_iff.1 hb) with rfl | hb
    · intro k; rw [k] at hx; cases hx
    · exact h.ne b hb
  · refine List.pairwise_append.2 ⟨h.srt.sublist (List.take_sublist _ _), List.pairwise_cons.2 ⟨fun b hb => ?_, h.srt.sublist (List.drop_sublist _ _)⟩, fun a ha b hb => ?_⟩
    · obtain ⟨i, hi, eb⟩ := List.getElem_of_mem hb
      rw [List.getElem_drop] at eb
      rw [List.length_drop] at hi
      intro x' y hx' hy
      rw [hx] at hx'
      cases hx'
      have hyx : rkT y ≠ rkT x := fun e => by
        have := rkT_inj _ _ e
        subst this
        exact hfree b (List.mem_of_mem_drop hb) y hy hxm
      have hk : k < B.length := by omega
      cases i with
      | zero =>
        have := hhi b y (by rw [List.getElem?_eq_getElem hk, ← eb]; rfl) hy
        omega
      | succ i =>
        have h1 := List.pairwise_iff_getElem.1 h.srt k (k + (i + 1)) hk (by omega) (by omega)
        cases e0 : (B[k]'hk).head? with
        | none =>
          have := h.ne _ (List.getElem_mem hk)
          cases e1 : B[k]'hk with
          | nil => exact absurd e1 this
          | cons z t => rw [e1] at e0; cases e0
        | some z =>
          have h2 := h1 z y e0 (by rw [eb]; exact hy)
          have h3 := hhi _ z (List.getElem?_eq_getElem hk) e0
          omega
    · obtain ⟨i, hi, ea⟩ := List.getElem_of_mem ha
      rw [List.getElem_take] at ea
      rw [List.length_take] at hi
      rcases List.mem_cons.1 hb with rfl | hb
      · intro y x' hy hx'
        rw [hx] at hx'
        cases hx'
        exact hlo i a y (by omega) (by rw [List.getElem?_eq_getElem (by omega), ea]) hy
      · obtain ⟨j, hj, eb⟩ := List.getElem_of_mem hb
        rw [List.getElem_drop] at eb
        rw [List.length_drop] at hj
        have := List.pairwise_iff_getElem.1 h.srt i (k + j) (by omega) (by omega) (by omega)
        rw [ea, eb] at this
        exact this
  · rw [Spn.perm fun g' => hp.mem_iff]
    exact Spn.swap rkT_inj h.ascL hg.asc hw e v
/-- A sum that adds nothing. -/
theorem Bas.same {n : Nat} {B : List (List StB)} (h : Bas n B) {g : List StB} (hg : Vec n g) (h0 : lessL g B = []) (v : List StB) : Spn rkT B v ↔ Spn rkT (g :: B) v := by
  obtain ⟨w, hw, e⟩ := lessL_spn hg.asc h.ascL
  rw [h0] at e
  have hwa := hw.asc h.ascL
  have hgB : AscL rkT (g :: B) := fun b hb => by rcases List.mem_cons.1 hb with rfl | hb; exact hg.asc; exact h.ascL b hb
  have eg : g = w := by
    have := sd_back rkT_inj hg.asc hwa
    rw [← e, sd_right] at this
    exact this
  subst eg
  exact ⟨Spn.mono rkT_inj hgB fun b hb => Spn.one (List.mem_cons_of_mem _ hb), Spn.mono rkT_inj h.ascL fun b hb => by
    rcases List.mem_cons.1 hb with rfl | hb
    · exact hw
    · exact Spn.one hb⟩
end Go.Proofs.YtmbbcmebdefggaaDoor
namespace Go.Proofs.YtmbbcmebdefggaaDoor
open Go Go.RowKit SL
namespace SL
section
variable {P : Program} {B : Nat} {w0 : World} {n : Nat} {Q : Po} {F : Fr} {H : Hp}
/-- What lies behind rows is one cell each. -/
theorem JC_onesV {c : Code} {vs : List Value} {e sz : Nat} (hm : ∀ v ∈ vs, ∃ xs, It.row v e sz xs ∈ H) (k : (∀ v ∈ vs, v.oneCell' = true ∧ v.cells = #[v]) → JC P B w0 n c Q F H) : JC P B w0 n c Q F H := by
  unfold JC at *
  intro a w ha hw
  refine k (fun v hv => ?_) a w ha hw
  obtain ⟨xs, hx⟩ := hm v hv
  obtain ⟨m, h1, h2⟩ := hw.row_slice hx
  rcases h2 with ⟨rfl, rfl⟩ | ⟨gg, cap, _, rfl, _, _, hc, _⟩ <;> exact ⟨rfl, rfl⟩
theorem J_one {ops : Array Oper} {l : List Oper} {v : Value} {e sz : Nat} {xs : List Value} (hm : It.row v e sz xs ∈ H) (k : v.oneCell' = true → v.cells = #[v] → J false P B w0 n ops Q l F H) : J false P B w0 n ops Q l F H := by
  unfold J at *
  intro a w ha hw
  have h : v.oneCell' = true ∧ v.cells = #[v] := by
    obtain ⟨m, h1, h2⟩ := hw.row_slice hm
    rcases h2 with ⟨rfl, rfl⟩ | ⟨gg, cap, _, rfl, _, _, hc, _⟩ <;> exact ⟨rfl, rfl⟩
  exact k h.1 h.2 a w ha hw
end
end SL
theorem inH.rows {L : LsV} {H : Hp} (h : inH L H) : ∀ v ∈ L.map (·.1), ∃ xs, It.row v 43 8 xs ∈ H := fun v hv => by
  obtain ⟨p, hp, rfl⟩ := List.mem_map.1 hv
  exact ⟨_, h p hp⟩
set_option maxRecDepth 100000 in
theorem span_gives {B : Nat} {w0 : World} {H : Hp} {v : Value} {n : Nat} (h6 : n ≤ 6) (Gs : LsV) (hv : It.row v 31 1 (Gs.map (·.1)) ∈ H) (hG : inH Gs H) (hgv : ∀ g ∈ vecs Gs, Vec n g) (hl : Gs.length ≤ 46656) :
    GivesE Tryd.prog 20 #[v] B w0 H (fun v' H' => ∃ Bs : LsV, Bas n (vecs Bs) ∧ (∀ u, Spn rkT (vecs Bs) u ↔ Spn rkT (vecs Gs) u) ∧ Bs.length ≤ Gs.length ∧ It.row v' 31 1 (Bs.map (·.1)) ∈ H' ∧ inH Bs H' ∧ ∀ x ∈ H, x ∈ H') := by
  have l1 : (Gs.map (·.1)).length = Gs.length := List.length_map _
  refine givesE_of (args := [v]) [(0, v)] Tryd.func20 rfl Tryd.ntmps20 rfl (argsF_cons rfl argsF_nil) ?_
  repeat' (first | (apply Jq_assign; exact rfl; exact rfl) | (apply J_lit0; exact rfl; (intro _)) | refine thenQ_normal ?_ | refine JC_seq ?_ | refine JC_region ?_ | refine J_nil ?_ | refine JC_block ?_)
  rename_i b3
  refine JC_loop (X := Nat × Value × LsV × Hp) (fun p => p.1 ≤ Gs.length ∧ Bas n (vecs p.2.2.1) ∧ (∀ u, Spn rkT (vecs p.2.2.1) u ↔ Spn rkT ((vecs Gs).take p.1) u) ∧ p.2.2.1.length ≤ p.1 ∧ It.row p.2.1 31 1 (p.2.2.1.map (·.1)) ∈ p.2.2.2 ∧ inH p.2.2.1 p.2.2.2 ∧ ∀ x ∈ H, x ∈ p.2.2.2)
    (fun p => [(4, .int .i64 (p.1 : Int)), (3, p.2.1), (0, v)]) (fun p => p.2.2.2) (fun p => Gs.length - p.1) (0, .slice (some ⟨b3, 0, none⟩) 0 0, [], .row (.slice (some ⟨b3, 0, none⟩) 0 0) 31 1 [] :: H) ⟨Nat.zero_le _, ⟨fun b h => absurd h List.not_mem_nil, fun b h => absurd h List.not_mem_nil, List.Pairwise.nil⟩, fun u => Iff.rfl, Nat.le_refl _, m0, fun p hp => absurd hp List.not_mem_nil, fun _ h => mS h⟩ ?_ ?_
  · dsimp only
    (refine ent ?_ ?_; (repeat refine fr_cons rfl ?_); exact fr_nil; (repeat (exact List.Sublist.refl _)))
  · rintro ⟨i, vb, Bs, Hx⟩ ⟨hi, hbas, hspn, hbl, hvb, hB, hsub⟩
    dsimp only at hi hbas hspn hbl hvb hB hsub ⊢
    have iv : RB v Hx 31 1 (Gs.map (·.1)) := ⟨hsub _ hv⟩
    have ivb : RB vb Hx 31 1 (Bs.map (·.1)) := ⟨hvb⟩
    have l2 : (Bs.map (·.1)).length = Bs.length := List.length_map _
    by_cases hlt : i < Gs.length
    · obtain ⟨p, hp⟩ : ∃ p, Gs[i]? = some p := ⟨_, List.getElem?_eq_getElem hlt⟩
      have hp2 : (vecs Gs)[i]? = some p.2 := by unfold vecs; rw [List.getElem?_map, hp]; rfl
      have hpv := hgv p.2 (List.mem_of_getElem? hp2)
      have g1 : (Gs.map (·.1))[i]? = some p.1 := by rw [List.getElem?_map, hp]; rfl
      have hpm := hsub _ (hG p (List.mem_of_getElem? hp))
      have htk : (vecs Gs).take (i + 1) = (vecs Gs).take i ++ [p.2] := by rw [List.take_add_one, hp2]; rfl
      have hasG : AscL rkT ((vecs Gs).take (i + 1)) := fun b hb => (hgv b (List.mem_of_mem_take hb)).asc
      have hcons : ∀ u, Spn rkT (p.2 :: vecs Bs) u ↔ Spn rkT ((vecs Gs).take (i + 1)) u := fun u => by
        have hc : AscL rkT (p.2 :: vecs Bs) := fun b hb => by
          rcases List.mem_cons.1 hb with rfl | hb
          · exact hpv.asc
          · exact hbas.ascL b hb
        constructor
        · refine Spn.mono rkT_inj hasG fun b hb => ?_
          rcases List.mem_cons.1 hb with rfl | hb
          · exact Spn.one (by rw [htk]; exact List.mem_append.2 (.inr (List.mem_singleton.2 rfl)))
          · exact Spn.mono rkT_inj hasG (fun c hc => Spn.one (by rw [htk]; exact List.mem_append.2 (.inl hc))) ((hspn b).1 (Spn.one hb))
        · refine Spn.mono rkT_inj hc fun b hb => ?_
          rw [htk] at hb
          rcases List.mem_append.1 hb with hb | hb
          · exact Spn.mono rkT_inj hc (fun c hc => Spn.one (List.mem_cons_of_mem _ hc)) ((hspn b).2 (Spn.one hb))
          · rw [List.mem_singleton] at hb
            subst hb
            exact Spn.one List.mem_cons_self
      have hwit : (∀ b ∈ vecs Bs, Vec n b ∧ b ≠ []) := fun b hb => ⟨hbas.vec b hb, hbas.ne b hb⟩
      by_cases h0 : lessL p.2 (vecs Bs) = []
      · have hz : (lessL p.2 (vecs Bs)).length = 0 := by rw [h0]; rfl
        repeat' (first | (apply JcE; exact rfl; exact rfl; exact rfl; infer_instance; (exact elim_gives h6 p.2 Bs hpm hvb hB hpv hwit (by omega)); (intro v' H' hV; obtain ⟨hv', hsub'⟩ := hV; have iv' : RB v' H' 43 8 ((lessL p.2 (vecs Bs)).flatMap encS) := ⟨hv'⟩; have lv' := fl_len encS_len (lessL p.2 (vecs Bs)))) | (apply Jq_lenRs; exact rfl; exact rfl; exact rb; exact lv'; decide) | (apply Jq_move; exact rfl; exact rfl) | (apply Jq_assign; exact rfl; exact rfl) | (apply Jq_cmp; exact rfl; exact rfl; exact rfl; exact rfl) | (apply Jq_add; exact rfl; exact rfl; exact rfl; omega) | (apply Jq_lenR; exact rfl; exact rfl; (exact rb)) | (apply Jq_indexRN; exact rfl; exact rfl; exact rfl; (exact rb); omega) | (apply Jq_loadR; exact rfl; exact rfl; (exact rb); (exact g1)) | refine thenQ_normal ?_ | refine thenQ_exit ?_ | refine inBlockQ_here ?_ | refine JC_seq ?_ | refine JC_region ?_ | refine J_nil ?_ | refine JC_block ?_ | refine JC_skip ?_ | refine JC_exit ?_ | (apply JC_dec_true; exact rfl; omega))
        refine ⟨(i + 1, vb, Bs, H'), ⟨by dsimp only; omega, hbas, fun u => (hbas.same hpv h0 u).trans (hcons u), by dsimp only; omega, hsub' _ hvb, hB.mono hsub', fun z hz => hsub' _ (hsub _ hz)⟩, by dsimp only; omega, ?_⟩
        dsimp only
        (refine ent ?_ ?_; (repeat refine fr_cons rfl ?_); exact fr_nil; (repeat (exact List.Sublist.refl _)))
      · obtain ⟨x, hx⟩ : ∃ x, (lessL p.2 (vecs Bs)).head? = some x := by
          cases e : lessL p.2 (vecs Bs) with
          | nil => exact absurd e h0
          | cons y r => exact ⟨y, rfl⟩
        have hx0 := head_get hx
        have hpos : 0 < (lessL p.2 (vecs Bs)).length := (List.getElem?_eq_some_iff.1 hx0).1
        have ux := encS_len x
        have gx0 := fl_at encS_len hx0
        repeat' (first | (apply JcE; exact rfl; exact rfl; exact rfl; infer_instance; (exact elim_gives h6 p.2 Bs hpm hvb hB hpv hwit (by omega)); (intro v' H' hV; obtain ⟨hv', hsub'⟩ := hV; have iv' : RB v' H' 43 8 ((lessL p.2 (vecs Bs)).flatMap encS) := ⟨hv'⟩; have lv' := fl_len encS_len (lessL p.2 (vecs Bs)))) | (apply Jq_lenRs; exact rfl; exact rfl; exact rb; exact lv'; decide) | (apply Jq_move; exact rfl; exact rfl) | (apply Jq_assign; exact rfl; exact rfl) | (apply Jq_cmp; exact rfl; exact rfl; exact rfl; exact rfl) | (apply Jq_lenR; exact rfl; exact rfl; (exact rb)) | (apply Jq_indexRN; exact rfl; exact rfl; exact rfl; (exact rb); omega) | (apply Jq_loadR; exact rfl; exact rfl; (exact rb); (exact g1)) | refine thenQ_normal ?_ | refine JC_seq ?_ | refine JC_region ?_ | refine J_nil ?_ | refine JC_block ?_ | refine JC_skip ?_ | (apply JC_dec_true; exact rfl; omega) | (apply JC_dec_false; exact rfl; omega))
        have ivb' : RB vb H' 31 1 (Bs.map (·.1)) := ⟨hsub' _ hvb⟩
        have hB' := hB.mono hsub'
        refine JC_cutB (Y := Nat) (fun k => k ≤ Bs.length ∧ (∀ j b y, j < k → (vecs Bs)[j]? = some b → b.head? = some y → rkT y < rkT x) ∧ ∀ b y, (vecs Bs)[k]? = some b → b.head? = some y → ¬ rkT y < rkT x) (fun k => [(6, .int .i64 (k : Int)), (5, v'), (4, .int .i64 (i : Int)), (3, vb), (0, v)]) (fun _ => H') ?_ ?_
        · refine JC_loop (X := Nat) (fun k => k ≤ Bs.length ∧ ∀ j b y, j < k → (vecs Bs)[j]? = some b → b.head? = some y → rkT y < rkT x) (fun k => [(6, .int .i64 (k : Int)), (5, v'), (4, .int .i64 (i : Int)), (3, vb), (0, v)]) (fun _ => H') (fun k => Bs.length - k) 0 ⟨Nat.zero_le _, fun j b y h => absurd h (Nat.not_lt_zero _)⟩ ?_ ?_
          · (refine ent ?_ ?_; (repeat refine fr_cons rfl ?_); exact fr_nil; (repeat (exact List.Sublist.refl _)))
          · rintro k ⟨hk, hlo⟩
            by_cases hkl : k < Bs.length
            · obtain ⟨q, hq⟩ : ∃ q, Bs[k]? = some q := ⟨_, List.getElem?_eq_getElem hkl⟩
              have hq2 : (vecs Bs)[k]? = some q.2 := by unfold vecs; rw [List.getElem?_map, hq]; rfl
              have gq : (Bs.map (·.1))[k]? = some q.1 := by rw [List.getElem?_map, hq]; rfl
              have iq : RB q.1 H' 43 8 (q.2.flatMap encS) := ⟨hB' q (List.mem_of_getElem? hq)⟩
              obtain ⟨y, hy⟩ : ∃ y, q.2.head? = some y := by
                cases e : q.2 with
                | nil => exact absurd e (hbas.ne _ (List.mem_of_getElem? hq2))
                | cons z r => exact ⟨z, rfl⟩
              have hy0 := head_get hy
              have hqpos : 0 < q.2.length := (List.getElem?_eq_some_iff.1 hy0).1
              have lq := fl_len encS_len q.2
              have uy := encS_len y
              have gy0 := fl_at encS_len hy0
              by_cases hyx : rkT y < rkT x
              · repeat' (first | (apply JC_draw mixed; kernel_rfl) | (apply Jq_indexRs (i := 0) (v := q.1) (xs := q.2.flatMap encS); exact rfl; exact rfl; exact rfl; exact rb; omega) | (apply Jq_indexRs (i := 0) (v := v') (xs := (lessL p.2 (vecs Bs)).flatMap encS); exact rfl; exact rfl; exact rfl; exact rb; omega) | (apply Jq_loadRA (v := q.1) (xs := q.2.flatMap encS); exact rfl; exact rfl; exact rb; exact gy0; exact uy; decide) | (apply Jq_loadRA (v := v') (xs := (lessL p.2 (vecs Bs)).flatMap encS); exact rfl; exact rfl; exact rb; exact gx0; exact ux; decide) | (apply Jq_move; exact rfl; exact rfl) | (apply Jq_assign; exact rfl; exact rfl) | (apply Jq_cmp; exact rfl; exact rfl; exact rfl; exact rfl) | (apply Jq_add; exact rfl; exact rfl; exact rfl; omega) | (apply Jq_pick_true; exact rfl; exact rfl; exact rfl) | (apply J_on; exact rfl; exact rfl) | (apply Jc; exact rfl; exact rfl; exact rfl; infer_instance; ((intro w hw); exact before_gives y x w)) | (apply Jq_lenR; exact rfl; exact rfl; (exact rb)) | (apply Jq_indexRN; exact rfl; exact rfl; exact rfl; (exact rb); omega) | (apply Jq_loadR; exact rfl; exact rfl; (exact rb); (exact gq)) | refine thenQ_normal ?_ | refine inBlockQ_normal ?_ | refine JC_seq ?_ | refine JC_region ?_ | refine J_nil ?_ | refine JC_block ?_ | refine JC_skip ?_ | (apply JC_dec_true; exact rfl; omega) | (apply J_gdT; exact rfl; exact rfl; omega))
                refine ⟨k + 1, ⟨by omega, fun j b z hj hb hz => ?_⟩, by omega, ?_⟩
                · by_cases e : j = k
                  · subst e; rw [hq2] at hb; cases hb; rw [hy] at hz; cases hz; exact hyx
                  · exact hlo j b z (by omega) hb hz
                · (refine ent ?_ ?_; (repeat refine fr_cons rfl ?_); exact fr_nil; (repeat (exact List.Sublist.refl _)))
              · repeat' (first | (apply JC_draw mixed; kernel_rfl) | (apply Jq_indexRs (i := 0) (v := q.1) (xs := q.2.flatMap encS); exact rfl; exact rfl; exact rfl; exact rb; omega) | (apply Jq_indexRs (i := 0) (v := v') (xs := (lessL p.2 (vecs Bs)).flatMap encS); exact rfl; exact rfl; exact rfl; exact rb; omega) | (apply Jq_loadRA (v := q.1) (xs := q.2.flatMap encS); exact rfl; exact rfl; exact rb; exact gy0; exact uy; decide) | (apply Jq_loadRA (v := v') (xs := (lessL p.2 (vecs Bs)).flatMap encS); exact rfl; exact rfl; exact rb; exact gx0; exact ux; decide) | (apply Jq_move; exact rfl; exact rfl) | (apply Jq_cmp; exact rfl; exact rfl; exact rfl; exact rfl) | (apply Jq_pick_true; exact rfl; exact rfl; exact rfl) | (apply J_on; exact rfl; exact rfl) | (apply Jc; exact rfl; exact rfl; exact rfl; infer_instance; ((intro w hw); exact before_gives y x w)) | (apply Jq_lenR; exact rfl; exact rfl; (exact rb)) | (apply Jq_indexRN; exact rfl; exact rfl; exact rfl; (exact rb); omega) | (apply Jq_loadR; exact rfl; exact rfl; (exact rb); (exact gq)) | refine thenQ_normal ?_ | refine thenQ_exit ?_ | refine inBlockQ_here ?_ | refine JC_seq ?_ | refine J_nil ?_ | refine JC_exit ?_ | (apply JC_dec_false; exact rfl; omega) | (apply J_gdT; exact rfl; exact rfl; omega))
                refine ⟨k, ⟨hk, hlo, fun b z hb hz => by rw [hq2] at hb; cases hb; rw [hy] at hz; cases hz; exact hyx⟩, ?_⟩
                (refine ent ?_ ?_; (repeat refine fr_cons rfl ?_); exact fr_nil; (repeat (exact List.Sublist.refl _)))
            · repeat' (first | (apply JC_draw mixed; kernel_rfl) | (apply Jq_move; exact rfl; exact rfl) | (apply Jq_cmp; exact rfl; exact rfl; exact rfl; exact rfl) | (apply Jq_pick_false; exact rfl; exact rfl; exact rfl) | (apply J_skip; exact rfl; exact rfl; exact rfl; exact rfl) | (apply Jq_lenR; exact rfl; exact rfl; (exact rb)) | refine thenQ_normal ?_ | refine thenQ_exit ?_ | refine inBlockQ_here ?_ | refine JC_seq ?_ | refine J_nil ?_ | refine JC_exit ?_ | (apply JC_if_false; exact rfl) | (apply J_gdF; exact rfl; exact rfl; omega))
              refine ⟨k, ⟨hk, hlo, fun b z hb hz => by unfold vecs at hb; rw [List.getElem?_eq_none (by rw [List.length_map]; omega)] at hb; cases hb⟩, ?_⟩
              (refine ent ?_ ?_; (repeat refine fr_cons rfl ?_); exact fr_nil; (repeat (exact List.Sublist.refl _)))
        · rintro k ⟨hk, hlo, hhi⟩
          obtain ⟨hb1, hb2⟩ := hbas.more hpv hx hlo hhi
          have hnew : vecs (Bs.take k ++ (v', lessL p.2 (vecs Bs)) :: Bs.drop k) = (vecs Bs).take k ++ lessL p.2 (vecs Bs) :: (vecs Bs).drop k := by
            unfold vecs
            rw [List.map_append, List.map_cons, List.map_take, List.map_drop]
          have hvals : (Bs.take k ++ (v', lessL p.2 (vecs Bs)) :: Bs.drop k).map (·.1) = (Bs.map (·.1)).take k ++ (v' :: (Bs.map (·.1)).drop k) := by
            rw [List.map_append, List.map_cons, List.map_take, List.map_drop]
          rw [← hnew] at hb1 hb2
          have hlen2 : (Bs.take k ++ (v', lessL p.2 (vecs Bs)) :: Bs.drop k).length = Bs.length + 1 := by
            rw [List.length_append, List.length_cons, List.length_take, List.length_drop]; omega
          have e1' : [v'] ++ ((Bs.map (·.1)).drop (k * 1)).take ((Bs.length - k) * 1) = v' :: (Bs.map (·.1)).drop k := by
            rw [Nat.mul_one, Nat.mul_one, List.take_of_length_le (by rw [List.length_drop, l2]; exact Nat.le_refl _)]; rfl
          have e2' : [] ++ ((Bs.map (·.1)).drop (0 * 1)).take ((k - 0) * 1) = (Bs.map (·.1)).take k := by
            rw [Nat.zero_mul, List.drop_zero, Nat.sub_zero, Nat.mul_one]; rfl
          have e3' : (Bs.map (·.1)).take k ++ (v' :: (Bs.map (·.1)).drop k) = (Bs.take k ++ (v', lessL p.2 (vecs Bs)) :: Bs.drop k).map (·.1) := hvals.symm
          have k1 : (v' :: (Bs.map (·.1)).drop k).length = Bs.length - k + 1 := by rw [List.length_cons, List.length_drop, l2]
          have k2 : ((Bs.map (·.1)).take k).length = k := by rw [List.length_take, l2]; omega
          have l3 : (Bs.map (·.1)).length = Bs.length * 1 := by rw [l2, Nat.mul_one]
          refine JC_onesV (vs := v' :: Bs.map (·.1)) (e := 43) (sz := 8) (fun z hz => (List.mem_cons.1 hz).elim (fun e => ⟨_, e ▸ hv'⟩) (hB'.rows z)) fun hone => ?_
          have hone1 : ∀ c ∈ Bs.map (·.1), c.oneCell' = true := fun c hc => (hone c (List.mem_cons_of_mem _ hc)).1
          have hone2 : ∀ c ∈ v' :: (Bs.map (·.1)).drop k, c.oneCell' = true := fun c hc => by
            rcases List.mem_cons.1 hc with rfl | hc
            · exact (hone _ List.mem_cons_self).1
            · exact hone1 c (List.mem_of_mem_drop hc)
          have ca := (hone _ List.mem_cons_self).2
          repeat' (first | (apply J_lit1; exact rfl; exact rfl; exact ca; (intro _)) | (apply Jq_partL; exact rfl; exact rfl; exact rfl; exact rb; exact l3; decide; omega) | (apply Jq_partH; exact rfl; exact rfl; exact rfl; exact rb; exact l3; decide; omega) | (apply J_apP; decide; exact rfl; exact rfl; exact rfl; infer_instance; exact rb; exact l3; omega; exact Nat.le_refl _; exact hone1; ((show (_ + _) * _ ≤ _); (simp only [List.length_cons, List.length_nil]); omega); decide; exact e1'; (intro _)) | (apply J_apP; decide; exact rfl; exact rfl; exact rfl; infer_instance; exact rb; exact l3; omega; omega; exact hone1; ((show (_ + _) * _ ≤ _); (simp only [List.length_nil]); omega); decide; exact e2'; (intro _)) | (apply J_apR; decide; exact rfl; exact rfl; exact rfl; infer_instance; exact rb; exact hone2; ((show (_ + _) * _ ≤ _); omega); decide; exact e3'; (intro _)) | (apply Jq_move; exact rfl; exact rfl) | (apply Jq_assign; exact rfl; exact rfl) | (apply Jq_add; exact rfl; exact rfl; exact rfl; omega) | (apply J_lit0; exact rfl; (intro _)) | refine thenQ_normal ?_ | refine inBlockQ_normal ?_ | refine JC_seq ?_ | refine JC_region ?_ | refine J_nil ?_)
          rename_i b7 v7 b8 v8 vn
          refine ⟨(i + 1, vn, Bs.take k ++ (v', lessL p.2 (vecs Bs)) :: Bs.drop k, .row vn 31 1 ((Bs.take k ++ (v', lessL p.2 (vecs Bs)) :: Bs.drop k).map (·.1)) :: .row v7 31 1 (v' :: (Bs.map (·.1)).drop k) :: H'), ⟨by dsimp only; omega, hb1, fun u => (hb2 u).trans (hcons u), by dsimp only; omega, m0, fun q hq => ?_, fun z hz => mS (mS (hsub' _ (hsub _ hz)))⟩, by dsimp only; omega, ?_⟩
          · rcases List.mem_append.1 hq with hq | hq
            · exact mS (mS (hB' q (List.mem_of_mem_take hq)))
            · rcases List.mem_cons.1 hq with rfl | hq
              · exact mS (mS hv')
              · exact mS (mS (hB' q (List.mem_of_mem_drop hq)))
          · dsimp only
            (refine ent ?_ ?_; (repeat refine fr_cons rfl ?_); exact fr_nil; (repeat (exact List.Sublist.refl _)))
    · obtain rfl : i = Gs.length := by omega
      have hlv : (vecs Gs).length = Gs.length := List.length_map _
      rw [← hlv, List.take_length] at hspn
      repeat' (first | (apply Jq_move; exact rfl; exact rfl) | (apply Jq_assign; exact rfl; exact rfl) | (apply Jq_cmp; exact rfl; exact rfl; exact rfl; exact rfl) | (apply Jq_lenR; exact rfl; exact rfl; (exact rb)) | refine thenQ_normal ?_ | refine thenQ_exit ?_ | refine inBlockQ_here ?_ | refine JC_seq ?_ | refine JC_region ?_ | refine J_nil ?_ | refine JC_ret ?_ | refine JC_exit ?_ | (apply JC_dec_false; exact rfl; omega))
      refine e1 rfl rfl rfl ?_ ⟨Bs, hbas, hspn, hbl, hvb, hB, hsub⟩
      (refine ent ?_ ?_; (repeat refine fr_cons rfl ?_); exact fr_nil; (repeat (exact List.Sublist.refl _)))
/-- The images of states. -/
def imgsV (n : Nat) (X O : List Nat) (S : List StB) : List (List StB) := S.map fun x => tfold (fol n X O x)
theorem imgs_snoc (n : Nat) (X O : List Nat) (S : List StB) (x : StB) : imgsV n X O (S ++ [x]) = imgsV n X O S ++ [tfold (fol n X O x)] := by unfold imgsV; rw [List.map_append]; rfl
theorem img_vec {n : Nat} (h8 : n ≤ 8) {X O : List Nat} {x : StB} (px : isPerm x.1 n) : Vec n (tfold (fol n X O x)) := ⟨(tfold_odd _).1, fun y hy => by
  have h1 : y ∈ fol n X O x := List.count_pos_iff.1 (by have := ((tfold_odd (fol n X O x)).2.1 y).1 hy; omega)
  obtain ⟨r, hr, rfl⟩ := List.mem_map.1 h1
  have h2 := (List.mem_filter.1 hr).1
  rw [eout_filter] at h2
  exact led_perm h8 px (List.mem_filter.1 h2).1⟩
theorem mem_imgsV {n : Nat} {X O : List Nat} {S : List StB} (h8 : n ≤ 8) (hS : ∀ x ∈ S, isPerm x.1 n) : ∀ g ∈ imgsV n X O S, Vec n g := fun g hg => by
  obtain ⟨x, hx, rfl⟩ := List.mem_map.1 hg
  exact img_vec h8 (hS x hx)
set_option maxRecDepth 100000 in
theorem images_gives {B : Nat} {w0 : World} {H : Hp} {v : Value} (n : Nat) (X O : List Nat) (S : List StB) (bX : isB X) (bO : isB O) (h6 : n ≤ 6) (hv : It.row v 43 8 (S.flatMap encS) ∈ H) (hS : ∀ x ∈ S, isPerm x.1 n) (hl : S.length ≤ 46656) :
    GivesE Tryd.prog 21 #[.agg (gv (n : Int) X O).toArray, v] B w0 H (fun v' H' => ∃ Gs : LsV, vecs Gs = imgsV n X O S ∧ It.row v' 31 1 (Gs.map (·.1)) ∈ H' ∧ inH Gs H' ∧ ∀ x ∈ H, x ∈ H') := by
  have ug := gv_len (n := (n : Int)) bX.1 bO.1
  have lS := fl_len encS_len S
  have iv0 : RB v H 43 8 (S.flatMap encS) := ⟨hv⟩
  refine givesE_of (args := [.agg (gv (n : Int) X O).toArray, v]) [(0, .agg (gv (n : Int) X O).toArray), (1, v)] Tryd.func21 rfl Tryd.ntmps21 rfl (argsF_cons rfl (argsF_cons rfl argsF_nil)) ?_
  repeat' (first | (apply Jq_assign; exact rfl; exact rfl) | (apply J_box; exact rfl; exact rfl; exact rfl; (intro _)) | (apply J_lit0; exact rfl; (intro _)) | refine thenQ_normal ?_ | refine JC_seq ?_ | refine JC_region ?_ | refine J_nil ?_ | refine JC_block ?_)
  rename_i b2 b5
  refine JC_loop (X := Nat × Value × LsV × Hp) (fun p => p.1 ≤ S.length ∧ vecs p.2.2.1 = imgsV n X O (S.take p.1) ∧ inH p.2.2.1 p.2.2.2 ∧ (∀ x ∈ H, x ∈ p.2.2.2) ∧ It.blk b2 (gv (n : Int) X O) 29 ∈ p.2.2.2)
    (fun p => [(6, .int .i64 (p.1 : Int)), (5, p.2.1), (1, v), (2, .pointer (some ⟨b2, 0, none⟩))]) (fun p => .row p.2.1 31 1 (p.2.2.1.map (·.1)) :: p.2.2.2) (fun p => S.length - p.1) (0, .slice (some ⟨b5, 0, none⟩) 0 0, [], .blk b2 (gv (n : Int) X O) 29 :: H) ⟨Nat.zero_le _, rfl, fun p hp => absurd hp List.not_mem_nil, fun _ h => mS h, m0⟩ ?_ ?_
  · dsimp only
    (refine entP (ent ?_ (List.nil_sublist _)) ?_; (repeat refine fr_cons rfl ?_); exact fr_nil; (repeat (exact sp_refl)))
  · rintro ⟨i, vb, Gs, Hx⟩ ⟨hi, hG, hin, hsub, hb2⟩
    dsimp only at hi hG hin hsub hb2 ⊢
    have hGl : Gs.length = i := by
      have := congrArg List.length hG
      unfold vecs imgsV at this
      rw [List.length_map, List.length_map, List.length_take] at this
      omega
    have iv : RB v Hx 43 8 (S.flatMap encS) := ⟨hsub _ hv⟩
    have ib2 : MB b2 Hx (gv (n : Int) X O) 29 := ⟨hb2⟩
    have l2 : (Gs.map (·.1)).length = Gs.length := List.length_map _
    by_cases hlt : i < S.length
    · obtain ⟨x, hx⟩ := get_in hlt
      have ux := encS_len x
      have hgx := fl_at encS_len hx
      have px := hS x (List.mem_of_getElem? hx)
      have hsf := fun H2 => sfol_gives (B := B) (w0 := w0) (H := H2) n X O x bX bO (by omega) px
      have htk : imgsV n X O (S.take (i + 1)) = imgsV n X O (S.take i) ++ [tfold (fol n X O x)] := by
        rw [List.take_add_one, hx]; exact imgs_snoc n X O _ x
      have hvx := hsub _ hv
      repeat' (first | (apply Jq_move; exact rfl; exact rfl) | (apply Jq_cmp; exact rfl; exact rfl; exact rfl; exact rfl) | (apply Jq_lenRs; exact rfl; exact rfl; (exact rb); exact lS; decide) | refine thenQ_normal ?_ | refine JC_seq ?_ | refine JC_region ?_ | refine J_nil ?_ | refine JC_block ?_ | refine JC_skip ?_ | (apply JC_dec_true; exact rfl; omega))
      have hmap : ∀ z : Value, Gs.map (·.1) ++ [z] = (Gs ++ [(z, tfold (fol n X O x))]).map (·.1) := fun z => by rw [List.map_append]; rfl
      have hnxt : ∀ z : Value, vecs (Gs ++ [(z, tfold (fol n X O x))]) = imgsV n X O (S.take (i + 1)) := fun z => by rw [htk, ← hG]; unfold vecs; rw [List.map_append]; rfl
      have hinn : ∀ z : Value, inH (Gs ++ [(z, tfold (fol n X O x))]) (.row z 43 8 ((tfold (fol n X O x)).flatMap encS) :: Hx) := fun z q hq => by
        rcases List.mem_append.1 hq with hq | hq
        · exact mS (hin q hq)
        · rw [List.mem_singleton] at hq
          subst hq
          exact m0
      refine JC_any (m := 10) rfl [.blk b2 (gv (n : Int) X O) 29, .row v 43 8 (S.flatMap encS)] mixed (by ((repeat (apply sub_cons; (focus ((with_reducible (repeat (first | assumption | refine mS ?_))); done)))); exact sub_nil)) ?_
      (apply JF_q 0; exact rfl; kernel_rfl; exact rfl; (intro E hE; (apply q_move; exact rfl)))
      (apply JF_q 1; exact rfl; kernel_rfl; exact rfl; (intro E hE; (apply q_loadW; exact rfl; (refine hE _ ?_; exact mb); (omega))))
      (apply JF_q 2; exact rfl; kernel_rfl; exact rfl; (intro E hE; (apply q_move; exact rfl)))
      (apply JF_q 3; exact rfl; kernel_rfl; exact rfl; (intro E hE; (apply q_move; exact rfl)))
      (apply JF_q 4; exact rfl; kernel_rfl; exact rfl; (intro E hE; (apply q_indexRs; exact rfl; exact rfl; (refine hE _ ?_; exact rb); omega)))
      (apply JF_q 5; exact rfl; kernel_rfl; exact rfl; (intro E hE; (apply q_loadRA; exact rfl; (refine hE _ ?_; exact rb); (exact hgx); (omega); decide)))
      (apply JF_all [6]; kernel_rfl)
      (apply JFs_cons; exact rfl)
      · (apply JcE; exact rfl; exact rfl; exact rfl; infer_instance; (exact hsf _); (intro vf H' hV; subst hV; refine J_one m0 fun ho ca => ?_))
        (apply J_nil; apply JF_end; ((repeat (apply sub_cons; (focus ((with_reducible (repeat (first | assumption | refine mS ?_))); done)))); exact sub_nil))
        (apply JF_all [7]; kernel_rfl)
        (apply JFs_cons; exact rfl)
        · (apply J_lit1; exact rfl; exact rfl; exact ca; (intro _))
          (apply J_nil; apply JF_end; ((repeat (apply sub_cons; (focus ((with_reducible (repeat (first | assumption | refine mS ?_))); done)))); exact sub_nil))
          (apply JF_all [8]; kernel_rfl)
          (apply JFs_cons; exact rfl)
          · ((apply J_ap; decide; exact rfl; exact rfl; exact rfl; infer_instance; exact m0; exact List.cons_ne_nil _ _; (intro c hc; rw [List.mem_singleton] at hc; subst hc; exact ho); ((show (_ + _) * _ ≤ _); (simp only [List.length_cons, List.length_nil]); omega); decide; exact hmap _; (intro vn)))
            (apply J_nil; apply JF_end; ((repeat (apply sub_cons; (focus ((with_reducible (repeat (first | assumption | refine mS ?_))); done)))); exact sub_nil))
            (apply JF_q 9; exact rfl; kernel_rfl; exact rfl; (intro E hE; (apply q_assign; exact rfl)))
            (apply JF_done; kernel_rfl)
            ((repeat' (first | (apply Jq_move; exact rfl; exact rfl) | (apply Jq_assign; exact rfl; exact rfl) | (apply Jq_add; exact rfl; exact rfl; exact rfl; omega) | refine thenQ_normal ?_ | refine inBlockQ_normal ?_ | refine JC_region ?_ | refine J_nil ?_)); refine ⟨(i + 1, vn, Gs ++ [(vf, tfold (fol n X O x))], .row vf 43 8 ((tfold (fol n X O x)).flatMap encS) :: Hx), ⟨(by dsimp only; omega), hnxt vf, hinn vf, (fun z hz => mS (hsub z hz)), mS hb2⟩, (by dsimp only; omega), ?_⟩; dsimp only; (refine entP (ent ?_ (List.nil_sublist _)) ?_; (repeat refine fr_cons rfl ?_); exact fr_nil; (repeat (first | exact sp_end | (with_reducible apply sp2)))))
          exact JFs_nil
        exact JFs_nil
      exact JFs_nil
    · obtain rfl : i = S.length := by omega
      rw [List.take_length] at hG
      repeat' (first | (apply Jq_move; exact rfl; exact rfl) | (apply Jq_assign; exact rfl; exact rfl) | (apply Jq_cmp; exact rfl; exact rfl; exact rfl; exact rfl) | (apply Jq_lenRs; exact rfl; exact rfl; (exact rb); exact lS; decide) | refine thenQ_normal ?_ | refine thenQ_exit ?_ | refine inBlockQ_here ?_ | refine JC_seq ?_ | refine JC_region ?_ | refine J_nil ?_ | refine JC_ret ?_ | refine JC_exit ?_ | (apply JC_dec_false; exact rfl; omega))
      refine e1 rfl rfl rfl ?_ ⟨Gs, hG, m0, fun p hp => mS (hin p hp), fun z hz => mS (hsub z hz)⟩
      (refine ent ?_ ?_; (repeat refine fr_cons rfl ?_); exact fr_nil; (repeat (exact List.Sublist.refl _)))
end Go.Proofs.YtmbbcmebdefggaaDoor
