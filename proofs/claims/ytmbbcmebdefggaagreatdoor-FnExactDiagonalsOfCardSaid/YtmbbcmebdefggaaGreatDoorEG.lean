/- Walks: the reference's sums with different leading states. Walks: the reference's families of sums, images, ranks. Walks: states as rows of bits, what is left of a row. Plain: states of a grade and what follows them; ranks as numbers. Walks: the program's rank of a grade. Walks: the rank of a grade in the reference and in the program; the law. -/
import Derived.Test.YtmbbcmebdefggaaGreatDoorHO
import Derived.Test.YtmbbcmebdefggaaGreatDoorVA
import Derived.Test.YtmbbcmebdefggaaGreatDoorED
import Derived.Test.YtmbbcmebdefggaaGreatDoorHM
import Derived.Test.YtmbbcmebdefggaaGreatDoorHH
import Derived.Test.YtmbbcmebdefggaaGreatDoorVN
namespace Go.Proofs.YtmbbcmebdefggaaGreatDoor
open Go Go.RowKit SL
/-- A sum of states of n columns. -/
structure Vec (n : Nat) (l : List StB) : Prop where
  asc : Asc rkT l
  pm : ∀ x ∈ l, isPerm x.1 n
theorem Vec.len {n : Nat} {l : List StB} (h6 : n ≤ 6) (h : Vec n l) : l.length ≤ 46656 := sums_len h6 h.asc h.pm
theorem Vec.sd {n : Nat} {a b : List StB} (ha : Vec n a) (hb : Vec n b) : Vec n (sd rkT a b) := ⟨sd_asc a b ha.asc hb.asc, fun x hx => (sd_sub a b x hx).elim (ha.pm x) (hb.pm x)⟩
/-- One leading state taken away. -/
noncomputable def less1 (s b : List StB) : List StB := match b with
  | [] => s
  | x :: _ => open Classical in if x ∈ s then sd rkT s b else s
noncomputable def lessL (s : List StB) (B : List (List StB)) : List StB := B.foldl less1 s
theorem less1_vec {n : Nat} {s b : List StB} (hs : Vec n s) (hb : Vec n b) : Vec n (less1 s b) := by
  unfold less1
  split
  · exact hs
  · split
    · exact hs.sd hb
    · exact hs
theorem lessL_snoc (s : List StB) (B : List (List StB)) (b : List StB) : lessL s (B ++ [b]) = less1 (lessL s B) b := by unfold lessL; rw [List.foldl_append]; rfl
theorem less1_yes {s b : List StB} {x : StB} (hb : b.head? = some x) (h : x ∈ s) : less1 s b = sd rkT s b := by
  cases b with
  | nil => cases hb
  | cons y t => cases hb; exact if_pos h
theorem less1_no {s b : List StB} {x : StB} (hb : b.head? = some x) (h : x ∉ s) : less1 s b = s := by
  cases b with
  | nil => cases hb
  | cons y t => cases hb; exact if_neg h
abbrev LsV : Type := List (Value × List StB)
def vecs (L : LsV) : List (List StB) := L.map (·.2)
/-- Where they lie. -/
def inH (L : LsV) (H : Hp) : Prop := ∀ p ∈ L, It.row p.1 72 8 (p.2.flatMap encS) ∈ H
theorem inH.mono {L : LsV} {H H' : Hp} (h : inH L H) (k : ∀ x ∈ H, x ∈ H') : inH L H' := fun p hp => k _ (h p hp)
theorem head_get {b : List StB} {x : StB} (h : b.head? = some x) : b[0]? = some x := by
  cases b with
  | nil => cases h
  | cons y t => exact h
/-- The first that is not before a state: there, or none. -/
theorem at_mem_iff {s : List StB} {k : Nat} {x : StB} (ha : Asc rkT s) (hlo : ∀ j y, j < k → s[j]? = some y → rkT y < rkT x) (hhi : ∀ y, s[k]? = some y → ¬ rkT y < rkT x) : x ∈ s ↔ s[k]? = some x := by
  constructor
  · intro h
    obtain ⟨i, hi, e⟩ := List.getElem_of_mem h
    have hix : s[i]? = some x := by rw [List.getElem?_eq_getElem hi, e]
    rcases Nat.lt_trichotomy i k with h1 | h1 | h1
    · have := hlo i x h1 hix
      omega
    · rw [← h1]; exact hix
    · have hk : k < s.length := by omega
      have h2 := hhi _ (List.getElem?_eq_getElem hk)
      have h3 := List.pairwise_iff_getElem.1 ha k i hk hi h1
      rw [e] at h3
      omega
  · exact fun h => List.mem_of_getElem? h
set_option maxRecDepth 100000 in
theorem elim_gives {B : Nat} {w0 : World} {H : Hp} {v u : Value} {n : Nat} (h6 : n ≤ 6) (s : List StB) (Bs : LsV) (hv : It.row v 72 8 (s.flatMap encS) ∈ H) (hu : It.row u 35 1 (Bs.map (·.1)) ∈ H) (hB : inH Bs H) (hs : Vec n s) (hbv : ∀ b ∈ vecs Bs, Vec n b ∧ b ≠ []) (hl : Bs.length ≤ 46656) :
    GivesE Tryz.prog 81 #[v, u] B w0 H (fun v' H' => It.row v' 72 8 ((lessL s (vecs Bs)).flatMap encS) ∈ H' ∧ ∀ x ∈ H, x ∈ H') := by
  have l1 : (Bs.map (·.1)).length = Bs.length := List.length_map _
  have iu0 : RB u H 35 1 (Bs.map (·.1)) := ⟨hu⟩
  refine givesE_of (args := [v, u]) [(0, v), (1, u)] Tryz.func81 rfl Tryz.ntmps81 rfl (argsF_cons rfl (argsF_cons rfl argsF_nil)) ?_
  repeat' (first | (apply Jq_assign; exact rfl; exact rfl) | refine thenQ_normal ?_ | refine JC_seq ?_ | refine JC_region ?_ | refine J_nil ?_ | refine JC_block ?_)
  refine JC_loop (X := Nat × Value × List StB × Hp) (fun p => p.1 ≤ Bs.length ∧ p.2.2.1 = lessL s ((vecs Bs).take p.1) ∧ It.row p.2.1 72 8 (p.2.2.1.flatMap encS) ∈ p.2.2.2 ∧ (∀ x ∈ H, x ∈ p.2.2.2) ∧ Vec n p.2.2.1)
    (fun p => [(5, .int .i64 (p.1 : Int)), (0, p.2.1), (1, u)]) (fun p => p.2.2.2) (fun p => Bs.length - p.1) (0, v, s, H) ⟨Nat.zero_le _, rfl, hv, fun _ h => h, hs⟩ ?_ ?_
  · dsimp only
    (refine ent ?_ ?_; (repeat refine fr_cons rfl ?_); exact fr_nil; (repeat (exact List.Sublist.refl _)))
  · rintro ⟨i, v0, t, Hx⟩ ⟨hi, ht, hv0, hsub, htv⟩
    dsimp only at hi ht hv0 hsub htv ⊢
    have iu : RB u Hx 35 1 (Bs.map (·.1)) := ⟨hsub _ hu⟩
    have iv : RB v0 Hx 72 8 (t.flatMap encS) := ⟨hv0⟩
    have lt' := fl_len encS_len t
    have htl := htv.len h6
    by_cases hlt : i < Bs.length
    · obtain ⟨p, hp⟩ : ∃ p, Bs[i]? = some p := ⟨_, List.getElem?_eq_getElem hlt⟩
      have hp2 : (vecs Bs)[i]? = some p.2 := by unfold vecs; rw [List.getElem?_map, hp]; rfl
      obtain ⟨hpv, hpn⟩ := hbv p.2 (List.mem_of_getElem? hp2)
      have g1 : (Bs.map (·.1))[i]? = some p.1 := by rw [List.getElem?_map, hp]; rfl
      have hpm := hsub _ (hB p (List.mem_of_getElem? hp))
      have ip : RB p.1 Hx 72 8 (p.2.flatMap encS) := ⟨hpm⟩
      have lp := fl_len encS_len p.2
      have hpl := hpv.len h6
      obtain ⟨x, hx⟩ : ∃ x, p.2.head? = some x := by
        cases e : p.2 with
        | nil => exact absurd e hpn
        | cons y r => exact ⟨y, rfl⟩
      have hx0 := head_get hx
      have hpos : 0 < p.2.length := (List.getElem?_eq_some_iff.1 hx0).1
      have ux := encS_len x
      have gx0 := fl_at encS_len hx0
      have hsn : lessL s ((vecs Bs).take (i + 1)) = less1 t p.2 := by rw [List.take_add_one, hp2, ht]; exact lessL_snoc _ _ _
      repeat' (first | (apply Jq_move; exact rfl; exact rfl) | (apply Jq_assign; exact rfl; exact rfl) | (apply Jq_cmp; exact rfl; exact rfl; exact rfl; exact rfl) | (apply Jq_lenR; exact rfl; exact rfl; (exact rb)) | refine thenQ_normal ?_ | refine JC_seq ?_ | refine JC_region ?_ | refine J_nil ?_ | refine JC_block ?_ | refine JC_skip ?_ | (apply JC_dec_true; exact rfl; omega))
      refine JC_cutB (Y := Nat) (fun k => k ≤ t.length ∧ (∀ j y, j < k → t[j]? = some y → rkT y < rkT x) ∧ ∀ y, t[k]? = some y → ¬ rkT y < rkT x) (fun k => [(6, .int .i64 (k : Int)), (5, .int .i64 (i : Int)), (0, v0), (1, u)]) (fun _ => Hx) ?_ ?_
      · refine JC_loop (X := Nat) (fun k => k ≤ t.length ∧ ∀ j y, j < k → t[j]? = some y → rkT y < rkT x) (fun k => [(6, .int .i64 (k : Int)), (5, .int .i64 (i : Int)), (0, v0), (1, u)]) (fun _ => Hx) (fun k => t.length - k) 0 ⟨Nat.zero_le _, fun j y h => absurd h (Nat.not_lt_zero _)⟩ ?_ ?_
        · (refine ent ?_ ?_; (repeat refine fr_cons rfl ?_); exact fr_nil; (repeat (exact List.Sublist.refl _)))
        · rintro k ⟨hk, hlo⟩
          by_cases hkl : k < t.length
          · obtain ⟨y, hy⟩ := get_in hkl
            have uy := encS_len y
            have gy := fl_at encS_len hy
            by_cases hyx : rkT y < rkT x
            · repeat' (first | (apply JC_draw mixed; kernel_rfl) | (apply Jq_indexRs (i := 0) (xs := p.2.flatMap encS); exact rfl; exact rfl; exact rfl; exact rb; omega) | (apply Jq_loadRA (xs := p.2.flatMap encS); exact rfl; exact rfl; exact rb; exact gx0; exact ux; decide) | (apply Jq_move; exact rfl; exact rfl) | (apply Jq_assign; exact rfl; exact rfl) | (apply Jq_cmp; exact rfl; exact rfl; exact rfl; exact rfl) | (apply Jq_add; exact rfl; exact rfl; exact rfl; omega) | (apply Jq_pick_true; exact rfl; exact rfl; exact rfl) | (apply J_on; exact rfl; exact rfl) | (apply Jc; exact rfl; exact rfl; exact rfl; infer_instance; ((intro w hw); exact before_gives y x w)) | (apply Jq_indexRN; exact rfl; exact rfl; exact rfl; (exact rb); omega) | (apply Jq_loadR; exact rfl; exact rfl; (exact rb); (exact g1)) | (apply Jq_lenRs; exact rfl; exact rfl; (exact rb); exact lt'; decide) | (apply Jq_indexRs; exact rfl; exact rfl; exact rfl; (exact rb); omega) | (apply Jq_loadRA; exact rfl; exact rfl; (exact rb); (exact gy); (omega); decide) | refine thenQ_normal ?_ | refine inBlockQ_normal ?_ | refine JC_seq ?_ | refine JC_region ?_ | refine J_nil ?_ | refine JC_block ?_ | refine JC_skip ?_ | (apply JC_dec_true; exact rfl; omega) | (apply J_gdT; exact rfl; exact rfl; omega))
              refine ⟨k + 1, ⟨by omega, fun j z hj hz => ?_⟩, by omega, ?_⟩
              · by_cases e : j = k
                · subst e; rw [hy] at hz; cases hz; exact hyx
                · exact hlo j z (by omega) hz
              · (refine ent ?_ ?_; (repeat refine fr_cons rfl ?_); exact fr_nil; (repeat (exact List.Sublist.refl _)))
            · repeat' (first | (apply JC_draw mixed; kernel_rfl) | (apply Jq_indexRs (i := 0) (xs := p.2.flatMap encS); exact rfl; exact rfl; exact rfl; exact rb; omega) | (apply Jq_loadRA (xs := p.2.flatMap encS); exact rfl; exact rfl; exact rb; exact gx0; exact ux; decide) | (apply Jq_move; exact rfl; exact rfl) | (apply Jq_cmp; exact rfl; exact rfl; exact rfl; exact rfl) | (apply Jq_pick_true; exact rfl; exact rfl; exact rfl) | (apply J_on; exact rfl; exact rfl) | (apply Jc; exact rfl; exact rfl; exact rfl; infer_instance; ((intro w hw); exact before_gives y x w)) | (apply Jq_indexRN; exact rfl; exact rfl; exact rfl; (exact rb); omega) | (apply Jq_loadR; exact rfl; exact rfl; (exact rb); (exact g1)) | (apply Jq_lenRs; exact rfl; exact rfl; (exact rb); exact lt'; decide) | (apply Jq_indexRs; exact rfl; exact rfl; exact rfl; (exact rb); omega) | (apply Jq_loadRA; exact rfl; exact rfl; (exact rb); (exact gy); (omega); decide) | refine thenQ_normal ?_ | refine thenQ_exit ?_ | refine inBlockQ_here ?_ | refine JC_seq ?_ | refine J_nil ?_ | refine JC_exit ?_ | (apply JC_dec_false; exact rfl; omega) | (apply J_gdT; exact rfl; exact rfl; omega))
              refine ⟨k, ⟨hk, hlo, fun z hz => by rw [hy] at hz; cases hz; exact hyx⟩, ?_⟩
              (refine ent ?_ ?_; (repeat refine fr_cons rfl ?_); exact fr_nil; (repeat (exact List.Sublist.refl _)))
          · repeat' (first | (apply JC_draw mixed; kernel_rfl) | (apply Jq_move; exact rfl; exact rfl) | (apply Jq_cmp; exact rfl; exact rfl; exact rfl; exact rfl) | (apply Jq_pick_false; exact rfl; exact rfl; exact rfl) | (apply J_skip; exact rfl; exact rfl; exact rfl; exact rfl) | (apply Jq_lenRs; exact rfl; exact rfl; (exact rb); exact lt'; decide) | refine thenQ_normal ?_ | refine thenQ_exit ?_ | refine inBlockQ_here ?_ | refine JC_seq ?_ | refine J_nil ?_ | refine JC_exit ?_ | (apply JC_if_false; exact rfl) | (apply J_gdF; exact rfl; exact rfl; omega))
            refine ⟨k, ⟨hk, hlo, fun z hz => by rw [List.getElem?_eq_none (by omega)] at hz; cases hz⟩, ?_⟩
            (refine ent ?_ ?_; (repeat refine fr_cons rfl ?_); exact fr_nil; (repeat (exact List.Sublist.refl _)))
      · rintro k ⟨hk, hlo, hhi⟩
        have hiff := at_mem_iff htv.asc hlo hhi
        by_cases hxt : x ∈ t
        · have hy := hiff.1 hxt
          have hkl : k < t.length := (List.getElem?_eq_some_iff.1 hy).1
          have gy := fl_at encS_len hy
          rw [less1_yes hx hxt] at hsn
          repeat' (first | (apply JC_draw mixed; kernel_rfl) | (apply Jq_indexRs (i := 0) (xs := p.2.flatMap encS); exact rfl; exact rfl; exact rfl; exact rb; omega) | (apply Jq_loadRA (xs := p.2.flatMap encS); exact rfl; exact rfl; exact rb; exact gx0; exact ux; decide) | (apply Jq_eqA; exact rfl; exact rfl; exact rfl; kernel_rfl; (intro w; exact eqS_run _ _ w)) | (apply JcE; exact rfl; exact rfl; exact rfl; infer_instance; (exact ladd_gives t p.2 hv0 hpm (by omega) (by omega)); (intro v' H' hV; subst hV)) | (apply Jq_move; exact rfl; exact rfl) | (apply Jq_assign; exact rfl; exact rfl) | (apply Jq_cmp; exact rfl; exact rfl; exact rfl; exact rfl) | (apply Jq_add; exact rfl; exact rfl; exact rfl; omega) | (apply Jq_pick_true; exact rfl; exact rfl; exact rfl) | (apply J_on; exact rfl; exact rfl) | (apply Jq_indexRN; exact rfl; exact rfl; exact rfl; (exact rb); omega) | (apply Jq_loadR; exact rfl; exact rfl; (exact rb); (exact g1)) | (apply Jq_lenRs; exact rfl; exact rfl; (exact rb); exact lt'; decide) | (apply Jq_indexRs; exact rfl; exact rfl; exact rfl; (exact rb); omega) | (apply Jq_loadRA; exact rfl; exact rfl; (exact rb); (exact gy); (omega); decide) | refine thenQ_normal ?_ | refine inBlockQ_normal ?_ | refine JC_seq ?_ | refine JC_region ?_ | refine J_nil ?_ | refine JC_skip ?_ | (apply J_gdT; exact rfl; exact rfl; omega) | refine JC_dec rfl (fun _ => ?_) (fun _ => ?_))
          · refine ⟨(i + 1, v', sd rkT t p.2, .row v' 72 8 ((sd rkT t p.2).flatMap encS) :: Hx), ⟨by dsimp only; omega, hsn.symm, m0, fun z hz => mS (hsub z hz), htv.sd hpv⟩, by dsimp only; omega, ?_⟩
            dsimp only
            (refine ent ?_ ?_; (repeat refine fr_cons rfl ?_); exact fr_nil; (repeat (exact List.Sublist.refl _)))
          · rename_i hne
            exact absurd rfl hne
        · rw [less1_no hx hxt, ht] at hsn
          by_cases hkl : k < t.length
          · obtain ⟨y, hy⟩ := get_in hkl
            have uy := encS_len y
            have gy := fl_at encS_len hy
            have hyx : y ≠ x := fun e => hxt (by rw [← e]; exact List.mem_of_getElem? hy)
            repeat' (first | (apply JC_draw mixed; kernel_rfl) | (apply Jq_indexRs (i := 0) (xs := p.2.flatMap encS); exact rfl; exact rfl; exact rfl; exact rb; omega) | (apply Jq_loadRA (xs := p.2.flatMap encS); exact rfl; exact rfl; exact rb; exact gx0; exact ux; decide) | (apply Jq_eqA; exact rfl; exact rfl; exact rfl; kernel_rfl; (intro w; exact eqS_run _ _ w)) | (apply Jq_move; exact rfl; exact rfl) | (apply Jq_assign; exact rfl; exact rfl) | (apply Jq_cmp; exact rfl; exact rfl; exact rfl; exact rfl) | (apply Jq_add; exact rfl; exact rfl; exact rfl; omega) | (apply Jq_pick_true; exact rfl; exact rfl; exact rfl) | (apply J_on; exact rfl; exact rfl) | (apply Jq_indexRN; exact rfl; exact rfl; exact rfl; (exact rb); omega) | (apply Jq_loadR; exact rfl; exact rfl; (exact rb); (exact g1)) | (apply Jq_lenRs; exact rfl; exact rfl; (exact rb); exact lt'; decide) | (apply Jq_indexRs; exact rfl; exact rfl; exact rfl; (exact rb); omega) | (apply Jq_loadRA; exact rfl; exact rfl; (exact rb); (exact gy); (omega); decide) | refine thenQ_normal ?_ | refine inBlockQ_normal ?_ | refine JC_seq ?_ | refine JC_region ?_ | refine J_nil ?_ | refine JC_skip ?_ | (apply JC_dec_false; exact rfl; omega) | (apply J_gdT; exact rfl; exact rfl; omega))
            all_goals first
              | (rename_i he; exact absurd he hyx)
              | (refine ⟨(i + 1, v0, t, Hx), ⟨by dsimp only; omega, ht.trans hsn.symm, hv0, hsub, htv⟩, by dsimp only; omega, ?_⟩; dsimp only; (refine ent ?_ ?_; (repeat refine fr_cons rfl ?_); exact fr_nil; (repeat (exact List.Sublist.refl _))))
          · repeat' (first | (apply JC_draw mixed; kernel_rfl) | (apply Jq_move; exact rfl; exact rfl) | (apply Jq_assign; exact rfl; exact rfl) | (apply Jq_cmp; exact rfl; exact rfl; exact rfl; exact rfl) | (apply Jq_add; exact rfl; exact rfl; exact rfl; omega) | (apply Jq_pick_false; exact rfl; exact rfl; exact rfl) | (apply J_skip; exact rfl; exact rfl; exact rfl; exact rfl) | (apply Jq_lenRs; exact rfl; exact rfl; (exact rb); exact lt'; decide) | refine thenQ_normal ?_ | refine inBlockQ_normal ?_ | refine JC_seq ?_ | refine JC_region ?_ | refine J_nil ?_ | refine JC_skip ?_ | (apply JC_if_false; exact rfl) | (apply J_gdF; exact rfl; exact rfl; omega))
            refine ⟨(i + 1, v0, t, Hx), ⟨by dsimp only; omega, ht.trans hsn.symm, hv0, hsub, htv⟩, by dsimp only; omega, ?_⟩
            dsimp only
            (refine ent ?_ ?_; (repeat refine fr_cons rfl ?_); exact fr_nil; (repeat (exact List.Sublist.refl _)))
    · obtain rfl : i = Bs.length := by omega
      have hlv : (vecs Bs).length = Bs.length := List.length_map _
      rw [← hlv, List.take_length] at ht
      repeat' (first | (apply Jq_move; exact rfl; exact rfl) | (apply Jq_assign; exact rfl; exact rfl) | (apply Jq_cmp; exact rfl; exact rfl; exact rfl; exact rfl) | (apply Jq_lenR; exact rfl; exact rfl; (exact rb)) | refine thenQ_normal ?_ | refine thenQ_exit ?_ | refine inBlockQ_here ?_ | refine JC_seq ?_ | refine JC_region ?_ | refine J_nil ?_ | refine JC_ret ?_ | refine JC_exit ?_ | (apply JC_dec_false; exact rfl; omega))
      refine e1 rfl rfl rfl ?_ ⟨by rw [← ht]; exact hv0, hsub⟩
      (refine ent ?_ ?_; (repeat refine fr_cons rfl ?_); exact fr_nil; (repeat (exact List.Sublist.refl _)))
/-! Plain: what is left bears no leading state. -/
def hLt (a b : List StB) : Prop := ∀ x y, a.head? = some x → b.head? = some y → rkT x < rkT y
theorem head_le {b : List StB} {x y : StB} (ha : Asc rkT b) (hx : b.head? = some x) (hy : y ∈ b) : rkT x ≤ rkT y := by
  cases b with
  | nil => cases hx
  | cons z t =>
    cases hx
    rcases List.mem_cons.1 hy with rfl | h
    · exact Int.le_refl _
    · exact Int.le_of_lt (asc_head ha h)
theorem less1_keep {s b : List StB} {x z : StB} (hs : Asc rkT s) (hb : Asc rkT b) (hx : b.head? = some x) (hz : rkT z < rkT x) (h : z ∉ s) : z ∉ less1 s b := by
  by_cases hxs : x ∈ s
  · rw [less1_yes hx hxs]
    intro k
    rcases sd_sub s b z k with k | k
    · exact h k
    · have := head_le hb hx k
      omega
  · rw [less1_no hx hxs]; exact h
theorem less1_gone {s b : List StB} {x : StB} (hs : Asc rkT s) (hb : Asc rkT b) (hx : b.head? = some x) : x ∉ less1 s b := by
  by_cases hxs : x ∈ s
  · rw [less1_yes hx hxs, sd_mem rkT_inj s b hs hb]
    have : x ∈ b := List.mem_of_getElem? (head_get hx)
    exact fun k => k ⟨fun _ => this, fun _ => hxs⟩
  · rw [less1_no hx hxs]; exact hxs
theorem lessL_asc {s : List StB} {B : List (List StB)} (hs : Asc rkT s) (hB : AscL rkT B) : Asc rkT (lessL s B) := by
  unfold lessL
  induction B generalizing s with
  | nil => exact hs
  | cons b B ih =>
    rw [List.foldl_cons]
    refine ih ?_ fun c hc => hB c (List.mem_cons_of_mem _ hc)
    cases e : b.head? with
    | none =>
      cases b with
      | nil => exact hs
      | cons y t => cases e
    | some x =>
      by_cases hx : x ∈ s
      · rw [less1_yes e hx]; exact sd_asc s b hs (hB b List.mem_cons_self)
      · rw [less1_no e hx]; exact hs
theorem lessL_free {B : List (List StB)} : ∀ {s : List StB}, Asc rkT s → AscL rkT B → B.Pairwise hLt → (∀ z, z ∉ s → (∀ b ∈ B, ∀ x, b.head? = some x → rkT z < rkT x) → z ∉ lessL s B) ∧ ∀ b ∈ B, ∀ x, b.head? = some x → x ∉ lessL s B := by
  induction B with
  | nil => exact fun _ _ _ => ⟨fun z h _ => h, fun b hb => absurd hb List.not_mem_nil⟩
  | cons b B ih =>
    intro s hs hB hp
    obtain ⟨hp1, hp2⟩ := List.pairwise_cons.1 hp
    have hB' : AscL rkT B := fun c hc => hB c (List.mem_cons_of_mem _ hc)
    have hb := hB b List.mem_cons_self
    have hs1 : Asc rkT (less1 s b) := lessL_asc (B := [b]) hs fun c hc => by rw [List.mem_singleton] at hc; subst hc; exact hb
    obtain ⟨k1, k2⟩ := ih hs1 hB' hp2
    refine ⟨fun z hz h => k1 z ?_ fun c hc => h c (List.mem_cons_of_mem _ hc), fun c hc x hx => ?_⟩
    · cases e : b.head? with
      | none =>
        cases b with
        | nil => exact hz
        | cons y t => cases e
      | some x => exact less1_keep hs hb e (h b List.mem_cons_self x e) hz
    · rcases List.mem_cons.1 hc with rfl | hc
      · exact k1 x (less1_gone hs hb hx) fun d hd y hy => hp1 d hd x y hx hy
      · exact k2 c hc x hx
theorem lessL_spn {B : List (List StB)} : ∀ {s : List StB}, Asc rkT s → AscL rkT B → ∃ w, Spn rkT B w ∧ lessL s B = sd rkT s w := by
  induction B with
  | nil => exact fun _ _ => ⟨[], Spn.nil _, (sd_right _).symm⟩
  | cons b B ih =>
    intro s hs hB
    have hB' : AscL rkT B := fun c hc => hB c (List.mem_cons_of_mem _ hc)
    have hb := hB b List.mem_cons_self
    have hs1 : Asc rkT (less1 s b) := lessL_asc (B := [b]) hs fun c hc => by rw [List.mem_singleton] at hc; subst hc; exact hb
    obtain ⟨w, hw, e⟩ := ih hs1 hB'
    have hw' : Spn rkT (b :: B) w := Spn.mono rkT_inj hB (fun g hg => Spn.one (List.mem_cons_of_mem _ hg)) hw
    have hwa := hw.asc hB'
    have step : less1 s b = s ∨ less1 s b = sd rkT s b := by
      cases e : b.head? with
      | none =>
        cases b with
        | nil => exact .inl rfl
        | cons y t => cases e
      | some x =>
        by_cases hx : x ∈ s
        · exact .inr (less1_yes e hx)
        · exact .inl (less1_no e hx)
    rcases step with k | k
    · refine ⟨w, hw', ?_⟩
      show lessL (less1 s b) B = sd rkT s w
      rw [e, k]
    · refine ⟨sd rkT b w, Spn.sd rkT_inj hB (Spn.one List.mem_cons_self) hw', ?_⟩
      show lessL (less1 s b) B = sd rkT s (sd rkT b w)
      rw [e, k, sd_assoc rkT_inj hs hb hwa]
/-- Families in order of their leading states. -/
structure Bas (n : Nat) (B : List (List StB)) : Prop where
  vec : ∀ b ∈ B, Vec n b
  ne : ∀ b ∈ B, b ≠ []
  srt : B.Pairwise hLt
theorem Bas.ascL {n : Nat} {B : List (List StB)} (h : Bas n B) : AscL rkT B := fun b hb => (h.vec b hb).asc
theorem Bas.ech {n : Nat} {B : List (List StB)} (h : Bas n B) : Ech rkT B := ⟨h.ascL, h.ne, by
  refine List.Pairwise.imp_of_mem (fun {a b} ha _ hab e => ?_) h.srt
  cases k : a.head? with
  | none =>
    cases a with
    | nil => exact h.ne _ ha rfl
    | cons y t => cases k
  | some x =>
    have := hab x x k (e ▸ k)
    omega⟩
/-- One more sum. -/
theorem Bas.more {n : Nat} {B : List (List StB)} (h : Bas n B) {g : List StB} (hg : Vec n g) {x : StB} (hx : (lessL g B).head? = some x) {k : Nat} (hlo : ∀ j b y, j < k → B[j]? = some b → b.head? = some y → rkT y < rkT x) (hhi : ∀ b y, B[k]? = some b → b.head? = some y → ¬ rkT y < rkT x) :
    Bas n (B.take k ++ lessL g B :: B.drop k) ∧ ∀ v, Spn rkT (B.take k ++ lessL g B :: B.drop k) v ↔ Spn rkT (g :: B) v := by
  have hasc := lessL_asc hg.asc h.ascL
  obtain ⟨w, hw, e⟩ := lessL_spn hg.asc h.ascL
  have hfree := (lessL_free hg.asc h.ascL h.srt).2
  have hp : (B.take k ++ lessL g B :: B.drop k).Perm (lessL g B :: B) := by
    refine List.perm_middle.trans (List.Perm.cons _ ?_)
    rw [List.take_append_drop]
  have hvec : Vec n (lessL g B) := by
    have : ∀ {C : List (List StB)} {s : List StB}, Vec n s → (∀ b ∈ C, Vec n b) → Vec n (lessL s C) := fun {C} => by
      induction C with
      | nil => exact fun hs _ => hs
      | cons c C ih => exact fun hs hC => ih (less1_vec hs (hC c List.mem_cons_self)) fun b hb => hC b (List.mem_cons_of_mem _ hb)
    exact this hg h.vec
  have hxm : x ∈ lessL g B := List.mem_of_getElem? (head_get hx)
  refine ⟨⟨fun b hb => ?_, fun b hb => ?_, ?_⟩, fun v => ?_⟩
  · rcases List.mem_cons.1 (hp.mem_iff.1 hb) with rfl | hb
    · exact hvec
    · exact h.vec b hb
  · rcases List.mem_cons.1 (hp.mem_iff.1 hb) with rfl | hb
    · intro k; rw [k] at hx; cases hx
    · exact h.ne b hb
  · refine List.pairwise_append.2 ⟨h.srt.sublist (List.take_sublist _ _), List.pairwise_cons.2 ⟨fun b hb => ?_, h.srt.sublist (List.drop_sublist _ _)⟩, fun a ha b hb => ?_⟩
    · obtain ⟨i, hi, eb⟩ := List.getElem_of_mem hb
      rw [List.getElem_drop] at eb
      rw [List.length_drop] at hi
      intro x' y hx' hy
      rw [hx] at hx'
      cases hx'
      have hyx : rkT y ≠ rkT x := fun e => by
        have := rkT_inj _ _ e
        subst this
        exact hfree b (List.mem_of_mem_drop hb) y hy hxm
      have hk : k < B.length := by omega
      cases i with
      | zero =>
        have := hhi b y (by rw [List.getElem?_eq_getElem hk, ← eb]; rfl) hy
        omega
      | succ i =>
        have h1 := List.pairwise_iff_getElem.1 h.srt k (k + (i + 1)) hk (by omega) (by omega)
        cases e0 : (B[k]'hk).head? with
        | none =>
          have := h.ne _ (List.getElem_mem hk)
          cases e1 : B[k]'hk with
          | nil => exact absurd e1 this
          | cons z t => rw [e1] at e0; cases e0
        | some z =>
          have h2 := h1 z y e0 (by rw [eb]; exact hy)
          have h3 := hhi _ z (List.getElem?_eq_getElem hk) e0
          omega
    · obtain ⟨i, hi, ea⟩ := List.getElem_of_mem ha
      rw [List.getElem_take] at ea
      rw [List.length_take] at hi
      rcases List.mem_cons.1 hb with rfl | hb
      · intro y x' hy hx'
        rw [hx] at hx'
        cases hx'
        exact hlo i a y (by omega) (by rw [List.getElem?_eq_getElem (by omega), ea]) hy
      · obtain ⟨j, hj, eb⟩ := List.getElem_of_mem hb
        rw [List.getElem_drop] at eb
        rw [List.length_drop] at hj
        have := List.pairwise_iff_getElem.1 h.srt i (k + j) (by omega) (by omega) (by omega)
        rw [ea, eb] at this
        exact this
  · rw [Spn.perm fun g' => hp.mem_iff]
    exact Spn.swap rkT_inj h.ascL hg.asc hw e v
/-- A sum that adds nothing. -/
theorem Bas.same {n : Nat} {B : List (List StB)} (h : Bas n B) {g : List StB} (hg : Vec n g) (h0 : lessL g B = []) (v : List StB) : Spn rkT B v ↔ Spn rkT (g :: B) v := by
  obtain ⟨w, hw, e⟩ := lessL_spn hg.asc h.ascL
  rw [h0] at e
  have hwa := hw.asc h.ascL
  have hgB : AscL rkT (g :: B) := fun b hb => by rcases List.mem_cons.1 hb with rfl | hb; exact hg.asc; exact h.ascL b hb
  have eg : g = w := by
    have := sd_back rkT_inj hg.asc hwa
    rw [← e, sd_right] at this
    exact this
  subst eg
  exact ⟨Spn.mono rkT_inj hgB fun b hb => Spn.one (List.mem_cons_of_mem _ hb), Spn.mono rkT_inj h.ascL fun b hb => by
    rcases List.mem_cons.1 hb with rfl | hb
    · exact hw
    · exact Spn.one hb⟩
end Go.Proofs.YtmbbcmebdefggaaGreatDoor
namespace Go.Proofs.YtmbbcmebdefggaaGreatDoor
open Go Go.RowKit SL
namespace SL
section
variable {P : Program} {B : Nat} {w0 : World} {n : Nat} {Q : Po} {F : Fr} {H : Hp}
/-- What lies behind rows is one cell each. -/
theorem JC_onesV {c : Code} {vs : List Value} {e sz : Nat} (hm : ∀ v ∈ vs, ∃ xs, It.row v e sz xs ∈ H) (k : (∀ v ∈ vs, v.oneCell' = true ∧ v.cells = #[v]) → JC P B w0 n c Q F H) : JC P B w0 n c Q F H := by
  unfold JC at *
  intro a w ha hw
  refine k (fun v hv => ?_) a w ha hw
  obtain ⟨xs, hx⟩ := hm v hv
  obtain ⟨m, h1, h2⟩ := hw.row_slice hx
  rcases h2 with ⟨rfl, rfl⟩ | ⟨gg, cap, _, rfl, _, _, hc, _⟩ <;> exact ⟨rfl, rfl⟩
theorem J_one {ops : Array Oper} {l : List Oper} {v : Value} {e sz : Nat} {xs : List Value} (hm : It.row v e sz xs ∈ H) (k : v.oneCell' = true → v.cells = #[v] → J false P B w0 n ops Q l F H) : J false P B w0 n ops Q l F H := by
  unfold J at *
  intro a w ha hw
  have h : v.oneCell' = true ∧ v.cells = #[v] := by
    obtain ⟨m, h1, h2⟩ := hw.row_slice hm
    rcases h2 with ⟨rfl, rfl⟩ | ⟨gg, cap, _, rfl, _, _, hc, _⟩ <;> exact ⟨rfl, rfl⟩
  exact k h.1 h.2 a w ha hw
end
end SL
theorem inH.rows {L : LsV} {H : Hp} (h : inH L H) : ∀ v ∈ L.map (·.1), ∃ xs, It.row v 72 8 xs ∈ H := fun v hv => by
  obtain ⟨p, hp, rfl⟩ := List.mem_map.1 hv
  exact ⟨_, h p hp⟩
set_option maxRecDepth 100000 in
theorem span_gives {B : Nat} {w0 : World} {H : Hp} {v : Value} {n : Nat} (h6 : n ≤ 6) (Gs : LsV) (hv : It.row v 35 1 (Gs.map (·.1)) ∈ H) (hG : inH Gs H) (hgv : ∀ g ∈ vecs Gs, Vec n g) (hl : Gs.length ≤ 46656) :
    GivesE Tryz.prog 82 #[v] B w0 H (fun v' H' => ∃ Bs : LsV, Bas n (vecs Bs) ∧ (∀ u, Spn rkT (vecs Bs) u ↔ Spn rkT (vecs Gs) u) ∧ Bs.length ≤ Gs.length ∧ It.row v' 35 1 (Bs.map (·.1)) ∈ H' ∧ inH Bs H' ∧ ∀ x ∈ H, x ∈ H') := by
  have l1 : (Gs.map (·.1)).length = Gs.length := List.length_map _
  refine givesE_of (args := [v]) [(0, v)] Tryz.func82 rfl Tryz.ntmps82 rfl (argsF_cons rfl argsF_nil) ?_
  repeat' (first | (apply Jq_assign; exact rfl; exact rfl) | (apply J_lit0; exact rfl; (intro _)) | refine thenQ_normal ?_ | refine JC_seq ?_ | refine JC_region ?_ | refine J_nil ?_ | refine JC_block ?_)
  rename_i b3
  refine JC_loop (X := Nat × Value × LsV × Hp) (fun p => p.1 ≤ Gs.length ∧ Bas n (vecs p.2.2.1) ∧ (∀ u, Spn rkT (vecs p.2.2.1) u ↔ Spn rkT ((vecs Gs).take p.1) u) ∧ p.2.2.1.length ≤ p.1 ∧ It.row p.2.1 35 1 (p.2.2.1.map (·.1)) ∈ p.2.2.2 ∧ inH p.2.2.1 p.2.2.2 ∧ ∀ x ∈ H, x ∈ p.2.2.2)
    (fun p => [(4, .int .i64 (p.1 : Int)), (3, p.2.1), (0, v)]) (fun p => p.2.2.2) (fun p => Gs.length - p.1) (0, .slice (some ⟨b3, 0, none⟩) 0 0, [], .row (.slice (some ⟨b3, 0, none⟩) 0 0) 35 1 [] :: H) ⟨Nat.zero_le _, ⟨fun b h => absurd h List.not_mem_nil, fun b h => absurd h List.not_mem_nil, List.Pairwise.nil⟩, fun u => Iff.rfl, Nat.le_refl _, m0, fun p hp => absurd hp List.not_mem_nil, fun _ h => mS h⟩ ?_ ?_
  · dsimp only
    (refine ent ?_ ?_; (repeat refine fr_cons rfl ?_); exact fr_nil; (repeat (exact List.Sublist.refl _)))
  · rintro ⟨i, vb, Bs, Hx⟩ ⟨hi, hbas, hspn, hbl, hvb, hB, hsub⟩
    dsimp only at hi hbas hspn hbl hvb hB hsub ⊢
    have iv : RB v Hx 35 1 (Gs.map (·.1)) := ⟨hsub _ hv⟩
    have ivb : RB vb Hx 35 1 (Bs.map (·.1)) := ⟨hvb⟩
    have l2 : (Bs.map (·.1)).length = Bs.length := List.length_map _
    by_cases hlt : i < Gs.length
    · obtain ⟨p, hp⟩ : ∃ p, Gs[i]? = some p := ⟨_, List.getElem?_eq_getElem hlt⟩
      have hp2 : (vecs Gs)[i]? = some p.2 := by unfold vecs; rw [List.getElem?_map, hp]; rfl
      have hpv := hgv p.2 (List.mem_of_getElem? hp2)
      have g1 : (Gs.map (·.1))[i]? = some p.1 := by rw [List.getElem?_map, hp]; rfl
      have hpm := hsub _ (hG p (List.mem_of_getElem? hp))
      have htk : (vecs Gs).take (i + 1) = (vecs Gs).take i ++ [p.2] := by rw [List.take_add_one, hp2]; rfl
      have hasG : AscL rkT ((vecs Gs).take (i + 1)) := fun b hb => (hgv b (List.mem_of_mem_take hb)).asc
      have hcons : ∀ u, Spn rkT (p.2 :: vecs Bs) u ↔ Spn rkT ((vecs Gs).take (i + 1)) u := fun u => by
        have hc : AscL rkT (p.2 :: vecs Bs) := fun b hb => by
          rcases List.mem_cons.1 hb with rfl | hb
          · exact hpv.asc
          · exact hbas.ascL b hb
        constructor
        · refine Spn.mono rkT_inj hasG fun b hb => ?_
          rcases List.mem_cons.1 hb with rfl | hb
          · exact Spn.one (by rw [htk]; exact List.mem_append.2 (.inr (List.mem_singleton.2 rfl)))
          · exact Spn.mono rkT_inj hasG (fun c hc => Spn.one (by rw [htk]; exact List.mem_append.2 (.inl hc))) ((hspn b).1 (Spn.one hb))
        · refine Spn.mono rkT_inj hc fun b hb => ?_
          rw [htk] at hb
          rcases List.mem_append.1 hb with hb | hb
          · exact Spn.mono rkT_inj hc (fun c hc => Spn.one (List.mem_cons_of_mem _ hc)) ((hspn b).2 (Spn.one hb))
          · rw [List.mem_singleton] at hb
            subst hb
            exact Spn.one List.mem_cons_self
      have hwit : (∀ b ∈ vecs Bs, Vec n b ∧ b ≠ []) := fun b hb => ⟨hbas.vec b hb, hbas.ne b hb⟩
      by_cases h0 : lessL p.2 (vecs Bs) = []
      · have hz : (lessL p.2 (vecs Bs)).length = 0 := by rw [h0]; rfl
        repeat' (first | (apply JcE; exact rfl; exact rfl; exact rfl; infer_instance; (exact elim_gives h6 p.2 Bs hpm hvb hB hpv hwit (by omega)); (intro v' H' hV; obtain ⟨hv', hsub'⟩ := hV; have iv' : RB v' H' 72 8 ((lessL p.2 (vecs Bs)).flatMap encS) := ⟨hv'⟩; have lv' := fl_len encS_len (lessL p.2 (vecs Bs)))) | (apply Jq_lenRs; exact rfl; exact rfl; exact rb; exact lv'; decide) | (apply Jq_move; exact rfl; exact rfl) | (apply Jq_assign; exact rfl; exact rfl) | (apply Jq_cmp; exact rfl; exact rfl; exact rfl; exact rfl) | (apply Jq_add; exact rfl; exact rfl; exact rfl; omega) | (apply Jq_lenR; exact rfl; exact rfl; (exact rb)) | (apply Jq_indexRN; exact rfl; exact rfl; exact rfl; (exact rb); omega) | (apply Jq_loadR; exact rfl; exact rfl; (exact rb); (exact g1)) | refine thenQ_normal ?_ | refine thenQ_exit ?_ | refine inBlockQ_here ?_ | refine JC_seq ?_ | refine JC_region ?_ | refine J_nil ?_ | refine JC_block ?_ | refine JC_skip ?_ | refine JC_exit ?_ | (apply JC_dec_true; exact rfl; omega))
        refine ⟨(i + 1, vb, Bs, H'), ⟨by dsimp only; omega, hbas, fun u => (hbas.same hpv h0 u).trans (hcons u), by dsimp only; omega, hsub' _ hvb, hB.mono hsub', fun z hz => hsub' _ (hsub _ hz)⟩, by dsimp only; omega, ?_⟩
        dsimp only
        (refine ent ?_ ?_; (repeat refine fr_cons rfl ?_); exact fr_nil; (repeat (exact List.Sublist.refl _)))
      · obtain ⟨x, hx⟩ : ∃ x, (lessL p.2 (vecs Bs)).head? = some x := by
          cases e : lessL p.2 (vecs Bs) with
          | nil => exact absurd e h0
          | cons y r => exact ⟨y, rfl⟩
        have hx0 := head_get hx
        have hpos : 0 < (lessL p.2 (vecs Bs)).length := (List.getElem?_eq_some_iff.1 hx0).1
        have ux := encS_len x
        have gx0 := fl_at encS_len hx0
        repeat' (first | (apply JcE; exact rfl; exact rfl; exact rfl; infer_instance; (exact elim_gives h6 p.2 Bs hpm hvb hB hpv hwit (by omega)); (intro v' H' hV; obtain ⟨hv', hsub'⟩ := hV; have iv' : RB v' H' 72 8 ((lessL p.2 (vecs Bs)).flatMap encS) := ⟨hv'⟩; have lv' := fl_len encS_len (lessL p.2 (vecs Bs)))) | (apply Jq_lenRs; exact rfl; exact rfl; exact rb; exact lv'; decide) | (apply Jq_move; exact rfl; exact rfl) | (apply Jq_assign; exact rfl; exact rfl) | (apply Jq_cmp; exact rfl; exact rfl; exact rfl; exact rfl) | (apply Jq_lenR; exact rfl; exact rfl; (exact rb)) | (apply Jq_indexRN; exact rfl; exact rfl; exact rfl; (exact rb); omega) | (apply Jq_loadR; exact rfl; exact rfl; (exact rb); (exact g1)) | refine thenQ_normal ?_ | refine JC_seq ?_ | refine JC_region ?_ | refine J_nil ?_ | refine JC_block ?_ | refine JC_skip ?_ | (apply JC_dec_true; exact rfl; omega) | (apply JC_dec_false; exact rfl; omega))
        have ivb' : RB vb H' 35 1 (Bs.map (·.1)) := ⟨hsub' _ hvb⟩
        have hB' := hB.mono hsub'
        refine JC_cutB (Y := Nat) (fun k => k ≤ Bs.length ∧ (∀ j b y, j < k → (vecs Bs)[j]? = some b → b.head? = some y → rkT y < rkT x) ∧ ∀ b y, (vecs Bs)[k]? = some b → b.head? = some y → ¬ rkT y < rkT x) (fun k => [(6, .int .i64 (k : Int)), (5, v'), (4, .int .i64 (i : Int)), (3, vb), (0, v)]) (fun _ => H') ?_ ?_
        · refine JC_loop (X := Nat) (fun k => k ≤ Bs.length ∧ ∀ j b y, j < k → (vecs Bs)[j]? = some b → b.head? = some y → rkT y < rkT x) (fun k => [(6, .int .i64 (k : Int)), (5, v'), (4, .int .i64 (i : Int)), (3, vb), (0, v)]) (fun _ => H') (fun k => Bs.length - k) 0 ⟨Nat.zero_le _, fun j b y h => absurd h (Nat.not_lt_zero _)⟩ ?_ ?_
          · (refine ent ?_ ?_; (repeat refine fr_cons rfl ?_); exact fr_nil; (repeat (exact List.Sublist.refl _)))
          · rintro k ⟨hk, hlo⟩
            by_cases hkl : k < Bs.length
            · obtain ⟨q, hq⟩ : ∃ q, Bs[k]? = some q := ⟨_, List.getElem?_eq_getElem hkl⟩
              have hq2 : (vecs Bs)[k]? = some q.2 := by unfold vecs; rw [List.getElem?_map, hq]; rfl
              have gq : (Bs.map (·.1))[k]? = some q.1 := by rw [List.getElem?_map, hq]; rfl
              have iq : RB q.1 H' 72 8 (q.2.flatMap encS) := ⟨hB' q (List.mem_of_getElem? hq)⟩
              obtain ⟨y, hy⟩ : ∃ y, q.2.head? = some y := by
                cases e : q.2 with
                | nil => exact absurd e (hbas.ne _ (List.mem_of_getElem? hq2))
                | cons z r => exact ⟨z, rfl⟩
              have hy0 := head_get hy
              have hqpos : 0 < q.2.length := (List.getElem?_eq_some_iff.1 hy0).1
              have lq := fl_len encS_len q.2
              have uy := encS_len y
              have gy0 := fl_at encS_len hy0
              by_cases hyx : rkT y < rkT x
              · repeat' (first | (apply JC_draw mixed; kernel_rfl) | (apply Jq_indexRs (i := 0) (v := q.1) (xs := q.2.flatMap encS); exact rfl; exact rfl; exact rfl; exact rb; omega) | (apply Jq_indexRs (i := 0) (v := v') (xs := (lessL p.2 (vecs Bs)).flatMap encS); exact rfl; exact rfl; exact rfl; exact rb; omega) | (apply Jq_loadRA (v := q.1) (xs := q.2.flatMap encS); exact rfl; exact rfl; exact rb; exact gy0; exact uy; decide) | (apply Jq_loadRA (v := v') (xs := (lessL p.2 (vecs Bs)).flatMap encS); exact rfl; exact rfl; exact rb; exact gx0; exact ux; decide) | (apply Jq_move; exact rfl; exact rfl) | (apply Jq_assign; exact rfl; exact rfl) | (apply Jq_cmp; exact rfl; exact rfl; exact rfl; exact rfl) | (apply Jq_add; exact rfl; exact rfl; exact rfl; omega) | (apply Jq_pick_true; exact rfl; exact rfl; exact rfl) | (apply J_on; exact rfl; exact rfl) | (apply Jc; exact rfl; exact rfl; exact rfl; infer_instance; ((intro w hw); exact before_gives y x w)) | (apply Jq_lenR; exact rfl; exact rfl; (exact rb)) | (apply Jq_indexRN; exact rfl; exact rfl; exact rfl; (exact rb); omega) | (apply Jq_loadR; exact rfl; exact rfl; (exact rb); (exact gq)) | refine thenQ_normal ?_ | refine inBlockQ_normal ?_ | refine JC_seq ?_ | refine JC_region ?_ | refine J_nil ?_ | refine JC_block ?_ | refine JC_skip ?_ | (apply JC_dec_true; exact rfl; omega) | (apply J_gdT; exact rfl; exact rfl; omega))
                refine ⟨k + 1, ⟨by omega, fun j b z hj hb hz => ?_⟩, by omega, ?_⟩
                · by_cases e : j = k
                  · subst e; rw [hq2] at hb; cases hb; rw [hy] at hz; cases hz; exact hyx
                  · exact hlo j b z (by omega) hb hz
                · (refine ent ?_ ?_; (repeat refine fr_cons rfl ?_); exact fr_nil; (repeat (exact List.Sublist.refl _)))
              · repeat' (first | (apply JC_draw mixed; kernel_rfl) | (apply Jq_indexRs (i := 0) (v := q.1) (xs := q.2.flatMap encS); exact rfl; exact rfl; exact rfl; exact rb; omega) | (apply Jq_indexRs (i := 0) (v := v') (xs := (lessL p.2 (vecs Bs)).flatMap encS); exact rfl; exact rfl; exact rfl; exact rb; omega) | (apply Jq_loadRA (v := q.1) (xs := q.2.flatMap encS); exact rfl; exact rfl; exact rb; exact gy0; exact uy; decide) | (apply Jq_loadRA (v := v') (xs := (lessL p.2 (vecs Bs)).flatMap encS); exact rfl; exact rfl; exact rb; exact gx0; exact ux; decide) | (apply Jq_move; exact rfl; exact rfl) | (apply Jq_cmp; exact rfl; exact rfl; exact rfl; exact rfl) | (apply Jq_pick_true; exact rfl; exact rfl; exact rfl) | (apply J_on; exact rfl; exact rfl) | (apply Jc; exact rfl; exact rfl; exact rfl; infer_instance; ((intro w hw); exact before_gives y x w)) | (apply Jq_lenR; exact rfl; exact rfl; (exact rb)) | (apply Jq_indexRN; exact rfl; exact rfl; exact rfl; (exact rb); omega) | (apply Jq_loadR; exact rfl; exact rfl; (exact rb); (exact gq)) | refine thenQ_normal ?_ | refine thenQ_exit ?_ | refine inBlockQ_here ?_ | refine JC_seq ?_ | refine J_nil ?_ | refine JC_exit ?_ | (apply JC_dec_false; exact rfl; omega) | (apply J_gdT; exact rfl; exact rfl; omega))
                refine ⟨k, ⟨hk, hlo, fun b z hb hz => by rw [hq2] at hb; cases hb; rw [hy] at hz; cases hz; exact hyx⟩, ?_⟩
                (refine ent ?_ ?_; (repeat refine fr_cons rfl ?_); exact fr_nil; (repeat (exact List.Sublist.refl _)))
            · repeat' (first | (apply JC_draw mixed; kernel_rfl) | (apply Jq_move; exact rfl; exact rfl) | (apply Jq_cmp; exact rfl; exact rfl; exact rfl; exact rfl) | (apply Jq_pick_false; exact rfl; exact rfl; exact rfl) | (apply J_skip; exact rfl; exact rfl; exact rfl; exact rfl) | (apply Jq_lenR; exact rfl; exact rfl; (exact rb)) | refine thenQ_normal ?_ | refine thenQ_exit ?_ | refine inBlockQ_here ?_ | refine JC_seq ?_ | refine J_nil ?_ | refine JC_exit ?_ | (apply JC_if_false; exact rfl) | (apply J_gdF; exact rfl; exact rfl; omega))
              refine ⟨k, ⟨hk, hlo, fun b z hb hz => by unfold vecs at hb; rw [List.getElem?_eq_none (by rw [List.length_map]; omega)] at hb; cases hb⟩, ?_⟩
              (refine ent ?_ ?_; (repeat refine fr_cons rfl ?_); exact fr_nil; (repeat (exact List.Sublist.refl _)))
        · rintro k ⟨hk, hlo, hhi⟩
          obtain ⟨hb1, hb2⟩ := hbas.more hpv hx hlo hhi
          have hnew : vecs (Bs.take k ++ (v', lessL p.2 (vecs Bs)) :: Bs.drop k) = (vecs Bs).take k ++ lessL p.2 (vecs Bs) :: (vecs Bs).drop k := by
            unfold vecs
            rw [List.map_append, List.map_cons, List.map_take, List.map_drop]
          have hvals : (Bs.take k ++ (v', lessL p.2 (vecs Bs)) :: Bs.drop k).map (·.1) = (Bs.map (·.1)).take k ++ (v' :: (Bs.map (·.1)).drop k) := by
            rw [List.map_append, List.map_cons, List.map_take, List.map_drop]
          rw [← hnew] at hb1 hb2
          have hlen2 : (Bs.take k ++ (v', lessL p.2 (vecs Bs)) :: Bs.drop k).length = Bs.length + 1 := by
            rw [List.length_append, List.length_cons, List.length_take, List.length_drop]; omega
          have e1' : [v'] ++ ((Bs.map (·.1)).drop (k * 1)).take ((Bs.length - k) * 1) = v' :: (Bs.map (·.1)).drop k := by
            rw [Nat.mul_one, Nat.mul_one, List.take_of_length_le (by rw [List.length_drop, l2]; exact Nat.le_refl _)]; rfl
          have e2' : [] ++ ((Bs.map (·.1)).drop (0 * 1)).take ((k - 0) * 1) = (Bs.map (·.1)).take k := by
            rw [Nat.zero_mul, List.drop_zero, Nat.sub_zero, Nat.mul_one]; rfl
          have e3' : (Bs.map (·.1)).take k ++ (v' :: (Bs.map (·.1)).drop k) = (Bs.take k ++ (v', lessL p.2 (vecs Bs)) :: Bs.drop k).map (·.1) := hvals.symm
          have k1 : (v' :: (Bs.map (·.1)).drop k).length = Bs.length - k + 1 := by rw [List.length_cons, List.length_drop, l2]
          have k2 : ((Bs.map (·.1)).take k).length = k := by rw [List.length_take, l2]; omega
          have l3 : (Bs.map (·.1)).length = Bs.length * 1 := by rw [l2, Nat.mul_one]
          refine JC_onesV (vs := v' :: Bs.map (·.1)) (e := 72) (sz := 8) (fun z hz => (List.mem_cons.1 hz).elim (fun e => ⟨_, e ▸ hv'⟩) (hB'.rows z)) fun hone => ?_
          have hone1 : ∀ c ∈ Bs.map (·.1), c.oneCell' = true := fun c hc => (hone c (List.mem_cons_of_mem _ hc)).1
          have hone2 : ∀ c ∈ v' :: (Bs.map (·.1)).drop k, c.oneCell' = true := fun c hc => by
            rcases List.mem_cons.1 hc with rfl | hc
            · exact (hone _ List.mem_cons_self).1
            · exact hone1 c (List.mem_of_mem_drop hc)
          have ca := (hone _ List.mem_cons_self).2
          repeat' (first | (apply J_lit1; exact rfl; exact rfl; exact ca; (intro _)) | (apply Jq_partL; exact rfl; exact rfl; exact rfl; exact rb; exact l3; decide; omega) | (apply Jq_partH; exact rfl; exact rfl; exact rfl; exact rb; exact l3; decide; omega) | (apply J_apP; decide; exact rfl; exact rfl; exact rfl; infer_instance; exact rb; exact l3; omega; exact Nat.le_refl _; exact hone1; ((show (_ + _) * _ ≤ _); (simp only [List.length_cons, List.length_nil]); omega); decide; exact e1'; (intro _)) | (apply J_apP; decide; exact rfl; exact rfl; exact rfl; infer_instance; exact rb; exact l3; omega; omega; exact hone1; ((show (_ + _) * _ ≤ _); (simp only [List.length_nil]); omega); decide; exact e2'; (intro _)) | (apply J_apR; decide; exact rfl; exact rfl; exact rfl; infer_instance; exact rb; exact hone2; ((show (_ + _) * _ ≤ _); omega); decide; exact e3'; (intro _)) | (apply Jq_move; exact rfl; exact rfl) | (apply Jq_assign; exact rfl; exact rfl) | (apply Jq_add; exact rfl; exact rfl; exact rfl; omega) | (apply J_lit0; exact rfl; (intro _)) | refine thenQ_normal ?_ | refine inBlockQ_normal ?_ | refine JC_seq ?_ | refine JC_region ?_ | refine J_nil ?_)
          rename_i b7 v7 b8 v8 vn
          refine ⟨(i + 1, vn, Bs.take k ++ (v', lessL p.2 (vecs Bs)) :: Bs.drop k, .row vn 35 1 ((Bs.take k ++ (v', lessL p.2 (vecs Bs)) :: Bs.drop k).map (·.1)) :: .row v7 35 1 (v' :: (Bs.map (·.1)).drop k) :: H'), ⟨by dsimp only; omega, hb1, fun u => (hb2 u).trans (hcons u), by dsimp only; omega, m0, fun q hq => ?_, fun z hz => mS (mS (hsub' _ (hsub _ hz)))⟩, by dsimp only; omega, ?_⟩
          · rcases List.mem_append.1 hq with hq | hq
            · exact mS (mS (hB' q (List.mem_of_mem_take hq)))
            · rcases List.mem_cons.1 hq with rfl | hq
              · exact mS (mS hv')
              · exact mS (mS (hB' q (List.mem_of_mem_drop hq)))
          · dsimp only
            (refine ent ?_ ?_; (repeat refine fr_cons rfl ?_); exact fr_nil; (repeat (exact List.Sublist.refl _)))
    · obtain rfl : i = Gs.length := by omega
      have hlv : (vecs Gs).length = Gs.length := List.length_map _
      rw [← hlv, List.take_length] at hspn
      repeat' (first | (apply Jq_move; exact rfl; exact rfl) | (apply Jq_assign; exact rfl; exact rfl) | (apply Jq_cmp; exact rfl; exact rfl; exact rfl; exact rfl) | (apply Jq_lenR; exact rfl; exact rfl; (exact rb)) | refine thenQ_normal ?_ | refine thenQ_exit ?_ | refine inBlockQ_here ?_ | refine JC_seq ?_ | refine JC_region ?_ | refine J_nil ?_ | refine JC_ret ?_ | refine JC_exit ?_ | (apply JC_dec_false; exact rfl; omega))
      refine e1 rfl rfl rfl ?_ ⟨Bs, hbas, hspn, hbl, hvb, hB, hsub⟩
      (refine ent ?_ ?_; (repeat refine fr_cons rfl ?_); exact fr_nil; (repeat (exact List.Sublist.refl _)))
/-- The images of states. -/
def imgsV (n : Nat) (X O : List Nat) (S : List StB) : List (List StB) := S.map fun x => tfold (fol n X O x)
theorem imgs_snoc (n : Nat) (X O : List Nat) (S : List StB) (x : StB) : imgsV n X O (S ++ [x]) = imgsV n X O S ++ [tfold (fol n X O x)] := by unfold imgsV; rw [List.map_append]; rfl
theorem img_vec {n : Nat} (h8 : n ≤ 8) {X O : List Nat} {x : StB} (px : isPerm x.1 n) : Vec n (tfold (fol n X O x)) := ⟨(tfold_odd _).1, fun y hy => by
  have h1 : y ∈ fol n X O x := List.count_pos_iff.1 (by have := ((tfold_odd (fol n X O x)).2.1 y).1 hy; omega)
  obtain ⟨r, hr, rfl⟩ := List.mem_map.1 h1
  have h2 := (List.mem_filter.1 hr).1
  rw [eout_filter] at h2
  exact led_perm h8 px (List.mem_filter.1 h2).1⟩
theorem mem_imgsV {n : Nat} {X O : List Nat} {S : List StB} (h8 : n ≤ 8) (hS : ∀ x ∈ S, isPerm x.1 n) : ∀ g ∈ imgsV n X O S, Vec n g := fun g hg => by
  obtain ⟨x, hx, rfl⟩ := List.mem_map.1 hg
  exact img_vec h8 (hS x hx)
set_option maxRecDepth 100000 in
theorem images_gives {B : Nat} {w0 : World} {H : Hp} {v : Value} (n : Nat) (X O : List Nat) (S : List StB) (bX : isB X) (bO : isB O) (h6 : n ≤ 6) (hv : It.row v 72 8 (S.flatMap encS) ∈ H) (hS : ∀ x ∈ S, isPerm x.1 n) (hl : S.length ≤ 46656) :
    GivesE Tryz.prog 83 #[.agg (gv (n : Int) X O).toArray, v] B w0 H (fun v' H' => ∃ Gs : LsV, vecs Gs = imgsV n X O S ∧ It.row v' 35 1 (Gs.map (·.1)) ∈ H' ∧ inH Gs H' ∧ ∀ x ∈ H, x ∈ H') := by
  have ug := gv_len (n := (n : Int)) bX.1 bO.1
  have lS := fl_len encS_len S
  have iv0 : RB v H 72 8 (S.flatMap encS) := ⟨hv⟩
  refine givesE_of (args := [.agg (gv (n : Int) X O).toArray, v]) [(0, .agg (gv (n : Int) X O).toArray), (1, v)] Tryz.func83 rfl Tryz.ntmps83 rfl (argsF_cons rfl (argsF_cons rfl argsF_nil)) ?_
  repeat' (first | (apply Jq_assign; exact rfl; exact rfl) | (apply J_box; exact rfl; exact rfl; exact rfl; (intro _)) | (apply J_lit0; exact rfl; (intro _)) | refine thenQ_normal ?_ | refine JC_seq ?_ | refine JC_region ?_ | refine J_nil ?_ | refine JC_block ?_)
  rename_i b2 b5
  refine JC_loop (X := Nat × Value × LsV × Hp) (fun p => p.1 ≤ S.length ∧ vecs p.2.2.1 = imgsV n X O (S.take p.1) ∧ inH p.2.2.1 p.2.2.2 ∧ (∀ x ∈ H, x ∈ p.2.2.2) ∧ It.blk b2 (gv (n : Int) X O) 28 ∈ p.2.2.2)
    (fun p => [(6, .int .i64 (p.1 : Int)), (5, p.2.1), (1, v), (2, .pointer (some ⟨b2, 0, none⟩))]) (fun p => .row p.2.1 35 1 (p.2.2.1.map (·.1)) :: p.2.2.2) (fun p => S.length - p.1) (0, .slice (some ⟨b5, 0, none⟩) 0 0, [], .blk b2 (gv (n : Int) X O) 28 :: H) ⟨Nat.zero_le _, rfl, fun p hp => absurd hp List.not_mem_nil, fun _ h => mS h, m0⟩ ?_ ?_
  · dsimp only
    (refine entP (ent ?_ (List.nil_sublist _)) ?_; (repeat refine fr_cons rfl ?_); exact fr_nil; (repeat (exact sp_refl)))
  · rintro ⟨i, vb, Gs, Hx⟩ ⟨hi, hG, hin, hsub, hb2⟩
    dsimp only at hi hG hin hsub hb2 ⊢
    have hGl : Gs.length = i := by
      have := congrArg List.length hG
      unfold vecs imgsV at this
      rw [List.length_map, List.length_map, List.length_take] at this
      omega
    have iv : RB v Hx 72 8 (S.flatMap encS) := ⟨hsub _ hv⟩
    have ib2 : MB b2 Hx (gv (n : Int) X O) 28 := ⟨hb2⟩
    have l2 : (Gs.map (·.1)).length = Gs.length := List.length_map _
    by_cases hlt : i < S.length
    · obtain ⟨x, hx⟩ := get_in hlt
      have ux := encS_len x
      have hgx := fl_at encS_len hx
      have px := hS x (List.mem_of_getElem? hx)
      have hsf := fun H2 => sfol_gives (B := B) (w0 := w0) (H := H2) n X O x bX bO (by omega) px
      have htk : imgsV n X O (S.take (i + 1)) = imgsV n X O (S.take i) ++ [tfold (fol n X O x)] := by
        rw [List.take_add_one, hx]; exact imgs_snoc n X O _ x
      have hvx := hsub _ hv
      repeat' (first | (apply Jq_move; exact rfl; exact rfl) | (apply Jq_cmp; exact rfl; exact rfl; exact rfl; exact rfl) | (apply Jq_lenRs; exact rfl; exact rfl; (exact rb); exact lS; decide) | refine thenQ_normal ?_ | refine JC_seq ?_ | refine JC_region ?_ | refine J_nil ?_ | refine JC_block ?_ | refine JC_skip ?_ | (apply JC_dec_true; exact rfl; omega))
      have hmap : ∀ z : Value, Gs.map (·.1) ++ [z] = (Gs ++ [(z, tfold (fol n X O x))]).map (·.1) := fun z => by rw [List.map_append]; rfl
      have hnxt : ∀ z : Value, vecs (Gs ++ [(z, tfold (fol n X O x))]) = imgsV n X O (S.take (i + 1)) := fun z => by rw [htk, ← hG]; unfold vecs; rw [List.map_append]; rfl
      have hinn : ∀ z : Value, inH (Gs ++ [(z, tfold (fol n X O x))]) (.row z 72 8 ((tfold (fol n X O x)).flatMap encS) :: Hx) := fun z q hq => by
        rcases List.mem_append.1 hq with hq | hq
        · exact mS (hin q hq)
        · rw [List.mem_singleton] at hq
          subst hq
          exact m0
      refine JC_any (m := 10) rfl [.blk b2 (gv (n : Int) X O) 28, .row v 72 8 (S.flatMap encS)] mixed (by ((repeat (apply sub_cons; (focus ((with_reducible (repeat (first | assumption | refine mS ?_))); done)))); exact sub_nil)) ?_
      (apply JF_q 0; exact rfl; kernel_rfl; exact rfl; (intro E hE; (apply q_move; exact rfl)))
      (apply JF_q 1; exact rfl; kernel_rfl; exact rfl; (intro E hE; (apply q_loadW; exact rfl; (refine hE _ ?_; exact mb); (omega))))
      (apply JF_q 2; exact rfl; kernel_rfl; exact rfl; (intro E hE; (apply q_move; exact rfl)))
      (apply JF_q 3; exact rfl; kernel_rfl; exact rfl; (intro E hE; (apply q_move; exact rfl)))
      (apply JF_q 4; exact rfl; kernel_rfl; exact rfl; (intro E hE; (apply q_indexRs; exact rfl; exact rfl; (refine hE _ ?_; exact rb); omega)))
      (apply JF_q 5; exact rfl; kernel_rfl; exact rfl; (intro E hE; (apply q_loadRA; exact rfl; (refine hE _ ?_; exact rb); (exact hgx); (omega); decide)))
      (apply JF_all [6]; kernel_rfl)
      (apply JFs_cons; exact rfl)
      · (apply JcE; exact rfl; exact rfl; exact rfl; infer_instance; (exact hsf _); (intro vf H' hV; subst hV; refine J_one m0 fun ho ca => ?_))
        (apply J_nil; apply JF_end; ((repeat (apply sub_cons; (focus ((with_reducible (repeat (first | assumption | refine mS ?_))); done)))); exact sub_nil))
        (apply JF_all [7]; kernel_rfl)
        (apply JFs_cons; exact rfl)
        · (apply J_lit1; exact rfl; exact rfl; exact ca; (intro _))
          (apply J_nil; apply JF_end; ((repeat (apply sub_cons; (focus ((with_reducible (repeat (first | assumption | refine mS ?_))); done)))); exact sub_nil))
          (apply JF_all [8]; kernel_rfl)
          (apply JFs_cons; exact rfl)
          · ((apply J_ap; decide; exact rfl; exact rfl; exact rfl; infer_instance; exact m0; exact List.cons_ne_nil _ _; (intro c hc; rw [List.mem_singleton] at hc; subst hc; exact ho); ((show (_ + _) * _ ≤ _); (simp only [List.length_cons, List.length_nil]); omega); decide; exact hmap _; (intro vn)))
            (apply J_nil; apply JF_end; ((repeat (apply sub_cons; (focus ((with_reducible (repeat (first | assumption | refine mS ?_))); done)))); exact sub_nil))
            (apply JF_q 9; exact rfl; kernel_rfl; exact rfl; (intro E hE; (apply q_assign; exact rfl)))
            (apply JF_done; kernel_rfl)
            ((repeat' (first | (apply Jq_move; exact rfl; exact rfl) | (apply Jq_assign; exact rfl; exact rfl) | (apply Jq_add; exact rfl; exact rfl; exact rfl; omega) | refine thenQ_normal ?_ | refine inBlockQ_normal ?_ | refine JC_region ?_ | refine J_nil ?_)); refine ⟨(i + 1, vn, Gs ++ [(vf, tfold (fol n X O x))], .row vf 72 8 ((tfold (fol n X O x)).flatMap encS) :: Hx), ⟨(by dsimp only; omega), hnxt vf, hinn vf, (fun z hz => mS (hsub z hz)), mS hb2⟩, (by dsimp only; omega), ?_⟩; dsimp only; (refine entP (ent ?_ (List.nil_sublist _)) ?_; (repeat refine fr_cons rfl ?_); exact fr_nil; (repeat (first | exact sp_end | (with_reducible apply sp2)))))
          exact JFs_nil
        exact JFs_nil
      exact JFs_nil
    · obtain rfl : i = S.length := by omega
      rw [List.take_length] at hG
      repeat' (first | (apply Jq_move; exact rfl; exact rfl) | (apply Jq_assign; exact rfl; exact rfl) | (apply Jq_cmp; exact rfl; exact rfl; exact rfl; exact rfl) | (apply Jq_lenRs; exact rfl; exact rfl; (exact rb); exact lS; decide) | refine thenQ_normal ?_ | refine thenQ_exit ?_ | refine inBlockQ_here ?_ | refine JC_seq ?_ | refine JC_region ?_ | refine J_nil ?_ | refine JC_ret ?_ | refine JC_exit ?_ | (apply JC_dec_false; exact rfl; omega))
      refine e1 rfl rfl rfl ?_ ⟨Gs, hG, m0, fun p hp => mS (hin p hp), fun z hz => mS (hsub z hz)⟩
      (refine ent ?_ ?_; (repeat refine fr_cons rfl ?_); exact fr_nil; (repeat (exact List.Sublist.refl _)))
end Go.Proofs.YtmbbcmebdefggaaGreatDoor
namespace Go.Proofs.YtmbbcmebdefggaaGreatDoor
open Go Go.RowKit SL
/-- The places of some states. -/
def bS (Bl l : List StB) (k : Nat) : Bool := match Bl[k]? with
  | some x => decide (x ∈ l)
  | none => false
theorem bS_at {Bl l : List StB} {k : Nat} {x : StB} (h : Bl[k]? = some x) : bS Bl l k = decide (x ∈ l) := by unfold bS; rw [h]
theorem bS_none {Bl l : List StB} {k : Nat} (h : Bl[k]? = none) : bS Bl l k = false := by unfold bS; rw [h]
theorem bS_nil (Bl : List StB) : bS Bl [] = fun _ => false := funext fun k => by
  unfold bS
  cases Bl[k]? with
  | none => rfl
  | some x => exact decide_eq_false List.not_mem_nil
theorem bS_snoc {Bl l : List StB} {k : Nat} {x : StB} (hn : Bl.Nodup) (hk : Bl[k]? = some x) (hx : x ∉ l) : bS Bl (l ++ [x]) = fun j => bS Bl l j ^^ decide (j = k) := funext fun j => by
  cases hj : Bl[j]? with
  | none =>
    rw [bS_none hj, bS_none hj]
    have : j ≠ k := fun e => by rw [e, hk] at hj; cases hj
    rw [decide_eq_false this]; rfl
  | some y =>
    rw [bS_at hj, bS_at hj]
    by_cases e : j = k
    · subst e
      rw [hk] at hj
      cases hj
      rw [decide_eq_true (List.mem_append.2 (.inr List.mem_cons_self)), decide_eq_false hx, decide_eq_true rfl]; rfl
    · have hne : y ≠ x := fun k2 => e ((List.getElem?_inj (List.getElem?_eq_some_iff.1 hj).1 hn).1 (by rw [hj, hk, k2]))
      rw [decide_eq_false e, Bool.xor_false]
      refine decide_eq_decide.2 ?_
      rw [List.mem_append, List.mem_singleton]
      exact ⟨fun h => h.resolve_right hne, .inl⟩
set_option maxRecDepth 100000 in
theorem rowof_gives {B : Nat} {w0 : World} {H : Hp} {v : Value} {b : Nat} (Bl l : List StB) (hv : It.row v 72 8 (l.flatMap encS) ∈ H) (hm : It.obj b (mapO (encM stK nV (numM Bl))) ∈ H) (hn : Bl.Nodup) (hb : Bl.length ≤ 768) (hl : l.Nodup) (hs : ∀ x ∈ l, x ∈ Bl) (hll : l.length ≤ 46656) :
    GivesE Tryz.prog 76 #[v, .map (some b)] B w0 H (fun v' H' => v' = .agg (wC (bS Bl l)).toArray ∧ H' = H) := by
  have iv0 : RB v H 72 8 (l.flatMap encS) := ⟨hv⟩
  have im : MO b H (mapO (encM stK nV (numM Bl))) := ⟨hm⟩
  have lf := fl_len encS_len l
  have uz := wC_len (fun _ => false)
  refine givesE_of (args := [v, .map (some b)]) [(0, v), (1, .map (some b))] Tryz.func76 rfl Tryz.ntmps76 rfl (argsF_cons rfl (argsF_cons rfl argsF_nil)) ?_
  repeat' (first | (apply Jq_move; exact rfl; exact rfl) | (apply J_sW; exact rfl; exact rfl; infer_instance; (exact rfl); (exact rfl); (exact ones_of rfl); infer_instance) | (apply Jq_lenRs; exact rfl; exact rfl; (exact rb); exact lf; decide) | (apply J_alloc; exact rfl; exact rfl; (intro _)) | (apply Jq_build0; exact rfl) | refine thenQ_normal ?_ | refine JC_seq ?_ | refine JC_region ?_ | refine J_nil ?_ | refine JC_block ?_)
  rename_i b4 b5
  change JC _ _ _ _ _ _ _ (.blk b5 (List.replicate 12 (.int .u64 0)) 92 :: .blk b4 (List.replicate 12 (.int .u64 0)) 92 :: H)
  rw [← wC_zero]
  refine JC_loop (X := Nat) (fun i => i ≤ l.length) (fun i => [(12, .int .i64 (i : Int)), (11, .int .i64 (l.length : Int)), (10, v), (5, .pointer (some ⟨b5, 0, none⟩)), (4, .pointer (some ⟨b4, 0, none⟩)), (0, v), (1, .map (some b))]) (fun i => .blk b5 (wC (bS Bl (l.take i))) 92 :: .blk b4 (wC (fun _ => false)) 92 :: H) (fun i => l.length - i) 0 (Nat.zero_le _) ?_ ?_
  · rw [List.take_zero, bS_nil]
    (refine ent ?_ ?_; (repeat refine fr_cons rfl ?_); exact fr_nil; (repeat (exact List.Sublist.refl _)))
  · rintro i hi
    by_cases hlt : i < l.length
    · obtain ⟨x, hx⟩ := get_in hlt
      have ux := encS_len x
      have hgx := fl_at encS_len hx
      have hxl := List.mem_of_getElem? hx
      obtain ⟨k, hk⟩ := List.getElem?_of_mem (hs x hxl)
      have hkb : k < 768 := Nat.lt_of_lt_of_le (List.getElem?_eq_some_iff.1 hk).1 hb
      have hv1 : ((lkM (numM Bl) x).map nV).getD (.int .i64 0) = .int .i64 (k : Int) := by rw [(numM_get hn).2 hk]; rfl
      have htk : l.take (i + 1) = l.take i ++ [x] := by rw [List.take_add_one, hx]; rfl
      have hni : x ∉ l.take i := fun hm => by
        have hnd : (l.take (i + 1)).Nodup := hl.sublist (List.take_sublist _ _)
        rw [htk, List.nodup_append] at hnd
        exact hnd.2.2 x hm x List.mem_cons_self rfl
      have hnx := bS_snoc hn hk hni
      generalize bS Bl (l.take i) = f at *
      have uf := wC_len f
      have hq : k / 64 < 12 := by omega
      have hr : k % 64 < 64 := Nat.mod_lt _ (by decide)
      have hc := wC_at f hq
      have hwl := wd_lt f (k / 64)
      have hfl := wd_flip f hkb
      have hset : (wC f).set (0 + k / 64 * 1) (.int .u64 ((wd f (k / 64) ^^^ 2 ^ (k % 64) : Nat) : Int)) = wC (fun j => f j ^^ decide (j = k)) := by
        rw [Nat.zero_add, Nat.mul_one]
        exact wC_set hq hfl fun j _ hjk => by rw [decide_eq_false (fun e => hjk (by rw [e])), Bool.xor_false]
      have e4 : (k : Int) % 64 = ((k % 64 : Nat) : Int) := rfl
      have hp : 2 ^ (k % 64) < 18446744073709551616 := Nat.pow_lt_pow_right (a := 2) (by decide) hr
      repeat' (first | (apply Jq_lookT (eV := nV) (E := kencS); exact rfl; exact rfl; exact rfl; exact mo; (rw [numM_keys]; exact hn); exact hv1) | (apply Jq_move; exact rfl; exact rfl) | (apply Jq_assign; exact rfl; exact rfl) | (apply Jq_cmp; exact rfl; exact rfl; exact rfl; exact rfl) | (apply Jq_loadW; exact rfl; exact rfl; (exact mb); (omega)) | (apply J_sW; exact rfl; exact rfl; infer_instance; (exact rfl); (omega); (exact u8s_one _); infer_instance) | (apply Jq_indexRs; exact rfl; exact rfl; exact rfl; (exact rb); omega) | (apply Jq_loadRA; exact rfl; exact rfl; (exact rb); (exact hgx); (omega); decide) | (apply J_alloc (cs := u8s Z8); exact rfl; exact rfl; (intro _)) | refine thenQ_normal ?_ | refine JC_seq ?_ | refine JC_region ?_ | refine J_nil ?_ | refine JC_block ?_ | refine JC_skip ?_ | (apply JC_dec_true; exact rfl; omega))
      refine JC_any (m := 10) rfl [] mixed (by exact sub_nil) ?_
      (apply JF_q 0; exact rfl; kernel_rfl; exact rfl; (intro E hE; (apply q_move; exact rfl)))
      (apply JF_q 1; exact rfl; kernel_rfl; exact rfl; (intro E hE; (apply q_quoN (b := 64); exact rfl; exact rfl; omega; omega; exact rfl)))
      (apply JF_q 2; exact rfl; kernel_rfl; exact rfl; (intro E hE; (apply q_indexN; exact rfl; exact rfl; exact hq)))
      (apply JF_q 4; exact rfl; kernel_rfl; exact rfl; (intro E hE; (apply q_move; exact rfl)))
      (apply JF_q 5; exact rfl; kernel_rfl; exact rfl; (intro E hE; (apply q_remR; exact rfl; exact rfl; omega; omega; exact e4)))
      (apply JF_q 6; exact rfl; kernel_rfl; exact rfl; (intro E hE; (apply q_shlu; exact rfl; exact rfl; exact hr; exact rfl)))
      (apply JF_all [3]; kernel_rfl)
      (apply JFs_cons; exact rfl)
      · (apply Jq_load; exact rfl; exact rfl; (exact mb); (exact hc))
        (apply J_nil; apply JF_end; exact sub_nil)
        (apply JF_q 7; exact rfl; kernel_rfl; exact rfl; (intro E hE; (apply q_xoru; exact rfl; exact rfl; exact hwl; exact hp; exact rfl)))
        (apply JF_q 8; exact rfl; kernel_rfl; exact rfl; (intro E hE; (apply q_indexN; exact rfl; exact rfl; exact hq)))
        (apply JF_all [9]; kernel_rfl)
        (apply JFs_cons; exact rfl)
        · (apply J_s1; exact rfl; exact rfl; exact rfl; infer_instance; (omega); (exact hset); infer_instance)
          (apply J_nil; apply JF_end; exact sub_nil)
          (apply JF_done; kernel_rfl)
          ((repeat' (first | (apply Jq_move; exact rfl; exact rfl) | (apply Jq_add; exact rfl; exact rfl; exact rfl; omega) | refine thenQ_normal ?_ | refine inBlockQ_normal ?_ | refine JC_region ?_ | refine J_nil ?_)); refine ⟨i + 1, (by omega), (by omega), ?_⟩; rw [htk, hnx]; (refine ent ?_ ?_; (repeat refine fr_cons rfl ?_); exact fr_nil; (repeat (first | exact List.Sublist.refl _ | refine List.Sublist.cons _ ?_))))
        exact JFs_nil
      exact JFs_nil
    · obtain rfl : i = l.length := by omega
      rw [List.take_length]
      have uf := wC_len (bS Bl l)
      repeat' (first | (apply Jq_cmp; exact rfl; exact rfl; exact rfl; exact rfl) | (apply Jq_loadW; exact rfl; exact rfl; (exact mb); (omega)) | (apply J_sW; exact rfl; exact rfl; infer_instance; (omega); (omega); (exact wC_one _); infer_instance) | refine thenQ_normal ?_ | refine thenQ_exit ?_ | refine inBlockQ_here ?_ | refine JC_seq ?_ | refine JC_region ?_ | refine J_nil ?_ | refine JC_ret ?_ | refine JC_exit ?_ | (apply JC_dec_false; exact rfl; omega))
      refine eC (H' := H) rfl rfl rfl (mS m0) uf ?_ ⟨rfl, rfl⟩
      (refine ent ?_ ?_; (repeat refine fr_cons rfl ?_); exact fr_nil; (repeat (first | exact List.Sublist.refl _ | refine List.Sublist.cons _ ?_)))
end Go.Proofs.YtmbbcmebdefggaaGreatDoor
namespace Go.Proofs.YtmbbcmebdefggaaGreatDoor
open Go Go.RowKit SL
/-! What is left of a row. -/
theorem wC_congr {f g : Nat → Bool} (h : ∀ k, k < 768 → f k = g k) : wC f = wC g := wC_cong (wds_congr h)
theorem bS_sd {Bl a b : List StB} (ha : Asc rkT a) (hb : Asc rkT b) : bS Bl (sd rkT a b) = fun k => bS Bl a k ^^ bS Bl b k := funext fun k => by
  cases hk : Bl[k]? with
  | none => rw [bS_none hk, bS_none hk, bS_none hk]; rfl
  | some x =>
    rw [bS_at hk, bS_at hk, bS_at hk]
    have := sd_mem rkT_inj a b ha hb x
    by_cases h1 : x ∈ a <;> by_cases h2 : x ∈ b <;> simp [this, h1, h2]
theorem fst_nil (Bl : List StB) : fstB (bS Bl []) = -1 := fstB_none fun k _ => by rw [bS_nil]
theorem fst_at {Bl l : List StB} (hB : Asc rkT Bl) (hb : Bl.length ≤ 768) (hl : Asc rkT l) {i : Nat} {x : StB} (hx : l.head? = some x) (hi : Bl[i]? = some x) : fstB (bS Bl l) = i := by
  have hib := (List.getElem?_eq_some_iff.1 hi).1
  refine fstB_some (by omega) ?_ fun j hj => ?_
  · rw [bS_at hi]
    exact decide_eq_true (List.mem_of_getElem? (show l[0]? = some x by cases l with | nil => cases hx | cons y t => exact hx))
  · have hjb : j < Bl.length := by omega
    rw [bS_at (List.getElem?_eq_getElem hjb)]
    refine decide_eq_false fun hm => ?_
    have h1 := List.pairwise_iff_getElem.1 hB j i hjb hib hj
    have e : Bl[i] = x := (List.getElem?_eq_some_iff.1 hi).2
    rw [e] at h1
    cases l with
    | nil => cases hx
    | cons y t =>
      cases hx
      rcases List.mem_cons.1 hm with k | k
      · rw [k] at h1; omega
      · have := asc_head hl k
        omega
/-- Rows by the places of their first bits. -/
structure BasM (Bl : List StB) (M : List (Int × List StB)) : Prop where
  nd : (M.map (·.1)).Nodup
  asc : ∀ e ∈ M, Asc rkT e.2
  sub : ∀ e ∈ M, ∀ x ∈ e.2, x ∈ Bl
  key : ∀ e ∈ M, ∃ (k : Nat) (x : StB), e.1 = (k : Int) ∧ e.2.head? = some x ∧ Bl[k]? = some x
theorem BasM.ascL {Bl : List StB} {M : List (Int × List StB)} (h : BasM Bl M) : AscL rkT (M.map (·.2)) := fun b hb => by
  obtain ⟨e, he, rfl⟩ := List.mem_map.1 hb
  exact h.asc e he
theorem BasM.ech {Bl : List StB} {M : List (Int × List StB)} (hB : Bl.Nodup) (h : BasM Bl M) : Ech rkT (M.map (·.2)) := ⟨h.ascL, fun b hb e => (by
  obtain ⟨p, hp, rfl⟩ := List.mem_map.1 hb
  obtain ⟨k, x, _, h2, _⟩ := h.key p hp
  rw [e] at h2
  cases h2), by
  have h1 := h.nd
  rw [List.nodup_iff_pairwise_ne, List.pairwise_map] at h1
  rw [List.pairwise_map]
  refine List.Pairwise.imp_of_mem (fun {a b} ha hb hab e => hab ?_) h1
  obtain ⟨k, x, k1, k2, k3⟩ := h.key a ha
  obtain ⟨j, y, j1, j2, j3⟩ := h.key b hb
  rw [k2, j2] at e
  cases e
  rw [k1, j1, (List.getElem?_inj (List.getElem?_eq_some_iff.1 k3).1 hB).1 (k3.trans j3.symm)]⟩
def rV (Bl : List StB) (l : List StB) : Value := .agg (wC (bS Bl l)).toArray
theorem kencN : KEnc Tryz.prog 3 zV := ⟨klaw_int (by kernel_rfl), fun _ _ h => zV_inj h⟩
/-- Words up to j taken together. -/
def mixB (f g : Nat → Bool) (j : Nat) (k : Nat) : Bool := if k < 64 * j then f k ^^ g k else f k
theorem mixB_zero (f g : Nat → Bool) : wC (mixB f g 0) = wC f := wC_congr fun k _ => if_neg (by omega)
theorem mixB_all (f g : Nat → Bool) : wC (mixB f g 12) = wC (fun k => f k ^^ g k) := wC_congr fun k hk => if_pos (by omega)
theorem mixB_set (f g : Nat → Bool) {j : Nat} (hj : j < 12) : (wC (mixB f g j)).set (0 + j * 1) (.int .u64 ((wd (mixB f g j) j ^^^ wd g j : Nat) : Int)) = wC (mixB f g (j + 1)) := by
  rw [Nat.zero_add, Nat.mul_one]
  refine wC_set hj ?_ fun k _ hk => ?_
  · rw [wd_xor]
    refine wd_congr fun i hi => ?_
    unfold mixB
    rw [if_neg (by omega), if_pos (by omega)]
  · unfold mixB
    by_cases h : k < 64 * j
    · rw [if_pos h, if_pos (by omega)]
    · rw [if_neg h, if_neg (by omega)]
/-- What reduce hands back. -/
def redP (Bl : List StB) (M : List (Int × List StB)) (l l' : List StB) (k : Int) : Prop :=
  (∃ w, Spn rkT (M.map (·.2)) w ∧ l' = sd rkT l w) ∧ (∀ x ∈ l', x ∈ Bl) ∧ ((l' = [] ∧ k = -1) ∨ ∃ (i : Nat) (x : StB), k = (i : Int) ∧ l'.head? = some x ∧ Bl[i]? = some x ∧ k ∉ M.map (·.1))
/-- The place of the first. -/
def fstI (Bl l : List StB) : Nat := match l with
  | [] => 768
  | x :: _ => Bl.idxOf x
theorem fstI_le {Bl : List StB} (hb : Bl.length ≤ 768) (l : List StB) : fstI Bl l ≤ 768 := by
  cases l with
  | nil => exact Nat.le_refl _
  | cons x t => exact Nat.le_trans List.idxOf_le_length hb
theorem fstI_at {Bl l : List StB} (hs : ∀ x ∈ l, x ∈ Bl) (hn : l ≠ []) : ∃ x, l.head? = some x ∧ Bl[fstI Bl l]? = some x := by
  cases l with
  | nil => exact absurd rfl hn
  | cons x t => exact ⟨x, rfl, by
    have h := List.idxOf_lt_length_of_mem (hs x List.mem_cons_self)
    show Bl[Bl.idxOf x]? = some x
    rw [List.getElem?_eq_getElem h, List.getElem_idxOf]⟩
theorem next_gt {Bl l own : List StB} (hB : Asc rkT Bl) (hb : Bl.length ≤ 768) (hl : Asc rkT l) (ho : Asc rkT own) {i : Nat} {x : StB} (hx : l.head? = some x) (ho2 : own.head? = some x) (hix : Bl[i]? = some x) (hs : ∀ z ∈ sd rkT l own, z ∈ Bl) : i < fstI Bl (sd rkT l own) := by
  have hib := (List.getElem?_eq_some_iff.1 hix).1
  have hgt : ∀ z ∈ sd rkT l own, rkT x < rkT z := fun z hz => by
    have h1 := (sd_mem rkT_inj l own hl ho z).1 hz
    cases l with
    | nil => cases hx
    | cons a t =>
      cases hx
      cases own with
      | nil => cases ho2
      | cons c r =>
        cases ho2
        have hzx : z ≠ x := fun e => h1 ⟨fun _ => e ▸ List.mem_cons_self, fun _ => e ▸ List.mem_cons_self⟩
        rcases sd_sub _ _ z hz with k | k
        · exact asc_head hl ((List.mem_cons.1 k).resolve_left hzx)
        · exact asc_head ho ((List.mem_cons.1 k).resolve_left hzx)
  by_cases hn : sd rkT l own = []
  · rw [hn]
    show i < 768
    omega
  · obtain ⟨z, hz, hj⟩ := fstI_at hs hn
    have hzm : z ∈ sd rkT l own := by
      cases e : sd rkT l own with
      | nil => exact absurd e hn
      | cons c r => rw [e] at hz; cases hz; exact List.mem_cons_self
    have h1 := hgt z hzm
    have hjb := (List.getElem?_eq_some_iff.1 hj).1
    have e1 := (List.getElem?_eq_some_iff.1 hix).2
    have e2 := (List.getElem?_eq_some_iff.1 hj).2
    rcases Nat.lt_trichotomy i (fstI Bl (sd rkT l own)) with h | h | h
    · exact h
    · exfalso
      rw [← h, hix] at hj
      cases hj
      omega
    · exfalso
      have h2 := List.pairwise_iff_getElem.1 hB _ i hjb hib h
      rw [e1, e2] at h2
      omega
set_option maxRecDepth 100000 in
theorem reduce_gives {B : Nat} {w0 : World} {H : Hp} {b : Nat} (Bl : List StB) (M : List (Int × List StB)) (l : List StB) (hT : tabI ∈ H) (hm : It.obj b (mapO (encM zV (rV Bl) M)) ∈ H) (hB : Asc rkT Bl) (hb : Bl.length ≤ 768) (hM : BasM Bl M) (hl : Asc rkT l) (hs : ∀ x ∈ l, x ∈ Bl) :
    GivesE Tryz.prog 78 #[.map (some b), .agg (wC (bS Bl l)).toArray] B w0 H (fun v' H' => ∃ l' k, v' = .tuple #[.agg (wC (bS Bl l')).toArray, .int .i64 k] ∧ redP Bl M l l' k ∧ H' = H) := by
  have im : MO b H (mapO (encM zV (rV Bl) M)) := ⟨hm⟩
  have uf := wC_len (bS Bl l)
  have uz := wC_len (fun _ => false)
  have hascM := hM.ascL
  refine givesE_of (args := [.map (some b), .agg (wC (bS Bl l)).toArray]) [(0, .map (some b)), (1, .agg (wC (bS Bl l)).toArray)] Tryz.func78 rfl Tryz.ntmps78 rfl (argsF_cons rfl (argsF_cons rfl argsF_nil)) ?_
  repeat' (first | (apply Jq_assign; exact rfl; exact rfl) | (apply J_box; exact rfl; exact rfl; exact rfl; (intro _)) | (apply J_alloc; exact rfl; exact rfl; (intro _)) | refine thenQ_normal ?_ | refine JC_seq ?_ | refine JC_region ?_ | refine J_nil ?_ | refine JC_block ?_)
  rename_i b3 b4
  change JC _ _ _ _ _ _ _ (.blk b4 (List.replicate 12 (.int .u64 0)) 92 :: .blk b3 (wC (bS Bl l)) 92 :: H)
  rw [← wC_zero]
  refine JC_loop (X := Nat × List StB) (fun p => p.1 ≤ 768 ∧ (∃ w, Spn rkT (M.map (·.2)) w ∧ p.2 = sd rkT l w) ∧ (∀ x ∈ p.2, x ∈ Bl) ∧ (p.2 ≠ [] → ∃ x, p.2.head? = some x ∧ Bl[p.1]? = some x)) (fun p => [(3, .pointer (some ⟨b3, 0, none⟩)), (4, .pointer (some ⟨b4, 0, none⟩)), (0, .map (some b))]) (fun p => .blk b4 (wC (fun _ => false)) 92 :: .blk b3 (wC (bS Bl p.2)) 92 :: H) (fun p => 768 - p.1)
    (fstI Bl l, l) ⟨fstI_le hb l, ⟨[], Spn.nil _, (sd_right l).symm⟩, hs, fstI_at hs⟩ ?_ ?_
  · (refine ent ?_ ?_; (repeat refine fr_cons rfl ?_); exact fr_nil; (repeat (exact List.Sublist.refl _)))
  · rintro ⟨i, l1⟩ ⟨hi, ⟨w1, hw1, hl1⟩, hsb, hhd⟩
    dsimp only at hi hw1 hl1 hsb hhd ⊢
    have ha1 : Asc rkT l1 := by rw [hl1]; exact sd_asc l w1 hl (hw1.asc hascM)
    have u1 := wC_len (bS Bl l1)
    have hfg := fun H2 hT2 => first_gives (B := B) (w0 := w0) (H := H2) (bS Bl l1) hT2
    by_cases hnil : l1 = []
    · have hr : redP Bl M l l1 (-1) := ⟨⟨w1, hw1, hl1⟩, hsb, .inl ⟨hnil, rfl⟩⟩
      have hno : lkM M (-1) = none := by
        cases e : lkM M (-1) with
        | none => rfl
        | some o =>
          obtain ⟨k, _, h1, _⟩ := hM.key _ (lkM_mem e)
          dsimp only at h1
          omega
      rw [hnil, fst_nil, ← hnil] at hfg
      have hv1 : ((lkM M (-1)).map (rV Bl)).getD (.agg (Array.replicate 12 (.int .u64 0))) = .agg (Array.replicate 12 (.int .u64 0)) := by rw [hno]; rfl
      have hb1 : (lkM M (-1)).isSome = false := by rw [hno]; rfl
      repeat' (first | (apply JcE; exact rfl; exact rfl; exact rfl; infer_instance; (exact hfg _ (mS (mS hT))); (intro v' H' hV; obtain ⟨rfl, rfl⟩ := hV)) | (apply Jq_lookT2 (eV := rV Bl) (E := kencN) (k := -1); exact rfl; exact rfl; exact rfl; exact mo; exact hM.nd; exact hv1; exact hb1) | (apply Jq_move; exact rfl; exact rfl) | (apply Jq_assign; exact rfl; exact rfl) | (apply Jq_not; exact rfl; exact rfl) | (apply Jq_loadW; exact rfl; exact rfl; (exact mb); (omega)) | (apply J_sW; exact rfl; exact rfl; infer_instance; (first | exact rfl | omega); (first | exact rfl | omega); (first | exact ones_of rfl | exact wC_one _); infer_instance) | (apply Jq_ext20; exact rfl; exact rfl) | (apply Jq_ext21; exact rfl; exact rfl) | (apply J_alloc; exact rfl; exact rfl; (intro _)) | refine thenQ_normal ?_ | refine thenQ_ret ?_ | refine inBlockQ_ret ?_ | refine JC_seq ?_ | refine JC_region ?_ | refine J_nil ?_ | refine JC_block ?_ | refine JC_ret ?_ | (apply JC_if_true; exact rfl))
      refine eCT (H' := H) rfl rfl rfl rfl (mS m0) u1 ?_ ⟨l1, -1, rfl, hr, rfl⟩
      (refine ent ?_ ?_; (repeat refine fr_cons rfl ?_); exact fr_nil; (repeat (first | exact List.Sublist.refl _ | refine List.Sublist.cons _ ?_)))
    · obtain ⟨x, hx, hix⟩ := hhd hnil
      have hil := (List.getElem?_eq_some_iff.1 hix).1
      rw [fst_at hB hb ha1 hx hix] at hfg
      cases hlk : lkM M (i : Int) with
      | none =>
        have hr : redP Bl M l l1 (i : Int) := ⟨⟨w1, hw1, hl1⟩, hsb, .inr ⟨i, x, rfl, hx, hix, fun k => by rw [← lkM_isSome, hlk] at k; cases k⟩⟩
        have hv1 : ((lkM M (i : Int)).map (rV Bl)).getD (.agg (Array.replicate 12 (.int .u64 0))) = .agg (Array.replicate 12 (.int .u64 0)) := by rw [hlk]; rfl
        have hb1 : (lkM M (i : Int)).isSome = false := by rw [hlk]; rfl
        repeat' (first | (apply JcE; exact rfl; exact rfl; exact rfl; infer_instance; (exact hfg _ (mS (mS hT))); (intro v' H' hV; obtain ⟨rfl, rfl⟩ := hV)) | (apply Jq_lookT2 (eV := rV Bl) (E := kencN) (k := (i : Int)); exact rfl; exact rfl; exact rfl; exact mo; exact hM.nd; exact hv1; exact hb1) | (apply Jq_move; exact rfl; exact rfl) | (apply Jq_assign; exact rfl; exact rfl) | (apply Jq_not; exact rfl; exact rfl) | (apply Jq_loadW; exact rfl; exact rfl; (exact mb); (omega)) | (apply J_sW; exact rfl; exact rfl; infer_instance; (first | exact rfl | omega); (first | exact rfl | omega); (first | exact ones_of rfl | exact wC_one _); infer_instance) | (apply Jq_ext20; exact rfl; exact rfl) | (apply Jq_ext21; exact rfl; exact rfl) | (apply J_alloc; exact rfl; exact rfl; (intro _)) | refine thenQ_normal ?_ | refine thenQ_ret ?_ | refine inBlockQ_ret ?_ | refine JC_seq ?_ | refine JC_region ?_ | refine J_nil ?_ | refine JC_block ?_ | refine JC_ret ?_ | (apply JC_if_true; exact rfl))
        refine eCT (H' := H) rfl rfl rfl rfl (mS m0) u1 ?_ ⟨l1, i, rfl, hr, rfl⟩
        (refine ent ?_ ?_; (repeat refine fr_cons rfl ?_); exact fr_nil; (repeat (first | exact List.nil_sublist _ | exact List.Sublist.refl _ | refine List.Sublist.cons_cons _ ?_ | refine List.Sublist.cons _ ?_)))
      | some own =>
        have hmem := lkM_mem hlk
        have hoa := hM.asc _ hmem
        have hos := hM.sub _ hmem
        obtain ⟨k, y, hk1, hk2, hk3⟩ := hM.key _ hmem
        dsimp only at hoa hos hk1 hk2
        obtain rfl : i = k := by omega
        rw [hix] at hk3
        cases hk3
        have hv1 : ((lkM M (i : Int)).map (rV Bl)).getD (.agg (Array.replicate 12 (.int .u64 0))) = .agg (wC (bS Bl own)).toArray := by rw [hlk]; rfl
        have hb1 : (lkM M (i : Int)).isSome = true := by rw [hlk]; rfl
        have uo := wC_len (bS Bl own)
        have hspn : Spn rkT (M.map (·.2)) (sd rkT w1 own) := Spn.sd rkT_inj hascM hw1 (Spn.one (List.mem_map.2 ⟨_, hmem, rfl⟩))
        have hl2 : sd rkT l1 own = sd rkT l (sd rkT w1 own) := by rw [hl1, sd_assoc rkT_inj hl (hw1.asc hascM) hoa]
        have hs2 : ∀ z ∈ sd rkT l1 own, z ∈ Bl := fun z hz => (sd_sub l1 own z hz).elim (hsb z) (hos z)
        have hnext : i < fstI Bl (sd rkT l1 own) := next_gt hB hb ha1 hoa hx hk2 hix hs2
        have hbs := bS_sd (Bl := Bl) ha1 hoa
        generalize sd rkT l1 own = l2 at *
        generalize sd rkT w1 own = w2 at *
        generalize bS Bl l1 = f at *
        generalize bS Bl own = g at *
        repeat' (first | (apply JcE; exact rfl; exact rfl; exact rfl; infer_instance; (exact hfg _ (mS (mS hT))); (intro v' H' hV; obtain ⟨rfl, rfl⟩ := hV)) | (apply Jq_lookT2 (eV := rV Bl) (E := kencN) (k := (i : Int)); exact rfl; exact rfl; exact rfl; exact mo; exact hM.nd; exact hv1; exact hb1) | (apply Jq_move; exact rfl; exact rfl) | (apply Jq_assign; exact rfl; exact rfl) | (apply Jq_not; exact rfl; exact rfl) | (apply Jq_loadW; exact rfl; exact rfl; (exact mb); (omega)) | (apply J_sW; exact rfl; exact rfl; infer_instance; (exact rfl); (omega); (exact wC_one _); infer_instance) | (apply Jq_ext20; exact rfl; exact rfl) | (apply Jq_ext21; exact rfl; exact rfl) | (apply J_alloc; exact rfl; exact rfl; (intro _)) | refine thenQ_normal ?_ | refine JC_seq ?_ | refine JC_region ?_ | refine J_nil ?_ | refine JC_block ?_ | refine JC_skip ?_ | (apply JC_if_false; exact rfl))
        rename_i b7
        refine JC_loop (X := Nat) (fun j => j ≤ 12) (fun j => [(22, .int .i64 (j : Int)), (7, .pointer (some ⟨b7, 0, none⟩)), (3, .pointer (some ⟨b3, 0, none⟩)), (4, .pointer (some ⟨b4, 0, none⟩)), (0, .map (some b))]) (fun j => .blk b7 (wC g) 92 :: .blk b4 (wC (fun _ => false)) 92 :: .blk b3 (wC (mixB f g j)) 92 :: H) (fun j => 12 - j) 0 (Nat.zero_le _) ?_ ?_
        · rw [mixB_zero]
          (refine ent ?_ ?_; (repeat refine fr_cons rfl ?_); exact fr_nil; (repeat (exact List.Sublist.refl _)))
        · intro j hj
          have um := wC_len (mixB f g j)
          by_cases hlt : j < 12
          · have hc1 := wC_at (mixB f g j) hlt
            have hc2 := wC_at g hlt
            have hw1 := wd_lt (mixB f g j) j
            have hw2 := wd_lt g j
            have hset := mixB_set f g hlt
            repeat' (first | (apply Jq_move; exact rfl; exact rfl) | (apply Jq_assign; exact rfl; exact rfl) | (apply Jq_cmp; exact rfl; exact rfl; exact rfl; exact rfl) | refine thenQ_normal ?_ | refine JC_seq ?_ | refine JC_region ?_ | refine J_nil ?_ | refine JC_block ?_ | refine JC_skip ?_ | (apply JC_dec_true; exact rfl; omega))
            refine JC_any (m := 9) rfl [.blk b7 (wC g) 92] mixed (by ((repeat (apply sub_cons; (focus ((with_reducible (repeat (exact m0))); done)))); exact sub_nil)) ?_
            (apply JF_q 0; exact rfl; kernel_rfl; exact rfl; (intro E hE; (apply q_move; exact rfl)))
            (apply JF_q 1; exact rfl; kernel_rfl; exact rfl; (intro E hE; (apply q_indexN; exact rfl; exact rfl; exact hlt)))
            (apply JF_q 3; exact rfl; kernel_rfl; exact rfl; (intro E hE; (apply q_move; exact rfl)))
            (apply JF_q 4; exact rfl; kernel_rfl; exact rfl; (intro E hE; (apply q_indexN; exact rfl; exact rfl; exact hlt)))
            (apply JF_q 5; exact rfl; kernel_rfl; exact rfl; (intro E hE; (apply q_load; exact rfl; (refine hE _ ?_; exact mb); (exact hc2))))
            (apply JF_all [2]; kernel_rfl)
            (apply JFs_cons; exact rfl)
            · (apply Jq_load; exact rfl; exact rfl; (exact mb); (exact hc1))
              (apply J_nil; apply JF_end; ((repeat (apply sub_cons; (focus ((with_reducible (repeat (exact m0))); done)))); exact sub_nil))
              (apply JF_q 6; exact rfl; kernel_rfl; exact rfl; (intro E hE; (apply q_xoru; exact rfl; exact rfl; exact hw1; exact hw2; exact rfl)))
              (apply JF_q 7; exact rfl; kernel_rfl; exact rfl; (intro E hE; (apply q_indexN; exact rfl; exact rfl; exact hlt)))
              (apply JF_all [8]; kernel_rfl)
              (apply JFs_cons; exact rfl)
              · (apply J_s1; exact rfl; exact rfl; exact rfl; infer_instance; (omega); (exact hset); infer_instance)
                (apply J_nil; apply JF_end; ((repeat (apply sub_cons; (focus ((with_reducible (repeat (exact m0))); done)))); exact sub_nil))
                (apply JF_done; kernel_rfl)
                ((repeat' (first | (apply Jq_move; exact rfl; exact rfl) | (apply Jq_add; exact rfl; exact rfl; exact rfl; omega) | refine thenQ_normal ?_ | refine inBlockQ_normal ?_ | refine JC_region ?_ | refine J_nil ?_)); refine ⟨j + 1, (by omega), (by omega), ?_⟩; (refine ent ?_ ?_; (repeat refine fr_cons rfl ?_); exact fr_nil; (repeat (exact List.Sublist.refl _))))
              exact JFs_nil
            exact JFs_nil
          · obtain rfl : j = 12 := by omega
            rw [mixB_all, ← hbs]
            repeat' (first | (apply Jq_cmp; exact rfl; exact rfl; exact rfl; exact rfl) | refine thenQ_normal ?_ | refine thenQ_exit ?_ | refine inBlockQ_normal ?_ | refine inBlockQ_here ?_ | refine JC_seq ?_ | refine JC_region ?_ | refine J_nil ?_ | refine JC_exit ?_ | (apply JC_if_false; exact rfl))
            refine ⟨(fstI Bl l2, l2), ⟨fstI_le hb l2, ⟨w2, hspn, hl2⟩, hs2, fstI_at hs2⟩, by dsimp only; omega, ?_⟩
            dsimp only
            (refine ent ?_ ?_; (repeat refine fr_cons rfl ?_); exact fr_nil; (repeat (first | exact List.Sublist.refl _ | refine List.Sublist.cons _ ?_)))
end Go.Proofs.YtmbbcmebdefggaaGreatDoor
namespace Go.Proofs.YtmbbcmebdefggaaGreatDoor
open Go Go.RowKit SL
theorem putM_add {K V : Type} [DecidableEq K] {M : List (K × V)} {k : K} {v : V} (h : k ∉ M.map (·.1)) : putM M k v = M ++ [(k, v)] := if_neg h
theorem BasM.snoc {Bl : List StB} {M : List (Int × List StB)} (h : BasM Bl M) {l l' : List StB} {k : Int} (hl : Asc rkT l) (hr : redP Bl M l l' k) (hk : 0 ≤ k) : k ∉ M.map (·.1) ∧ BasM Bl (M ++ [(k, l')]) ∧ ∀ v, Spn rkT ((M ++ [(k, l')]).map (·.2)) v ↔ Spn rkT (l :: M.map (·.2)) v := by
  obtain ⟨⟨w, hw, e⟩, hs, ⟨_, h1⟩ | ⟨i, x, h1, h2, h3, h4⟩⟩ := hr
  · omega
  · have hla : Asc rkT l' := by rw [e]; exact sd_asc l w hl (hw.asc h.ascL)
    refine ⟨h4, ⟨?_, ?_, ?_, ?_⟩, fun v => ?_⟩
    · rw [List.map_append, List.nodup_append]
      exact ⟨h.nd, by simp, fun a ha b hb => by
        rw [List.map_cons, List.map_nil, List.mem_singleton] at hb
        rw [hb]
        exact fun e => h4 (by have e' : a = k := e; rw [← e']; exact ha)⟩
    · intro p hp
      rcases List.mem_append.1 hp with hp | hp
      · exact h.asc p hp
      · rw [List.mem_singleton.1 hp]; exact hla
    · intro p hp
      rcases List.mem_append.1 hp with hp | hp
      · exact h.sub p hp
      · rw [List.mem_singleton.1 hp]; exact hs
    · intro p hp
      rcases List.mem_append.1 hp with hp | hp
      · exact h.key p hp
      · rw [List.mem_singleton.1 hp]; exact ⟨i, x, h1, h2, h3⟩
    · rw [← Spn.swap rkT_inj h.ascL hl hw e v]
      exact Spn.perm fun g => by rw [List.map_append, List.mem_append, List.mem_cons, List.map_cons, List.map_nil, List.mem_singleton]; exact Or.comm
theorem BasM.none {Bl : List StB} {M : List (Int × List StB)} (h : BasM Bl M) {l l' : List StB} {k : Int} (hl : Asc rkT l) (hr : redP Bl M l l' k) (hk : ¬ 0 ≤ k) (v : List StB) : Spn rkT (M.map (·.2)) v ↔ Spn rkT (l :: M.map (·.2)) v := by
  obtain ⟨⟨w, hw, e⟩, hs, ⟨h0, _⟩ | ⟨i, x, h1, _⟩⟩ := hr
  · have hwa := hw.asc h.ascL
    rw [h0] at e
    have el : l = w := by
      have := sd_back rkT_inj hl hwa
      rw [← e, sd_right] at this
      exact this
    subst el
    have hc : AscL rkT (l :: M.map (·.2)) := fun b hb => by rcases List.mem_cons.1 hb with rfl | hb; exact hl; exact h.ascL b hb
    exact ⟨Spn.mono rkT_inj hc fun b hb => Spn.one (List.mem_cons_of_mem _ hb), Spn.mono rkT_inj h.ascL fun b hb => by
      rcases List.mem_cons.1 hb with rfl | hb
      · exact hw
      · exact Spn.one hb⟩
  · omega
set_option maxRecDepth 100000 in
theorem addb_gives {B : Nat} {w0 : World} {H : Hp} {H' : Obj → Hp} {b : Nat} (Bl : List StB) (M : List (Int × List StB)) (l : List StB) (hT : tabI ∈ H) (hu : UO b H (mapO (encM zV (rV Bl) M)) H') (hB : Asc rkT Bl) (hb : Bl.length ≤ 768) (hM : BasM Bl M) (hl : Asc rkT l) (hs : ∀ x ∈ l, x ∈ Bl) :
    GivesE Tryz.prog 75 #[.map (some b), .agg (wC (bS Bl l)).toArray] B w0 H (fun v' Hn => v' = .tuple #[] ∧ ∃ M', BasM Bl M' ∧ (∀ v, Spn rkT (M'.map (·.2)) v ↔ Spn rkT (l :: M.map (·.2)) v) ∧ Hn = H' (mapO (encM zV (rV Bl) M'))) := by
  have hm : It.obj b (mapO (encM zV (rV Bl) M)) ∈ H := by
    obtain ⟨H1, H2, rfl, _⟩ := hu.out
    exact List.mem_append.2 (.inr m0)
  have hid : H' (mapO (encM zV (rV Bl) M)) = H := by
    obtain ⟨H1, H2, h1, h2⟩ := hu.out
    rw [h2, h1]
  have uf := wC_len (bS Bl l)
  refine givesE_of (args := [.map (some b), .agg (wC (bS Bl l)).toArray]) [(0, .map (some b)), (1, .agg (wC (bS Bl l)).toArray)] Tryz.func75 rfl Tryz.ntmps75 rfl (argsF_cons rfl (argsF_cons rfl argsF_nil)) ?_
  repeat' (first | (apply JcE; exact rfl; exact rfl; exact rfl; infer_instance; (exact reduce_gives Bl M l (mS hT) (mS hm) hB hb hM hl hs); (intro v' H2 hV; obtain ⟨l', k, rfl, hr, rfl⟩ := hV; have ul := wC_len (bS Bl l'))) | (apply Jq_move; exact rfl; exact rfl) | (apply Jq_assign; exact rfl; exact rfl) | (apply Jq_cmp; exact rfl; exact rfl; exact rfl; exact rfl) | (apply Jq_loadW; exact rfl; exact rfl; (exact mb); (omega)) | (apply J_sW; exact rfl; exact rfl; infer_instance; (exact rfl); (omega); (exact wC_one _); infer_instance) | (apply Jq_ext20; exact rfl; exact rfl) | (apply Jq_ext21; exact rfl; exact rfl) | (apply J_box; exact rfl; exact rfl; exact rfl; (intro _)) | (apply J_alloc; exact rfl; exact rfl; (intro _)) | refine thenQ_normal ?_ | refine JC_seq ?_ | refine JC_region ?_ | refine J_nil ?_ | refine JC_skip ?_ | refine JC_dec rfl (fun _ => ?_) (fun _ => ?_))
  · rename_i hk
    obtain ⟨hno, hbas, hspn⟩ := hM.snoc hl hr hk
    have hp : putM M k l' = M ++ [(k, l')] := putM_add hno
    repeat' (first | (apply J_updT (eV := rV Bl) (E := kencN) (k := k) (v := l'); exact rfl; exact rfl; exact rfl; infer_instance; exact rfl; exact hM.nd; exact hp) | refine J_nil ?_)
    refine e0 (H' := H' (mapO (encM zV (rV Bl) (M ++ [(k, l')])))) rfl rfl ?_ ⟨rfl, _, hbas, hspn, rfl⟩
    (refine ent ?_ ?_; (repeat refine fr_cons rfl ?_); exact fr_nil; (repeat (first | exact List.Sublist.refl _ | refine List.Sublist.cons _ ?_)))
  · rename_i hk
    refine e0 (H' := H) rfl rfl ?_ ⟨rfl, M, hM, hM.none hl hr hk, hid.symm⟩
    (refine ent ?_ ?_; (repeat refine fr_cons rfl ?_); exact fr_nil; (repeat (first | exact List.Sublist.refl _ | refine List.Sublist.cons _ ?_)))
end Go.Proofs.YtmbbcmebdefggaaGreatDoor
namespace Go.Proofs.YtmbbcmebdefggaaGreatDoor
open Go Go.RowKit SL
theorem stB_asc {n : Nat} (h8 : n ≤ 8) : Asc rkT (stB n) := by
  have h1 := sts_asc h8
  rw [← stB_fst h8] at h1
  exact (List.pairwise_map (f := fun x : StB => x.1) (R := fun a b => rkX a < rkX b)).1 h1
theorem stB_all {n : Nat} (h8 : n ≤ 8) : AllSt n (stB n) := ⟨(stB_asc h8).nodup, fun x => ⟨stB_perm h8 x, fun p => by
  have h1 : x.1 ∈ sts n := (sts_mem h8 x.1).2 ⟨p, x.2.1⟩
  rw [← stB_fst h8] at h1
  obtain ⟨y, hy, e⟩ := List.mem_map.1 h1
  rw [← Subtype.ext e]
  exact hy⟩⟩
theorem sts_720 : ∀ n, n < 7 → (sts n).length ≤ 720 := by decide +kernel
theorem stB_720 {n : Nat} (h6 : n ≤ 6) : (stB n).length ≤ 720 := by
  have := sts_720 n (by omega)
  rw [← stB_fst (show n ≤ 8 by omega), List.length_map] at this
  exact this
/-- What follows a state has its Alexander number, and a Maslov grading less by one. -/
theorem fol_grade {n : Nat} {X O : List Nat} (g : okG (n : Int) X O) (h8 : n ≤ 8) {x : StB} (hx : x ∈ stB n) : ∀ y ∈ tfold (fol n X O x), y ∈ stB n ∧ grd n X O y = ((grd n X O x).1, (grd n X O x).2 - 1) := by
  intro y hy
  have g' := okG.grd g
  have hL := stB_all h8
  have h1 : Cg (stB n) (grP n X O) (grP n X O x) (fun z => decide (z = x)) := fun z hz => by
    rw [decide_eq_true_eq] at hz
    subst hz
    exact ⟨hx, rfl⟩
  have h2 := (lin0 g' hL).to _ _ h1
  have h3 : op n (marks n X O) (stB n) [] (fun z => decide (z = x)) y = true := by
    unfold op
    rw [xl_one hL.nd hx fun z _ hne => by show (decide (z = x) && _) = false; rw [decide_eq_false hne, Bool.false_and]]
    show (decide (x = x) && opM n (marks n X O) [] x y) = true
    rw [decide_eq_true rfl, Bool.true_and, opM_fol g' ((hL.mem x).1 hx)]
    exact decide_eq_true hy
  obtain ⟨h4, h5⟩ := h2 y h3
  refine ⟨h4, h5.trans ?_⟩
  unfold sh
  exact Prod.ext (Int.add_zero _) rfl
theorem sel_next {n : Nat} {X O : List Nat} (g : okG (n : Int) X O) (h8 : n ≤ 8) {a m : Int} {x : StB} (hx : x ∈ (stB n).filter (selG n X O a m)) : ∀ y ∈ tfold (fol n X O x), y ∈ (stB n).filter (selG n X O a (m - 1)) := by
  intro y hy
  obtain ⟨h1, h2⟩ := List.mem_filter.1 hx
  obtain ⟨h3, h4⟩ := fol_grade g h8 h1 y hy
  have h5 : grd n X O x = (a, m) := of_decide_eq_true h2
  rw [h5] at h4
  exact List.mem_filter.2 ⟨h3, decide_eq_true h4⟩
/-- The rank of what some states have as boundaries. -/
noncomputable def rkN (n : Nat) (X O : List Nat) (S : List StB) : Nat := dm (fun v => ∃ l, Spn rkT (imgs n X O S) l ∧ v = vc l)
theorem rkN_is {n : Nat} {X O : List Nat} {S : List StB} {B : List (List StB)} (hB : Ech rkT B) (h : ∀ v, Spn rkT B v ↔ Spn rkT (imgs n X O S) v) : rkN n X O S = B.length :=
  dm_is (hB.dm.congr fun v => ⟨fun ⟨l, hl, e⟩ => ⟨l, (h l).1 hl, e⟩, fun ⟨l, hl, e⟩ => ⟨l, (h l).2 hl, e⟩⟩)
theorem Spn.snoc {A C : List (List StB)} {l : List StB} (hA : AscL rkT A) (hC : AscL rkT C) (hl : Asc rkT l) (h : ∀ u, Spn rkT A u ↔ Spn rkT C u) (u : List StB) : Spn rkT (l :: A) u ↔ Spn rkT (C ++ [l]) u := by
  have h1 : AscL rkT (l :: A) := fun b hb => by
    rcases List.mem_cons.1 hb with rfl | hb
    · exact hl
    · exact hA b hb
  have h2 : AscL rkT (C ++ [l]) := fun b hb => by
    rcases List.mem_append.1 hb with hb | hb
    · exact hC b hb
    · rw [List.mem_singleton.1 hb]; exact hl
  constructor
  · refine Spn.mono rkT_inj h2 fun b hb => ?_
    rcases List.mem_cons.1 hb with rfl | hb
    · exact Spn.one (List.mem_append.2 (.inr (List.mem_singleton.2 rfl)))
    · exact Spn.mono rkT_inj h2 (fun c hc => Spn.one (List.mem_append.2 (.inl hc))) ((h b).1 (Spn.one hb))
  · refine Spn.mono rkT_inj h1 fun b hb => ?_
    rcases List.mem_append.1 hb with hb | hb
    · exact Spn.mono rkT_inj h1 (fun c hc => Spn.one (List.mem_cons_of_mem _ hc)) ((h b).2 (Spn.one hb))
    · rw [List.mem_singleton] at hb
      subst hb
      exact Spn.one List.mem_cons_self
namespace SL
section
variable {P : Program} {B : Nat} {w0 : World} {n : Nat} {Q : Po} {F : Fr} {H : Hp} {ops : Array Oper} {l : List Oper} {ty : TypeId} {pos : String} {af : Array Edge} {d : Nat} {dst : Option Tmp} {g : Option (Nat × Bool)} {v : Value}
theorem q_callMk {f : Operand} {xs : List Operand} {Ts : Array TypeId} {k : FuncId} {args : List Value} {caps : Array Value} (hf : ev F f = some (.func (.func k) #[] caps)) (hxs : evs F xs = some args) (hk : Runs P k)
    (h : GivesM P k (args ++ caps.toList).toArray B w0 H v H) : OpQ P B w0 n H F ⟨dst, .call { callee := .value f, args := xs.toArray, argTypes := Ts }, ty, pos, af, g⟩ v := by
  unfold OpQ
  intro a ha w hw
  unfold Oper.quietAt
  rw [run_call ha hf hxs w]
  unfold GivesM at h
  exact ⟨rfl, h w hw⟩
theorem Jq_funcK {dr : Bool} {fn : Fn} {x : Operand} {v : Value} (hdn : Nat.blt d n = true) (hx : ev F x = some v) (kk : J dr P B w0 n ops Q l ((d, .func fn #[] #[v]) :: F) H) :
    J dr P B w0 n ops Q (⟨some d, .makeFunc fn #[] #[x], ty, pos, af, none⟩ :: l) F H :=
  J_q hdn (q_makeFunc (fun a ha => by simp) (fun a ha => by simp [ha.ev hx])) kk
theorem JqMk {dr : Bool} {f : Operand} {xs : List Operand} {Ts : Array TypeId} {k : FuncId} {args : List Value} {caps : Array Value} (hdn : Nat.blt d n = true) (hf : ev F f = some (.func (.func k) #[] caps)) (hxs : evs F xs = some args) (hk : Runs P k)
    (h : GivesM P k (args ++ caps.toList).toArray B w0 H v H) (kk : J dr P B w0 n ops Q l ((d, v) :: F) H) : J dr P B w0 n ops Q (⟨some d, .call { callee := .value f, args := xs.toArray, argTypes := Ts }, ty, pos, af, none⟩ :: l) F H := J_q hdn (q_callMk hf hxs hk h) kk
end
end SL
set_option maxRecDepth 100000 in
theorem rkbel_gives {B : Nat} {w0 : World} {H : Hp} {b bn : Nat} {T : TypeId} (Bl : List StB) (x : StB) (hb : It.blk b [.map (some bn)] T ∈ H) (hm : It.obj bn (mapO (encM stK nV (numM Bl))) ∈ H) (hn : Bl.Nodup) (hx : x ∈ Bl) :
    GivesM Tryz.prog 147 #[.agg (encS x).toArray, .pointer (some ⟨b, 0, none⟩)] B w0 H (.bool false) H := by
  have ux := encS_len x
  have im : MO bn H (mapO (encM stK nV (numM Bl))) := ⟨hm⟩
  obtain ⟨k, hk⟩ := List.getElem?_of_mem hx
  have hv1 : ((lkM (numM Bl) x).map nV).getD (.int .i64 0) = .int .i64 (k : Int) := by rw [(numM_get hn).2 hk]; rfl
  have hb1 : (lkM (numM Bl) x).isSome = true := by rw [(numM_get hn).2 hk]; rfl
  refine givesM_of (args := [.agg (encS x).toArray, .pointer (some ⟨b, 0, none⟩)]) [(0, .agg (encS x).toArray), (1, .pointer (some ⟨b, 0, none⟩))] Tryz.func147 rfl Tryz.ntmps147 rfl (argsF_cons rfl (argsF_cons rfl argsF_nil)) ?_
  repeat' (first | (apply Jq_load; exact rfl; exact rfl; exact mS hb; exact rfl) | (apply Jq_lookT2 (eV := nV) (E := kencS); exact rfl; exact rfl; exact rfl; exact mo; (rw [numM_keys]; exact hn); exact hv1; exact hb1) | (apply Jq_move; exact rfl; exact rfl) | (apply Jq_assign; exact rfl; exact rfl) | (apply Jq_not; exact rfl; exact rfl) | (apply Jq_loadW; exact rfl; exact rfl; (exact mb); (omega)) | (apply Jq_ext20; exact rfl; exact rfl) | (apply Jq_ext21; exact rfl; exact rfl) | (apply J_box; exact rfl; exact rfl; exact rfl; (intro _)) | refine thenQ_normal ?_ | refine JC_seq ?_ | refine JC_region ?_ | refine J_nil ?_ | refine JC_ret ?_)
  refine m1 rfl rfl rfl rfl ?_
  (refine ent ?_ ?_; (repeat refine fr_cons rfl ?_); exact fr_nil; (repeat (first | exact List.Sublist.refl _ | refine List.Sublist.cons _ ?_)))
def bfn (b : Nat) : Value := .func (.func 147) #[] #[.pointer (some ⟨b, 0, none⟩)]
set_option maxRecDepth 100000 in
theorem rkidx_gives {B : Nat} {w0 : World} {H : Hp} {v : Value} {b bn : Nat} {T : TypeId} (Bl l : List StB) (hv : It.row v 72 8 (l.flatMap encS) ∈ H) (hb : It.blk b [.map (some bn)] T ∈ H) (hm : It.obj bn (mapO (encM stK nV (numM Bl))) ∈ H) (hn : Bl.Nodup) (hs : ∀ x ∈ l, x ∈ Bl) (hl : l.length ≤ 46656) :
    GivesE Tryz.prog 176 #[v, bfn b] B w0 H (fun v' H' => v' = .int .i64 (-1) ∧ H' = H) := by
  have lf := fl_len encS_len l
  have iv : RB v H 72 8 (l.flatMap encS) := ⟨hv⟩
  unfold bfn
  refine givesE_of (args := [v, .func (.func 147) #[] #[.pointer (some ⟨b, 0, none⟩)]]) [(0, v), (1, .func (.func 147) #[] #[.pointer (some ⟨b, 0, none⟩)])] Tryz.func176 rfl Tryz.ntmps176 rfl (argsF_cons rfl (argsF_cons rfl argsF_nil)) ?_
  repeat' (first | (apply Jq_move; exact rfl; exact rfl) | (apply Jq_assign; exact rfl; exact rfl) | (apply Jq_lenRs; exact rfl; exact rfl; (exact rb); exact lf; decide) | refine thenQ_normal ?_ | refine JC_seq ?_ | refine JC_region ?_ | refine J_nil ?_ | refine JC_block ?_)
  refine JC_loop (X := Nat) (fun j => j ≤ l.length) (fun j => [(8, .int .i64 (j : Int)), (7, .int .i64 (l.length : Int)), (1, .func (.func 147) #[] #[.pointer (some ⟨b, 0, none⟩)]), (0, v)]) (fun _ => H) (fun j => l.length - j) 0 (Nat.zero_le _) ?_ ?_
  · (refine ent ?_ ?_; (repeat refine fr_cons rfl ?_); exact fr_nil; (repeat (exact List.Sublist.refl _)))
  · rintro j hj
    by_cases hlt : j < l.length
    · obtain ⟨x, hx⟩ := get_in hlt
      have ux := encS_len x
      have hxB := hs x (List.mem_of_getElem? hx)
      repeat' (first | (apply JqMk; exact rfl; exact rfl; exact rfl; infer_instance; exact rkbel_gives Bl x hb hm hn hxB) | (apply Jq_move; exact rfl; exact rfl) | (apply Jq_assign; exact rfl; exact rfl) | (apply Jq_cmp; exact rfl; exact rfl; exact rfl; exact rfl) | (apply Jq_add; exact rfl; exact rfl; exact rfl; omega) | (apply Jq_indexRs; exact rfl; exact rfl; exact rfl; (exact rb); omega) | (apply Jq_loadRA; exact rfl; exact rfl; (exact rb); (exact fl_at encS_len hx); (omega); decide) | refine thenQ_normal ?_ | refine inBlockQ_normal ?_ | refine JC_seq ?_ | refine JC_region ?_ | refine J_nil ?_ | refine JC_block ?_ | refine JC_skip ?_ | (apply JC_if_false; exact rfl) | (apply JC_dec_true; exact rfl; omega))
      refine ⟨j + 1, by omega, by omega, ?_⟩
      (refine ent ?_ ?_; (repeat refine fr_cons rfl ?_); exact fr_nil; (repeat (exact List.Sublist.refl _)))
    · obtain rfl : j = l.length := by omega
      repeat' (first | (apply Jq_assign; exact rfl; exact rfl) | (apply Jq_cmp; exact rfl; exact rfl; exact rfl; exact rfl) | refine thenQ_normal ?_ | refine thenQ_exit ?_ | refine inBlockQ_here ?_ | refine JC_seq ?_ | refine JC_region ?_ | refine J_nil ?_ | refine JC_ret ?_ | refine JC_exit ?_ | (apply JC_dec_false; exact rfl; omega))
      refine e1 (H' := H) rfl rfl rfl ?_ ⟨rfl, rfl⟩
      (refine ent ?_ ?_; (repeat refine fr_cons rfl ?_); exact fr_nil; (repeat (exact List.Sublist.refl _)))
set_option maxRecDepth 100000 in
theorem rkdel_gives {B : Nat} {w0 : World} {H : Hp} {v : Value} {b bn : Nat} {T : TypeId} (Bl l : List StB) (hv : It.row v 72 8 (l.flatMap encS) ∈ H) (hb : It.blk b [.map (some bn)] T ∈ H) (hm : It.obj bn (mapO (encM stK nV (numM Bl))) ∈ H) (hn : Bl.Nodup) (hs : ∀ x ∈ l, x ∈ Bl) (hl : l.length ≤ 46656) :
    GivesE Tryz.prog 146 #[v, bfn b] B w0 H (fun v' H' => v' = v ∧ H' = H) := by
  unfold bfn
  refine givesE_of (args := [v, .func (.func 147) #[] #[.pointer (some ⟨b, 0, none⟩)]]) [(0, v), (1, .func (.func 147) #[] #[.pointer (some ⟨b, 0, none⟩)])] Tryz.func146 rfl Tryz.ntmps146 rfl (argsF_cons rfl (argsF_cons rfl argsF_nil)) ?_
  repeat' (first | (apply JcE; exact rfl; exact rfl; exact rfl; infer_instance; (exact rkidx_gives Bl l hv hb hm hn hs hl); (intro v' H' hV; obtain ⟨rfl, rfl⟩ := hV)) | (apply Jq_move; exact rfl; exact rfl) | (apply Jq_assign; exact rfl; exact rfl) | (apply Jq_cmp; exact rfl; exact rfl; exact rfl; exact rfl) | refine thenQ_normal ?_ | refine thenQ_ret ?_ | refine JC_seq ?_ | refine JC_region ?_ | refine J_nil ?_ | refine JC_ret ?_ | (apply JC_if_true; exact rfl))
  refine e1 rfl rfl rfl ?_ ⟨rfl, rfl⟩
  (refine ent ?_ ?_; (repeat refine fr_cons rfl ?_); exact fr_nil; (repeat (exact List.Sublist.refl _)))
/-- The slice behind a key: a row, or nil. -/
theorem grOK.sliceH {n : Nat} {X O : List Nat} {L : List StB} {M : GM} (h : grOK (grd n X O) L M) (a m : Int) {H : Hp} (hn : It.row (.slice none 0 0) 72 8 [] ∈ H) (hT : ∀ x ∈ rwS M, x ∈ H) : ∃ u, ((lkM M (a, m)).map vL).getD (.slice none 0 0) = u ∧ It.row u 72 8 ((L.filter (selG n X O a m)).flatMap encS) ∈ H := by
  have e : L.filter (selG n X O a m) = L.filter (fun x => decide (grd n X O x = (a, m))) := rfl
  rcases h.look (a, m) with ⟨u, h1, h2⟩ | ⟨h1, h2⟩
  · exact ⟨u, by rw [h1]; rfl, hT _ (List.mem_map.2 ⟨_, h2, rfl⟩)⟩
  · exact ⟨_, by rw [h1], by rw [e, h2]; exact hn⟩
instance : Zr Tryz.prog 85 (.map none) := Zr_mk (by kernel_rfl)
set_option maxRecDepth 100000 in
theorem rank_gives {B : Nat} {w0 : World} {H : Hp} {bm : Nat} {M : GM} (n : Nat) (X O : List Nat) (a m : Int) (bX : isB X) (bO : isB O) (h6 : n ≤ 6) (g : okG (n : Int) X O) (hT : tabI ∈ H) (hm : It.obj bm (mapO (encM grK vL M)) ∈ H) (hM : grOK (grd n X O) (stB n) M) (hrw : ∀ x ∈ rwS M, x ∈ H) :
    GivesE Tryz.prog 110 #[.agg (gv (n : Int) X O).toArray, .map (some bm), .agg (encGr (a, m)).toArray] B w0 H (fun v' H' => v' = .int .i64 (rkN n X O ((stB n).filter (selG n X O a m)) : Int) ∧ H' = H) := by
  have ug := gv_len (n := (n : Int)) bX.1 bO.1
  have hS := stB_720 h6
  have hbl : ∀ y z : Int, Tryz.prog.built 108 [(0, .int .i64 y), (1, .int .i64 z)] = some (encGr (y, z)).toArray := fun y z => by kernel_rfl
  have l1 : ((stB n).filter (selG n X O a m)).length ≤ 720 := Nat.le_trans (List.length_filter_le _ _) hS
  have l2 : ((stB n).filter (selG n X O a (m - 1))).length ≤ 720 := Nat.le_trans (List.length_filter_le _ _) hS
  have p1 : ∀ x ∈ (stB n).filter (selG n X O a m), isPerm x.1 n := fun x hx => stB_perm (by omega) x (List.mem_filter.1 hx).1
  refine givesE_of (args := [.agg (gv (n : Int) X O).toArray, .map (some bm), .agg (encGr (a, m)).toArray]) [(0, .agg (gv (n : Int) X O).toArray), (1, .map (some bm)), (2, .agg (encGr (a, m)).toArray)] Tryz.func110 rfl Tryz.ntmps110 rfl (argsF_cons rfl (argsF_cons rfl (argsF_cons rfl argsF_nil))) ?_
  refine JC_nilrow (e := 72) (sz := 8) ?_
  obtain ⟨uF, huF, mF⟩ := hM.sliceH a m (H := .row (.slice none 0 0) 72 8 [] :: H) m0 fun x hx => mS (hrw x hx)
  obtain ⟨uT, huT, mT⟩ := hM.sliceH a (m - 1) (H := .row (.slice none 0 0) 72 8 [] :: H) m0 fun x hx => mS (hrw x hx)
  have hm' : It.obj bm (mapO (encM grK vL M)) ∈ It.row (.slice none 0 0) 72 8 [] :: H := mS hm
  have hT' : tabI ∈ It.row (.slice none 0 0) 72 8 [] :: H := mS hT
  have hsub : List.Sublist H (It.row (.slice none 0 0) 72 8 [] :: H) := List.sublist_cons_self _ _
  generalize It.row (.slice none 0 0) 72 8 [] :: H = H1 at *
  have im : MO bm H1 (mapO (encM grK vL M)) := ⟨hm'⟩
  have iF : RB uF H1 72 8 (((stB n).filter (selG n X O a m)).flatMap encS) := ⟨mF⟩
  have iT : RB uT H1 72 8 (((stB n).filter (selG n X O a (m - 1))).flatMap encS) := ⟨mT⟩
  have lF := fl_len encS_len ((stB n).filter (selG n X O a m))
  by_cases hnil : (stB n).filter (selG n X O a m) = []
  · have lF0 : ((stB n).filter (selG n X O a m)).length = 0 := by rw [hnil]; rfl
    have hr0 : rkN n X O ((stB n).filter (selG n X O a m)) = 0 := by
      rw [hnil]
      exact rkN_is (B := []) ⟨fun b hb => (by cases hb), fun b hb => (by cases hb), List.Pairwise.nil⟩ fun v => Iff.rfl
    repeat' (first | (apply J_makeMap; exact rfl; (intro _)) | (apply Jq_lookT (eV := vL) (E := kencGr); exact rfl; exact rfl; exact rfl; exact mo; exact hM.1; exact huF) | (apply Jq_lenM (m := []); exact rfl; exact rfl; exact mo) | (apply Jq_move; exact rfl; exact rfl) | (apply Jq_assign; exact rfl; exact rfl) | (apply Jq_cmp; exact rfl; exact rfl; exact rfl; exact rfl) | (apply Jq_loadW; exact rfl; exact rfl; (exact mb); (exact rfl)) | (apply J_box; exact rfl; exact rfl; exact rfl; (intro _)) | (apply Jq_lenRs; exact rfl; exact rfl; (exact rb); exact lF; decide) | refine thenQ_normal ?_ | refine JC_seq ?_ | refine JC_region ?_ | refine J_nil ?_ | refine JC_skip ?_ | refine JC_ret ?_ | (apply JC_dec_false; exact rfl; omega))
    refine e1 (H' := H) rfl rfl rfl ?_ ⟨by rw [hr0]; rfl, rfl⟩
    exact ent (fun _ _ h => by cases h) (.cons _ (.cons _ (.cons _ hsub)))
  · obtain ⟨x0, hx0⟩ := List.exists_mem_of_ne_nil _ hnil
    have hm0 : (grd n X O x0).2 = m := by rw [of_decide_eq_true (List.mem_filter.1 hx0).2]
    have hmb := mX_bd (n := n) (by omega) x0.1 O
    have hmr : -127 ≤ m ∧ m ≤ 129 := by rw [← hm0]; exact hmb
    have hpos : 0 < ((stB n).filter (selG n X O a m)).length := List.length_pos_iff.2 hnil
    have hBa : Asc rkT ((stB n).filter (selG n X O a (m - 1))) := (stB_asc (by omega)).sublist List.filter_sublist
    have hnx := fun x hx => sel_next (n := n) (X := X) (O := O) g (by omega) (a := a) (m := m) (x := x) hx
    generalize (stB n).filter (selG n X O a m) = S at *
    generalize (stB n).filter (selG n X O a (m - 1)) = Bl at *
    have hBb : Bl.length ≤ 768 := by omega
    have lB := fl_len encS_len Bl
    repeat' (first | (apply J_makeMap; exact rfl; (intro _)) | (apply Jq_buildE; exact rfl; exact rfl; exact hbl _ _) | (apply Jq_lookT (eV := vL) (E := kencGr); exact rfl; exact rfl; exact rfl; exact mo; exact hM.1; (first | exact huF | exact huT)) | (apply JcE; exact rfl; exact rfl; exact rfl; infer_instance; (exact numbered_gives Bl (mS (mS (mS mT))) hBa.nodup (by omega)); (intro v' H' hV; obtain ⟨bn, rfl, rfl⟩ := hV)) | (apply Jq_move; exact rfl; exact rfl) | (apply Jq_assign; exact rfl; exact rfl) | (apply Jq_load; exact rfl; exact rfl; (exact mb); (exact rfl)) | (apply Jq_fieldAddr; exact rfl; exact rfl) | (apply Jq_cmp; exact rfl; exact rfl; exact rfl; exact rfl) | (apply Jq_sub; exact rfl; exact rfl; exact rfl; omega) | (apply Jq_loadW; exact rfl; exact rfl; (exact mb); (exact rfl)) | (apply J_s1; exact rfl; exact rfl; exact rfl; infer_instance; (exact Nat.le_of_ble_eq_true rfl); (exact rfl); infer_instance) | (apply J_box; exact rfl; exact rfl; exact rfl; (intro _)) | (apply Jq_lenRs; exact rfl; exact rfl; (exact rb); exact lF; decide) | (apply J_alloc; exact rfl; exact rfl; (intro _)) | refine thenQ_normal ?_ | refine JC_seq ?_ | refine JC_region ?_ | refine J_nil ?_ | refine JC_block ?_ | (apply JC_dec_true; exact rfl; omega))
    rename_i b3 b5 b7 b8
    refine JC_loop (X := Nat × List (Int × List StB)) (fun p => p.1 ≤ S.length ∧ BasM Bl p.2 ∧ ∀ v, Spn rkT (p.2.map (·.2)) v ↔ Spn rkT (imgs n X O (S.take p.1)) v) (fun p => [(31, .int .i64 (p.1 : Int)), (30, .int .i64 (S.length : Int)), (29, uF), (7, .map (some b7)), (8, .pointer (some ⟨b8, 0, none⟩)), (3, .pointer (some ⟨b3, 0, none⟩))])
      (fun p => .obj b7 (mapO (encM zV (rV Bl) p.2)) :: .blk b8 [.map (some bn)] 85 :: .obj bn (mapO (encM stK nV (numM Bl))) :: .blk b3 (gv (n : Int) X O) 28 :: H1) (fun p => S.length - p.1) (0, []) ⟨Nat.zero_le _, ⟨List.nodup_nil, fun e he => absurd he List.not_mem_nil, fun e he => absurd he List.not_mem_nil, fun e he => absurd he List.not_mem_nil⟩, fun v => Iff.rfl⟩ ?_ ?_
    · dsimp only [encM, List.map_nil]
      (refine entP (ent ?_ (List.nil_sublist _)) ?_; (repeat refine fr_cons rfl ?_); exact fr_nil; (repeat (first | exact sp_end | (with_reducible apply sp0) | apply sp0 | apply sp2)))
    · rintro ⟨i, Mb⟩ ⟨hi, hMb, hsp⟩
      dsimp only at hi hMb hsp ⊢
      by_cases hlt : i < S.length
      · obtain ⟨x, hx⟩ := get_in hlt
        have ux := encS_len x
        have hgx := fl_at encS_len hx
        have hxS := List.mem_of_getElem? hx
        have px := p1 x hxS
        have hfl := Nat.le_trans (tfold_len (fol n X O x)) (fol30 h6 X O x)
        have hfa := (tfold_odd (fol n X O x)).1
        have hsf := fun (H : Hp) => ifol_gives (B := B) (w0 := w0) (H := H) n X O x bX bO (by omega) px
        have hin := hnx x hxS
        have htk : imgs n X O (S.take (i + 1)) = imgs n X O (S.take i) ++ [tfold (fol n X O x)] := by
          unfold imgs
          rw [List.take_add_one, hx, List.map_append]; rfl
        have hstep : ∀ M' : List (Int × List StB), (∀ v, Spn rkT (M'.map (·.2)) v ↔ Spn rkT (tfold (fol n X O x) :: Mb.map (·.2)) v) → ∀ v, Spn rkT (M'.map (·.2)) v ↔ Spn rkT (imgs n X O (S.take (i + 1))) v := fun M' h v => (h v).trans (by rw [htk]; exact Spn.snoc hMb.ascL (imgs_asc _) hfa hsp v)
        generalize tfold (fol n X O x) = fl at *
        have lfl := fl_len encS_len fl
        repeat' (first | (apply Jq_funcK; exact rfl; exact rfl) | (apply JcE; exact rfl; exact rfl; exact rfl; infer_instance; (exact hsf _); (intro vf H' hV; subst hV)) | (apply JcE; exact rfl; exact rfl; exact rfl; infer_instance; (exact rkdel_gives Bl fl m0 (by exact mb) (by exact mo) hBa.nodup hin (by omega)); (intro v' H' hV; obtain ⟨rfl, rfl⟩ := hV)) | (apply JcE; exact rfl; exact rfl; exact rfl; infer_instance; (exact rowof_gives Bl fl m0 mo hBa.nodup hBb hfa.nodup hin (by omega)); (intro v' H' hV; obtain ⟨rfl, rfl⟩ := hV)) | (apply JcE; exact rfl; exact rfl; exact rfl; infer_instance; (exact addb_gives Bl Mb fl (mS (mS (mS (mS (mS (mS hT')))))) inferInstance hBa hBb hMb hfa hin); (intro v3 H' hV; obtain ⟨rfl, Mb', hMb', hs', rfl⟩ := hV)) | (apply Jq_move; exact rfl; exact rfl) | (apply Jq_assign; exact rfl; exact rfl) | (apply Jq_load; exact rfl; exact rfl; (exact mb); (exact rfl)) | (apply Jq_cmp; exact rfl; exact rfl; exact rfl; exact rfl) | (apply Jq_add; exact rfl; exact rfl; exact rfl; omega) | (apply Jq_loadW; exact rfl; exact rfl; (exact mb); (omega)) | (apply J_sW; exact rfl; exact rfl; infer_instance; (exact rfl); (omega); (exact u8s_one _); infer_instance) | (apply Jq_indexRs; exact rfl; exact rfl; exact rfl; (exact rb); omega) | (apply Jq_loadRA; exact rfl; exact rfl; (exact rb); (exact hgx); (omega); decide) | (apply J_alloc (cs := u8s Z8); exact rfl; exact rfl; (intro _)) | refine thenQ_normal ?_ | refine inBlockQ_normal ?_ | refine JC_seq ?_ | refine JC_region ?_ | refine J_nil ?_ | refine JC_block ?_ | refine JC_skip ?_ | (apply JC_dec_true; exact rfl; omega))
        refine ⟨(i + 1, Mb'), ⟨by dsimp only; omega, hMb', hstep Mb' hs'⟩, by dsimp only; omega, ?_⟩
        dsimp only
        (refine entP (ent ?_ (List.nil_sublist _)) ?_; (repeat refine fr_cons rfl ?_); exact fr_nil; (repeat (exact sp_end)))
      · obtain rfl : i = S.length := by omega
        rw [List.take_length] at hsp
        have hrk : rkN n X O S = Mb.length := (rkN_is (hMb.ech hBa.nodup) hsp).trans (List.length_map _)
        repeat' (first | (apply Jq_lenT; exact rfl; exact rfl; exact mo) | (apply Jq_move; exact rfl; exact rfl) | (apply Jq_assign; exact rfl; exact rfl) | (apply Jq_cmp; exact rfl; exact rfl; exact rfl; exact rfl) | refine thenQ_normal ?_ | refine thenQ_exit ?_ | refine inBlockQ_here ?_ | refine JC_seq ?_ | refine JC_region ?_ | refine J_nil ?_ | refine JC_ret ?_ | refine JC_exit ?_ | (apply JC_dec_false; exact rfl; omega))
        refine e1 (H' := H) rfl rfl rfl ?_ ⟨by rw [hrk], rfl⟩
        exact ent (fun _ _ h => by cases h) (.cons _ (.cons _ (.cons _ (.cons _ hsub))))
end Go.Proofs.YtmbbcmebdefggaaGreatDoor
namespace Go.Proofs.YtmbbcmebdefggaaGreatDoor
open Go Go.RowKit SL
set_option maxRecDepth 100000 in
theorem srank_gives {B : Nat} {w0 : World} {H : Hp} {v : Value} (n : Nat) (X O : List Nat) (S : List StB) (bX : isB X) (bO : isB O) (h6 : n ≤ 6) (hv : It.row v 72 8 (S.flatMap encS) ∈ H) (hS : ∀ x ∈ S, isPerm x.1 n) (hl : S.length ≤ 46656) :
    GivesE Tryz.prog 104 #[.agg (gv (n : Int) X O).toArray, v] B w0 H (fun v' H' => v' = .int .i64 (rkN n X O S : Int) ∧ ∀ x ∈ H, x ∈ H') := by
  have ug := gv_len (n := (n : Int)) bX.1 bO.1
  have hvec := mem_imgsV (X := X) (O := O) (show n ≤ 8 by omega) hS
  refine givesE_of (args := [.agg (gv (n : Int) X O).toArray, v]) [(0, .agg (gv (n : Int) X O).toArray), (1, v)] Tryz.func104 rfl Tryz.ntmps104 rfl (argsF_cons rfl (argsF_cons rfl argsF_nil)) ?_
  repeat' (first | (apply JcE; exact rfl; exact rfl; exact rfl; infer_instance; (exact images_gives n X O S bX bO h6 (mS hv) hS hl); (intro v1 H1 hV; obtain ⟨Gs, hGs, hv1, hin, hsub⟩ := hV; have hGl : Gs.length = S.length := (by have h := congrArg List.length hGs; unfold vecs imgsV at h; rwa [List.length_map, List.length_map] at h))) | (apply JcE; exact rfl; exact rfl; exact rfl; infer_instance; (exact span_gives h6 Gs hv1 hin (by rw [hGs]; exact hvec) (by omega)); (intro v2 H2 hV; obtain ⟨Bs, hbas, hsp, hle, hv2, hinB, hsub2⟩ := hV; have iv2 : RB v2 H2 35 1 (Bs.map (·.1)) := ⟨hv2⟩; have l2 : (Bs.map (·.1)).length = Bs.length := List.length_map _)) | (apply Jq_move; exact rfl; exact rfl) | (apply Jq_assign; exact rfl; exact rfl) | (apply Jq_loadW; exact rfl; exact rfl; (exact mb); (omega)) | (apply Jq_lenR; exact rfl; exact rfl; (exact rb)) | (apply J_box; exact rfl; exact rfl; exact rfl; (intro _)) | refine thenQ_normal ?_ | refine JC_seq ?_ | refine JC_region ?_ | refine J_nil ?_ | refine JC_ret ?_)
  have hrk : rkN n X O S = Bs.length := (rkN_is (B := vecs Bs) hbas.ech fun u => (hsp u).trans (by rw [hGs]; exact Iff.rfl)).trans (List.length_map _)
  refine e1 (H' := H2) rfl rfl rfl ?_ ⟨by rw [hrk, l2], fun x hx => hsub2 _ (hsub _ (mS hx))⟩
  (refine ent ?_ ?_; (repeat refine fr_cons rfl ?_); exact fr_nil; (repeat (exact List.Sublist.refl _)))
theorem codeS_none {n : Int} {X O : List Nat} {c : Int} (hc : codeS n X O [] = c) : (c = 0 ∧ okG n X O ∧ n ≤ 6) ∨ ((¬ okG n X O ∧ c = 1) ∨ (okG n X O ∧ 6 < n ∧ c = 2)) := by
  rcases codeS_cases hc with ⟨h1, h2⟩ | ⟨⟨g, _⟩, ⟨h1, h2⟩ | ⟨h1, h2⟩⟩
  · exact .inr (.inl ⟨fun g => h2 ⟨g, fun l hl => absurd hl List.not_mem_nil⟩, h1⟩)
  · exact .inr (.inr ⟨g, h2, h1⟩)
  · exact .inl ⟨h1, g, h2⟩
end Go.Proofs.YtmbbcmebdefggaaGreatDoor
