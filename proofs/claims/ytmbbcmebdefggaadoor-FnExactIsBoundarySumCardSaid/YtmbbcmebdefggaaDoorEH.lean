/- Plain: what is a boundary. -/
import Derived.Test.YtmbbcmebdefggaaDoorEF
import Derived.Test.YtmbbcmebdefggaaDoorEB
namespace Go.Proofs.YtmbbcmebdefggaaDoor
theorem less_nil {n : Nat} {B : List (List StB)} (h : Bas n B) {s : List StB} (hs : Asc rkT s) : lessL s B = [] ↔ Spn rkT B s := by
  obtain ⟨w, hw, e⟩ := lessL_spn hs h.ascL
  have hwa := hw.asc h.ascL
  constructor
  · intro h0
    rw [h0] at e
    have := sd_back rkT_inj hs hwa
    rw [← e, sd_right] at this
    rw [this]
    exact hw
  · intro h1
    have h2 : Spn rkT B (lessL s B) := by rw [e]; exact Spn.sd rkT_inj h.ascL h1 hw
    refine h.ech.nothing rkT_inj h2 fun b hb k => ?_
    cases hx : b.head? with
    | none =>
      cases b with
      | nil => exact h.ne _ hb rfl
      | cons y t => cases hx
    | some x =>
      have h3 := (lessL_free hs h.ascL h.srt).2 b hb x hx
      rw [hx] at k
      exact h3 (List.mem_of_getElem? (head_get k.symm))
theorem red_neg {Bl : List StB} {M : List (Int × List StB)} (hB : Bl.Nodup) (h : BasM Bl M) {l l' : List StB} {k : Int} (hl : Asc rkT l) (hr : redP Bl M l l' k) : k < 0 ↔ Spn rkT (M.map (·.2)) l := by
  have hn := h.none hl hr
  obtain ⟨⟨w, hw, e⟩, hs, h1⟩ := hr
  have hwa := hw.asc h.ascL
  constructor
  · intro hk
    exact (hn (by omega) l).2 (Spn.one List.mem_cons_self)
  · intro hsp
    rcases h1 with ⟨_, hk⟩ | ⟨i, x, hk, hx, hix, hno⟩
    · omega
    · exfalso
      have h2 : Spn rkT (M.map (·.2)) l' := by rw [e]; exact Spn.sd rkT_inj h.ascL hsp hw
      have h3 := (h.ech hB).nothing rkT_inj h2 fun b hb hh => by
        obtain ⟨p, hp, rfl⟩ := List.mem_map.1 hb
        obtain ⟨j, y, j1, j2, j3⟩ := h.key p hp
        rw [j2, hx] at hh
        cases hh
        refine hno ?_
        rw [hk, (List.getElem?_inj (List.getElem?_eq_some_iff.1 hix).1 hB).1 (hix.trans j3.symm), ← j1]
        exact List.mem_map.2 ⟨p, hp, rfl⟩
      rw [h3] at hx
      cases hx
theorem smL_elem {z : StB} : ∀ {S : List (List StB)}, z ∈ smL rkT S → ∃ s ∈ S, z ∈ s
  | [], h => absurd h List.not_mem_nil
  | s :: S, h => by
    rw [smL_cons] at h
    rcases sd_sub _ _ z h with k | k
    · exact ⟨s, List.mem_cons_self, k⟩
    · obtain ⟨t, ht, k⟩ := smL_elem k
      exact ⟨t, List.mem_cons_of_mem _ ht, k⟩
theorem smL_split (P : List StB → Bool) : ∀ {S : List (List StB)}, AscL rkT S → smL rkT S = sd rkT (smL rkT (S.filter P)) (smL rkT (S.filter fun s => !P s))
  | [], _ => (sd_nil _).symm
  | s :: S, h => by
    have h' : AscL rkT S := fun g hg => h g (List.mem_cons_of_mem _ hg)
    have hs := h s List.mem_cons_self
    have h1 : ∀ Q : List StB → Bool, Asc rkT (smL rkT (S.filter Q)) := fun Q => smL_asc fun g hg => h' g (List.mem_filter.1 hg).1
    rw [smL_cons, smL_split P h']
    cases e : P s
    · rw [List.filter_cons_of_neg (by rw [e]; decide), List.filter_cons_of_pos (by rw [e]; decide), smL_cons, ← sd_assoc rkT_inj hs (h1 _) (h1 _), sd_comm rkT_inj hs (h1 _), sd_assoc rkT_inj (h1 _) hs (h1 _)]
    · rw [List.filter_cons_of_pos (by rw [e]), List.filter_cons_of_neg (by rw [e]; decide), smL_cons, sd_assoc rkT_inj hs (h1 _) (h1 _)]
/-- States with the Alexander numbers of some. -/
def nearL (n : Nat) (X O : List Nat) (l : List StB) (x : StB) : Bool := l.any fun y => decide ((grd n X O y).1 = (grd n X O x).1)
theorem near_spn {n : Nat} {X O : List Nat} (g : okG (n : Int) X O) (h8 : n ≤ 8) {l : List StB} (hl : Asc rkT l) : Spn rkT (imgs n X O (stB n)) l ↔ Spn rkT (imgs n X O ((stB n).filter (nearL n X O l))) l := by
  constructor
  · rintro ⟨S, hS, e⟩
    have hasc : AscL rkT S := fun s hs => imgs_asc _ s (hS s hs)
    have hP : ∀ s ∈ S, ∀ z ∈ s, ∀ z' ∈ s, (grd n X O z).1 = (grd n X O z').1 := fun s hs z hz z' hz' => by
      obtain ⟨x, hx, rfl⟩ := List.mem_map.1 (hS s hs)
      rw [(fol_grade g h8 hx z hz).2, (fol_grade g h8 hx z' hz').2]
    let P : List StB → Bool := fun s => s.any fun z => nearL n X O l z
    have hnear : ∀ z, nearL n X O l z = true ↔ ∃ y ∈ l, (grd n X O y).1 = (grd n X O z).1 := fun z => by
      unfold nearL
      rw [List.any_eq_true]
      simp only [decide_eq_true_eq]
    have h1 := smL_split P hasc
    have a1 : Asc rkT (smL rkT (S.filter P)) := smL_asc fun g hg => hasc g (List.mem_filter.1 hg).1
    have a2 : Asc rkT (smL rkT (S.filter fun s => !P s)) := smL_asc fun g hg => hasc g (List.mem_filter.1 hg).1
    have h2 : smL rkT (S.filter fun s => !P s) = [] := List.eq_nil_iff_forall_not_mem.2 fun z hz => by
      obtain ⟨s, hs, hzs⟩ := smL_elem hz
      obtain ⟨hs1, hs2⟩ := List.mem_filter.1 hs
      have hs3 : P s = false := by
        cases k : P s
        · rfl
        · rw [k] at hs2; cases hs2
      have hzn : ¬ nearL n X O l z = true := fun k => by
        have : P s = true := List.any_eq_true.2 ⟨z, hzs, k⟩
        rw [hs3] at this
        cases this
      have hz1 : z ∉ smL rkT (S.filter P) := fun k => by
        obtain ⟨t, ht, hzt⟩ := smL_elem k
        obtain ⟨ht1, ht2⟩ := List.mem_filter.1 ht
        obtain ⟨u, hu, hun⟩ := List.any_eq_true.1 ht2
        obtain ⟨y, hy, hyu⟩ := (hnear u).1 hun
        exact hzn ((hnear z).2 ⟨y, hy, hyu.trans (hP t ht1 u hu z hzt)⟩)
      have hzl : z ∈ l := by
        rw [e, h1, sd_mem rkT_inj _ _ a1 a2]
        exact fun k => hz1 (k.2 hz)
      exact hzn ((hnear z).2 ⟨z, hzl, rfl⟩)
    refine ⟨S.filter P, fun s hs => ?_, by rw [e, h1, h2, sd_right]⟩
    obtain ⟨hs1, hs2⟩ := List.mem_filter.1 hs
    obtain ⟨x, hx, rfl⟩ := List.mem_map.1 (hS s hs1)
    obtain ⟨u, hu, hun⟩ := List.any_eq_true.1 hs2
    obtain ⟨y, hy, hyu⟩ := (hnear u).1 hun
    refine List.mem_map.2 ⟨x, List.mem_filter.2 ⟨hx, (hnear x).2 ⟨y, hy, ?_⟩⟩, rfl⟩
    rw [hyu, (fol_grade g h8 hx u hu).2]
  · refine Spn.mono rkT_inj (imgs_asc _) fun b hb => ?_
    obtain ⟨x, hx, rfl⟩ := List.mem_map.1 hb
    exact Spn.one (List.mem_map.2 ⟨x, (List.mem_filter.1 hx).1, rfl⟩)
end Go.Proofs.YtmbbcmebdefggaaDoor
