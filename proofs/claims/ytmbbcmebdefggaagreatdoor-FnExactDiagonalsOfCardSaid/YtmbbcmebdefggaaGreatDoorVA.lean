/- Plain laws: sums of states: lists in order, what is in just one of two. Plain: what lists in order span, leading places, ranks. Plain: rows of twelve words as functions to Bool; the first place. -/
import Derived.Test.YtmbbcmebdefggaaGreatDoorV
import Derived.Test.YtmbbcmebdefggaaGreatDoorPO
import Derived.Test.YtmbbcmebdefggaaGreatDoorPC
import Derived.Lib.TrailingZeros
namespace Go.Proofs.YtmbbcmebdefggaaGreatDoor
/-- In order, as neighbours tell. -/
theorem asc_adj {α : Type} {rk : α → Int} {l : List α} (h : ∀ i x y, l[i]? = some x → l[i + 1]? = some y → rk x < rk y) : Asc rk l := by
  refine List.pairwise_iff_getElem.2 fun i j hi hj hij => ?_
  have key : ∀ d i (hi : i + d + 1 < l.length), rk (l[i]'(by omega)) < rk (l[i + d + 1]'hi) := by
    intro d
    induction d with
    | zero => exact fun i hi => h i _ _ (List.getElem?_eq_getElem _) (List.getElem?_eq_getElem _)
    | succ d ih =>
      intro i hi
      have h1 := ih i (by omega)
      have h2 := h (i + d + 1) _ _ (List.getElem?_eq_getElem (by omega)) (List.getElem?_eq_getElem (by omega))
      exact Int.lt_trans h1 h2
  have := key (j - i - 1) i (by omega)
  simp only [show i + (j - i - 1) + 1 = j by omega] at this
  exact this
section
variable {α : Type} (rk : α → Int)
/-- What is in just one of two lists in order. -/
def sd : List α → List α → List α
  | [], b => b
  | x :: a, [] => x :: a
  | x :: a, y :: b => if rk x < rk y then x :: sd a (y :: b) else if rk y < rk x then y :: sd (x :: a) b else sd a b
  termination_by a b => a.length + b.length
variable {rk}
theorem sd_nil (b : List α) : sd rk [] b = b := by rw [sd]
theorem sd_right : ∀ a : List α, sd rk a [] = a
  | [] => by rw [sd]
  | x :: a => by rw [sd]
theorem sd_lt {x y : α} {a b : List α} (h : rk x < rk y) : sd rk (x :: a) (y :: b) = x :: sd rk a (y :: b) := by rw [sd, if_pos h]
theorem sd_gt {x y : α} {a b : List α} (h : rk y < rk x) : sd rk (x :: a) (y :: b) = y :: sd rk (x :: a) b := by rw [sd, if_neg (by omega), if_pos h]
theorem sd_eq {x y : α} {a b : List α} (h1 : ¬ rk x < rk y) (h2 : ¬ rk y < rk x) : sd rk (x :: a) (y :: b) = sd rk a b := by rw [sd, if_neg h1, if_neg h2]
theorem sd_sub : ∀ (a b : List α) (x : α), x ∈ sd rk a b → x ∈ a ∨ x ∈ b
  | [], b, x, h => by rw [sd_nil] at h; exact .inr h
  | y :: a, [], x, h => by rw [sd_right] at h; exact .inl h
  | y :: a, z :: b, x, h => by
    by_cases h1 : rk y < rk z
    · rw [sd_lt h1] at h
      rcases List.mem_cons.1 h with e | h
      · exact .inl (by rw [e]; exact List.mem_cons_self)
      · rcases sd_sub a (z :: b) x h with h | h
        · exact .inl (List.mem_cons_of_mem _ h)
        · exact .inr h
    · by_cases h2 : rk z < rk y
      · rw [sd_gt h2] at h
        rcases List.mem_cons.1 h with e | h
        · exact .inr (by rw [e]; exact List.mem_cons_self)
        · rcases sd_sub (y :: a) b x h with h | h
          · exact .inl h
          · exact .inr (List.mem_cons_of_mem _ h)
      · rw [sd_eq h1 h2] at h
        rcases sd_sub a b x h with h | h
        · exact .inl (List.mem_cons_of_mem _ h)
        · exact .inr (List.mem_cons_of_mem _ h)
  termination_by a b => a.length + b.length
theorem sd_len : ∀ (a b : List α), (sd rk a b).length ≤ a.length + b.length
  | [], b => by rw [sd_nil]; simp
  | y :: a, [] => by rw [sd_right]; simp
  | y :: a, z :: b => by
    by_cases h1 : rk y < rk z
    · rw [sd_lt h1]
      have := sd_len a (z :: b)
      simp only [List.length_cons] at *
      omega
    · by_cases h2 : rk z < rk y
      · rw [sd_gt h2]
        have := sd_len (y :: a) b
        simp only [List.length_cons] at *
        omega
      · rw [sd_eq h1 h2]
        have := sd_len a b
        simp only [List.length_cons] at *
        omega
  termination_by a b => a.length + b.length
theorem sd_asc : ∀ (a b : List α), Asc rk a → Asc rk b → Asc rk (sd rk a b)
  | [], b, _, hb => by rw [sd_nil]; exact hb
  | y :: a, [], ha, _ => by rw [sd_right]; exact ha
  | y :: a, z :: b, ha, hb => by
    obtain ⟨ha1, ha2⟩ := List.pairwise_cons.1 ha
    obtain ⟨hb1, hb2⟩ := List.pairwise_cons.1 hb
    by_cases h1 : rk y < rk z
    · rw [sd_lt h1]
      refine List.pairwise_cons.2 ⟨fun x hx => ?_, sd_asc a (z :: b) ha2 hb⟩
      rcases sd_sub _ _ _ hx with h | h
      · exact ha1 x h
      · rcases List.mem_cons.1 h with e | h
        · rw [e]; exact h1
        · exact Int.lt_trans h1 (hb1 x h)
    · by_cases h2 : rk z < rk y
      · rw [sd_gt h2]
        refine List.pairwise_cons.2 ⟨fun x hx => ?_, sd_asc (y :: a) b ha hb2⟩
        rcases sd_sub _ _ _ hx with h | h
        · rcases List.mem_cons.1 h with e | h
          · rw [e]; exact h2
          · exact Int.lt_trans h2 (ha1 x h)
        · exact hb1 x h
      · rw [sd_eq h1 h2]; exact sd_asc a b ha2 hb2
  termination_by a b => a.length + b.length
theorem asc_head {y : α} {a : List α} (h : Asc rk (y :: a)) {x : α} (hx : x ∈ a) : rk y < rk x := (List.pairwise_cons.1 h).1 x hx
theorem sd_mem (hinj : ∀ x y, rk x = rk y → x = y) : ∀ (a b : List α), Asc rk a → Asc rk b → ∀ x, x ∈ sd rk a b ↔ ¬ (x ∈ a ↔ x ∈ b)
  | [], b, _, _, x => by rw [sd_nil]; simp
  | y :: a, [], _, _, x => by
    rw [sd_right]
    by_cases h : x ∈ y :: a
    · simp only [h, List.not_mem_nil, iff_false, not_true_eq_false, not_false_eq_true]
    · simp only [h, List.not_mem_nil, iff_false, not_false_eq_true, not_true_eq_false]
  | y :: a, z :: b, ha, hb, x => by
    have ha2 := (List.pairwise_cons.1 ha).2
    have hb2 := (List.pairwise_cons.1 hb).2
    have nya : y ∉ a := fun h => by have := asc_head ha h; omega
    have nzb : z ∉ b := fun h => by have := asc_head hb h; omega
    by_cases h1 : rk y < rk z
    · rw [sd_lt h1, List.mem_cons, sd_mem hinj a (z :: b) ha2 hb x, List.mem_cons]
      have nyb : y ∉ z :: b := fun h => by
        rcases List.mem_cons.1 h with e | h
        · subst e; omega
        · have := asc_head hb h; omega
      by_cases e : x = y
      · subst e
        have h5 : ¬ (x = z ∨ x ∈ b) := fun h => nyb (List.mem_cons.2 h)
        constructor
        · exact fun _ h => h5 (h.1 List.mem_cons_self)
        · exact fun _ => .inl rfl
      · simp [e]
    · by_cases h2 : rk z < rk y
      · rw [sd_gt h2, List.mem_cons, sd_mem hinj (y :: a) b ha hb2 x, List.mem_cons (a := x) (b := z)]
        have nza : z ∉ y :: a := fun h => by
          rcases List.mem_cons.1 h with e | h
          · subst e; omega
          · have := asc_head ha h; omega
        by_cases e : x = z
        · subst e; simp [nzb, nza]
        · simp [e]
      · rw [sd_eq h1 h2, sd_mem hinj a b ha2 hb2 x]
        have e := hinj y z (by omega)
        subst e
        by_cases e : x = y
        · subst e; simp [nya, nzb]
        · simp [e]
  termination_by a b => a.length + b.length
end
/-- The number by which states are in order. -/
def rkT (x : StB) : Int := (key x.1 : Nat)
theorem rkT_inj (p q : StB) (h : rkT p = rkT q) : p = q := by
  obtain ⟨x, bx⟩ := p
  obtain ⟨y, by'⟩ := q
  unfold rkT at h
  dsimp only at h
  have mem : ∀ {X : List Nat}, isB X → ∀ x ∈ X, x < 256 := fun {X} hX x hx => by
    obtain ⟨i, hi, rfl⟩ := List.getElem_of_mem hx
    have := hX.2 i
    simpa [List.getD_eq_getElem?_getD, hi] using this
  have e : x = y := key_inj (bx.1.trans by'.1.symm) (mem bx) (mem by') (by omega)
  subst e; rfl
/-- A sum of states of a grid. -/
def sumOK (n : Int) (X O : List Nat) (l : List StB) : Prop := okG n X O ∧ (∀ x ∈ l, isPerm x.1 n.toNat) ∧ Asc rkT l
end Go.Proofs.YtmbbcmebdefggaaGreatDoor
namespace Go.Proofs.YtmbbcmebdefggaaGreatDoor
section
variable {α : Type} {rk : α → Int}
/-- All are in order. -/
def AscL (rk : α → Int) (G : List (List α)) : Prop := ∀ g ∈ G, Asc rk g
/-- The sum of lists. -/
def smL (rk : α → Int) (S : List (List α)) : List α := S.foldr (sd rk) []
theorem smL_cons (s : List α) (S : List (List α)) : smL rk (s :: S) = sd rk s (smL rk S) := rfl
theorem smL_asc : ∀ {S : List (List α)}, AscL rk S → Asc rk (smL rk S)
  | [], _ => Asc.nil
  | s :: S, h => sd_asc s _ (h s List.mem_cons_self) (smL_asc fun g hg => h g (List.mem_cons_of_mem _ hg))
variable (hinj : ∀ x y, rk x = rk y → x = y)
include hinj
theorem sd_comm {a b : List α} (ha : Asc rk a) (hb : Asc rk b) : sd rk a b = sd rk b a :=
  Asc.ext (sd_asc a b ha hb) (sd_asc b a hb ha) fun x => by
    rw [sd_mem hinj a b ha hb, sd_mem hinj b a hb ha]
    exact ⟨fun h k => h k.symm, fun h k => h k.symm⟩
theorem sd_assoc {a b c : List α} (ha : Asc rk a) (hb : Asc rk b) (hc : Asc rk c) : sd rk (sd rk a b) c = sd rk a (sd rk b c) :=
  Asc.ext (sd_asc _ c (sd_asc a b ha hb) hc) (sd_asc a _ ha (sd_asc b c hb hc)) fun x => by
    rw [sd_mem hinj _ c (sd_asc a b ha hb) hc, sd_mem hinj a b ha hb, sd_mem hinj a _ ha (sd_asc b c hb hc), sd_mem hinj b c hb hc]
    by_cases h1 : x ∈ a <;> by_cases h2 : x ∈ b <;> by_cases h3 : x ∈ c <;> simp [h1, h2, h3]
theorem sd_self {a : List α} (ha : Asc rk a) : sd rk a a = [] :=
  Asc.ext (sd_asc a a ha ha) Asc.nil fun x => by
    rw [sd_mem hinj a a ha ha]
    exact ⟨fun h => absurd Iff.rfl h, fun h => by cases h⟩
theorem sd_back {a b : List α} (ha : Asc rk a) (hb : Asc rk b) : sd rk a (sd rk a b) = b := by
  rw [← sd_assoc hinj ha ha hb, sd_self hinj ha, sd_nil]
theorem smL_app : ∀ {S T : List (List α)}, AscL rk S → AscL rk T → smL rk (S ++ T) = sd rk (smL rk S) (smL rk T)
  | [], _, _, _ => by rw [List.nil_append]; exact (sd_nil _).symm
  | s :: S, T, h, hT => by
    have h' : AscL rk S := fun g hg => h g (List.mem_cons_of_mem _ hg)
    rw [List.cons_append, smL_cons, smL_cons, smL_app h' hT, sd_assoc hinj (h s List.mem_cons_self) (smL_asc h') (smL_asc hT)]
omit hinj in
/-- What some lists span. -/
def Spn (rk : α → Int) (G : List (List α)) (v : List α) : Prop := ∃ S : List (List α), (∀ s ∈ S, s ∈ G) ∧ v = smL rk S
omit hinj in
theorem Spn.nil (G : List (List α)) : Spn rk G [] := ⟨[], fun _ h => (by cases h), rfl⟩
omit hinj in
theorem Spn.one {G : List (List α)} {g : List α} (h : g ∈ G) : Spn rk G g := ⟨[g], fun s hs => by rw [List.mem_singleton] at hs; subst hs; exact h, by rw [smL_cons]; exact (sd_right g).symm⟩
omit hinj in
theorem Spn.asc {G : List (List α)} {v : List α} (hG : AscL rk G) (h : Spn rk G v) : Asc rk v := by
  obtain ⟨S, hS, rfl⟩ := h
  exact smL_asc fun g hg => hG g (hS g hg)
theorem Spn.sd {G : List (List α)} {u v : List α} (hG : AscL rk G) (hu : Spn rk G u) (hv : Spn rk G v) : Spn rk G (sd rk u v) := by
  obtain ⟨S, hS, rfl⟩ := hu
  obtain ⟨T, hT, rfl⟩ := hv
  refine ⟨S ++ T, fun s hs => ?_, (smL_app hinj (fun g hg => hG g (hS g hg)) fun g hg => hG g (hT g hg)).symm⟩
  rcases List.mem_append.1 hs with h | h
  · exact hS s h
  · exact hT s h
theorem Spn.mono {G G' : List (List α)} {v : List α} (hG' : AscL rk G') (h : ∀ g ∈ G, Spn rk G' g) (hv : Spn rk G v) : Spn rk G' v := by
  obtain ⟨S, hS, rfl⟩ := hv
  induction S with
  | nil => exact Spn.nil G'
  | cons s S ih => exact Spn.sd hinj hG' (h s (hS s List.mem_cons_self)) (ih fun t ht => hS t (List.mem_cons_of_mem _ ht))
/-- With one more, or without. -/
theorem Spn.split {g : List α} {G : List (List α)} {v : List α} (hG : AscL rk (g :: G)) (hv : Spn rk (g :: G) v) : ∃ u, Spn rk G u ∧ (v = u ∨ v = Go.Proofs.YtmbbcmebdefggaaGreatDoor.sd rk g u) := by
  have hg := hG g List.mem_cons_self
  have hG' : AscL rk G := fun x hx => hG x (List.mem_cons_of_mem _ hx)
  obtain ⟨S, hS, rfl⟩ := hv
  induction S with
  | nil => exact ⟨[], Spn.nil G, .inl rfl⟩
  | cons s S ih =>
    obtain ⟨u, hu, e⟩ := ih fun t ht => hS t (List.mem_cons_of_mem _ ht)
    have hua := hu.asc hG'
    rw [smL_cons]
    rcases List.mem_cons.1 (hS s List.mem_cons_self) with rfl | hs
    · rcases e with e | e
      · exact ⟨u, hu, .inr (by rw [e])⟩
      · exact ⟨u, hu, .inl (by rw [e, sd_back hinj hg hua])⟩
    · have hsa := hG' s hs
      refine ⟨Go.Proofs.YtmbbcmebdefggaaGreatDoor.sd rk s u, Spn.sd hinj hG' (Spn.one hs) hu, ?_⟩
      rcases e with e | e
      · exact .inl (by rw [e])
      · exact .inr (by rw [e, ← sd_assoc hinj hsa hg hua, sd_comm hinj hsa hg, sd_assoc hinj hg hsa hua])
/-- Each is the sum of some of them. -/
theorem Spn.part : ∀ {G : List (List α)} {v : List α}, AscL rk G → Spn rk G v → ∃ S, List.Sublist S G ∧ v = smL rk S
  | [], v, _, h => by
    obtain ⟨S, hS, rfl⟩ := h
    cases S with
    | nil => exact ⟨[], List.Sublist.refl _, rfl⟩
    | cons s S => exact absurd (hS s List.mem_cons_self) List.not_mem_nil
  | g :: G, v, hG, h => by
    obtain ⟨u, hu, e⟩ := h.split hinj hG
    obtain ⟨S, hS, rfl⟩ := Spn.part (fun x hx => hG x (List.mem_cons_of_mem _ hx)) hu
    rcases e with e | e
    · exact ⟨S, hS.cons _, e⟩
    · exact ⟨g :: S, hS.cons_cons _, e⟩
omit hinj in
/-- Lists with different leading places. -/
structure Ech (rk : α → Int) (B : List (List α)) : Prop where
  asc : AscL rk B
  ne : ∀ b ∈ B, b ≠ []
  pw : B.Pairwise fun a b => a.head? ≠ b.head?
omit hinj in
theorem Ech.sub {S B : List (List α)} (h : Ech rk B) (hs : List.Sublist S B) : Ech rk S := ⟨fun g hg => h.asc g (hs.subset hg), fun g hg => h.ne g (hs.subset hg), h.pw.sublist hs⟩
omit hinj in
theorem head_sd {a b : List α} {x y : α} (ha : a.head? = some x) (hb : b.head? = some y) (h : rk x < rk y) : (Go.Proofs.YtmbbcmebdefggaaGreatDoor.sd rk a b).head? = some x ∧ (Go.Proofs.YtmbbcmebdefggaaGreatDoor.sd rk b a).head? = some x := by
  cases a with
  | nil => cases ha
  | cons x' a =>
    cases b with
    | nil => cases hb
    | cons y' b =>
      cases ha
      cases hb
      rw [sd_lt h, sd_gt h]
      exact ⟨rfl, rfl⟩
theorem Ech.least : ∀ {S : List (List α)}, Ech rk S → S ≠ [] → ∃ b ∈ S, ∃ x, b.head? = some x ∧ (smL rk S).head? = some x ∧ ∀ c ∈ S, ∀ y, c.head? = some y → rk x ≤ rk y
  | [], _, h => absurd rfl h
  | s :: S, h, _ => by
    have hs : ∃ z, s.head? = some z := by
      cases e : s with
      | nil => exact absurd e (h.ne s List.mem_cons_self)
      | cons z t => exact ⟨z, rfl⟩
    obtain ⟨z, hz⟩ := hs
    by_cases hS : S = []
    · subst hS
      refine ⟨s, List.mem_cons_self, z, hz, ?_, fun c hc y hy => ?_⟩
      · rw [smL_cons]
        show (Go.Proofs.YtmbbcmebdefggaaGreatDoor.sd rk s []).head? = _
        rw [sd_right, hz]
      · rw [List.mem_singleton] at hc
        subst hc
        rw [hz] at hy
        cases hy
        exact Int.le_refl _
    · obtain ⟨b, hb, x, hx, hm, hall⟩ := Ech.least (h.sub (List.sublist_cons_self s S)) hS
      have hne : z ≠ x := fun e => (List.pairwise_cons.1 h.pw).1 b hb (by rw [hz, hx, e])
      have hrk : rk z ≠ rk x := fun e => hne (hinj _ _ e)
      by_cases hlt : rk z < rk x
      · refine ⟨s, List.mem_cons_self, z, hz, (head_sd hz hm hlt).1, fun c hc y hy => ?_⟩
        rcases List.mem_cons.1 hc with rfl | hc
        · rw [hz] at hy
          cases hy
          exact Int.le_refl _
        · have := hall c hc y hy
          omega
      · refine ⟨b, List.mem_cons_of_mem _ hb, x, hx, (head_sd hm hz (by omega)).2, fun c hc y hy => ?_⟩
        rcases List.mem_cons.1 hc with rfl | hc
        · rw [hz] at hy
          cases hy
          omega
        · exact hall c hc y hy
theorem Ech.lead {B : List (List α)} {v : List α} {x : α} (h : Ech rk B) (hv : Spn rk B v) (hx : v.head? = some x) : ∃ b ∈ B, b.head? = some x := by
  obtain ⟨S, hS, rfl⟩ := hv.part hinj h.asc
  have hne : S ≠ [] := fun e => by subst e; cases hx
  obtain ⟨b, hb, y, hy, hm, _⟩ := Ech.least hinj (h.sub hS) hne
  rw [hm] at hx
  cases hx
  exact ⟨b, hS.subset hb, hy⟩
omit hinj in
theorem Spn.perm {B C : List (List α)} {v : List α} (hp : ∀ g, g ∈ B ↔ g ∈ C) : Spn rk B v ↔ Spn rk C v :=
  ⟨fun ⟨S, h, e⟩ => ⟨S, fun s hs => (hp s).1 (h s hs), e⟩, fun ⟨S, h, e⟩ => ⟨S, fun s hs => (hp s).2 (h s hs), e⟩⟩
/-- What is left of a list spans the same beside the others. -/
theorem Spn.swap {B : List (List α)} {u r w : List α} (hB : AscL rk B) (hr : Asc rk r) (hw : Spn rk B w) (e : u = Go.Proofs.YtmbbcmebdefggaaGreatDoor.sd rk r w) (v : List α) : Spn rk (u :: B) v ↔ Spn rk (r :: B) v := by
  have hwa := hw.asc hB
  have hua : Asc rk u := by rw [e]; exact sd_asc r w hr hwa
  have e2 : r = Go.Proofs.YtmbbcmebdefggaaGreatDoor.sd rk u w := by rw [e, sd_assoc hinj hr hwa hwa, sd_self hinj hwa, sd_right]
  have hB1 : AscL rk (u :: B) := fun g hg => by rcases List.mem_cons.1 hg with rfl | hg; exact hua; exact hB g hg
  have hB2 : AscL rk (r :: B) := fun g hg => by rcases List.mem_cons.1 hg with rfl | hg; exact hr; exact hB g hg
  have up : ∀ (x : List α) {y : List α}, AscL rk (x :: B) → Spn rk B y → Spn rk (x :: B) y := fun x y hx ⟨S, h, e⟩ => ⟨S, fun s hs => List.mem_cons_of_mem _ (h s hs), e⟩
  constructor
  · refine Spn.mono hinj hB2 fun g hg => ?_
    rcases List.mem_cons.1 hg with rfl | hg
    · rw [e]
      exact Spn.sd hinj hB2 (Spn.one List.mem_cons_self) (up r hB2 hw)
    · exact Spn.one (List.mem_cons_of_mem _ hg)
  · refine Spn.mono hinj hB1 fun g hg => ?_
    rcases List.mem_cons.1 hg with rfl | hg
    · rw [e2]
      exact Spn.sd hinj hB1 (Spn.one List.mem_cons_self) (up u hB1 hw)
    · exact Spn.one (List.mem_cons_of_mem _ hg)
/-- In the span, and no leading place: nothing. -/
theorem Ech.nothing {B : List (List α)} {v : List α} (h : Ech rk B) (hv : Spn rk B v) (hd : ∀ b ∈ B, b.head? ≠ v.head?) : v = [] := by
  cases e : v with
  | nil => rfl
  | cons x t =>
    obtain ⟨b, hb, hbx⟩ := h.lead hinj hv (x := x) (by rw [e]; rfl)
    exact absurd (by rw [hbx, e]; rfl) (hd b hb)
end
end Go.Proofs.YtmbbcmebdefggaaGreatDoor
namespace Go.Proofs.YtmbbcmebdefggaaGreatDoor
/-- The number with these bits. -/
def natOf (f : Nat → Bool) : Nat → Nat
  | 0 => 0
  | k + 1 => 2 ^ k * (if f k then 1 else 0) + natOf f k
theorem natOf_lt (f : Nat → Bool) : ∀ k, natOf f k < 2 ^ k
  | 0 => by show 0 < 1; omega
  | k + 1 => by
    have := natOf_lt f k
    rw [natOf, Nat.pow_succ]
    by_cases h : f k
    · rw [if_pos h]; omega
    · rw [if_neg h]; omega
theorem natOf_bit (f : Nat → Bool) : ∀ k j, (natOf f k).testBit j = (decide (j < k) && f j)
  | 0, j => by simp [natOf]
  | k + 1, j => by
    have hl := natOf_lt f k
    have ih := natOf_bit f k j
    rw [natOf]
    by_cases h : f k
    · rw [if_pos h, Nat.mul_one]
      rcases Nat.lt_trichotomy j k with h1 | h1 | h1
      · rw [Nat.testBit_two_pow_add_gt h1, ih, decide_eq_true h1, decide_eq_true (by omega)]
      · subst h1
        rw [Nat.testBit_two_pow_add_eq, Nat.testBit_lt_two_pow hl, decide_eq_true (by omega), h]; rfl
      · rw [decide_eq_false (by omega), Bool.false_and]
        refine Nat.testBit_lt_two_pow ?_
        have : 2 ^ (k + 1) ≤ 2 ^ j := Nat.pow_le_pow_right (by decide) h1
        rw [Nat.pow_succ] at this
        omega
    · rw [if_neg h, Nat.mul_zero, Nat.zero_add, ih]
      by_cases h1 : j = k
      · subst h1
        rw [decide_eq_false (by omega), decide_eq_true (by omega)]
        simp [h]
      · congr 1
        exact decide_eq_decide.2 (by omega)
/-- Word i. -/
def wd (f : Nat → Bool) (i : Nat) : Nat := natOf (fun j => f (64 * i + j)) 64
theorem wd_lt (f : Nat → Bool) (i : Nat) : wd f i < 18446744073709551616 := natOf_lt _ 64
theorem wd_bit (f : Nat → Bool) {i j : Nat} (h : j < 64) : (wd f i).testBit j = f (64 * i + j) := by
  unfold wd
  rw [natOf_bit, decide_eq_true h, Bool.true_and]
theorem wd_is {f : Nat → Bool} {i a : Nat} (ha : a < 18446744073709551616) (h : ∀ j, j < 64 → a.testBit j = f (64 * i + j)) : a = wd f i := Nat.eq_of_testBit_eq fun j => by
  by_cases hj : j < 64
  · rw [wd_bit f hj, h j hj]
  · have p : ∀ b, b < 18446744073709551616 → b.testBit j = false := fun b hb => Nat.testBit_lt_two_pow (Nat.lt_of_lt_of_le hb (Nat.pow_le_pow_right (n := 2) (by decide) (show 64 ≤ j by omega)))
    rw [p a ha, p _ (wd_lt f i)]
theorem wd_congr {f g : Nat → Bool} {i : Nat} (h : ∀ j, j < 64 → f (64 * i + j) = g (64 * i + j)) : wd f i = wd g i := wd_is (wd_lt f i) fun j hj => by rw [wd_bit f hj, h j hj]
theorem wd_zero {f : Nat → Bool} {i : Nat} (h : wd f i = 0) {j : Nat} (hj : j < 64) : f (64 * i + j) = false := by
  rw [← wd_bit f hj, h, Nat.zero_testBit]
theorem ctzFrom_bit : ∀ (n x : Nat), 0 < x → x < 2 ^ n → x.testBit (Lib.ctzFrom n x) = true ∧ ∀ j, j < Lib.ctzFrom n x → x.testBit j = false
  | 0, x, h0, h => by simp at h; omega
  | n + 1, x, h0, h => by
    unfold Lib.ctzFrom
    split
    · rename_i h1
      exact ⟨by rw [Nat.testBit_zero]; exact decide_eq_true h1, fun j hj => absurd hj (Nat.not_lt_zero _)⟩
    · rename_i h1
      obtain ⟨k1, k2⟩ := ctzFrom_bit n (x / 2) (by omega) (by rw [Nat.pow_succ] at h; omega)
      refine ⟨by rw [Nat.add_comm, Nat.testBit_succ]; exact k1, fun j hj => ?_⟩
      cases j with
      | zero => rw [Nat.testBit_zero]; exact decide_eq_false h1
      | succ j => rw [Nat.testBit_succ]; exact k2 j (by omega)
theorem wd_ctz {f : Nat → Bool} {i : Nat} (h : wd f i ≠ 0) : Lib.ctz 64 (wd f i) < 64 ∧ f (64 * i + Lib.ctz 64 (wd f i)) = true ∧ ∀ j, j < Lib.ctz 64 (wd f i) → f (64 * i + j) = false := by
  have e : Lib.ctz 64 (wd f i) = Lib.ctzFrom 64 (wd f i) := if_neg h
  rw [e]
  obtain ⟨_, _, h1⟩ := Lib.ctzFrom_spec 64 (wd f i) (by omega) (natOf_lt _ 64)
  obtain ⟨h2, h3⟩ := ctzFrom_bit 64 (wd f i) (by omega) (natOf_lt _ 64)
  refine ⟨h1, by rw [← wd_bit f h1]; exact h2, fun j hj => ?_⟩
  rw [← wd_bit f (by omega)]
  exact h3 j hj
/-- The twelve words. -/
def wds (f : Nat → Bool) : List Nat := (List.range 12).map (wd f)
theorem wds_len (f : Nat → Bool) : (wds f).length = 12 := by unfold wds; rw [List.length_map, List.length_range]
theorem wds_get (f : Nat → Bool) {i : Nat} (h : i < 12) : (wds f)[i]? = some (wd f i) := by
  unfold wds
  rw [List.getElem?_map, List.getElem?_range h]; rfl
theorem wds_congr {f g : Nat → Bool} (h : ∀ k, k < 768 → f k = g k) : wds f = wds g := List.map_congr_left fun i hi => wd_congr fun j hj => h _ (by
  have := List.mem_range.1 hi
  omega)
theorem wds_set {f h : Nat → Bool} {i v : Nat} (hi : i < 12) (hv : v = wd h i) (ho : ∀ k, k < 768 → k / 64 ≠ i → h k = f k) : (wds f).set i v = wds h := List.ext_getElem? fun k => by
  by_cases hk : k < 12
  · rw [List.getElem?_set, wds_get h hk]
    by_cases e : i = k
    · subst e
      rw [if_pos rfl, if_pos (by rw [wds_len]; exact hk), hv]
    · rw [if_neg e, wds_get f hk]
      refine congrArg some (wd_congr fun j hj => (ho _ (by omega) (by omega)).symm)
  · rw [List.getElem?_eq_none (by rw [List.length_set, wds_len]; omega), List.getElem?_eq_none (by rw [wds_len]; omega)]
theorem wds_zero : wds (fun _ => false) = List.replicate 12 0 := by decide +kernel
theorem wd_xor (f g : Nat → Bool) (i : Nat) : wd f i ^^^ wd g i = wd (fun k => f k ^^ g k) i := wd_is (Nat.xor_lt_two_pow (n := 64) (wd_lt f i) (wd_lt g i)) fun j hj => by
  rw [Nat.testBit_xor, wd_bit f hj, wd_bit g hj]
theorem wd_flip (f : Nat → Bool) {k : Nat} (hk : k < 768) : wd f (k / 64) ^^^ 2 ^ (k % 64) = wd (fun j => f j ^^ decide (j = k)) (k / 64) := wd_is (Nat.xor_lt_two_pow (n := 64) (wd_lt f _) (Nat.pow_lt_pow_right (by decide) (Nat.mod_lt _ (by decide)))) fun j hj => by
  rw [Nat.testBit_xor, wd_bit f hj, Nat.testBit_two_pow]
  congr 1
  exact decide_eq_decide.2 (by omega)
/-- The first place, -1 if there is none. -/
def fstB (f : Nat → Bool) : Int := match (List.range 768).find? f with
  | some k => (k : Int)
  | none => -1
theorem fstB_some {f : Nat → Bool} {k : Nat} (hk : k < 768) (h : f k = true) (hl : ∀ j, j < k → f j = false) : fstB f = k := by
  unfold fstB
  cases e : (List.range 768).find? f with
  | none =>
    have := List.find?_eq_none.1 e k (List.mem_range.2 hk)
    exact absurd h this
  | some i =>
    obtain ⟨h1, ls, rs, h2, h3⟩ := List.find?_eq_some_iff_append.1 e
    have hi : i = k := by
      rcases Nat.lt_trichotomy i k with h4 | h4 | h4
      · rw [hl i h4] at h1; cases h1
      · exact h4
      · exfalso
        have hp : (ls ++ i :: rs).Pairwise (· < ·) := by rw [← h2]; exact List.pairwise_lt_range
        have hm : k ∈ ls ++ i :: rs := by rw [← h2]; exact List.mem_range.2 hk
        rcases List.mem_append.1 hm with hm | hm
        · have := h3 k hm
          rw [h] at this
          cases this
        · rcases List.mem_cons.1 hm with rfl | hm
          · omega
          · have := (List.pairwise_cons.1 (List.pairwise_append.1 hp).2.1).1 k hm
            omega
    rw [hi]
theorem fstB_none {f : Nat → Bool} (h : ∀ k, k < 768 → f k = false) : fstB f = -1 := by
  unfold fstB
  rw [List.find?_eq_none.2 fun k hk => by rw [h k (List.mem_range.1 hk)]; decide]
end Go.Proofs.YtmbbcmebdefggaaGreatDoor
