/- Plain: spaces of functions with values modulo two: how many vectors there are, dimensions. Plain: cycles and boundaries in grades; operations that undo each other up to boundaries split the homology evenly. -/
import Derived.Test.YtmbbcmebdefggaaDoorVF
namespace Go.Proofs.YtmbbcmebdefggaaDoor
/-- The sum of two vectors. -/
def va {α : Type} (u v : α → Bool) : α → Bool := fun x => u x ^^ v x
def v0 {α : Type} : α → Bool := fun _ => false
section
variable {α β : Type}
theorem va_assoc (u v w : α → Bool) : va (va u v) w = va u (va v w) := funext fun x => Bool.xor_assoc _ _ _
theorem va_self (u : α → Bool) : va u u = v0 := funext fun x => Bool.xor_self _
theorem va_zero (u : α → Bool) : va u v0 = u := funext fun x => Bool.xor_false _
theorem zero_va (u : α → Bool) : va v0 u = u := funext fun x => Bool.false_xor _
theorem va_back (u v : α → Bool) : va u (va u v) = v := by rw [← va_assoc, va_self, zero_va]
theorem va_cancel {u v w : α → Bool} (h : va u v = va u w) : v = w := by rw [← va_back u v, h, va_back]
/-- A space. -/
structure Spc (U : (α → Bool) → Prop) : Prop where
  z : U v0
  add : ∀ u v, U u → U v → U (va u v)
/-- So many vectors. -/
def Crd (U : (α → Bool) → Prop) (N : Nat) : Prop := ∃ L : List (α → Bool), L.Nodup ∧ (∀ v, v ∈ L ↔ U v) ∧ L.length = N
theorem Crd.uniq {U : (α → Bool) → Prop} {N M : Nat} (h : Crd U N) (k : Crd U M) : N = M := by
  classical
  obtain ⟨L, h1, h2, rfl⟩ := h
  obtain ⟨K, k1, k2, rfl⟩ := k
  exact ((List.perm_ext_iff_of_nodup h1 k1).2 fun v => (h2 v).trans (k2 v).symm).length_eq
theorem Crd.congr {U W : (α → Bool) → Prop} {N : Nat} (h : Crd U N) (e : ∀ v, U v ↔ W v) : Crd W N := by
  obtain ⟨L, h1, h2, h3⟩ := h
  exact ⟨L, h1, fun v => (h2 v).trans (e v), h3⟩
/-- A new vector doubles the number. -/
theorem Crd.double {U : (α → Bool) → Prop} {N : Nat} (hU : Spc U) (h : Crd U N) {g : α → Bool} (hg : ¬ U g) : Crd (fun v => U v ∨ U (va g v)) (2 * N) := by
  obtain ⟨L, h1, h2, h3⟩ := h
  refine ⟨L ++ L.map (va g), ?_, fun v => ?_, ?_⟩
  · refine List.nodup_append.2 ⟨h1, ?_, fun a ha b hb e => ?_⟩
    · rw [List.nodup_iff_pairwise_ne, List.pairwise_map]
      exact List.Pairwise.imp (fun {a b} hab e => hab (va_cancel e)) (List.nodup_iff_pairwise_ne.1 h1)
    · obtain ⟨c, hc, rfl⟩ := List.mem_map.1 hb
      subst e
      have := hU.add _ _ ((h2 _).1 ha) ((h2 _).1 hc)
      rw [va_assoc, va_self, va_zero] at this
      exact hg this
  · rw [List.mem_append, List.mem_map, h2]
    constructor
    · rintro (h | ⟨c, hc, rfl⟩)
      · exact .inl h
      · exact .inr (by rw [va_back]; exact (h2 c).1 hc)
    · rintro (h | h)
      · exact .inl h
      · exact .inr ⟨va g v, (h2 _).2 h, va_back g v⟩
  · rw [List.length_append, List.length_map]; omega
/-- The vectors on a list's places. -/
def Spp (L : List α) (v : α → Bool) : Prop := ∀ x, v x = true → x ∈ L
theorem Spp.spc (L : List α) : Spc (Spp L) := by
  refine ⟨fun x h => (by cases h), fun u v hu hv x h => ?_⟩
  unfold va at h
  cases h1 : u x
  · cases h2 : v x
    · rw [h1, h2] at h; cases h
    · exact hv x h2
  · exact hu x h1
/-- The number of vectors is a power of two. -/
theorem Spc.pow : ∀ (L : List α) {U : (α → Bool) → Prop}, Spc U → (∀ v, U v → Spp L v) → ∃ d, Crd U (2 ^ d)
  | [], U, hU, hs => ⟨0, [v0], by simp, fun v => by
      rw [List.mem_singleton]
      constructor
      · rintro rfl; exact hU.z
      · intro h
        refine funext fun x => ?_
        cases e : v x
        · rfl
        · exact absurd (hs v h x e) List.not_mem_nil, rfl⟩
  | x :: L, U, hU, hs => by
    have hU0 : Spc fun v => U v ∧ v x = false := ⟨⟨hU.z, rfl⟩, fun u v hu hv => ⟨hU.add u v hu.1 hv.1, by unfold va; rw [hu.2, hv.2]; rfl⟩⟩
    obtain ⟨d, hd⟩ := Spc.pow L hU0 fun v hv y hy => by
      rcases List.mem_cons.1 (hs v hv.1 y hy) with rfl | h
      · rw [hv.2] at hy; cases hy
      · exact h
    by_cases hg : ∃ g, U g ∧ g x = true
    · obtain ⟨g, hg1, hg2⟩ := hg
      refine ⟨d + 1, ?_⟩
      rw [Nat.pow_succ, Nat.mul_comm]
      refine (hd.double hU0 (g := g) fun k => by rw [hg2] at k; cases k.2).congr fun v => ?_
      constructor
      · rintro (h | h)
        · exact h.1
        · have := hU.add _ _ hg1 h.1
          rwa [va_back] at this
      · intro h
        rcases Bool.eq_false_or_eq_true (v x) with e | e
        · exact .inr ⟨hU.add _ _ hg1 h, by unfold va; rw [hg2, e]; rfl⟩
        · exact .inl ⟨h, e⟩
    · refine ⟨d, hd.congr fun v => ⟨fun h => h.1, fun h => ⟨h, ?_⟩⟩⟩
      rcases Bool.eq_false_or_eq_true (v x) with e | e
      · exact absurd ⟨v, h, e⟩ hg
      · exact e
/-- All vectors on a list's places. -/
theorem Spp.crd : ∀ {L : List α}, L.Nodup → Crd (Spp L) (2 ^ L.length)
  | [], _ => ⟨[v0], by simp, fun v => by
      rw [List.mem_singleton]
      constructor
      · rintro rfl; exact (Spp.spc []).z
      · intro h
        refine funext fun x => ?_
        cases e : v x
        · rfl
        · exact absurd (h x e) List.not_mem_nil, rfl⟩
  | x :: L, hn => by
    classical
    obtain ⟨h1, h2⟩ := List.nodup_cons.1 hn
    rw [List.length_cons, Nat.pow_succ, Nat.mul_comm]
    refine ((Spp.crd h2).double (Spp.spc L) (g := fun y => decide (y = x)) fun k => h1 (k x (by simp))).congr fun v => ?_
    constructor
    · rintro (h | h) y hy
      · exact List.mem_cons_of_mem _ (h y hy)
      · by_cases e : y = x
        · rw [e]; exact List.mem_cons_self
        · exact List.mem_cons_of_mem _ (h y (by show (decide (y = x) ^^ v y) = true; rw [decide_eq_false e, Bool.false_xor]; exact hy))
    · intro h
      cases e : v x
      · refine .inl fun y hy => ?_
        rcases List.mem_cons.1 (h y hy) with rfl | k
        · rw [e] at hy; cases hy
        · exact k
      · refine .inr fun y hy => ?_
        have hy : (decide (y = x) ^^ v y) = true := hy
        by_cases e2 : y = x
        · rw [e2, e] at hy
          simp at hy
        · rw [decide_eq_false e2, Bool.false_xor] at hy
          rcases List.mem_cons.1 (h y hy) with k | k
          · exact absurd k e2
          · exact k
theorem pow_inj2 {d e : Nat} (h : 2 ^ d = 2 ^ e) : d = e := by
  rcases Nat.lt_trichotomy d e with k | k | k
  · have := Nat.pow_lt_pow_right (a := 2) (by decide) k; omega
  · exact k
  · have := Nat.pow_lt_pow_right (a := 2) (by decide) k; omega
/-- The dimension. -/
def Dm (U : (α → Bool) → Prop) (d : Nat) : Prop := Crd U (2 ^ d)
theorem Dm.uniq {U : (α → Bool) → Prop} {d e : Nat} (h : Dm U d) (k : Dm U e) : d = e := pow_inj2 (Crd.uniq h k)
theorem Dm.congr {U W : (α → Bool) → Prop} {d : Nat} (h : Dm U d) (e : ∀ v, U v ↔ W v) : Dm W d := Crd.congr h e
end
end Go.Proofs.YtmbbcmebdefggaaDoor
namespace Go.Proofs.YtmbbcmebdefggaaDoor
section
variable {α : Type}
/-- The vectors of a grade. -/
def Cg (L : List α) (gr : α → Int × Int) (g : Int × Int) (v : α → Bool) : Prop := ∀ x, v x = true → x ∈ L ∧ gr x = g
theorem Cg.spc (L : List α) (gr : α → Int × Int) (g : Int × Int) : Spc (Cg L gr g) := by
  refine ⟨fun x h => (by cases h), fun u v hu hv x h => ?_⟩
  unfold va at h
  cases h1 : u x
  · cases h2 : v x
    · rw [h1, h2] at h; cases h
    · exact hv x h2
  · exact hu x h1
theorem Cg.spp {L : List α} {gr : α → Int × Int} {g : Int × Int} {v : α → Bool} (h : Cg L gr g v) : Spp L v := fun x hx => (h x hx).1
def sh (g : Int × Int) (a m : Int) : Int × Int := (g.1 + a, g.2 + m)
theorem sh_sh (g : Int × Int) (a m b k : Int) : sh (sh g a m) b k = sh g (a + b) (m + k) := by unfold sh; exact Prod.ext (Int.add_assoc _ _ _) (Int.add_assoc _ _ _)
theorem sh_0 (g : Int × Int) : sh g 0 0 = g := by unfold sh; exact Prod.ext (Int.add_zero _) (Int.add_zero _)
/-- A linear operation that shifts grades. -/
structure Lin (L : List α) (gr : α → Int × Int) (a m : Int) (f : (α → Bool) → α → Bool) : Prop where
  add : ∀ u v, f (va u v) = va (f u) (f v)
  to : ∀ g v, Cg L gr g v → Cg L gr (sh g a m) (f v)
theorem Lin.zero {L : List α} {gr : α → Int × Int} {a m : Int} {f : (α → Bool) → α → Bool} (h : Lin L gr a m f) : f v0 = v0 := by
  have := h.add v0 v0
  rw [va_self] at this
  have h2 := va_back (f v0) (f v0)
  rw [← this, va_self] at h2
  exact h2.symm
def Bg (L : List α) (gr : α → Int × Int) (d : (α → Bool) → α → Bool) (g : Int × Int) (v : α → Bool) : Prop := ∃ b, Cg L gr (sh g 0 1) b ∧ v = d b
section
variable {L : List α} {gr : α → Int × Int} {d : (α → Bool) → α → Bool}
theorem Bg.spc (hd : Lin L gr 0 (-1) d) (g : Int × Int) : Spc (Bg L gr d g) := ⟨⟨v0, (Cg.spc L gr _).z, hd.zero.symm⟩, fun u v ⟨a, ha, e⟩ ⟨b, hb, e'⟩ => ⟨va a b, (Cg.spc L gr _).add _ _ ha hb, by rw [e, e', hd.add]⟩⟩
theorem Bg.cg (hd : Lin L gr 0 (-1) d) {g : Int × Int} {v : α → Bool} (h : Bg L gr d g v) : Cg L gr g v := by
  obtain ⟨b, hb, rfl⟩ := h
  have := hd.to _ b hb
  rwa [sh_sh, show (0 : Int) + 0 = 0 from rfl, show (1 : Int) + -1 = 0 from rfl, sh_0] at this
variable {k : Nat} {D F : Nat → (α → Bool) → α → Bool}
/-- A dimension, chosen. -/
noncomputable def dm (U : (α → Bool) → Prop) : Nat := open Classical in if h : ∃ d, Dm U d then h.choose else 0
theorem dm_is {U : (α → Bool) → Prop} {e : Nat} (h : Dm U e) : dm U = e := by
  have hx : ∃ d, Dm U d := ⟨e, h⟩
  unfold dm
  rw [dif_pos hx]
  exact hx.choose_spec.uniq h
theorem dm_dm {U : (α → Bool) → Prop} (hU : Spc U) (hs : ∀ v, U v → Spp L v) : Dm U (dm U) := by
  obtain ⟨e, he⟩ := Spc.pow L hU hs
  rwa [dm_is he]
theorem dm_mono {U W : (α → Bool) → Prop} (hU : Spc U) (hW : Spc W) (hs : ∀ v, W v → Spp L v) (h : ∀ v, U v → W v) : dm U ≤ dm W := by
  classical
  have h1 := dm_dm hU fun v hv => hs v (h v hv)
  have h2 := dm_dm hW hs
  obtain ⟨A, a1, a2, a3⟩ := h1
  obtain ⟨C, c1, c2, c3⟩ := h2
  have := List.Nodup.length_le_of_subset a1 (l₂ := C) fun v hv => (c2 v).2 (h v ((a2 v).1 hv))
  rw [a3, c3] at this
  exact (Nat.pow_le_pow_iff_right (Nat.lt_succ_self 1)).1 this
end
end
end Go.Proofs.YtmbbcmebdefggaaDoor
