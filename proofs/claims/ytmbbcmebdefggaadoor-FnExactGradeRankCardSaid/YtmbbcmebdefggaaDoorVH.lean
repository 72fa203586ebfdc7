/- Plain: spaces of functions with values modulo two: how many vectors there are, dimensions. Plain: cycles and boundaries in grades; operations that undo each other up to boundaries split the homology evenly. -/
import Derived.Test.YtmbbcmebdefggaaDoorVF
namespace Go.Proofs.YtmbbcmebdefggaaDoor
/-- The sum of two vectors. -/
def va {α : Type} (u v : α → Bool) : α → Bool := fun x => u x ^^ v x
def v0 {α : Type} : α → Bool := fun _ => false
section
variable {α β : Type}
theorem va_assoc (u v w : α → Bool) : va (va u v) w = va u (va v w) := funext fun x => Bool.xor_assoc _ _ _
theorem va_self (u : α → Bool) : va u u = v0 := funext fun x => Bool.xor_self _
theorem va_zero (u : α → Bool) : va u v0 = u := funext fun x => Bool.xor_false _
theorem zero_va (u : α → Bool) : va v0 u = u := funext fun x => Bool.false_xor _
theorem va_back (u v : α → Bool) : va u (va u v) = v := by rw [← va_assoc, va_self, zero_va]
theorem va_cancel {u v w : α → Bool} (h : va u v = va u w) : v = w := by rw [← va_back u v, h, va_back]
/-- A space. -/
structure Spc (U : (α → Bool) → Prop) : Prop where
  z : U v0
  add : ∀ u v, U u → U v → U (va u v)
/-- So many vectors. -/
def Crd (U : (α → Bool) → Prop) (N : Nat) : Prop := ∃ L : List (α → Bool), L.Nodup ∧ (∀ v, v ∈ L ↔ U v) ∧ L.length = N
theorem Crd.uniq {U : (α → Bool) → Prop} {N M : Nat} (h : Crd U N) (k : Crd U M) : N = M := by
  classical
  obtain ⟨L, h1, h2, rfl⟩ := h
  obtain ⟨K, k1, k2, rfl⟩ := k
  exact ((List.perm_ext_iff_of_nodup h1 k1).2 fun v => (h2 v).trans (k2 v).symm).length_eq
theorem Crd.congr {U W : (α → Bool) → Prop} {N : Nat} (h : Crd U N) (e : ∀ v, U v ↔ W v) : Crd W N := by
  obtain ⟨L, h1, h2, h3⟩ := h
  exact ⟨L, h1, fun v => (h2 v).trans (e v), h3⟩
/-- A new vector doubles the number. -/
theorem Crd.double {U : (α → Bool) → Prop} {N : Nat} (hU : Spc U) (h : Crd U N) {g : α → Bool} (hg : ¬ U g) : Crd (fun v => U v ∨ U (va g v)) (2 * N) := by
  obtain ⟨L, h1, h2, h3⟩ := h
  refine ⟨L ++ L.map (va g), ?_, fun v => ?_, ?_⟩
  · refine List.nodup_append.2 ⟨h1, ?_, fun a ha b hb e => ?_⟩
    · rw [List.nodup_iff_pairwise_ne, List.pairwise_map]
      exact List.Pairwise.imp (fun {a b} hab e => hab (va_cancel e)) (List.nodup_iff_pairwise_ne.1 h1)
    · obtain ⟨c, hc, rfl⟩ := List.mem_map.1 hb
      subst e
      have := hU.add _ _ ((h2 _).1 ha) ((h2 _).1 hc)
      rw [va_assoc, va_self, va_zero] at this
      exact hg this
  · rw [List.mem_append, List.mem_map, h2]
    constructor
    · rintro (h | ⟨c, hc, rfl⟩)
      · exact .inl h
      · exact .inr (by rw [va_back]; exact (h2 c).1 hc)
    · rintro (h | h)
      · exact .inl h
      · exact .inr ⟨va g v, (h2 _).2 h, va_back g v⟩
  · rw [List.length_append, List.length_map]; omega
theorem pow_inj2 {d e : Nat} (h : 2 ^ d = 2 ^ e) : d = e := by
  rcases Nat.lt_trichotomy d e with k | k | k
  · have := Nat.pow_lt_pow_right (a := 2) (by decide) k; omega
  · exact k
  · have := Nat.pow_lt_pow_right (a := 2) (by decide) k; omega
/-- The dimension. -/
def Dm (U : (α → Bool) → Prop) (d : Nat) : Prop := Crd U (2 ^ d)
theorem Dm.uniq {U : (α → Bool) → Prop} {d e : Nat} (h : Dm U d) (k : Dm U e) : d = e := pow_inj2 (Crd.uniq h k)
theorem Dm.congr {U W : (α → Bool) → Prop} {d : Nat} (h : Dm U d) (e : ∀ v, U v ↔ W v) : Dm W d := Crd.congr h e
end
end Go.Proofs.YtmbbcmebdefggaaDoor
namespace Go.Proofs.YtmbbcmebdefggaaDoor
section
variable {α : Type}
/-- The vectors of a grade. -/
def Cg (L : List α) (gr : α → Int × Int) (g : Int × Int) (v : α → Bool) : Prop := ∀ x, v x = true → x ∈ L ∧ gr x = g
def sh (g : Int × Int) (a m : Int) : Int × Int := (g.1 + a, g.2 + m)
/-- A linear operation that shifts grades. -/
structure Lin (L : List α) (gr : α → Int × Int) (a m : Int) (f : (α → Bool) → α → Bool) : Prop where
  add : ∀ u v, f (va u v) = va (f u) (f v)
  to : ∀ g v, Cg L gr g v → Cg L gr (sh g a m) (f v)
section
variable {L : List α} {gr : α → Int × Int} {d : (α → Bool) → α → Bool}
variable {k : Nat} {D F : Nat → (α → Bool) → α → Bool}
/-- A dimension, chosen. -/
noncomputable def dm (U : (α → Bool) → Prop) : Nat := open Classical in if h : ∃ d, Dm U d then h.choose else 0
theorem dm_is {U : (α → Bool) → Prop} {e : Nat} (h : Dm U e) : dm U = e := by
  have hx : ∃ d, Dm U d := ⟨e, h⟩
  unfold dm
  rw [dif_pos hx]
  exact hx.choose_spec.uniq h
end
end
end Go.Proofs.YtmbbcmebdefggaaDoor
