/- Plain: maps from things to things. -/
import Derived.Test.YthijakignhjmgaaMP
namespace Go.Proofs.Ythijakignhjmgaa
open Go SL
section
variable {K V : Type} {eK : K → Value} {eV : V → Value}
/-- The entries' values. -/
def encM (eK : K → Value) (eV : V → Value) (m : List (K × V)) : List (Value × Value) := m.map fun p => (eK p.1, eV p.2)
theorem encM_len (m : List (K × V)) : (encM eK eV m).length = m.length := by simp [encM]
theorem encM_get {m : List (K × V)} {i : Nat} {p : Value × Value} (h : (encM eK eV m)[i]? = some p) : ∃ q, m[i]? = some q ∧ p = (eK q.1, eV q.2) := by
  unfold encM at h
  rw [List.getElem?_map] at h
  cases hm : m[i]? with
  | none => rw [hm] at h; cases h
  | some q => rw [hm] at h; exact ⟨q, rfl, (Option.some.inj h).symm⟩
theorem encM_keys (m : List (K × V)) : (encM eK eV m).map (·.1) = (m.map (·.1)).map eK := by simp [encM]
theorem encM_nodup (hinj : ∀ a b, eK a = eK b → a = b) {m : List (K × V)} (h : (m.map (·.1)).Nodup) : ((encM eK eV m).map (·.1)).Nodup := by
  rw [encM_keys, List.nodup_iff_pairwise_ne, List.pairwise_map]
  exact List.Pairwise.imp (fun {a b} hab e => hab (hinj a b e)) (List.nodup_iff_pairwise_ne.1 h)
variable [DecidableEq K]
def lkM (m : List (K × V)) (k : K) : Option V := (m.find? fun p => p.1 = k).map (·.2)
def putM (m : List (K × V)) (k : K) (v : V) : List (K × V) := if k ∈ m.map (·.1) then m.map fun p => if p.1 = k then (k, v) else p else m ++ [(k, v)]
theorem lkV_enc (hinj : ∀ a b, eK a = eK b → a = b) (m : List (K × V)) (k : K) : lkV (encM eK eV m) (eK k) = (lkM m k).map eV := by
  unfold lkV lkM encM
  induction m with
  | nil => rfl
  | cons p m ih =>
    rw [List.map_cons, List.find?_cons, List.find?_cons]
    by_cases e : p.1 = k
    · subst e; simp
    · have : eK p.1 ≠ eK k := fun h => e (hinj _ _ h)
      simp only [this, e, decide_false]
      exact ih
theorem putV_enc (hinj : ∀ a b, eK a = eK b → a = b) (m : List (K × V)) (k : K) (v : V) : putV (encM eK eV m) (eK k) (eV v) = encM eK eV (putM m k v) := by
  unfold putV putM
  by_cases h : k ∈ m.map (·.1)
  · have h' : ∃ p ∈ encM eK eV m, p.1 = eK k := by
      obtain ⟨p, hp, rfl⟩ := List.mem_map.1 h
      exact ⟨_, List.mem_map.2 ⟨p, hp, rfl⟩, rfl⟩
    rw [if_pos h, if_pos h']
    unfold encM
    rw [List.map_map, List.map_map]
    refine List.map_congr_left fun p _ => ?_
    by_cases e : p.1 = k
    · subst e; simp
    · have : eK p.1 ≠ eK k := fun h => e (hinj _ _ h)
      simp [this, e]
  · have h' : ¬ ∃ p ∈ encM eK eV m, p.1 = eK k := fun ⟨p, hp, e⟩ => by
      obtain ⟨q, hq, rfl⟩ := List.mem_map.1 hp
      exact h (List.mem_map.2 ⟨q, hq, hinj _ _ e⟩)
    rw [if_neg h, if_neg h']
    unfold encM
    rw [List.map_append]; rfl
theorem putM_keys (m : List (K × V)) (k : K) (v : V) : (putM m k v).map (·.1) = if k ∈ m.map (·.1) then m.map (·.1) else m.map (·.1) ++ [k] := by
  unfold putM
  by_cases h : k ∈ m.map (·.1)
  · rw [if_pos h, if_pos h, List.map_map]
    refine List.map_congr_left fun p _ => ?_
    by_cases e : p.1 = k <;> simp [e]
  · rw [if_neg h, if_neg h, List.map_append]; rfl
theorem putM_nodup {m : List (K × V)} (hn : (m.map (·.1)).Nodup) (k : K) (v : V) : ((putM m k v).map (·.1)).Nodup := by
  rw [putM_keys]
  by_cases h : k ∈ m.map (·.1)
  · rw [if_pos h]; exact hn
  · rw [if_neg h]
    refine List.nodup_append.2 ⟨hn, by simp, fun a ha b hb e => h ?_⟩
    simp only [List.mem_singleton] at hb
    subst hb e
    exact ha
theorem putM_len (m : List (K × V)) (k : K) (v : V) : (putM m k v).length ≤ m.length + 1 := by
  unfold putM
  split <;> simp
theorem lkM_put (m : List (K × V)) (k k' : K) (v : V) : lkM (putM m k v) k' = if k' = k then some v else lkM m k' := by
  unfold lkM putM
  by_cases h : k ∈ m.map (·.1)
  · rw [if_pos h]
    induction m with
    | nil => simp at h
    | cons p m ih =>
      rw [List.map_cons, List.find?_cons, List.find?_cons]
      by_cases e : p.1 = k
      · by_cases e' : k' = k
        · subst e'; simp [e]
        · have h1 : ¬ k = k' := fun h => e' h.symm
          have h2 : ¬ p.1 = k' := fun h => e' (h.symm.trans e)
          simp only [e, if_true, h1, h2, e', decide_false, if_false]
          by_cases hm : k ∈ m.map (·.1)
          · have := ih hm
            rw [if_neg e'] at this
            exact this
          · have : (m.map fun p => if p.1 = k then (k, v) else p) = m := by
              refine (List.map_congr_left fun q hq => ?_).trans (List.map_id _)
              have : q.1 ≠ k := fun h => hm (List.mem_map.2 ⟨q, hq, h⟩)
              simp [this]
            rw [this]
      · have hm : k ∈ m.map (·.1) := by
          rcases List.mem_cons.1 (by simpa using h : k ∈ p.1 :: m.map (·.1)) with h | h
          · exact absurd h.symm e
          · exact h
        simp only [e, if_false]
        by_cases e2 : p.1 = k'
        · have h1 : ¬ k' = k := fun h => e (e2.trans h)
          simp [e2, h1]
        · simp only [e2, decide_false]
          exact ih hm
  · rw [if_neg h, List.find?_append]
    by_cases e : k' = k
    · subst e
      have : m.find? (fun p => decide (p.1 = k')) = none := List.find?_eq_none.2 fun p hp => by
        have : p.1 ≠ k' := fun h' => h (List.mem_map.2 ⟨p, hp, h'⟩)
        simpa using this
      rw [this, if_pos rfl]
      simp
    · rw [if_neg e]
      have h1 : ¬ k = k' := fun h => e h.symm
      cases hf : m.find? (fun p => decide (p.1 = k')) <;> simp [h1]
theorem lkM_get {m : List (K × V)} (hn : (m.map (·.1)).Nodup) {i : Nat} {p : K × V} (h : m[i]? = some p) : lkM m p.1 = some p.2 := by
  unfold lkM
  cases hf : m.find? fun q => decide (q.1 = p.1) with
  | none =>
    have := List.find?_eq_none.1 hf p (List.mem_of_getElem? h)
    simp at this
  | some q =>
    have h1 : q.1 = p.1 := by simpa using List.find?_some hf
    obtain ⟨j, hj, e⟩ := List.getElem_of_mem (List.mem_of_find?_eq_some hf)
    have hp := List.pairwise_iff_getElem.1 hn
    obtain ⟨hi, e2⟩ := List.getElem?_eq_some_iff.1 h
    have : i = j := by
      rcases Nat.lt_trichotomy i j with hl | hl | hl
      · exact absurd (show (m.map (·.1))[i]'(by simpa using hi) = (m.map (·.1))[j]'(by simpa using hj) by simp [e, e2, h1]) (hp i j _ _ hl)
      · exact hl
      · exact absurd (show (m.map (·.1))[j]'(by simpa using hj) = (m.map (·.1))[i]'(by simpa using hi) by simp [e, e2, h1]) (hp j i _ _ hl)
    subst this
    rw [e2] at e
    subst e; rfl
theorem lkM_mem {m : List (K × V)} {k : K} {v : V} (h : lkM m k = some v) : (k, v) ∈ m := by
  unfold lkM at h
  cases hf : m.find? fun q => decide (q.1 = k) with
  | none => rw [hf] at h; cases h
  | some q =>
    rw [hf] at h
    have h1 : q.1 = k := by simpa using List.find?_some hf
    have h2 : q.2 = v := Option.some.inj h
    subst h1 h2
    exact List.mem_of_find?_eq_some hf
theorem lkM_isSome (m : List (K × V)) (k : K) : (lkM m k).isSome = true ↔ k ∈ m.map (·.1) := by
  unfold lkM
  constructor
  · intro h
    rw [Option.isSome_map] at h
    obtain ⟨q, hq⟩ := Option.isSome_iff_exists.1 h
    have h1 : q.1 = k := by simpa using List.find?_some hq
    exact List.mem_map.2 ⟨q, List.mem_of_find?_eq_some hq, h1⟩
  · intro h
    obtain ⟨q, hq, e⟩ := List.mem_map.1 h
    rw [Option.isSome_map, List.find?_isSome]
    exact ⟨q, hq, by simpa using e⟩
end
end Go.Proofs.Ythijakignhjmgaa
