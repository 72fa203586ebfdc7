/- Plain laws: what a sort leaves; the canonical grids among pairs of states. -/
import Derived.Test.YthijakignhjmgaaSG
import Derived.Test.YthijakignhjmgaaSP
import Derived.Test.YthijakignhjmgaaFP
import Derived.Sort.Statements
namespace Go.Proofs.Ythijakignhjmgaa
/-- What a sort leaves, where the list has nothing twice and the numbers tell its members apart. -/
theorem sorted_asc {α : Type} [Inhabited α] {rk : α → Int} {cf : α → α → Int} (hcf : ∀ x y, cf x y < 0 ↔ rk x < rk y) (hinj : ∀ x y, rk x = rk y → x = y) {d d' : Array α} (hp : Go.Sort.PermIn 0 d.size d d') (hs : Go.Sort.SortedIn (Go.Proofs.ltOf cf) 0 d.size d') (hn : d.toList.Nodup) :
    Asc rk d'.toList ∧ (∀ x, x ∈ d'.toList ↔ x ∈ d.toList) ∧ d'.toList.length = d.toList.length := by
  have hsz := hp.1
  have hperm : d'.toList.Perm d.toList := by
    have := hp.2.2
    rwa [← hsz, Array.extract_size, hsz, Array.extract_size] at this
  refine ⟨asc_of_sorted ?_ (hperm.nodup_iff.2 hn) (fun x _ y _ => hinj x y), fun x => hperm.mem_iff, hperm.length_eq⟩
  refine List.pairwise_iff_getElem.2 fun i j hi hj hij => ?_
  have h := hs i j (Nat.zero_le _) hij (by simpa [hsz] using hj)
  rw [getElem!_pos d' j (by simpa using hj), getElem!_pos d' i (by simpa using hi)] at h
  unfold Go.Proofs.ltOf at h
  rw [decide_eq_false_iff_not, hcf] at h
  simpa using h
theorem cfG_rk (x y : GridB) : cfG x y < 0 ↔ rkG x < rkG y := by
  have h1 := key_bd x.2.2
  have h2 := key_bd y.2.2
  rw [cfG_lt, rkG_lt, keyG_eq x.2.2.1, keyG_eq y.2.2.1]
  omega
/-- The pairs as grids. -/
def gridsOf (n : Nat) (l : List (List Nat × List Nat)) (h : ∀ p ∈ l, isB p.1 ∧ isB p.2) : List GridB := l.pmap (fun p hp => ⟨((n : Int), p.1, p.2), hp⟩) h
theorem gridsOf_enc {n : Nat} : ∀ {l : List (List Nat × List Nat)} (h : ∀ p ∈ l, isB p.1 ∧ isB p.2), (gridsOf n l h).flatMap encG = cellsP n l
  | [], _ => rfl
  | p :: l, h => by
    unfold gridsOf cellsP
    rw [List.pmap_cons, List.flatMap_cons, List.flatMap_cons]
    congr 1
    exact gridsOf_enc (n := n) (l := l) fun q hq => h q (List.mem_cons_of_mem _ hq)
theorem gridsOf_mem {n : Nat} {l : List (List Nat × List Nat)} (h : ∀ p ∈ l, isB p.1 ∧ isB p.2) (y : GridB) : y ∈ gridsOf n l h ↔ y.1.1 = (n : Int) ∧ y.1.2 ∈ l := by
  unfold gridsOf
  rw [List.mem_pmap]
  constructor
  · rintro ⟨p, hp, rfl⟩
    exact ⟨rfl, hp⟩
  · rintro ⟨h1, h2⟩
    refine ⟨y.1.2, h2, ?_⟩
    obtain ⟨⟨m, Y, U⟩, hy⟩ := y
    dsimp only at h1
    subst h1
    rfl
theorem gridsOf_nodup {n : Nat} {l : List (List Nat × List Nat)} (h : ∀ p ∈ l, isB p.1 ∧ isB p.2) (hn : l.Nodup) : (gridsOf n l h).Nodup := by
  unfold gridsOf
  induction l with
  | nil => exact List.nodup_nil
  | cons p l ih =>
    rw [List.pmap_cons, List.nodup_cons]
    obtain ⟨h1, h2⟩ := List.nodup_cons.1 hn
    refine ⟨fun hm => ?_, ih (fun q hq => h q (List.mem_cons_of_mem _ hq)) h2⟩
    obtain ⟨q, hq, e⟩ := List.mem_pmap.1 hm
    have e' : q = p := congrArg (fun y : GridB => y.1.2) e
    subst e'
    exact h1 hq
theorem selJ_mem {n : Nat} {L : List (List Nat)} {x : List Nat} {p : List Nat × List Nat} : p ∈ selJ n L x L.length ↔ p.1 = x ∧ p.2 ∈ L ∧ sel n x p.2 = true := by
  unfold selJ
  rw [List.take_length, List.mem_map]
  constructor
  · rintro ⟨o, ho, rfl⟩
    obtain ⟨h1, h2⟩ := List.mem_filter.1 ho
    exact ⟨rfl, h1, h2⟩
  · rintro ⟨rfl, h1, h2⟩
    exact ⟨p.2, List.mem_filter.2 ⟨h1, h2⟩, rfl⟩
theorem selI_mem {n : Nat} {L : List (List Nat)} {p : List Nat × List Nat} : p ∈ selI n L L.length ↔ p.1 ∈ L ∧ p.2 ∈ L ∧ sel n p.1 p.2 = true := by
  unfold selI
  rw [List.take_length, List.mem_flatMap]
  constructor
  · rintro ⟨x, hx, hp⟩
    obtain ⟨rfl, h1, h2⟩ := selJ_mem.1 hp
    exact ⟨hx, h1, h2⟩
  · rintro ⟨h1, h2, h3⟩
    exact ⟨p.1, h1, selJ_mem.2 ⟨rfl, h2, h3⟩⟩
theorem selI_nodup {n : Nat} {L : List (List Nat)} (hn : L.Nodup) : (selI n L L.length).Nodup := by
  unfold selI
  rw [List.take_length]
  have hJ : ∀ x, (selJ n L x L.length).Nodup := fun x => by
    unfold selJ
    rw [List.take_length]
    refine List.Pairwise.map _ (fun a b hab e => hab ?_) (List.Pairwise.filter _ hn)
    exact congrArg Prod.snd e
  have key : ∀ M : List (List Nat), M.Nodup → (M.flatMap fun x => selJ n L x L.length).Nodup := by
    intro M hM
    induction M with
    | nil => exact List.nodup_nil
    | cons x M ih =>
      obtain ⟨h1, h2⟩ := List.nodup_cons.1 hM
      rw [List.flatMap_cons]
      refine List.nodup_append.2 ⟨hJ x, ih h2, fun p hp q hq e => ?_⟩
      subst e
      obtain ⟨z, hz, hq⟩ := List.mem_flatMap.1 hq
      have e1 := (selJ_mem.1 hp).1
      have e2 := (selJ_mem.1 hq).1
      exact h1 (by rw [← e1, e2]; exact hz)
  exact key L hn
open Classical in
theorem sel_iff {n : Nat} {x o : List Nat} : sel n x o = true ↔ okG (n : Int) x o ∧ can n (x, o) = (x, o) := by
  unfold sel
  simp only [decide_eq_true_eq]
/-- The canonical grids, out of all pairs of states. -/
theorem sel_all {n : Nat} (h8 : n ≤ 8) {y : GridB} : (y.1.1 = (n : Int) ∧ y.1.2 ∈ selI n (sts n) (sts n).length) ↔ canP n y := by
  rw [selI_mem, sts_mem h8, sts_mem h8]
  rw [sel_iff]
  unfold canP
  constructor
  · rintro ⟨h1, _, _, h2, h3⟩
    exact ⟨h1, h2, h3⟩
  · rintro ⟨h1, h2, h3⟩
    have pX := h2.2.1
    have pO := h2.2.2.1
    simp only [Int.toNat_natCast] at pX pO
    exact ⟨h1, ⟨pX, y.2.1.1⟩, ⟨pO, y.2.2.1⟩, h2, h3⟩
theorem selI_len {n : Nat} {L : List (List Nat)} : (selI n L L.length).length ≤ L.length * L.length := by
  unfold selI
  rw [List.take_length, List.length_flatMap]
  have hJ : ∀ x, (selJ n L x L.length).length ≤ L.length := fun x => by
    unfold selJ
    rw [List.take_length, List.length_map]
    exact List.length_filter_le _ _
  have key : ∀ M : List (List Nat), (M.map fun x => (selJ n L x L.length).length).sum ≤ M.length * L.length := by
    intro M
    induction M with
    | nil => simp
    | cons x M ih =>
      rw [List.map_cons, List.sum_cons, List.length_cons, Nat.add_mul, Nat.one_mul]
      have := hJ x
      omega
  exact key L
end Go.Proofs.Ythijakignhjmgaa
