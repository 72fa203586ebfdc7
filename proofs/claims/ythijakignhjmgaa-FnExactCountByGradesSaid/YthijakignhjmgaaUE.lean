/- slices.SortFunc over a row of grades of the caller's. -/
import Derived.Test.YthijakignhjmgaaUD
import Derived.Test.YthijakignhjmgaaGE
namespace Go.Proofs.Ythijakignhjmgaa
open Go Go.Shelf Go.RowKit SL
open Go.Sort (flatK HoldsK size_flatK)
def rowGr (d : Array GrB) : List Value := (flatK encGr 2 d).toList
theorem rowGr_len (d : Array GrB) : (rowGr d).length = d.size * 2 := by unfold rowGr; simp
theorem sortU_gives {B : Nat} {w0 : World} {H2 : Hp} {v : Value} (d : Array GrB) (hsz : d.size < 4611686018427387904) (hpos : 0 < d.size ∨ v ≠ .slice none 0 0) :
    GivesE Try.prog 162 #[v, .func (.func 112) #[] #[]] B w0 (.row v 135 2 (rowGr d) :: H2)
      (fun v' H' => v' = .tuple #[] ∧ ∃ d' : Array GrB, Go.Sort.PermIn 0 d.size d d' ∧ Go.Sort.SortedIn (Go.Proofs.ltOf cfGr) 0 d.size d' ∧ H' = .row v 135 2 (rowGr d') :: H2) := by
  unfold GivesE
  intro w hw
  obtain ⟨m, hown⟩ := hw.row_slice (v := v) (e := 135) (sz := 2) (xs := rowGr d) m0
  have hm : m = d.size := by
    have := hown.1
    rw [rowGr_len] at this
    omega
  subst hm
  rcases hown.2 with ⟨rfl, h0⟩ | ⟨gg, cap, cur, rfl, hB, hg, hnc, hcm, hcs, htake⟩
  · rcases hpos with h | h
    · omega
    · exact absurd rfl h
  · have hblk : gg < w.heap.size := (Array.getElem?_eq_some_iff.1 hg).1
    have hcell : ∀ j, j < d.size * 2 → w.cell? ⟨gg, 0 + j, none⟩ = (rowGr d)[j]? := fun j hj => by
      rw [← htake, List.getElem?_take_of_lt hj]
      simp [World.cell?, hg]
    have hH : HoldsK encGr 2 w gg 0 d := fun j hj => by
      rw [size_flatK] at hj
      refine ⟨?_, ?_⟩
      · rw [hcell j hj]
        unfold rowGr
        rw [Array.getElem?_toList, Array.getElem?_eq_getElem (by simpa using hj), getElem!_pos _ j (by simpa using hj)]
        rfl
      · simp [World.frozen?, hg]
    have hcon := AnyQ.slices_SortFunc sortLaysU 2 (fun w => by kernel_rfl) (fun w => by kernel_rfl) encGr encGr_len encGr_one cfGr swoU 112 #[] gg 0 cap d w (enters_of Try.func112 (by kernel_rfl) rfl) (cmpLaysU gg 0 d.size w) hH hblk hsz
    refine Calls.mono hcon ?_
    rintro e w' ⟨rfl, d', n, os, hp, hs, rfl⟩
    refine ⟨_, _, rfl, ⟨rfl, d', hp, hs, rfl⟩, ?_⟩
    have hs' : d'.size = d.size := hp.1
    have hg' : (Go.Proofs.sortWorldK encGr 2 w gg 0 n d' os).heap[gg]? = some (Obj.cells (Go.Sort.putCells id 0 (flatK encGr 2 d') cur) 135 (0, 0)) := by
      simp only [Go.Proofs.sortWorldK, Go.Sort.grow, Go.Sort.putRowK, Go.Sort.putRow, Go.Sort.mapBlock, Go.Sort.ahead]
      rw [Array.getElem?_append_left (by simpa using hblk), Array.getElem?_modify, if_pos rfl, hg]
      rfl
    refine Holds.swap (H1 := []) hw rfl rfl rfl ?_ ?_ ?_ ⟨d.size, ?_, .inr ⟨gg, cap, _, rfl, hB, hg', hnc, hcm, ?_, ?_⟩⟩ (fun k hk => .inl hk)
    · simp [Go.Proofs.sortWorldK, Go.Sort.grow, Go.Sort.putRowK, Go.Sort.putRow, Go.Sort.mapBlock, Go.Sort.ahead]
    · simp [Go.Proofs.sortWorldK, Go.Sort.grow, Go.Sort.putRowK, Go.Sort.putRow, Go.Sort.mapBlock, Go.Sort.ahead]
    · intro k hk hne
      have hne' : gg ≠ k := fun e => hne (by rw [e]; rfl)
      simp only [Go.Proofs.sortWorldK, Go.Sort.grow, Go.Sort.putRowK, Go.Sort.putRow, Go.Sort.mapBlock, Go.Sort.ahead]
      rw [Array.getElem?_append_left (by simpa using hk), Array.getElem?_modify, if_neg hne']
    · rw [rowGr_len, hs']
    · simp [Go.Sort.putCells, hcs]
    · refine List.ext_getElem? fun j => ?_
      have hcap : d.size * 2 ≤ cap * 2 := Nat.mul_le_mul_right _ hnc
      by_cases hj : j < d.size * 2
      · rw [List.getElem?_take_of_lt hj]
        unfold rowGr
        rw [Array.getElem?_toList, Array.getElem?_toList, Array.getElem?_eq_getElem (by simp [Go.Sort.putCells]; omega), Array.getElem?_eq_getElem (by simp; omega)]
        simp only [Go.Sort.putCells, Array.getElem_mapIdx, id]
        rw [if_pos (by simp; omega), getElem!_pos _ _ (by simp; omega)]
        rfl
      · rw [List.getElem?_eq_none (by simp [Go.Sort.putCells]; omega), List.getElem?_eq_none (by rw [rowGr_len]; omega)]
theorem rowGr_flat (d : Array GrB) : rowGr d = d.toList.flatMap encGr := by
  refine List.ext_getElem? fun t => ?_
  by_cases ht : t < d.size * 2
  · have hq : t / 2 < d.size := by omega
    have hm : t % 2 < (encGr d[t / 2]!).length := by rw [encGr_len]; omega
    have e : d.toList[t / 2]? = some d[t / 2]! := by
      rw [getElem!_pos d (t / 2) hq, List.getElem?_eq_getElem (by simpa using hq)]; rfl
    have h1 := fl_cell encGr_len e (List.getElem?_eq_getElem hm)
    rw [show t / 2 * 2 + t % 2 = t by omega] at h1
    rw [h1]
    unfold rowGr
    rw [Array.getElem?_toList, Array.getElem?_eq_getElem (by simpa using ht)]
    simp only [flatK, Array.getElem_map, Array.getElem_range]
    rw [getElem!_pos (encGr d[t / 2]!) _ hm]
  · rw [List.getElem?_eq_none (by rw [rowGr_len]; omega), List.getElem?_eq_none (by rw [fl_len encGr_len]; simpa using ht)]
end Go.Proofs.Ythijakignhjmgaa
