/- slices.SortFunc over a row of states of the caller's. -/
import Derived.Test.YthijakignhjmgaaTD
import Derived.Test.YthijakignhjmgaaGE
namespace Go.Proofs.Ythijakignhjmgaa
open Go Go.Shelf Go.RowKit SL
open Go.Sort (flatK HoldsK size_flatK)
def rowSt (d : Array StB) : List Value := (flatK encS 8 d).toList
theorem rowSt_len (d : Array StB) : (rowSt d).length = d.size * 8 := by unfold rowSt; simp
theorem sortT_gives {B : Nat} {w0 : World} {H2 : Hp} {v : Value} (d : Array StB) (hsz : d.size < 4611686018427387904) (hpos : 0 < d.size ∨ v ≠ .slice none 0 0) :
    GivesE Try.prog 150 #[v, .func (.func 151) #[] #[]] B w0 (.row v 115 8 (rowSt d) :: H2)
      (fun v' H' => v' = .tuple #[] ∧ ∃ d' : Array StB, Go.Sort.PermIn 0 d.size d d' ∧ Go.Sort.SortedIn (Go.Proofs.ltOf cfS) 0 d.size d' ∧ H' = .row v 115 8 (rowSt d') :: H2) := by
  unfold GivesE
  intro w hw
  obtain ⟨m, hown⟩ := hw.row_slice (v := v) (e := 115) (sz := 8) (xs := rowSt d) m0
  have hm : m = d.size := by
    have := hown.1
    rw [rowSt_len] at this
    omega
  subst hm
  rcases hown.2 with ⟨rfl, h0⟩ | ⟨gg, cap, cur, rfl, hB, hg, hnc, hcm, hcs, htake⟩
  · rcases hpos with h | h
    · omega
    · exact absurd rfl h
  · have hblk : gg < w.heap.size := (Array.getElem?_eq_some_iff.1 hg).1
    have hcell : ∀ j, j < d.size * 8 → w.cell? ⟨gg, 0 + j, none⟩ = (rowSt d)[j]? := fun j hj => by
      rw [← htake, List.getElem?_take_of_lt hj]
      simp [World.cell?, hg]
    have hH : HoldsK encS 8 w gg 0 d := fun j hj => by
      rw [size_flatK] at hj
      refine ⟨?_, ?_⟩
      · rw [hcell j hj]
        unfold rowSt
        rw [Array.getElem?_toList, Array.getElem?_eq_getElem (by simpa using hj), getElem!_pos _ j (by simpa using hj)]
        rfl
      · simp [World.frozen?, hg]
    have hcon := AnyQ.slices_SortFunc sortLaysT 8 (fun w => by kernel_rfl) (fun w => by kernel_rfl) encS encS_len encS_one cfS swoT 151 #[] gg 0 cap d w (enters_of Try.func151 (by kernel_rfl) rfl) (cmpLaysT gg 0 d.size w) hH hblk hsz
    refine Calls.mono hcon ?_
    rintro e w' ⟨rfl, d', n, os, hp, hs, rfl⟩
    refine ⟨_, _, rfl, ⟨rfl, d', hp, hs, rfl⟩, ?_⟩
    have hs' : d'.size = d.size := hp.1
    have hg' : (Go.Proofs.sortWorldK encS 8 w gg 0 n d' os).heap[gg]? = some (Obj.cells (Go.Sort.putCells id 0 (flatK encS 8 d') cur) 115 (0, 0)) := by
      simp only [Go.Proofs.sortWorldK, Go.Sort.grow, Go.Sort.putRowK, Go.Sort.putRow, Go.Sort.mapBlock, Go.Sort.ahead]
      rw [Array.getElem?_append_left (by simpa using hblk), Array.getElem?_modify, if_pos rfl, hg]
      rfl
    refine Holds.swap (H1 := []) hw rfl rfl rfl ?_ ?_ ?_ ⟨d.size, ?_, .inr ⟨gg, cap, _, rfl, hB, hg', hnc, hcm, ?_, ?_⟩⟩ (fun k hk => .inl hk)
    · simp [Go.Proofs.sortWorldK, Go.Sort.grow, Go.Sort.putRowK, Go.Sort.putRow, Go.Sort.mapBlock, Go.Sort.ahead]
    · simp [Go.Proofs.sortWorldK, Go.Sort.grow, Go.Sort.putRowK, Go.Sort.putRow, Go.Sort.mapBlock, Go.Sort.ahead]
    · intro k hk hne
      have hne' : gg ≠ k := fun e => hne (by rw [e]; rfl)
      simp only [Go.Proofs.sortWorldK, Go.Sort.grow, Go.Sort.putRowK, Go.Sort.putRow, Go.Sort.mapBlock, Go.Sort.ahead]
      rw [Array.getElem?_append_left (by simpa using hk), Array.getElem?_modify, if_neg hne']
    · rw [rowSt_len, hs']
    · simp [Go.Sort.putCells, hcs]
    · refine List.ext_getElem? fun j => ?_
      have hcap : d.size * 8 ≤ cap * 8 := Nat.mul_le_mul_right _ hnc
      by_cases hj : j < d.size * 8
      · rw [List.getElem?_take_of_lt hj]
        unfold rowSt
        rw [Array.getElem?_toList, Array.getElem?_toList, Array.getElem?_eq_getElem (by simp [Go.Sort.putCells]; omega), Array.getElem?_eq_getElem (by simp; omega)]
        simp only [Go.Sort.putCells, Array.getElem_mapIdx, id]
        rw [if_pos (by simp; omega), getElem!_pos _ _ (by simp; omega)]
        rfl
      · rw [List.getElem?_eq_none (by simp [Go.Sort.putCells]; omega), List.getElem?_eq_none (by rw [rowSt_len]; omega)]
theorem rowSt_flat (d : Array StB) : rowSt d = d.toList.flatMap encS := by
  refine List.ext_getElem? fun t => ?_
  by_cases ht : t < d.size * 8
  · have hq : t / 8 < d.size := by omega
    have hm : t % 8 < (encS d[t / 8]!).length := by rw [encS_len]; omega
    have e : d.toList[t / 8]? = some d[t / 8]! := by
      rw [getElem!_pos d (t / 8) hq, List.getElem?_eq_getElem (by simpa using hq)]; rfl
    have h1 := fl_cell encS_len e (List.getElem?_eq_getElem hm)
    rw [show t / 8 * 8 + t % 8 = t by omega] at h1
    rw [h1]
    unfold rowSt
    rw [Array.getElem?_toList, Array.getElem?_eq_getElem (by simpa using ht)]
    simp only [flatK, Array.getElem_map, Array.getElem_range]
    rw [getElem!_pos (encS d[t / 8]!) _ hm]
  · rw [List.getElem?_eq_none (by rw [rowSt_len]; omega), List.getElem?_eq_none (by rw [fl_len encS_len]; simpa using ht)]
end Go.Proofs.Ythijakignhjmgaa
