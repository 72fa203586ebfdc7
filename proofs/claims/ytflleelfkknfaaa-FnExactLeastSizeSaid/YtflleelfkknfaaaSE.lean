/- slices.SortFunc over a row of grids of the caller's. -/
import Derived.Test.YtflleelfkknfaaaSD
import Derived.Test.YtflleelfkknfaaaGE
namespace Go.Proofs.Ytflleelfkknfaaa
open Go Go.Shelf Go.RowKit SL
open Go.Sort (flatK HoldsK size_flatK)
def rowG (d : Array GridB) : List Value := (flatK encG 17 d).toList
theorem rowG_len (d : Array GridB) : (rowG d).length = d.size * 17 := by unfold rowG; simp
theorem sort_gives {B : Nat} {w0 : World} {H2 : Hp} {v : Value} (d : Array GridB) (hsz : d.size < 4611686018427387904) (hpos : 0 < d.size ∨ v ≠ .slice none 0 0) :
    GivesE Try.prog 37 #[v, .func (.func 38) #[] #[]] B w0 (.row v 27 17 (rowG d) :: H2)
      (fun v' H' => v' = .tuple #[] ∧ ∃ d' : Array GridB, Go.Sort.PermIn 0 d.size d d' ∧ Go.Sort.SortedIn (Go.Proofs.ltOf cfG) 0 d.size d' ∧ H' = .row v 27 17 (rowG d') :: H2) := by
  unfold GivesE
  intro w hw
  obtain ⟨m, hown⟩ := hw.row_slice (v := v) (e := 27) (sz := 17) (xs := rowG d) m0
  have hm : m = d.size := by
    have := hown.1
    rw [rowG_len] at this
    omega
  subst hm
  rcases hown.2 with ⟨rfl, h0⟩ | ⟨gg, cap, cur, rfl, hB, hg, hnc, hcm, hcs, htake⟩
  · rcases hpos with h | h
    · omega
    · exact absurd rfl h
  · have hblk : gg < w.heap.size := (Array.getElem?_eq_some_iff.1 hg).1
    have hcell : ∀ j, j < d.size * 17 → w.cell? ⟨gg, 0 + j, none⟩ = (rowG d)[j]? := fun j hj => by
      rw [← htake, List.getElem?_take_of_lt hj]
      simp [World.cell?, hg]
    have hH : HoldsK encG 17 w gg 0 d := fun j hj => by
      rw [size_flatK] at hj
      refine ⟨?_, ?_⟩
      · rw [hcell j hj]
        unfold rowG
        rw [Array.getElem?_toList, Array.getElem?_eq_getElem (by simpa using hj), getElem!_pos _ j (by simpa using hj)]
        rfl
      · simp [World.frozen?, hg]
    have hcon := AnyQ.slices_SortFunc sortLays 17 (fun w => by kernel_rfl) (fun w => by kernel_rfl) encG encG_len (fun x u hu => gv_one _ _ _ u hu) cfG swoG 38 #[] gg 0 cap d w (enters_of Try.func38 (by kernel_rfl) rfl) (cmpLaysG gg 0 d.size w) hH hblk hsz
    refine Calls.mono hcon ?_
    rintro e w' ⟨rfl, d', n, os, hp, hs, rfl⟩
    refine ⟨_, _, rfl, ⟨rfl, d', hp, hs, rfl⟩, ?_⟩
    have hs' : d'.size = d.size := hp.1
    have hg' : (Go.Proofs.sortWorldK encG 17 w gg 0 n d' os).heap[gg]? = some (Obj.cells (Go.Sort.putCells id 0 (flatK encG 17 d') cur) 27 (0, 0)) := by
      simp only [Go.Proofs.sortWorldK, Go.Sort.grow, Go.Sort.putRowK, Go.Sort.putRow, Go.Sort.mapBlock, Go.Sort.ahead]
      rw [Array.getElem?_append_left (by simpa using hblk), Array.getElem?_modify, if_pos rfl, hg]
      rfl
    refine Holds.swap (H1 := []) hw rfl rfl rfl ?_ ?_ ?_ ⟨d.size, ?_, .inr ⟨gg, cap, _, rfl, hB, hg', hnc, hcm, ?_, ?_⟩⟩ (fun k hk => .inl hk)
    · simp [Go.Proofs.sortWorldK, Go.Sort.grow, Go.Sort.putRowK, Go.Sort.putRow, Go.Sort.mapBlock, Go.Sort.ahead]
    · simp [Go.Proofs.sortWorldK, Go.Sort.grow, Go.Sort.putRowK, Go.Sort.putRow, Go.Sort.mapBlock, Go.Sort.ahead]
    · intro k hk hne
      have hne' : gg ≠ k := fun e => hne (by rw [e]; rfl)
      simp only [Go.Proofs.sortWorldK, Go.Sort.grow, Go.Sort.putRowK, Go.Sort.putRow, Go.Sort.mapBlock, Go.Sort.ahead]
      rw [Array.getElem?_append_left (by simpa using hk), Array.getElem?_modify, if_neg hne']
    · rw [rowG_len, hs']
    · simp [Go.Sort.putCells, hcs]
    · refine List.ext_getElem? fun j => ?_
      have hcap : d.size * 17 ≤ cap * 17 := Nat.mul_le_mul_right _ hnc
      by_cases hj : j < d.size * 17
      · rw [List.getElem?_take_of_lt hj]
        unfold rowG
        rw [Array.getElem?_toList, Array.getElem?_toList, Array.getElem?_eq_getElem (by simp [Go.Sort.putCells]; omega), Array.getElem?_eq_getElem (by simp; omega)]
        simp only [Go.Sort.putCells, Array.getElem_mapIdx, id]
        rw [if_pos (by simp; omega), getElem!_pos _ _ (by simp; omega)]
        rfl
      · rw [List.getElem?_eq_none (by simp [Go.Sort.putCells]; omega), List.getElem?_eq_none (by rw [rowG_len]; omega)]
/-- The cells of a list of grids, one after the other. -/
theorem rowG_flat (d : Array GridB) : rowG d = d.toList.flatMap encG := by
  refine List.ext_getElem? fun t => ?_
  by_cases ht : t < d.size * 17
  · have hq : t / 17 < d.size := by omega
    rw [flat_get _ _ (by simpa using ht)]
    unfold rowG
    rw [Array.getElem?_toList, Array.getElem?_eq_getElem (by simpa using ht)]
    have hm : t % 17 < (encG d[t / 17]!).length := by rw [encG_len]; omega
    have e : d.toList.getD (t / 17) default = d[t / 17]! := by
      rw [getElem!_pos d (t / 17) hq, List.getD_eq_getElem?_getD, List.getElem?_eq_getElem (by simpa using hq)]; rfl
    rw [e, List.getElem?_eq_getElem hm]
    simp only [flatK, Array.getElem_map, Array.getElem_range]
    rw [getElem!_pos (encG d[t / 17]!) _ hm]
  · rw [List.getElem?_eq_none (by rw [rowG_len]; omega), List.getElem?_eq_none (by rw [flat_len]; simpa using ht)]
end Go.Proofs.Ytflleelfkknfaaa
