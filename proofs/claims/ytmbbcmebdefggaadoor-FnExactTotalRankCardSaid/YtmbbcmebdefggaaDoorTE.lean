/- slices.SortFunc at lists of states lies in this program as the library's text says. slices.SortFunc over a row of states of the caller's. -/
import Derived.Test.YtmbbcmebdefggaaDoorTC
import Derived.Test.YtmbbcmebdefggaaDoorGE
namespace Go.Proofs.YtmbbcmebdefggaaDoor
open Go Go.Shelf Go.RowKit
def sortRenT : Go.Shelf.Ren := ⟨fun | 6 => 72 | 14 => 82 | 15 => 83 | 20 => 87 | 21 => 88 | 22 => 89 | 23 => 90 | 24 => 91 | 25 => 92 | 26 => 93 | 27 => 94 | 28 => 95 | 29 => 96 | 46 => 99 | 47 => 100 | 48 => 101 | 49 => 102 | 50 => 103 | 57 => 104 | n => n, fun | 0 => 0 | 3 => 3 | 4 => 4 | 5 => 5 | 9 => 9 | 22 => 31 | 24 => 43 | 25 => 107 | 39 => 122 | 45 => 128 | 46 => 129 | 50 => 96 | 53 => 135 | 55 => 58 | 66 => 138 | 70 => 142 | 76 => 144 | 77 => 145 | n => n, fun n => n⟩
theorem sortLaysT : SlLaysF0.n6 Tryd.prog sortRenT := {
  mixed := by kernel_rfl,
  f6 := ⟨Tryd.f72.name, by decide, Tryd.func72.trans (congrArg some (by kernel_rfl))⟩,
  f14 := ⟨Tryd.f82.name, by decide, Tryd.func82.trans (congrArg some (by kernel_rfl))⟩,
  f15 := Tryd.func83.trans (congrArg some (by kernel_rfl)),
  f20 := ⟨Tryd.f87.name, by decide, Tryd.func87.trans (congrArg some (by kernel_rfl))⟩,
  f21 := ⟨Tryd.f88.name, by decide, Tryd.func88.trans (congrArg some (by kernel_rfl))⟩,
  f22 := ⟨Tryd.f89.name, by decide, Tryd.func89.trans (congrArg some (by kernel_rfl))⟩,
  f23 := ⟨Tryd.f90.name, by decide, Tryd.func90.trans (congrArg some (by kernel_rfl))⟩,
  f24 := ⟨Tryd.f91.name, by decide, Tryd.func91.trans (congrArg some (by kernel_rfl))⟩,
  f25 := ⟨Tryd.f92.name, by decide, Tryd.func92.trans (congrArg some (by kernel_rfl))⟩,
  f26 := ⟨Tryd.f93.name, by decide, Tryd.func93.trans (congrArg some (by kernel_rfl))⟩,
  f27 := ⟨Tryd.f94.name, by decide, Tryd.func94.trans (congrArg some (by kernel_rfl))⟩,
  f28 := Tryd.func95.trans (congrArg some (by kernel_rfl)),
  f29 := Tryd.func96.trans (congrArg some (by kernel_rfl)),
  f46 := ⟨Tryd.f99.name, by decide, Tryd.func99.trans (congrArg some (by kernel_rfl))⟩,
  f47 := Tryd.func100.trans (congrArg some (by kernel_rfl)),
  f48 := Tryd.func101.trans (congrArg some (by kernel_rfl)),
  f49 := ⟨Tryd.f102.name, by decide, Tryd.func102.trans (congrArg some (by kernel_rfl))⟩,
  f50 := ⟨Tryd.f103.name, by decide, Tryd.func103.trans (congrArg some (by kernel_rfl))⟩,
  f57 := ⟨Tryd.f104.name, by decide, Tryd.func104.trans (congrArg some (by kernel_rfl))⟩,
  t0 := by kernel_rfl,
  a0 := fun w => by kernel_rfl,
  z0 := fun w => by kernel_rfl,
  v0 := fun w => by kernel_rfl,
  t3 := by kernel_rfl,
  a3 := fun w => by kernel_rfl,
  z3 := fun w => by kernel_rfl,
  v3 := fun w => by kernel_rfl,
  t4 := by kernel_rfl,
  a4 := fun w => by kernel_rfl,
  z4 := fun w => by kernel_rfl,
  v4 := fun w => by kernel_rfl,
  t5 := by kernel_rfl,
  a5 := fun w => by kernel_rfl,
  z5 := fun w => by kernel_rfl,
  v5 := fun w => by kernel_rfl,
  t9 := by kernel_rfl,
  a9 := fun w => by kernel_rfl,
  z9 := fun w => by kernel_rfl,
  v9 := fun w => by kernel_rfl,
  t22 := by kernel_rfl,
  a22 := fun w => by kernel_rfl,
  z22 := fun w => by kernel_rfl,
  v22 := fun w => by kernel_rfl,
  t25 := by kernel_rfl,
  a25 := fun w => by kernel_rfl,
  z25 := fun w => by kernel_rfl,
  v25 := fun w => by kernel_rfl,
  t39 := by kernel_rfl,
  a39 := fun w => by kernel_rfl,
  z39 := fun w => by kernel_rfl,
  v39 := fun w => by kernel_rfl,
  t45 := by kernel_rfl,
  a45 := fun w => by kernel_rfl,
  z45 := fun w => by kernel_rfl,
  v45 := fun w => by kernel_rfl,
  t46 := by kernel_rfl,
  a46 := fun w => by kernel_rfl,
  z46 := fun w => by kernel_rfl,
  v46 := fun w => by kernel_rfl,
  t50 := by kernel_rfl,
  a50 := fun w => by kernel_rfl,
  z50 := fun w => by kernel_rfl,
  v50 := fun w => by kernel_rfl,
  t53 := by kernel_rfl,
  a53 := fun w => by kernel_rfl,
  z53 := fun w => by kernel_rfl,
  v53 := fun w => by kernel_rfl,
  t55 := by kernel_rfl,
  a55 := fun w => by kernel_rfl,
  z55 := fun w => by kernel_rfl,
  v55 := fun w => by kernel_rfl,
  t66 := by kernel_rfl,
  a66 := fun w => by kernel_rfl,
  z66 := fun w => by kernel_rfl,
  v66 := fun w => by kernel_rfl,
  t70 := by kernel_rfl,
  a70 := fun w => by kernel_rfl,
  z70 := fun w => by kernel_rfl,
  v70 := fun w => by kernel_rfl,
  t76 := by kernel_rfl,
  a76 := fun w => by kernel_rfl,
  z76 := fun w => by kernel_rfl,
  v76 := fun w => by kernel_rfl,
  t77 := by kernel_rfl,
  a77 := fun w => by kernel_rfl,
  z77 := fun w => by kernel_rfl,
  v77 := fun w => by kernel_rfl }
end Go.Proofs.YtmbbcmebdefggaaDoor
namespace Go.Proofs.YtmbbcmebdefggaaDoor
open Go Go.Shelf Go.RowKit SL
open Go.Sort (flatK HoldsK size_flatK)
def rowSt (d : Array StB) : List Value := (flatK encS 8 d).toList
theorem rowSt_len (d : Array StB) : (rowSt d).length = d.size * 8 := by unfold rowSt; simp
theorem sortT_gives {B : Nat} {w0 : World} {H2 : Hp} {v : Value} (d : Array StB) (hsz : d.size < 4611686018427387904) (hpos : 0 < d.size ∨ v ≠ .slice none 0 0) :
    GivesE Tryd.prog 72 #[v, .func (.func 70) #[] #[]] B w0 (.row v 43 8 (rowSt d) :: H2)
      (fun v' H' => v' = .tuple #[] ∧ ∃ d' : Array StB, Go.Sort.PermIn 0 d.size d d' ∧ Go.Sort.SortedIn (Go.Proofs.ltOf cfS) 0 d.size d' ∧ H' = .row v 43 8 (rowSt d') :: H2) := by
  unfold GivesE
  intro w hw
  obtain ⟨m, hown⟩ := hw.row_slice (v := v) (e := 43) (sz := 8) (xs := rowSt d) m0
  have hm : m = d.size := by
    have := hown.1
    rw [rowSt_len] at this
    omega
  subst hm
  rcases hown.2 with ⟨rfl, h0⟩ | ⟨gg, cap, cur, rfl, hB, hg, hnc, hcm, hcs, htake⟩
  · rcases hpos with h | h
    · omega
    · exact absurd rfl h
  · have hblk : gg < w.heap.size := (Array.getElem?_eq_some_iff.1 hg).1
    have hcell : ∀ j, j < d.size * 8 → w.cell? ⟨gg, 0 + j, none⟩ = (rowSt d)[j]? := fun j hj => by
      rw [← htake, List.getElem?_take_of_lt hj]
      simp [World.cell?, hg]
    have hH : HoldsK encS 8 w gg 0 d := fun j hj => by
      rw [size_flatK] at hj
      refine ⟨?_, ?_⟩
      · rw [hcell j hj]
        unfold rowSt
        rw [Array.getElem?_toList, Array.getElem?_eq_getElem (by simpa using hj), getElem!_pos _ j (by simpa using hj)]
        rfl
      · simp [World.frozen?, hg]
    have hcon := AnyQ.slices_SortFunc sortLaysT 8 (fun w => by kernel_rfl) (fun w => by kernel_rfl) encS encS_len encS_one cfS swoT 70 #[] gg 0 cap d w (enters_of Tryd.func70 (by kernel_rfl) rfl) (cmpLaysT gg 0 d.size w) hH hblk hsz
    refine Calls.mono hcon ?_
    rintro e w' ⟨rfl, d', n, os, hp, hs, rfl⟩
    refine ⟨_, _, rfl, ⟨rfl, d', hp, hs, rfl⟩, ?_⟩
    have hs' : d'.size = d.size := hp.1
    have hg' : (Go.Proofs.sortWorldK encS 8 w gg 0 n d' os).heap[gg]? = some (Obj.cells (Go.Sort.putCells id 0 (flatK encS 8 d') cur) 43 (0, 0)) := by
      simp only [Go.Proofs.sortWorldK, Go.Sort.grow, Go.Sort.putRowK, Go.Sort.putRow, Go.Sort.mapBlock, Go.Sort.ahead]
      rw [Array.getElem?_append_left (by simpa using hblk), Array.getElem?_modify, if_pos rfl, hg]
      rfl
    refine Holds.swap (H1 := []) hw rfl rfl rfl ?_ ?_ ?_ ⟨d.size, ?_, .inr ⟨gg, cap, _, rfl, hB, hg', hnc, hcm, ?_, ?_⟩⟩ (fun k hk => .inl hk)
    · simp [Go.Proofs.sortWorldK, Go.Sort.grow, Go.Sort.putRowK, Go.Sort.putRow, Go.Sort.mapBlock, Go.Sort.ahead]
    · simp [Go.Proofs.sortWorldK, Go.Sort.grow, Go.Sort.putRowK, Go.Sort.putRow, Go.Sort.mapBlock, Go.Sort.ahead]
    · intro k hk hne
      have hne' : gg ≠ k := fun e => hne (by rw [e]; rfl)
      simp only [Go.Proofs.sortWorldK, Go.Sort.grow, Go.Sort.putRowK, Go.Sort.putRow, Go.Sort.mapBlock, Go.Sort.ahead]
      rw [Array.getElem?_append_left (by simpa using hk), Array.getElem?_modify, if_neg hne']
    · rw [rowSt_len, hs']
    · simp [Go.Sort.putCells, hcs]
    · refine List.ext_getElem? fun j => ?_
      have hcap : d.size * 8 ≤ cap * 8 := Nat.mul_le_mul_right _ hnc
      by_cases hj : j < d.size * 8
      · rw [List.getElem?_take_of_lt hj]
        unfold rowSt
        rw [Array.getElem?_toList, Array.getElem?_toList, Array.getElem?_eq_getElem (by simp [Go.Sort.putCells]; omega), Array.getElem?_eq_getElem (by simp; omega)]
        simp only [Go.Sort.putCells, Array.getElem_mapIdx, id]
        rw [if_pos (by simp; omega), getElem!_pos _ _ (by simp; omega)]
        rfl
      · rw [List.getElem?_eq_none (by simp [Go.Sort.putCells]; omega), List.getElem?_eq_none (by rw [rowSt_len]; omega)]
theorem rowSt_flat (d : Array StB) : rowSt d = d.toList.flatMap encS := by
  refine List.ext_getElem? fun t => ?_
  by_cases ht : t < d.size * 8
  · have hq : t / 8 < d.size := by omega
    have hm : t % 8 < (encS d[t / 8]!).length := by rw [encS_len]; omega
    have e : d.toList[t / 8]? = some d[t / 8]! := by
      rw [getElem!_pos d (t / 8) hq, List.getElem?_eq_getElem (by simpa using hq)]; rfl
    have h1 := fl_cell encS_len e (List.getElem?_eq_getElem hm)
    rw [show t / 8 * 8 + t % 8 = t by omega] at h1
    rw [h1]
    unfold rowSt
    rw [Array.getElem?_toList, Array.getElem?_eq_getElem (by simpa using ht)]
    simp only [flatK, Array.getElem_map, Array.getElem_range]
    rw [getElem!_pos (encS d[t / 8]!) _ hm]
  · rw [List.getElem?_eq_none (by rw [rowSt_len]; omega), List.getElem?_eq_none (by rw [fl_len encS_len]; simpa using ht)]
end Go.Proofs.YtmbbcmebdefggaaDoor
