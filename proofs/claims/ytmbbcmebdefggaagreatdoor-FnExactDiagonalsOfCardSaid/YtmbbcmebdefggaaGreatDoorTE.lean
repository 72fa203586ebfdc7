/- slices.SortFunc at lists of states lies in this program as the library's text says. slices.SortFunc over a row of states of the caller's. -/
import Derived.Test.YtmbbcmebdefggaaGreatDoorTC
import Derived.Test.YtmbbcmebdefggaaGreatDoorGE
namespace Go.Proofs.YtmbbcmebdefggaaGreatDoor
open Go Go.Shelf Go.RowKit
def sortRenT : Go.Shelf.Ren := ⟨fun | 6 => 121 | 14 => 156 | 15 => 137 | 20 => 182 | 21 => 183 | 22 => 184 | 23 => 185 | 24 => 186 | 25 => 187 | 26 => 188 | 27 => 189 | 28 => 171 | 29 => 172 | 46 => 208 | 47 => 194 | 48 => 195 | 49 => 209 | 50 => 210 | 57 => 217 | n => n, fun | 0 => 0 | 3 => 3 | 4 => 4 | 5 => 5 | 9 => 9 | 22 => 35 | 24 => 72 | 25 => 75 | 39 => 160 | 45 => 189 | 46 => 190 | 50 => 169 | 53 => 197 | 55 => 90 | 66 => 216 | 70 => 220 | 76 => 232 | 77 => 233 | n => n, fun n => n⟩
theorem sortLaysT : SlLaysF0.n6 Tryz.prog sortRenT := {
  mixed := by kernel_rfl,
  f6 := ⟨Tryz.f121.name, by decide, Tryz.func121.trans (congrArg some (by kernel_rfl))⟩,
  f14 := ⟨Tryz.f156.name, by decide, Tryz.func156.trans (congrArg some (by kernel_rfl))⟩,
  f15 := Tryz.func137.trans (congrArg some (by kernel_rfl)),
  f20 := ⟨Tryz.f182.name, by decide, Tryz.func182.trans (congrArg some (by kernel_rfl))⟩,
  f21 := ⟨Tryz.f183.name, by decide, Tryz.func183.trans (congrArg some (by kernel_rfl))⟩,
  f22 := ⟨Tryz.f184.name, by decide, Tryz.func184.trans (congrArg some (by kernel_rfl))⟩,
  f23 := ⟨Tryz.f185.name, by decide, Tryz.func185.trans (congrArg some (by kernel_rfl))⟩,
  f24 := ⟨Tryz.f186.name, by decide, Tryz.func186.trans (congrArg some (by kernel_rfl))⟩,
  f25 := ⟨Tryz.f187.name, by decide, Tryz.func187.trans (congrArg some (by kernel_rfl))⟩,
  f26 := ⟨Tryz.f188.name, by decide, Tryz.func188.trans (congrArg some (by kernel_rfl))⟩,
  f27 := ⟨Tryz.f189.name, by decide, Tryz.func189.trans (congrArg some (by kernel_rfl))⟩,
  f28 := Tryz.func171.trans (congrArg some (by kernel_rfl)),
  f29 := Tryz.func172.trans (congrArg some (by kernel_rfl)),
  f46 := ⟨Tryz.f208.name, by decide, Tryz.func208.trans (congrArg some (by kernel_rfl))⟩,
  f47 := Tryz.func194.trans (congrArg some (by kernel_rfl)),
  f48 := Tryz.func195.trans (congrArg some (by kernel_rfl)),
  f49 := ⟨Tryz.f209.name, by decide, Tryz.func209.trans (congrArg some (by kernel_rfl))⟩,
  f50 := ⟨Tryz.f210.name, by decide, Tryz.func210.trans (congrArg some (by kernel_rfl))⟩,
  f57 := ⟨Tryz.f217.name, by decide, Tryz.func217.trans (congrArg some (by kernel_rfl))⟩,
  t0 := by kernel_rfl,
  a0 := fun w => by kernel_rfl,
  z0 := fun w => by kernel_rfl,
  v0 := fun w => by kernel_rfl,
  t3 := by kernel_rfl,
  a3 := fun w => by kernel_rfl,
  z3 := fun w => by kernel_rfl,
  v3 := fun w => by kernel_rfl,
  t4 := by kernel_rfl,
  a4 := fun w => by kernel_rfl,
  z4 := fun w => by kernel_rfl,
  v4 := fun w => by kernel_rfl,
  t5 := by kernel_rfl,
  a5 := fun w => by kernel_rfl,
  z5 := fun w => by kernel_rfl,
  v5 := fun w => by kernel_rfl,
  t9 := by kernel_rfl,
  a9 := fun w => by kernel_rfl,
  z9 := fun w => by kernel_rfl,
  v9 := fun w => by kernel_rfl,
  t22 := by kernel_rfl,
  a22 := fun w => by kernel_rfl,
  z22 := fun w => by kernel_rfl,
  v22 := fun w => by kernel_rfl,
  t25 := by kernel_rfl,
  a25 := fun w => by kernel_rfl,
  z25 := fun w => by kernel_rfl,
  v25 := fun w => by kernel_rfl,
  t39 := by kernel_rfl,
  a39 := fun w => by kernel_rfl,
  z39 := fun w => by kernel_rfl,
  v39 := fun w => by kernel_rfl,
  t45 := by kernel_rfl,
  a45 := fun w => by kernel_rfl,
  z45 := fun w => by kernel_rfl,
  v45 := fun w => by kernel_rfl,
  t46 := by kernel_rfl,
  a46 := fun w => by kernel_rfl,
  z46 := fun w => by kernel_rfl,
  v46 := fun w => by kernel_rfl,
  t50 := by kernel_rfl,
  a50 := fun w => by kernel_rfl,
  z50 := fun w => by kernel_rfl,
  v50 := fun w => by kernel_rfl,
  t53 := by kernel_rfl,
  a53 := fun w => by kernel_rfl,
  z53 := fun w => by kernel_rfl,
  v53 := fun w => by kernel_rfl,
  t55 := by kernel_rfl,
  a55 := fun w => by kernel_rfl,
  z55 := fun w => by kernel_rfl,
  v55 := fun w => by kernel_rfl,
  t66 := by kernel_rfl,
  a66 := fun w => by kernel_rfl,
  z66 := fun w => by kernel_rfl,
  v66 := fun w => by kernel_rfl,
  t70 := by kernel_rfl,
  a70 := fun w => by kernel_rfl,
  z70 := fun w => by kernel_rfl,
  v70 := fun w => by kernel_rfl,
  t76 := by kernel_rfl,
  a76 := fun w => by kernel_rfl,
  z76 := fun w => by kernel_rfl,
  v76 := fun w => by kernel_rfl,
  t77 := by kernel_rfl,
  a77 := fun w => by kernel_rfl,
  z77 := fun w => by kernel_rfl,
  v77 := fun w => by kernel_rfl }
end Go.Proofs.YtmbbcmebdefggaaGreatDoor
namespace Go.Proofs.YtmbbcmebdefggaaGreatDoor
open Go Go.Shelf Go.RowKit SL
open Go.Sort (flatK HoldsK size_flatK)
def rowSt (d : Array StB) : List Value := (flatK encS 8 d).toList
theorem rowSt_len (d : Array StB) : (rowSt d).length = d.size * 8 := by unfold rowSt; simp
theorem sortT_gives {B : Nat} {w0 : World} {H2 : Hp} {v : Value} (d : Array StB) (hsz : d.size < 4611686018427387904) (hpos : 0 < d.size ∨ v ≠ .slice none 0 0) :
    GivesE Tryz.prog 121 #[v, .func (.func 62) #[] #[]] B w0 (.row v 72 8 (rowSt d) :: H2)
      (fun v' H' => v' = .tuple #[] ∧ ∃ d' : Array StB, Go.Sort.PermIn 0 d.size d d' ∧ Go.Sort.SortedIn (Go.Proofs.ltOf cfS) 0 d.size d' ∧ H' = .row v 72 8 (rowSt d') :: H2) := by
  unfold GivesE
  intro w hw
  obtain ⟨m, hown⟩ := hw.row_slice (v := v) (e := 72) (sz := 8) (xs := rowSt d) m0
  have hm : m = d.size := by
    have := hown.1
    rw [rowSt_len] at this
    omega
  subst hm
  rcases hown.2 with ⟨rfl, h0⟩ | ⟨gg, cap, cur, rfl, hB, hg, hnc, hcm, hcs, htake⟩
  · rcases hpos with h | h
    · omega
    · exact absurd rfl h
  · have hblk : gg < w.heap.size := (Array.getElem?_eq_some_iff.1 hg).1
    have hcell : ∀ j, j < d.size * 8 → w.cell? ⟨gg, 0 + j, none⟩ = (rowSt d)[j]? := fun j hj => by
      rw [← htake, List.getElem?_take_of_lt hj]
      simp [World.cell?, hg]
    have hH : HoldsK encS 8 w gg 0 d := fun j hj => by
      rw [size_flatK] at hj
      refine ⟨?_, ?_⟩
      · rw [hcell j hj]
        unfold rowSt
        rw [Array.getElem?_toList, Array.getElem?_eq_getElem (by simpa using hj), getElem!_pos _ j (by simpa using hj)]
        rfl
      · simp [World.frozen?, hg]
    have hcon := AnyQ.slices_SortFunc sortLaysT 8 (fun w => by kernel_rfl) (fun w => by kernel_rfl) encS encS_len encS_one cfS swoT 62 #[] gg 0 cap d w (enters_of Tryz.func62 (by kernel_rfl) rfl) (cmpLaysT gg 0 d.size w) hH hblk hsz
    refine Calls.mono hcon ?_
    rintro e w' ⟨rfl, d', n, os, hp, hs, rfl⟩
    refine ⟨_, _, rfl, ⟨rfl, d', hp, hs, rfl⟩, ?_⟩
    have hs' : d'.size = d.size := hp.1
    have hg' : (Go.Proofs.sortWorldK encS 8 w gg 0 n d' os).heap[gg]? = some (Obj.cells (Go.Sort.putCells id 0 (flatK encS 8 d') cur) 72 (0, 0)) := by
      simp only [Go.Proofs.sortWorldK, Go.Sort.grow, Go.Sort.putRowK, Go.Sort.putRow, Go.Sort.mapBlock, Go.Sort.ahead]
      rw [Array.getElem?_append_left (by simpa using hblk), Array.getElem?_modify, if_pos rfl, hg]
      rfl
    refine Holds.swap (H1 := []) hw rfl rfl rfl ?_ ?_ ?_ ⟨d.size, ?_, .inr ⟨gg, cap, _, rfl, hB, hg', hnc, hcm, ?_, ?_⟩⟩ (fun k hk => .inl hk)
    · simp [Go.Proofs.sortWorldK, Go.Sort.grow, Go.Sort.putRowK, Go.Sort.putRow, Go.Sort.mapBlock, Go.Sort.ahead]
    · simp [Go.Proofs.sortWorldK, Go.Sort.grow, Go.Sort.putRowK, Go.Sort.putRow, Go.Sort.mapBlock, Go.Sort.ahead]
    · intro k hk hne
      have hne' : gg ≠ k := fun e => hne (by rw [e]; rfl)
      simp only [Go.Proofs.sortWorldK, Go.Sort.grow, Go.Sort.putRowK, Go.Sort.putRow, Go.Sort.mapBlock, Go.Sort.ahead]
      rw [Array.getElem?_append_left (by simpa using hk), Array.getElem?_modify, if_neg hne']
    · rw [rowSt_len, hs']
    · simp [Go.Sort.putCells, hcs]
    · refine List.ext_getElem? fun j => ?_
      have hcap : d.size * 8 ≤ cap * 8 := Nat.mul_le_mul_right _ hnc
      by_cases hj : j < d.size * 8
      · rw [List.getElem?_take_of_lt hj]
        unfold rowSt
        rw [Array.getElem?_toList, Array.getElem?_toList, Array.getElem?_eq_getElem (by simp [Go.Sort.putCells]; omega), Array.getElem?_eq_getElem (by simp; omega)]
        simp only [Go.Sort.putCells, Array.getElem_mapIdx, id]
        rw [if_pos (by simp; omega), getElem!_pos _ _ (by simp; omega)]
        rfl
      · rw [List.getElem?_eq_none (by simp [Go.Sort.putCells]; omega), List.getElem?_eq_none (by rw [rowSt_len]; omega)]
theorem rowSt_flat (d : Array StB) : rowSt d = d.toList.flatMap encS := by
  refine List.ext_getElem? fun t => ?_
  by_cases ht : t < d.size * 8
  · have hq : t / 8 < d.size := by omega
    have hm : t % 8 < (encS d[t / 8]!).length := by rw [encS_len]; omega
    have e : d.toList[t / 8]? = some d[t / 8]! := by
      rw [getElem!_pos d (t / 8) hq, List.getElem?_eq_getElem (by simpa using hq)]; rfl
    have h1 := fl_cell encS_len e (List.getElem?_eq_getElem hm)
    rw [show t / 8 * 8 + t % 8 = t by omega] at h1
    rw [h1]
    unfold rowSt
    rw [Array.getElem?_toList, Array.getElem?_eq_getElem (by simpa using ht)]
    simp only [flatK, Array.getElem_map, Array.getElem_range]
    rw [getElem!_pos (encS d[t / 8]!) _ hm]
  · rw [List.getElem?_eq_none (by rw [rowSt_len]; omega), List.getElem?_eq_none (by rw [fl_len encS_len]; simpa using ht)]
end Go.Proofs.YtmbbcmebdefggaaGreatDoor
