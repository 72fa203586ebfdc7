/- slices.SortFunc at lists of states lies in this program as the library's text says. slices.SortFunc over a row of states of the caller's. -/
import Derived.Test.YthijakignhjmgaaTC
import Derived.Test.YthijakignhjmgaaGE
namespace Go.Proofs.Ythijakignhjmgaa
open Go Go.Shelf Go.RowKit
def sortRenT : Go.Shelf.Ren := ⟨fun | 6 => 150 | 14 => 191 | 15 => 142 | 20 => 210 | 21 => 211 | 22 => 212 | 23 => 213 | 24 => 214 | 25 => 215 | 26 => 216 | 27 => 217 | 28 => 185 | 29 => 186 | 46 => 239 | 47 => 205 | 48 => 206 | 49 => 240 | 50 => 241 | 57 => 249 | n => n, fun | 0 => 0 | 3 => 3 | 4 => 4 | 5 => 5 | 9 => 9 | 22 => 62 | 24 => 115 | 25 => 201 | 39 => 193 | 45 => 230 | 46 => 231 | 50 => 159 | 53 => 237 | 55 => 177 | 66 => 256 | 70 => 260 | 76 => 281 | 77 => 255 | n => n, fun n => n⟩
theorem sortLaysT : SlLaysF0.n6 Try.prog sortRenT := {
  mixed := by kernel_rfl,
  f6 := ⟨Try.f150.name, by decide, Try.func150.trans (congrArg some (by kernel_rfl))⟩,
  f14 := ⟨Try.f191.name, by decide, Try.func191.trans (congrArg some (by kernel_rfl))⟩,
  f15 := Try.func142.trans (congrArg some (by kernel_rfl)),
  f20 := ⟨Try.f210.name, by decide, Try.func210.trans (congrArg some (by kernel_rfl))⟩,
  f21 := ⟨Try.f211.name, by decide, Try.func211.trans (congrArg some (by kernel_rfl))⟩,
  f22 := ⟨Try.f212.name, by decide, Try.func212.trans (congrArg some (by kernel_rfl))⟩,
  f23 := ⟨Try.f213.name, by decide, Try.func213.trans (congrArg some (by kernel_rfl))⟩,
  f24 := ⟨Try.f214.name, by decide, Try.func214.trans (congrArg some (by kernel_rfl))⟩,
  f25 := ⟨Try.f215.name, by decide, Try.func215.trans (congrArg some (by kernel_rfl))⟩,
  f26 := ⟨Try.f216.name, by decide, Try.func216.trans (congrArg some (by kernel_rfl))⟩,
  f27 := ⟨Try.f217.name, by decide, Try.func217.trans (congrArg some (by kernel_rfl))⟩,
  f28 := Try.func185.trans (congrArg some (by kernel_rfl)),
  f29 := Try.func186.trans (congrArg some (by kernel_rfl)),
  f46 := ⟨Try.f239.name, by decide, Try.func239.trans (congrArg some (by kernel_rfl))⟩,
  f47 := Try.func205.trans (congrArg some (by kernel_rfl)),
  f48 := Try.func206.trans (congrArg some (by kernel_rfl)),
  f49 := ⟨Try.f240.name, by decide, Try.func240.trans (congrArg some (by kernel_rfl))⟩,
  f50 := ⟨Try.f241.name, by decide, Try.func241.trans (congrArg some (by kernel_rfl))⟩,
  f57 := ⟨Try.f249.name, by decide, Try.func249.trans (congrArg some (by kernel_rfl))⟩,
  t0 := by kernel_rfl,
  a0 := fun w => by kernel_rfl,
  z0 := fun w => by kernel_rfl,
  v0 := fun w => by kernel_rfl,
  t3 := by kernel_rfl,
  a3 := fun w => by kernel_rfl,
  z3 := fun w => by kernel_rfl,
  v3 := fun w => by kernel_rfl,
  t4 := by kernel_rfl,
  a4 := fun w => by kernel_rfl,
  z4 := fun w => by kernel_rfl,
  v4 := fun w => by kernel_rfl,
  t5 := by kernel_rfl,
  a5 := fun w => by kernel_rfl,
  z5 := fun w => by kernel_rfl,
  v5 := fun w => by kernel_rfl,
  t9 := by kernel_rfl,
  a9 := fun w => by kernel_rfl,
  z9 := fun w => by kernel_rfl,
  v9 := fun w => by kernel_rfl,
  t22 := by kernel_rfl,
  a22 := fun w => by kernel_rfl,
  z22 := fun w => by kernel_rfl,
  v22 := fun w => by kernel_rfl,
  t25 := by kernel_rfl,
  a25 := fun w => by kernel_rfl,
  z25 := fun w => by kernel_rfl,
  v25 := fun w => by kernel_rfl,
  t39 := by kernel_rfl,
  a39 := fun w => by kernel_rfl,
  z39 := fun w => by kernel_rfl,
  v39 := fun w => by kernel_rfl,
  t45 := by kernel_rfl,
  a45 := fun w => by kernel_rfl,
  z45 := fun w => by kernel_rfl,
  v45 := fun w => by kernel_rfl,
  t46 := by kernel_rfl,
  a46 := fun w => by kernel_rfl,
  z46 := fun w => by kernel_rfl,
  v46 := fun w => by kernel_rfl,
  t50 := by kernel_rfl,
  a50 := fun w => by kernel_rfl,
  z50 := fun w => by kernel_rfl,
  v50 := fun w => by kernel_rfl,
  t53 := by kernel_rfl,
  a53 := fun w => by kernel_rfl,
  z53 := fun w => by kernel_rfl,
  v53 := fun w => by kernel_rfl,
  t55 := by kernel_rfl,
  a55 := fun w => by kernel_rfl,
  z55 := fun w => by kernel_rfl,
  v55 := fun w => by kernel_rfl,
  t66 := by kernel_rfl,
  a66 := fun w => by kernel_rfl,
  z66 := fun w => by kernel_rfl,
  v66 := fun w => by kernel_rfl,
  t70 := by kernel_rfl,
  a70 := fun w => by kernel_rfl,
  z70 := fun w => by kernel_rfl,
  v70 := fun w => by kernel_rfl,
  t76 := by kernel_rfl,
  a76 := fun w => by kernel_rfl,
  z76 := fun w => by kernel_rfl,
  v76 := fun w => by kernel_rfl,
  t77 := by kernel_rfl,
  a77 := fun w => by kernel_rfl,
  z77 := fun w => by kernel_rfl,
  v77 := fun w => by kernel_rfl }
end Go.Proofs.Ythijakignhjmgaa
namespace Go.Proofs.Ythijakignhjmgaa
open Go Go.Shelf Go.RowKit SL
open Go.Sort (flatK HoldsK size_flatK)
def rowSt (d : Array StB) : List Value := (flatK encS 8 d).toList
theorem rowSt_len (d : Array StB) : (rowSt d).length = d.size * 8 := by unfold rowSt; simp
theorem sortT_gives {B : Nat} {w0 : World} {H2 : Hp} {v : Value} (d : Array StB) (hsz : d.size < 4611686018427387904) (hpos : 0 < d.size ∨ v ≠ .slice none 0 0) :
    GivesE Try.prog 150 #[v, .func (.func 151) #[] #[]] B w0 (.row v 115 8 (rowSt d) :: H2)
      (fun v' H' => v' = .tuple #[] ∧ ∃ d' : Array StB, Go.Sort.PermIn 0 d.size d d' ∧ Go.Sort.SortedIn (Go.Proofs.ltOf cfS) 0 d.size d' ∧ H' = .row v 115 8 (rowSt d') :: H2) := by
  unfold GivesE
  intro w hw
  obtain ⟨m, hown⟩ := hw.row_slice (v := v) (e := 115) (sz := 8) (xs := rowSt d) m0
  have hm : m = d.size := by
    have := hown.1
    rw [rowSt_len] at this
    omega
  subst hm
  rcases hown.2 with ⟨rfl, h0⟩ | ⟨gg, cap, cur, rfl, hB, hg, hnc, hcm, hcs, htake⟩
  · rcases hpos with h | h
    · omega
    · exact absurd rfl h
  · have hblk : gg < w.heap.size := (Array.getElem?_eq_some_iff.1 hg).1
    have hcell : ∀ j, j < d.size * 8 → w.cell? ⟨gg, 0 + j, none⟩ = (rowSt d)[j]? := fun j hj => by
      rw [← htake, List.getElem?_take_of_lt hj]
      simp [World.cell?, hg]
    have hH : HoldsK encS 8 w gg 0 d := fun j hj => by
      rw [size_flatK] at hj
      refine ⟨?_, ?_⟩
      · rw [hcell j hj]
        unfold rowSt
        rw [Array.getElem?_toList, Array.getElem?_eq_getElem (by simpa using hj), getElem!_pos _ j (by simpa using hj)]
        rfl
      · simp [World.frozen?, hg]
    have hcon := AnyQ.slices_SortFunc sortLaysT 8 (fun w => by kernel_rfl) (fun w => by kernel_rfl) encS encS_len encS_one cfS swoT 151 #[] gg 0 cap d w (enters_of Try.func151 (by kernel_rfl) rfl) (cmpLaysT gg 0 d.size w) hH hblk hsz
    refine Calls.mono hcon ?_
    rintro e w' ⟨rfl, d', n, os, hp, hs, rfl⟩
    refine ⟨_, _, rfl, ⟨rfl, d', hp, hs, rfl⟩, ?_⟩
    have hs' : d'.size = d.size := hp.1
    have hg' : (Go.Proofs.sortWorldK encS 8 w gg 0 n d' os).heap[gg]? = some (Obj.cells (Go.Sort.putCells id 0 (flatK encS 8 d') cur) 115 (0, 0)) := by
      simp only [Go.Proofs.sortWorldK, Go.Sort.grow, Go.Sort.putRowK, Go.Sort.putRow, Go.Sort.mapBlock, Go.Sort.ahead]
      rw [Array.getElem?_append_left (by simpa using hblk), Array.getElem?_modify, if_pos rfl, hg]
      rfl
    refine Holds.swap (H1 := []) hw rfl rfl rfl ?_ ?_ ?_ ⟨d.size, ?_, .inr ⟨gg, cap, _, rfl, hB, hg', hnc, hcm, ?_, ?_⟩⟩ (fun k hk => .inl hk)
    · simp [Go.Proofs.sortWorldK, Go.Sort.grow, Go.Sort.putRowK, Go.Sort.putRow, Go.Sort.mapBlock, Go.Sort.ahead]
    · simp [Go.Proofs.sortWorldK, Go.Sort.grow, Go.Sort.putRowK, Go.Sort.putRow, Go.Sort.mapBlock, Go.Sort.ahead]
    · intro k hk hne
      have hne' : gg ≠ k := fun e => hne (by rw [e]; rfl)
      simp only [Go.Proofs.sortWorldK, Go.Sort.grow, Go.Sort.putRowK, Go.Sort.putRow, Go.Sort.mapBlock, Go.Sort.ahead]
      rw [Array.getElem?_append_left (by simpa using hk), Array.getElem?_modify, if_neg hne']
    · rw [rowSt_len, hs']
    · simp [Go.Sort.putCells, hcs]
    · refine List.ext_getElem? fun j => ?_
      have hcap : d.size * 8 ≤ cap * 8 := Nat.mul_le_mul_right _ hnc
      by_cases hj : j < d.size * 8
      · rw [List.getElem?_take_of_lt hj]
        unfold rowSt
        rw [Array.getElem?_toList, Array.getElem?_toList, Array.getElem?_eq_getElem (by simp [Go.Sort.putCells]; omega), Array.getElem?_eq_getElem (by simp; omega)]
        simp only [Go.Sort.putCells, Array.getElem_mapIdx, id]
        rw [if_pos (by simp; omega), getElem!_pos _ _ (by simp; omega)]
        rfl
      · rw [List.getElem?_eq_none (by simp [Go.Sort.putCells]; omega), List.getElem?_eq_none (by rw [rowSt_len]; omega)]
theorem rowSt_flat (d : Array StB) : rowSt d = d.toList.flatMap encS := by
  refine List.ext_getElem? fun t => ?_
  by_cases ht : t < d.size * 8
  · have hq : t / 8 < d.size := by omega
    have hm : t % 8 < (encS d[t / 8]!).length := by rw [encS_len]; omega
    have e : d.toList[t / 8]? = some d[t / 8]! := by
      rw [getElem!_pos d (t / 8) hq, List.getElem?_eq_getElem (by simpa using hq)]; rfl
    have h1 := fl_cell encS_len e (List.getElem?_eq_getElem hm)
    rw [show t / 8 * 8 + t % 8 = t by omega] at h1
    rw [h1]
    unfold rowSt
    rw [Array.getElem?_toList, Array.getElem?_eq_getElem (by simpa using ht)]
    simp only [flatK, Array.getElem_map, Array.getElem_range]
    rw [getElem!_pos (encS d[t / 8]!) _ hm]
  · rw [List.getElem?_eq_none (by rw [rowSt_len]; omega), List.getElem?_eq_none (by rw [fl_len encS_len]; simpa using ht)]
end Go.Proofs.Ythijakignhjmgaa
