/- slices.Sort at lists of numbers lies in this program as the library's text says. Walks: the keys of a map of numbers, collected and sorted. Walks: slices.Compact at numbers in order. Walks: the diagonals of a knot. -/
import Derived.Test.YtmbbcmebdefggaaGreatDoorKB
import Derived.Test.YtmbbcmebdefggaaGreatDoorFE
import Derived.Test.YtmbbcmebdefggaaGreatDoorMM
import Derived.Shelf.SortG.Plain
namespace Go.Proofs.YtmbbcmebdefggaaGreatDoor
open Go Go.Shelf Go.RowKit
def sortRenI : Go.Shelf.Ren := ⟨fun | 53 => 99 | 59 => 168 | 63 => 136 | 64 => 137 | 68 => 174 | 70 => 162 | 71 => 163 | 72 => 164 | 73 => 165 | 74 => 166 | 75 => 167 | 76 => 169 | 77 => 170 | 78 => 171 | 79 => 172 | 88 => 193 | 89 => 194 | 90 => 195 | 91 => 196 | 92 => 197 | 96 => 212 | n => n, fun | 0 => 0 | 3 => 3 | 4 => 4 | 5 => 5 | 9 => 9 | 22 => 50 | 23 => 2 | 44 => 169 | 51 => 160 | 60 => 189 | 61 => 190 | 67 => 197 | 69 => 90 | 75 => 216 | 79 => 220 | 83 => 232 | 84 => 233 | n => n, fun n => n⟩
theorem sortLaysI : SlLaysN.n53 Tryz.prog sortRenI := {
  mixed := by kernel_rfl,
  f53 := ⟨Tryz.f99.name, by decide, Tryz.func99.trans (congrArg some (by kernel_rfl))⟩,
  f59 := ⟨Tryz.f168.name, by decide, Tryz.func168.trans (congrArg some (by kernel_rfl))⟩,
  f63 := ⟨Tryz.f136.name, by decide, Tryz.func136.trans (congrArg some (by kernel_rfl))⟩,
  f64 := Tryz.func137.trans (congrArg some (by kernel_rfl)),
  f68 := ⟨Tryz.f174.name, by decide, Tryz.func174.trans (congrArg some (by kernel_rfl))⟩,
  f70 := ⟨Tryz.f162.name, by decide, Tryz.func162.trans (congrArg some (by kernel_rfl))⟩,
  f71 := ⟨Tryz.f163.name, by decide, Tryz.func163.trans (congrArg some (by kernel_rfl))⟩,
  f72 := ⟨Tryz.f164.name, by decide, Tryz.func164.trans (congrArg some (by kernel_rfl))⟩,
  f73 := ⟨Tryz.f165.name, by decide, Tryz.func165.trans (congrArg some (by kernel_rfl))⟩,
  f74 := ⟨Tryz.f166.name, by decide, Tryz.func166.trans (congrArg some (by kernel_rfl))⟩,
  f75 := ⟨Tryz.f167.name, by decide, Tryz.func167.trans (congrArg some (by kernel_rfl))⟩,
  f76 := ⟨Tryz.f169.name, by decide, Tryz.func169.trans (congrArg some (by kernel_rfl))⟩,
  f77 := ⟨Tryz.f170.name, by decide, Tryz.func170.trans (congrArg some (by kernel_rfl))⟩,
  f78 := Tryz.func171.trans (congrArg some (by kernel_rfl)),
  f79 := Tryz.func172.trans (congrArg some (by kernel_rfl)),
  f88 := ⟨Tryz.f193.name, by decide, Tryz.func193.trans (congrArg some (by kernel_rfl))⟩,
  f89 := Tryz.func194.trans (congrArg some (by kernel_rfl)),
  f90 := Tryz.func195.trans (congrArg some (by kernel_rfl)),
  f91 := ⟨Tryz.f196.name, by decide, Tryz.func196.trans (congrArg some (by kernel_rfl))⟩,
  f92 := ⟨Tryz.f197.name, by decide, Tryz.func197.trans (congrArg some (by kernel_rfl))⟩,
  f96 := ⟨Tryz.f212.name, by decide, Tryz.func212.trans (congrArg some (by kernel_rfl))⟩,
  t0 := by kernel_rfl,
  a0 := fun w => by kernel_rfl,
  z0 := fun w => by kernel_rfl,
  v0 := fun w => by kernel_rfl,
  t3 := by kernel_rfl,
  a3 := fun w => by kernel_rfl,
  z3 := fun w => by kernel_rfl,
  v3 := fun w => by kernel_rfl,
  t4 := by kernel_rfl,
  a4 := fun w => by kernel_rfl,
  z4 := fun w => by kernel_rfl,
  v4 := fun w => by kernel_rfl,
  t5 := by kernel_rfl,
  a5 := fun w => by kernel_rfl,
  z5 := fun w => by kernel_rfl,
  v5 := fun w => by kernel_rfl,
  t9 := by kernel_rfl,
  a9 := fun w => by kernel_rfl,
  z9 := fun w => by kernel_rfl,
  v9 := fun w => by kernel_rfl,
  t22 := by kernel_rfl,
  a22 := fun w => by kernel_rfl,
  z22 := fun w => by kernel_rfl,
  v22 := fun w => by kernel_rfl,
  t23 := by kernel_rfl,
  a23 := fun w => by kernel_rfl,
  z23 := fun w => by kernel_rfl,
  v23 := fun w => by kernel_rfl,
  t44 := by kernel_rfl,
  a44 := fun w => by kernel_rfl,
  z44 := fun w => by kernel_rfl,
  v44 := fun w => by kernel_rfl,
  t51 := by kernel_rfl,
  a51 := fun w => by kernel_rfl,
  z51 := fun w => by kernel_rfl,
  v51 := fun w => by kernel_rfl,
  t60 := by kernel_rfl,
  a60 := fun w => by kernel_rfl,
  z60 := fun w => by kernel_rfl,
  v60 := fun w => by kernel_rfl,
  t61 := by kernel_rfl,
  a61 := fun w => by kernel_rfl,
  z61 := fun w => by kernel_rfl,
  v61 := fun w => by kernel_rfl,
  t67 := by kernel_rfl,
  a67 := fun w => by kernel_rfl,
  z67 := fun w => by kernel_rfl,
  v67 := fun w => by kernel_rfl,
  t69 := by kernel_rfl,
  a69 := fun w => by kernel_rfl,
  z69 := fun w => by kernel_rfl,
  v69 := fun w => by kernel_rfl,
  t75 := by kernel_rfl,
  a75 := fun w => by kernel_rfl,
  z75 := fun w => by kernel_rfl,
  v75 := fun w => by kernel_rfl,
  t79 := by kernel_rfl,
  a79 := fun w => by kernel_rfl,
  z79 := fun w => by kernel_rfl,
  v79 := fun w => by kernel_rfl,
  t83 := by kernel_rfl,
  a83 := fun w => by kernel_rfl,
  z83 := fun w => by kernel_rfl,
  v83 := fun w => by kernel_rfl,
  t84 := by kernel_rfl,
  a84 := fun w => by kernel_rfl,
  z84 := fun w => by kernel_rfl,
  v84 := fun w => by kernel_rfl }
end Go.Proofs.YtmbbcmebdefggaaGreatDoor
namespace Go.Proofs.YtmbbcmebdefggaaGreatDoor
open Go Go.RowKit SL
/-- slices.Sort over a row of numbers. -/
theorem sortI_gives {B : Nat} {w0 : World} {H2 : Hp} {v : Value} (zs : List Int) (hsz : zs.length < 4611686018427387904) (hpos : 0 < zs.length) :
    GivesE Tryz.prog 99 #[v] B w0 (.row v 2 1 (zs.map zV) :: H2)
      (fun v' H' => v' = .tuple #[] ∧ H' = .row v 2 1 ((zs.mergeSort fun x y => decide (x ≤ y)).map zV) :: H2) := by
  unfold GivesE
  intro w hw
  obtain ⟨m, hown⟩ := hw.row_slice (v := v) (e := 2) (sz := 1) (xs := zs.map zV) m0
  have hm : m = zs.length := by
    have := hown.1
    rw [List.length_map] at this
    omega
  subst hm
  rcases hown.2 with ⟨rfl, h0⟩ | ⟨gg, cap, cur, rfl, hB, hg, hnc, hcm, hcs, htake⟩
  · omega
  · have hblk : gg < w.heap.size := (Array.getElem?_eq_some_iff.1 hg).1
    have hH : Go.Sort.Holds (Value.int .i64) w gg 0 zs.toArray := fun j hj => by
      rw [List.size_toArray] at hj
      refine ⟨?_, ?_⟩
      · have h1 : w.cell? ⟨gg, 0 + j, none⟩ = (zs.map zV)[j]? := by
          rw [← htake, List.getElem?_take_of_lt (by omega)]
          simp [World.cell?, hg]
        rw [h1, List.getElem?_map, List.getElem?_eq_getElem hj, getElem!_pos _ j (by simpa using hj)]
        simp [zV]
      · simp [World.frozen?, hg]
    have hcon := Go.Proofs.AnyG.slices_Sort_int sortLaysI gg 0 cap zs w hH hblk hsz
    refine Calls.mono hcon ?_
    rintro e w' ⟨rfl, n, os, rfl⟩
    refine ⟨_, _, rfl, ⟨rfl, rfl⟩, ?_⟩
    have hs' : (zs.mergeSort fun x y => decide (x ≤ y)).length = zs.length := List.length_mergeSort ..
    generalize (zs.mergeSort fun x y => decide (x ≤ y)) = ys at hs' ⊢
    have hg' : (Go.Sort.grow (Go.Sort.putRow (Value.int .i64) (Go.Sort.ahead w n) gg 0 ys.toArray) os).heap[gg]? = some (Obj.cells (Go.Sort.putCells (Value.int .i64) 0 ys.toArray cur) 2 (0, 0)) := by
      simp only [Go.Sort.grow, Go.Sort.putRow, Go.Sort.mapBlock, Go.Sort.ahead]
      rw [Array.getElem?_append_left (by simpa using hblk), Array.getElem?_modify, if_pos rfl, hg]
      rfl
    refine Holds.swap (H1 := []) hw rfl rfl rfl ?_ ?_ ?_ ⟨zs.length, ?_, .inr ⟨gg, cap, _, rfl, hB, hg', hnc, hcm, ?_, ?_⟩⟩ (fun k hk => .inl hk)
    · simp [Go.Sort.grow, Go.Sort.putRow, Go.Sort.mapBlock, Go.Sort.ahead]
    · simp [Go.Sort.grow, Go.Sort.putRow, Go.Sort.mapBlock, Go.Sort.ahead]
    · intro k hk hne
      have hne' : gg ≠ k := fun e => hne (by rw [e]; rfl)
      simp only [Go.Sort.grow, Go.Sort.putRow, Go.Sort.mapBlock, Go.Sort.ahead]
      rw [Array.getElem?_append_left (by simpa using hk), Array.getElem?_modify, if_neg hne']
    · rw [List.length_map, hs', Nat.mul_one]
    · simp [Go.Sort.putCells, hcs]
    · refine List.ext_getElem? fun j => ?_
      by_cases hj : j < zs.length
      · rw [List.getElem?_take_of_lt (by omega), Array.getElem?_toList, Array.getElem?_eq_getElem (by simp [Go.Sort.putCells]; omega), List.getElem?_map, List.getElem?_eq_getElem (by omega)]
        simp only [Go.Sort.putCells, Array.getElem_mapIdx]
        rw [if_pos (by simp; omega), getElem!_pos _ _ (by simp; omega)]
        simp [zV]
      · rw [List.getElem?_eq_none (by simp [Go.Sort.putCells]; omega), List.getElem?_eq_none (by rw [List.length_map]; omega)]
end Go.Proofs.YtmbbcmebdefggaaGreatDoor
namespace Go.Proofs.YtmbbcmebdefggaaGreatDoor
open Go Go.RowKit SL
theorem lt_nextI {l : List Int} (hs : l.Pairwise fun x y => x ≤ y) {j : Nat} {x y : Int} (h1 : 1 ≤ j) (hx : l[j]? = some x) (hp : l[j - 1]? = some y) (hne : x ≠ y) : ∀ z ∈ l.take j, z < x := by
  intro z hz
  obtain ⟨i, hi, e⟩ := List.getElem_of_mem hz
  rw [List.length_take] at hi
  rw [List.getElem_take] at e
  obtain ⟨hj, e1⟩ := List.getElem?_eq_some_iff.1 hx
  obtain ⟨hj', e2⟩ := List.getElem?_eq_some_iff.1 hp
  have a1 : z ≤ y := by
    by_cases h : i = j - 1
    · subst h
      rw [← e, e2]
      exact Int.le_refl _
    · have := List.pairwise_iff_getElem.1 hs i (j - 1) (by omega) hj' (by omega)
      rwa [e, e2] at this
  have a2 := List.pairwise_iff_getElem.1 hs (j - 1) j hj' hj (by omega)
  rw [e1, e2] at a2
  have a3 : y ≠ x := fun h => hne h.symm
  omega
theorem asc_snocI {L : List Int} {x : Int} (h : Asc id L) (hx : ∀ z ∈ L, z < x) : Asc id (L ++ [x]) :=
  List.pairwise_append.2 ⟨h, List.pairwise_singleton _ _, fun a ha b hb => by rw [List.mem_singleton] at hb; subst hb; exact hx a ha⟩
theorem take_succI {l : List Int} {k : Nat} {x : Int} (h : l[k]? = some x) : l.take (k + 1) = l.take k ++ [x] := by rw [List.take_add_one, h]; rfl
/-- The second half of the work: A is the row, k has been kept, j been read. -/
structure CJ (l A : List Int) (k j : Nat) : Prop where
  len : A.length = l.length
  kj : k + 1 ≤ j
  jl : j ≤ l.length
  keep : ∀ i, j - 1 ≤ i → A[i]? = l[i]?
  asc : Asc id (A.take k)
  mem : ∀ y, y ∈ A.take k ↔ y ∈ l.take j
theorem CJ.start {l : List Int} {k : Nat} {x : Int} (h1 : 1 ≤ k) (ha : Asc id (l.take k)) (hx : l[k]? = some x) (hp : l[k - 1]? = some x) : CJ l l k (k + 1) := by
  obtain ⟨hk, _⟩ := List.getElem?_eq_some_iff.1 hx
  refine ⟨rfl, Nat.le_refl _, hk, fun _ _ => rfl, ha, fun y => ?_⟩
  rw [take_succI hx, List.mem_append, List.mem_singleton]
  refine ⟨.inl, fun h => h.elim id fun e => ?_⟩
  subst e
  have h2 : (l.take k)[k - 1]? = some y := by rw [List.getElem?_take_of_lt (by omega)]; exact hp
  exact List.mem_of_getElem? h2
theorem CJ.same {l A : List Int} {k j : Nat} {x : Int} (h : CJ l A k j) (h1 : 1 ≤ j) (hx : l[j]? = some x) (hp : l[j - 1]? = some x) : CJ l A k (j + 1) := by
  obtain ⟨hj, _⟩ := List.getElem?_eq_some_iff.1 hx
  refine ⟨h.len, by have := h.kj; omega, hj, fun i hi => h.keep i (by omega), h.asc, fun y => ?_⟩
  rw [take_succI hx, List.mem_append, List.mem_singleton, h.mem]
  refine ⟨.inl, fun k => k.elim id fun e => ?_⟩
  subst e
  have h2 : (l.take j)[j - 1]? = some y := by rw [List.getElem?_take_of_lt (by omega)]; exact hp
  exact List.mem_of_getElem? h2
theorem CJ.more {l A : List Int} {k j : Nat} {x y : Int} (h : CJ l A k j) (hs : l.Pairwise fun x y => x ≤ y) (h1 : 1 ≤ j) (hx : l[j]? = some x) (hp : l[j - 1]? = some y) (hne : x ≠ y) : CJ l (A.set k x) (k + 1) (j + 1) := by
  obtain ⟨hj, _⟩ := List.getElem?_eq_some_iff.1 hx
  have hkj := h.kj
  have hlen := h.len
  have ht : (A.set k x).take (k + 1) = A.take k ++ [x] := by
    have e : (A.set k x)[k]? = some x := by rw [List.getElem?_set_self (by omega)]
    rw [take_succI e, List.take_set_of_le (Nat.le_refl _)]
  have hlt := lt_nextI hs h1 hx hp hne
  refine ⟨by rw [List.length_set]; exact hlen, by omega, hj, fun i hi => ?_, ?_, fun z => ?_⟩
  · rw [List.getElem?_set_ne (by omega)]
    exact h.keep i (by omega)
  · rw [ht]
    exact asc_snocI h.asc fun z hz => hlt z ((h.mem z).1 hz)
  · rw [ht, take_succI hx, List.mem_append, List.mem_append, h.mem]

theorem zs_set (A : List Int) (k : Nat) (x : Int) : (A.map zV).set k (.int .i64 x) = (A.set k x).map zV := by rw [List.map_set]; rfl
theorem zs_at {A : List Int} {i j : Nat} {x : Int} (e : i = j) (h : A[j]? = some x) : (A.map zV)[i]? = some (.int .i64 x) := by subst e; rw [List.getElem?_map, h]; rfl
set_option maxRecDepth 100000 in
theorem compactI_gives {B : Nat} {w0 : World} {H2 : Hp} (l : List Int) (v : Value) (hl : l.length ≤ 1000000) (hs : l.Pairwise fun x y => x ≤ y) :
    GivesE Tryz.prog 100 #[v] B w0 (.row v 2 1 (l.map zV) :: H2)
      (fun v' H' => ∃ l', Asc id l' ∧ (∀ y, y ∈ l' ↔ y ∈ l) ∧ l'.length ≤ l.length ∧ H' = .row v' 2 1 (l'.map zV) :: H2) := by
  have lf : (l.map zV).length = l.length := List.length_map _
  refine givesE_of (args := [v]) [(0, v)] Tryz.func100 rfl Tryz.ntmps100 rfl (argsF_cons rfl argsF_nil) ?_
  by_cases h2 : l.length < 2
  · repeat' (first | (apply Jq_move; exact rfl; exact rfl) | (apply Jq_assign; exact rfl; exact rfl) | (apply Jq_cmp; exact rfl; exact rfl; exact rfl; exact rfl) | (apply Jq_lenR; exact rfl; exact rfl; (exact rb)) | refine thenQ_normal ?_ | refine thenQ_ret ?_ | refine JC_seq ?_ | refine JC_region ?_ | refine J_nil ?_ | refine JC_ret ?_ | (apply JC_dec_true; exact rfl; omega))
    refine e1 rfl rfl rfl ?_ ⟨l, ?_, fun _ => Iff.rfl, Nat.le_refl _, rfl⟩
    · (refine ent ?_ ?_; (repeat refine fr_cons rfl ?_); exact fr_nil; (repeat (exact List.Sublist.refl _)))
    · match l, h2 with
      | [], _ => exact List.Pairwise.nil
      | [x], _ => exact List.pairwise_singleton _ _
  · refine JC_rowV (v := v) (e := 2) (sz := 1) (xs := l.map zV) (by simp) (fun h => by rw [h] at lf; simp only [List.length_nil] at lf; omega) ?_
    intro gg m cap hv hmc hm
    subst hv
    obtain rfl : m = l.length := by omega
    repeat' (first | (apply Jq_move; exact rfl; exact rfl) | (apply Jq_assign; exact rfl; exact rfl) | (apply Jq_cmp; exact rfl; exact rfl; exact rfl; exact rfl) | (apply Jq_lenR; exact rfl; exact rfl; (exact rb)) | refine thenQ_normal ?_ | refine JC_seq ?_ | refine JC_region ?_ | refine J_nil ?_ | refine JC_block ?_ | refine JC_skip ?_ | (apply JC_dec_false; exact rfl; omega))
    refine JC_loop (X := Nat) (fun k => 1 ≤ k ∧ k ≤ l.length ∧ Asc id (l.take k)) (fun k => [(3, .int .i64 (k : Int)), (0, .slice (some ⟨gg, 0, none⟩) l.length cap)]) (fun _ => .row (.slice (some ⟨gg, 0, none⟩) l.length cap) 2 1 (l.map zV) :: H2) (fun k => l.length - k) 1 ⟨Nat.le_refl _, by omega, ?_⟩ ?_ ?_
    · match l, h2 with
      | x :: t, _ => exact List.pairwise_singleton _ _
    · (refine ent ?_ ?_; (repeat refine fr_cons rfl ?_); exact fr_nil; (repeat (exact List.Sublist.refl _)))
    · rintro k ⟨hk1, hk, ha⟩
      by_cases hlt : k < l.length
      · obtain ⟨x, hx⟩ : ∃ x, l[k]? = some x := ⟨_, List.getElem?_eq_getElem (by omega)⟩
        obtain ⟨y, hy⟩ : ∃ y, l[k - 1]? = some y := ⟨_, List.getElem?_eq_getElem (by omega)⟩
        have c1 : (k : Int) - 1 = ((k - 1 : Nat) : Int) := by omega
        have f1 := zs_at (show 0 + k * 1 = k by omega) hx
        have f2 := zs_at (show 0 + (k - 1) * 1 = k - 1 by omega) hy
        by_cases hxy : x = y
        · repeat' (first | (apply JC_draw mixed; kernel_rfl) | (apply Jq_loadR (v := .slice (some ⟨gg, 0, none⟩) l.length cap); exact rfl; exact rfl; exact m0; exact f1) | (apply Jq_loadR (v := .slice (some ⟨gg, 0, none⟩) l.length cap); exact rfl; exact rfl; exact m0; exact f2) | (apply Jq_subR; exact rfl; exact rfl; exact rfl; omega; exact c1) | (apply Jq_cutLo; exact rfl; exact rfl; exact rfl; exact hmc; exact hlt) | (apply Jq_move; exact rfl; exact rfl) | (apply Jq_assign; exact rfl; exact rfl) | (apply Jq_indexSN; exact rfl; exact rfl; exact rfl; omega) | (apply Jq_cmp; exact rfl; exact rfl; exact rfl; exact rfl) | (apply Jq_lenR; exact rfl; exact rfl; (exact rb)) | refine thenQ_normal ?_ | refine JC_seq ?_ | refine JC_region ?_ | refine J_nil ?_ | refine JC_block ?_ | refine JC_skip ?_ | (apply JC_dec_true; exact rfl; omega))
          refine JC_loop (X := List Int × Nat × Nat) (fun p => 1 ≤ p.2.2 ∧ p.2.2 ≤ l.length - k ∧ CJ l p.1 p.2.1 (k + p.2.2)) (fun p => [(5, .int .i64 (p.2.2 : Int)), (4, .slice (some ⟨gg, k * 1, none⟩) (l.length - k) (cap - k)), (3, .int .i64 (p.2.1 : Int)), (0, .slice (some ⟨gg, 0, none⟩) l.length cap)]) (fun p => .row (.slice (some ⟨gg, 0, none⟩) l.length cap) 2 1 (p.1.map zV) :: H2) (fun p => l.length - p.2.2) (l, k, 1) ⟨Nat.le_refl _, by (dsimp only; omega), CJ.start hk1 ha hx (hxy ▸ hy)⟩ ?_ ?_
          · (refine ent ?_ ?_; (repeat refine fr_cons rfl ?_); exact fr_nil; (repeat (exact List.Sublist.refl _)))
          · clear hx hy c1 f1 f2 hxy x y ha
            rintro ⟨A, k', j⟩ ⟨hj1, hjl, hc⟩
            dsimp only at hj1 hjl hc ⊢
            have lA : (A.map zV).length = A.length := List.length_map _
            have hAl := hc.len
            have hkj := hc.kj
            by_cases hlj : j < l.length - k
            · obtain ⟨x, hx⟩ : ∃ x, l[k + j]? = some x := ⟨_, List.getElem?_eq_getElem (by omega)⟩
              obtain ⟨y, hy⟩ : ∃ y, l[k + j - 1]? = some y := ⟨_, List.getElem?_eq_getElem (by omega)⟩
              have c1 : (j : Int) - 1 = ((j - 1 : Nat) : Int) := by omega
              have f1 := zs_at (show k * 1 + j * 1 = k + j by omega) ((hc.keep (k + j) (by omega)).trans hx)
              have f2 := zs_at (show k * 1 + (j - 1) * 1 = k + j - 1 by omega) ((hc.keep (k + j - 1) (by omega)).trans hy)
              by_cases hxy : x = y
              · repeat' (first | (apply JC_draw mixed; kernel_rfl) | (apply Jq_subR; exact rfl; exact rfl; exact rfl; omega; exact c1) | (apply Jq_loadR (v := .slice (some ⟨gg, 0, none⟩) l.length cap); exact rfl; exact rfl; exact m0; exact f1) | (apply Jq_loadR (v := .slice (some ⟨gg, 0, none⟩) l.length cap); exact rfl; exact rfl; exact m0; exact f2) | (apply Jq_move; exact rfl; exact rfl) | (apply Jq_assign; exact rfl; exact rfl) | (apply Jq_indexSN; exact rfl; exact rfl; exact rfl; omega) | (apply Jq_cmp; exact rfl; exact rfl; exact rfl; exact rfl) | (apply Jq_add; exact rfl; exact rfl; exact rfl; omega) | (apply Jq_len; exact rfl; exact rfl) | refine thenQ_normal ?_ | refine inBlockQ_normal ?_ | refine JC_seq ?_ | refine JC_region ?_ | refine J_nil ?_ | refine JC_block ?_ | refine JC_skip ?_ | (apply JC_dec_true; exact rfl; omega) | (apply JC_ndec_false; exact rfl; omega))
                refine ⟨(A, k', j + 1), ⟨by (dsimp only; omega), by (dsimp only; omega), ?_⟩, by (dsimp only; omega), ?_⟩
                · exact hc.same (by omega) hx (hxy ▸ hy)
                · (refine ent ?_ ?_; (repeat refine fr_cons rfl ?_); exact fr_nil; (repeat (exact List.Sublist.refl _)))
              · have hst : (A.map zV).set (0 + k' * 1) (.int .i64 x) = (A.set k' x).map zV := by rw [show 0 + k' * 1 = k' by omega, zs_set]
                repeat' (first | (apply JC_draw mixed; kernel_rfl) | (apply Jq_subR; exact rfl; exact rfl; exact rfl; omega; exact c1) | (apply Jq_loadR (v := .slice (some ⟨gg, 0, none⟩) l.length cap); exact rfl; exact rfl; exact m0; exact f1) | (apply Jq_loadR (v := .slice (some ⟨gg, 0, none⟩) l.length cap); exact rfl; exact rfl; exact m0; exact f2) | (apply J_sR (v := .slice (some ⟨gg, 0, none⟩) l.length cap) (xs := A.map zV); exact rfl; exact rfl; exact rfl; infer_instance; omega; exact hst) | (apply Jq_move; exact rfl; exact rfl) | (apply Jq_assign; exact rfl; exact rfl) | (apply Jq_indexSN; exact rfl; exact rfl; exact rfl; omega) | (apply Jq_cmp; exact rfl; exact rfl; exact rfl; exact rfl) | (apply Jq_add; exact rfl; exact rfl; exact rfl; omega) | (apply Jq_len; exact rfl; exact rfl) | refine thenQ_normal ?_ | refine inBlockQ_normal ?_ | refine JC_seq ?_ | refine JC_region ?_ | refine J_nil ?_ | refine JC_block ?_ | refine JC_skip ?_ | (apply JC_dec_true; exact rfl; omega) | (apply JC_ndec_true; exact rfl; omega))
                refine ⟨(A.set k' x, k' + 1, j + 1), ⟨by (dsimp only; omega), by (dsimp only; omega), ?_⟩, by (dsimp only; omega), ?_⟩
                · exact hc.more hs (by omega) hx hy hxy
                · (refine ent ?_ ?_; (repeat refine fr_cons rfl ?_); exact fr_nil; (repeat (exact List.Sublist.refl _)))
            · obtain rfl : j = l.length - k := by omega
              have hkN : k' < l.length := by omega
              have hz1 : ∀ u ∈ (Value.int .i64 0).cells, u.oneCell' = true := fun u hu => ones_of (l := [.int .i64 0]) rfl u hu.val
              have e1' : (A.map zV).take (k' * 1) = (A.take k').map zV := by rw [Nat.mul_one, List.map_take]
              repeat' (first | (apply Jq_cutLo; exact rfl; exact rfl; exact rfl; exact hmc; exact hkN) | (apply J_clear (gg := gg) (cap := cap) (N := l.length) (k := k') (e := 2) (s := 1) (xs := A.map zV); decide; exact rfl; infer_instance; exact hkN; exact hz1) | (apply Jq_cutHi; exact rfl; exact rfl; exact rfl; exact hmc; omega; omega) | (apply Jq_move; exact rfl; exact rfl) | (apply Jq_assign; exact rfl; exact rfl) | (apply Jq_cmp; exact rfl; exact rfl; exact rfl; exact rfl) | (apply Jq_len; exact rfl; exact rfl) | refine thenQ_normal ?_ | refine thenQ_exit ?_ | refine thenQ_ret ?_ | refine inBlockQ_ret ?_ | refine inBlockQ_here ?_ | refine JC_seq ?_ | refine JC_region ?_ | refine J_nil ?_ | refine JC_ret ?_ | refine JC_exit ?_ | (apply JC_dec_false; exact rfl; omega))
              have ej : k + (l.length - k) = l.length := by omega
              rw [ej] at hc
              refine e1 rfl rfl rfl ?_ ⟨A.take k', hc.asc, fun y => by rw [hc.mem, List.take_length], by rw [List.length_take]; omega, rfl⟩
              rw [← e1']
              (refine ent ?_ ?_; (repeat refine fr_cons rfl ?_); exact fr_nil; (repeat (exact List.Sublist.refl _)))
        · repeat' (first | (apply JC_draw mixed; kernel_rfl) | (apply Jq_loadR (v := .slice (some ⟨gg, 0, none⟩) l.length cap); exact rfl; exact rfl; exact m0; exact f1) | (apply Jq_loadR (v := .slice (some ⟨gg, 0, none⟩) l.length cap); exact rfl; exact rfl; exact m0; exact f2) | (apply Jq_subR; exact rfl; exact rfl; exact rfl; omega; exact c1) | (apply Jq_move; exact rfl; exact rfl) | (apply Jq_assign; exact rfl; exact rfl) | (apply Jq_indexSN; exact rfl; exact rfl; exact rfl; omega) | (apply Jq_cmp; exact rfl; exact rfl; exact rfl; exact rfl) | (apply Jq_add; exact rfl; exact rfl; exact rfl; omega) | (apply Jq_lenR; exact rfl; exact rfl; (exact rb)) | refine thenQ_normal ?_ | refine inBlockQ_normal ?_ | refine JC_seq ?_ | refine JC_region ?_ | refine J_nil ?_ | refine JC_block ?_ | refine JC_skip ?_ | (apply JC_dec_true; exact rfl; omega) | (apply JC_dec_false; exact rfl; omega))
          refine ⟨k + 1, ⟨by omega, by omega, ?_⟩, by omega, ?_⟩
          · rw [take_succI hx]
            exact asc_snocI ha (lt_nextI hs hk1 hx hy hxy)
          · (refine ent ?_ ?_; (repeat refine fr_cons rfl ?_); exact fr_nil; (repeat (exact List.Sublist.refl _)))
      · obtain rfl : k = l.length := by omega
        repeat' (first | (apply Jq_move; exact rfl; exact rfl) | (apply Jq_assign; exact rfl; exact rfl) | (apply Jq_cmp; exact rfl; exact rfl; exact rfl; exact rfl) | (apply Jq_lenR; exact rfl; exact rfl; (exact rb)) | refine thenQ_normal ?_ | refine thenQ_exit ?_ | refine inBlockQ_here ?_ | refine JC_seq ?_ | refine JC_region ?_ | refine J_nil ?_ | refine JC_ret ?_ | refine JC_exit ?_ | (apply JC_dec_false; exact rfl; omega))
        refine e1 rfl rfl rfl ?_ ⟨l, by rwa [List.take_length] at ha, fun _ => Iff.rfl, Nat.le_refl _, rfl⟩
        (refine ent ?_ ?_; (repeat refine fr_cons rfl ?_); exact fr_nil; (repeat (exact List.Sublist.refl _)))
end Go.Proofs.YtmbbcmebdefggaaGreatDoor
namespace Go.Proofs.YtmbbcmebdefggaaGreatDoor
open Go Go.RowKit SL
theorem dgG_bd {g : GrB} (h : (-302 ≤ g.1 ∧ g.1 ≤ 302) ∧ (-130 ≤ g.2 ∧ g.2 ≤ 130)) : (-302 ≤ g.1.tdiv 2 ∧ g.1.tdiv 2 ≤ 302) ∧ (-1000 ≤ dgG g ∧ dgG g ≤ 1000) := by
  have h2 : -302 ≤ g.1.tdiv 2 ∧ g.1.tdiv 2 ≤ 302 := by
    have := Int.tdiv_le_self (a := g.1.natAbs) 2 (by omega)
    rcases Int.natAbs_eq g.1 with e | e <;> rw [e] <;> (try rw [Int.neg_tdiv]) <;> have := Int.tdiv_nonneg (a := (g.1.natAbs : Int)) (b := 2) (by omega) (by decide) <;> omega
  unfold dgG
  omega
theorem ones_zV (l : List Int) : ∀ c ∈ l.map zV, c.oneCell' = true := fun c hc => by
  obtain ⟨x, _, rfl⟩ := List.mem_map.1 hc
  rfl
theorem IsT.dia {F : GrB → Int} {T : TB} (h : IsT F T) (x : Int) : (∃ g, F g ≠ 0 ∧ dgG g = x) ↔ ∃ e ∈ T, dgG e.1 = x := by
  constructor
  · rintro ⟨g, hg, rfl⟩
    exact ⟨(g, F g), (h.mem _).2 ⟨rfl, hg⟩, rfl⟩
  · rintro ⟨e, he, rfl⟩
    exact ⟨e.1, by rw [((h.mem e).1 he).1]; exact h.nz e he, rfl⟩
set_option maxRecDepth 100000 in
theorem ownP_gives {B : Nat} {w0 : World} {H : Hp} {u : Value} {ys : List Value} {m i j : Nat} (hm : It.row u 2 1 ys ∈ H) (hl : ys.length = m * 1) (hij : i ≤ j) (hjm : j ≤ m) (h1 : ∀ c ∈ ys, c.oneCell' = true) (hb : m ≤ 1000000) :
    GivesE Tryz.prog 96 #[partV 1 u i j] B w0 H (fun v' H' => H' = .row v' 2 1 ((ys.drop (i * 1)).take ((j - i) * 1)) :: H) := by
  have iu : RB u H 2 1 ys := ⟨hm⟩
  refine givesE_of (args := [partV 1 u i j]) [(0, partV 1 u i j)] Tryz.func96 rfl Tryz.ntmps96 rfl (argsF_cons rfl argsF_nil) ?_
  repeat' (first | (apply J_apP (i := i) (j := j); decide; exact rfl; exact rfl; exact rfl; infer_instance; exact rb; exact hl; exact hij; exact hjm; exact h1; ((show (_ + _) * _ ≤ _); (simp only [List.length_nil]); omega); decide; exact rfl; (intro v')) | (apply Jq_move; exact rfl; exact rfl) | (apply Jq_assign; exact rfl; exact rfl) | (apply J_lit0; exact rfl; (intro _)) | refine thenQ_normal ?_ | refine JC_seq ?_ | refine JC_region ?_ | refine J_nil ?_ | refine JC_ret ?_)
  refine SL.e1 (H' := .row v' 2 1 ((ys.drop (i * 1)).take ((j - i) * 1)) :: H) rfl rfl rfl ?_ rfl
  (refine ent ?_ ?_; (repeat refine fr_cons rfl ?_); exact fr_nil; (repeat (exact List.Sublist.refl _)))
set_option maxRecDepth 100000 in
theorem sdia_good {B : Nat} {w0 : World} {H : Hp} (n : Nat) (X O : List Nat) (bX : isB X) (bO : isB O) (h6 : n ≤ 6) (g0 : okG (n : Int) X O) (hc : kcode n X O = 0) {Q : Nat → GrB → Int} (t : Tower n X O Q) :
    GivesE Tryz.prog 43 #[.agg (gv (n : Int) X O).toArray] B w0 H (fun v' H' => ∃ u D, v' = .tuple #[u, .int .i64 0] ∧ isDia (Q (n - 1)) D ∧ It.row u 2 1 (D.map zV) ∈ H' ∧ ∀ x ∈ H, notRow x → x ∈ H') := by
  have ug := gv_len (n := (n : Int)) bX.1 bO.1
  have hn2 := (okG.grd g0).h2
  refine givesE_of (args := [.agg (gv (n : Int) X O).toArray]) [(0, .agg (gv (n : Int) X O).toArray)] Tryz.func43 rfl Tryz.ntmps43 rfl (argsF_cons rfl argsF_nil) ?_
  repeat' (first | (apply JcE; exact rfl; exact rfl; exact rfl; infer_instance; (exact sdiv_gives n X O bX bO h6 g0 t); (intro v5 H' hV; obtain ⟨L, hL, hval, hu, hin, hsub⟩ := hV)) | (apply Jq_move; exact rfl; exact rfl) | (apply Jq_assign; exact rfl; exact rfl) | (apply Jq_cmp; exact rfl; exact rfl; exact rfl; exact rfl) | (apply Jq_loadW; exact rfl; exact rfl; (exact mb); (omega)) | (apply JqM; exact rfl; exact rfl; exact rfl; infer_instance; (exact lknot_gives n X O bX bO hc)) | (apply J_box; exact rfl; exact rfl; exact rfl; (intro _)) | (apply J_lit0; exact rfl; (intro _)) | refine thenQ_normal ?_ | refine JC_seq ?_ | refine JC_region ?_ | refine J_nil ?_ | refine JC_block ?_ | refine JC_skip ?_ | (apply JC_if_false; exact rfl))
  rename_i b6
  have hi := IsT.ofTab hL hval
  have hl7 := t.len g0 h6 hi
  have lv : (valsT L).length = L.length := List.length_map _
  have ll : (L.map (·.1)).length = L.length := List.length_map _
  have iu : RB v5 H' 50 1 (L.map (·.1)) := ⟨hu⟩
  refine JC_loop (X := Nat × Value × List Int) (fun p => p.1 ≤ L.length ∧ Asc id p.2.2 ∧ (∀ x, x ∈ p.2.2 ↔ ∃ e ∈ (valsT L).take p.1, dgG e.1 = x) ∧ p.2.2.length ≤ p.1) (fun p => [(7, .int .i64 (p.1 : Int)), (6, p.2.1), (5, v5)]) (fun p => .row p.2.1 2 1 (p.2.2.map zV) :: H') (fun p => L.length - p.1) (0, .slice (some ⟨b6, 0, none⟩) 0 0, []) ⟨Nat.zero_le _, List.Pairwise.nil, fun x => ⟨fun h => absurd h List.not_mem_nil, fun h => h.elim fun e he => absurd he.1 List.not_mem_nil⟩, Nat.le_refl _⟩ ?_ ?_
  · (refine ent ?_ ?_; (repeat refine fr_cons rfl ?_); exact fr_nil; (repeat (exact List.Sublist.refl _)))
  · rintro ⟨i, v6, D⟩ ⟨hile, hasc, hmem, hlen⟩
    dsimp only at hile hasc hmem hlen ⊢
    have lD : (D.map zV).length = D.length := List.length_map _
    have lD1 : (D.map zV).length = D.length * 1 := by rw [lD, Nat.mul_one]
    have hone := ones_zV D
    by_cases hlt : i < L.length
    · obtain ⟨⟨vp, ⟨⟨a, m⟩, c⟩⟩, hpi⟩ : ∃ p, L[i]? = some p := ⟨_, List.getElem?_eq_getElem hlt⟩
      have gp1 : (L.map (·.1))[i]? = some vp := by rw [List.getElem?_map, hpi]; rfl
      have gv1 : (valsT L)[i]? = some ((a, m), c) := by unfold valsT; rw [List.getElem?_map, hpi]; rfl
      have hrow := hin _ (List.mem_of_getElem? hpi)
      have hkb := cN_keys h6 (t.supp g0 h6 (n - 1) (by omega) (a, m) (by rw [((hi.mem _).1 (List.mem_of_getElem? gv1)).1]; exact hi.nz _ (List.mem_of_getElem? gv1)))
      dsimp only at hrow hkb
      have hdb := dgG_bd (g := (a, m)) (by dsimp only; omega)
      have hdd : Int.tdiv a 2 - m = dgG (a, m) := rfl
      have ip : RB vp H' 2 1 [.int .i64 a, .int .i64 m, .int .i64 c] := ⟨hrow⟩
      have le : [Value.int .i64 a, Value.int .i64 m, Value.int .i64 c].length = 3 := rfl
      have htk : ∀ x, (∃ e ∈ (valsT L).take (i + 1), dgG e.1 = x) ↔ x = dgG (a, m) ∨ ∃ e ∈ (valsT L).take i, dgG e.1 = x := fun x => by
        rw [List.take_add_one, gv1, Option.toList_some]
        constructor
        · rintro ⟨e, he, rfl⟩
          rcases List.mem_append.1 he with he | he
          · exact .inr ⟨e, he, rfl⟩
          · rw [List.mem_singleton] at he; subst he; exact .inl rfl
        · rintro (rfl | ⟨e, he, rfl⟩)
          · exact ⟨_, List.mem_append.2 (.inr (List.mem_singleton.2 rfl)), rfl⟩
          · exact ⟨e, List.mem_append.2 (.inl he), rfl⟩
      dsimp only at hdb
      obtain ⟨hdb1, hdb2⟩ := hdb
      rw [← hdd] at htk hdb2
      clear hdd
      repeat' (first | (apply JC_draw mixed; kernel_rfl) | (apply Jq_indexRN (i := 0); exact rfl; exact rfl; exact rfl; exact rb; omega) | (apply Jq_indexRN (i := 1); exact rfl; exact rfl; exact rfl; exact rb; omega) | (apply Jq_quoR (r := Int.tdiv a 2); exact rfl; exact rfl; exact rfl; decide; exact rfl; omega) | (apply Jq_move; exact rfl; exact rfl) | (apply Jq_assign; exact rfl; exact rfl) | (apply Jq_cmp; exact rfl; exact rfl; exact rfl; exact rfl) | (apply Jq_sub; exact rfl; exact rfl; exact rfl; omega) | (apply Jq_lenR; exact rfl; exact rfl; (exact rb)) | (apply Jq_indexRN; exact rfl; exact rfl; exact rfl; (exact rb); omega) | (apply Jq_loadR; exact rfl; exact rfl; (exact rb); (first | exact rfl | exact gp1)) | refine thenQ_normal ?_ | refine JC_seq ?_ | refine JC_region ?_ | refine J_nil ?_ | refine JC_block ?_ | refine JC_skip ?_ | (apply JC_dec_true; exact rfl; omega))
      generalize Int.tdiv a 2 - m = own at *
      refine JC_cutB (Y := Nat) (fun at' => at' ≤ D.length ∧ (∀ j y, j < at' → D[j]? = some y → y < own) ∧ (∀ y, D[at']? = some y → own ≤ y)) (fun at' => [(9, .int .i64 (at' : Int)), (8, .int .i64 own), (7, .int .i64 (i : Int)), (6, v6), (5, v5)]) (fun _ => .row v6 2 1 (D.map zV) :: H') ?_ ?_
      · refine JC_loop (X := Nat) (fun at' => at' ≤ D.length ∧ (∀ j y, j < at' → D[j]? = some y → y < own)) (fun at' => [(9, .int .i64 (at' : Int)), (8, .int .i64 own), (7, .int .i64 (i : Int)), (6, v6), (5, v5)]) (fun _ => .row v6 2 1 (D.map zV) :: H') (fun at' => D.length - at') 0 ⟨Nat.zero_le _, fun j y hj => absurd hj (Nat.not_lt_zero _)⟩ ?_ ?_
        · (refine ent ?_ ?_; (repeat refine fr_cons rfl ?_); exact fr_nil; (repeat (exact List.Sublist.refl _)))
        · rintro k ⟨hk1, hk2⟩
          by_cases hkl : k < D.length
          · obtain ⟨y, hy⟩ : ∃ y, D[k]? = some y := ⟨_, List.getElem?_eq_getElem hkl⟩
            have gy : (D.map zV)[k]? = some (.int .i64 y) := zs_at rfl hy
            by_cases hyo : y < own
            · repeat' (first | (apply Jq_move; exact rfl; exact rfl) | (apply Jq_assign; exact rfl; exact rfl) | (apply Jq_cmp; exact rfl; exact rfl; exact rfl; exact rfl) | (apply Jq_add; exact rfl; exact rfl; exact rfl; omega) | (apply Jq_pick_true; exact rfl; exact rfl; exact rfl) | (apply J_on; exact rfl; exact rfl) | (apply Jq_lenR; exact rfl; exact rfl; (exact rb)) | (apply Jq_indexRN; exact rfl; exact rfl; exact rfl; (exact rb); omega) | (apply Jq_loadR; exact rfl; exact rfl; (exact rb); (exact gy)) | refine thenQ_normal ?_ | refine inBlockQ_normal ?_ | refine JC_seq ?_ | refine JC_region ?_ | refine J_nil ?_ | refine JC_block ?_ | refine JC_skip ?_ | (apply JC_dec_true; exact rfl; omega) | (apply J_gdT; exact rfl; exact rfl; omega))
              all_goals first
                | (exfalso; omega)
                | skip
              refine ⟨k + 1, ⟨by omega, fun j z hj hz => ?_⟩, by omega, ?_⟩
              · by_cases e : j = k
                · subst e; rw [hy] at hz; cases hz; exact hyo
                · exact hk2 j z (by omega) hz
              · (refine ent ?_ ?_; (repeat refine fr_cons rfl ?_); exact fr_nil; (repeat (exact List.Sublist.refl _)))
            · repeat' (first | (apply Jq_move; exact rfl; exact rfl) | (apply Jq_cmp; exact rfl; exact rfl; exact rfl; exact rfl) | (apply Jq_pick_true; exact rfl; exact rfl; exact rfl) | (apply J_on; exact rfl; exact rfl) | (apply Jq_lenR; exact rfl; exact rfl; (exact rb)) | (apply Jq_indexRN; exact rfl; exact rfl; exact rfl; (exact rb); omega) | (apply Jq_loadR; exact rfl; exact rfl; (exact rb); (exact gy)) | refine thenQ_normal ?_ | refine thenQ_exit ?_ | refine inBlockQ_here ?_ | refine JC_seq ?_ | refine JC_region ?_ | refine J_nil ?_ | refine JC_exit ?_ | (apply JC_dec_false; exact rfl; omega) | (apply J_gdT; exact rfl; exact rfl; omega))
              all_goals first
                | (exfalso; omega)
                | skip
              refine ⟨k, ⟨hk1, hk2, fun z hz => by rw [hy] at hz; cases hz; omega⟩, ?_⟩
              (refine ent ?_ ?_; (repeat refine fr_cons rfl ?_); exact fr_nil; (repeat (exact List.Sublist.refl _)))
          · obtain rfl : k = D.length := by omega
            repeat' (first | (apply Jq_move; exact rfl; exact rfl) | (apply Jq_cmp; exact rfl; exact rfl; exact rfl; exact rfl) | (apply Jq_pick_false; exact rfl; exact rfl; exact rfl) | (apply J_skip; exact rfl; exact rfl; exact rfl; exact rfl) | (apply Jq_lenR; exact rfl; exact rfl; (exact rb)) | refine thenQ_normal ?_ | refine thenQ_exit ?_ | refine inBlockQ_here ?_ | refine JC_seq ?_ | refine JC_region ?_ | refine J_nil ?_ | refine JC_exit ?_ | (apply JC_if_false; exact rfl) | (apply J_gdF; exact rfl; exact rfl; omega))
            all_goals first
              | (exfalso; omega)
              | skip
            refine ⟨D.length, ⟨hk1, hk2, fun z hz => by rw [List.getElem?_eq_none (Nat.le_refl _)] at hz; cases hz⟩, ?_⟩
            (refine ent ?_ ?_; (repeat refine fr_cons rfl ?_); exact fr_nil; (repeat (exact List.Sublist.refl _)))
      · rintro k ⟨hk1, hk2, hk3⟩
        by_cases hfound : D[k]? = some own
        · have gy : (D.map zV)[k]? = some (.int .i64 own) := zs_at rfl hfound
          have hkl := (List.getElem?_eq_some_iff.1 hfound).1
          repeat' (first | (apply Jq_move; exact rfl; exact rfl) | (apply Jq_assign; exact rfl; exact rfl) | (apply Jq_cmp; exact rfl; exact rfl; exact rfl; exact rfl) | (apply Jq_add; exact rfl; exact rfl; exact rfl; omega) | (apply Jq_pick_true; exact rfl; exact rfl; exact rfl) | (apply J_on; exact rfl; exact rfl) | (apply Jq_lenR; exact rfl; exact rfl; (exact rb)) | (apply Jq_indexRN; exact rfl; exact rfl; exact rfl; (exact rb); omega) | (apply Jq_loadR; exact rfl; exact rfl; (exact rb); (exact gy)) | refine thenQ_normal ?_ | refine thenQ_exit ?_ | refine inBlockQ_here ?_ | refine JC_seq ?_ | refine JC_region ?_ | refine J_nil ?_ | refine JC_exit ?_ | (apply JC_dec_true; exact rfl; omega) | (apply J_gdT; exact rfl; exact rfl; omega))
          all_goals first
            | (exfalso; omega)
            | skip
          refine ⟨(i + 1, v6, D), ⟨by dsimp only; omega, hasc, fun x => by dsimp only; rw [htk, ← hmem]; exact ⟨.inr, fun h => h.elim (fun e => e ▸ List.mem_of_getElem? hfound) id⟩, by dsimp only; omega⟩, by dsimp only; omega, ?_⟩
          dsimp only
          (refine ent ?_ ?_; (repeat refine fr_cons rfl ?_); exact fr_nil; (repeat (exact List.Sublist.refl _)))
        · have hasc2 : Asc id (D.take k ++ own :: D.drop k) := hasc.insert_at hk2 fun y hy => by
            have h1 := hk3 y hy
            have h2 : y ≠ own := fun e => hfound (by rw [hy, e])
            show own < y
            omega
          have hz1 : [Value.int .i64 own] ++ ((D.map zV).drop (k * 1)).take ((D.length - k) * 1) = (own :: D.drop k).map zV := by
            rw [Nat.mul_one, Nat.mul_one, ← List.map_drop, List.take_of_length_le (by rw [List.length_map, List.length_drop]; exact Nat.le_refl _)]; rfl
          have hz2 : ((D.map zV).drop (0 * 1)).take ((k - 0) * 1) = (D.take k).map zV := by
            rw [Nat.zero_mul, List.drop_zero, Nat.sub_zero, Nat.mul_one, List.map_take]
          have hz3 : (D.take k).map zV ++ (own :: D.drop k).map zV = (D.take k ++ own :: D.drop k).map zV := List.map_append.symm
          by_cases hkl : k < D.length
          · obtain ⟨y, hy⟩ : ∃ y, D[k]? = some y := ⟨_, List.getElem?_eq_getElem hkl⟩
            have gy : (D.map zV)[k]? = some (.int .i64 y) := zs_at rfl hy
            have hyo : y ≠ own := fun e => hfound (by rw [hy, e])
            repeat' (first | (apply Jq_partL (i := k); exact rfl; exact rfl; exact rfl; exact rb; exact lD1; decide; omega) | (apply J_apP (i := k) (j := D.length); decide; exact rfl; exact rfl; exact rfl; infer_instance; exact rb; exact lD1; omega; exact Nat.le_refl _; exact hone; ((show (_ + _) * _ ≤ _); (simp only [List.length_cons, List.length_nil]); omega); decide; exact hz1; (intro v70)) | (apply Jq_partH (j := k); exact rfl; exact rfl; exact rfl; exact rb; exact lD1; decide; omega) | (apply JcE; exact rfl; exact rfl; exact rfl; infer_instance; (exact ownP_gives (i := 0) (j := k) (mS m0) lD1 (Nat.zero_le _) hk1 hone (by omega)); (intro v74 H1 hV; subst hV; rw [hz2])) | (apply J_apR; decide; exact rfl; exact rfl; exact rfl; infer_instance; exact rb; exact ones_zV _; ((show (_ + _) * _ ≤ _); (simp only [List.length_map, List.length_take, List.length_cons, List.length_drop]); omega); decide; exact hz3; (intro v76)) | (apply Jq_move; exact rfl; exact rfl) | (apply Jq_assign; exact rfl; exact rfl) | (apply Jq_cmp; exact rfl; exact rfl; exact rfl; exact rfl) | (apply Jq_add; exact rfl; exact rfl; exact rfl; omega) | (apply Jq_pick_true; exact rfl; exact rfl; exact rfl) | (apply J_on; exact rfl; exact rfl) | (apply J_lit1; exact rfl; exact rfl; exact rfl; (intro _)) | (apply Jq_lenR; exact rfl; exact rfl; (exact rb)) | (apply Jq_indexRN; exact rfl; exact rfl; exact rfl; (exact rb); omega) | (apply Jq_loadR; exact rfl; exact rfl; (exact rb); (exact gy)) | refine thenQ_normal ?_ | refine inBlockQ_normal ?_ | refine JC_seq ?_ | refine JC_region ?_ | refine J_nil ?_ | refine JC_skip ?_ | (apply JC_dec_false; exact rfl; omega) | (apply J_gdT; exact rfl; exact rfl; omega))
            all_goals first
              | (exfalso; omega)
              | skip
            · refine ⟨(i + 1, v76, D.take k ++ own :: D.drop k), ⟨by dsimp only; omega, hasc2, fun x => by dsimp only; rw [mem_insert, hmem, htk], by dsimp only; rw [len_insert]; omega⟩, by dsimp only; omega, ?_⟩
              dsimp only
              (refine ent ?_ ?_; (repeat refine fr_cons rfl ?_); exact fr_nil; (repeat (first | exact List.Sublist.refl _ | refine List.Sublist.cons_cons _ ?_ | refine List.Sublist.cons _ ?_)))
          · obtain rfl : k = D.length := by omega
            repeat' (first | (apply Jq_partL (i := D.length); exact rfl; exact rfl; exact rfl; exact rb; exact lD1; decide; omega) | (apply J_apP (i := D.length) (j := D.length); decide; exact rfl; exact rfl; exact rfl; infer_instance; exact rb; exact lD1; omega; exact Nat.le_refl _; exact hone; ((show (_ + _) * _ ≤ _); (simp only [List.length_cons, List.length_nil]); omega); decide; exact hz1; (intro v70)) | (apply Jq_partH (j := D.length); exact rfl; exact rfl; exact rfl; exact rb; exact lD1; decide; omega) | (apply JcE; exact rfl; exact rfl; exact rfl; infer_instance; (exact ownP_gives (i := 0) (j := D.length) (mS m0) lD1 (Nat.zero_le _) hk1 hone (by omega)); (intro v74 H1 hV; subst hV; rw [hz2])) | (apply J_apR; decide; exact rfl; exact rfl; exact rfl; infer_instance; exact rb; exact ones_zV _; ((show (_ + _) * _ ≤ _); (simp only [List.length_map, List.length_take, List.length_cons, List.length_drop]); omega); decide; exact hz3; (intro v76)) | (apply Jq_move; exact rfl; exact rfl) | (apply Jq_assign; exact rfl; exact rfl) | (apply Jq_cmp; exact rfl; exact rfl; exact rfl; exact rfl) | (apply Jq_add; exact rfl; exact rfl; exact rfl; omega) | (apply Jq_pick_false; exact rfl; exact rfl; exact rfl) | (apply J_skip; exact rfl; exact rfl; exact rfl; exact rfl) | (apply J_lit1; exact rfl; exact rfl; exact rfl; (intro _)) | (apply Jq_lenR; exact rfl; exact rfl; (exact rb)) | refine thenQ_normal ?_ | refine inBlockQ_normal ?_ | refine JC_seq ?_ | refine JC_region ?_ | refine J_nil ?_ | refine JC_skip ?_ | (apply JC_if_false; exact rfl) | (apply J_gdF; exact rfl; exact rfl; omega))
            all_goals first
              | (exfalso; omega)
              | skip
            · refine ⟨(i + 1, v76, D.take D.length ++ own :: D.drop D.length), ⟨by dsimp only; omega, hasc2, fun x => by dsimp only; rw [mem_insert, hmem, htk], by dsimp only; rw [len_insert]; omega⟩, by dsimp only; omega, ?_⟩
              dsimp only
              (refine ent ?_ ?_; (repeat refine fr_cons rfl ?_); exact fr_nil; (repeat (first | exact List.Sublist.refl _ | refine List.Sublist.cons_cons _ ?_ | refine List.Sublist.cons _ ?_)))
    · obtain rfl : i = L.length := by omega
      rw [← lv, List.take_length] at hmem
      repeat' (first | (apply Jq_move; exact rfl; exact rfl) | (apply Jq_assign; exact rfl; exact rfl) | (apply Jq_cmp; exact rfl; exact rfl; exact rfl; exact rfl) | (apply Jq_lenR; exact rfl; exact rfl; (exact rb)) | refine thenQ_normal ?_ | refine thenQ_exit ?_ | refine inBlockQ_here ?_ | refine JC_seq ?_ | refine JC_region ?_ | refine J_nil ?_ | refine JC_ret ?_ | refine JC_exit ?_ | (apply JC_dec_false; exact rfl; omega))
      refine eT2 (H' := .row v6 2 1 (D.map zV) :: H') rfl rfl rfl rfl ?_ ⟨v6, D, rfl, ⟨hasc, fun x => by rw [hmem, hi.dia]⟩, m0, fun x hx hh => mS (hsub _ (mS hx) hh)⟩
      (refine ent ?_ ?_; (repeat refine fr_cons rfl ?_); exact fr_nil; (repeat (exact List.Sublist.refl _)))
set_option maxRecDepth 100000 in
theorem sdia_bad {B : Nat} {w0 : World} {H : Hp} (n : Int) (X O : List Nat) (bX : isB X) (bO : isB O) {c : Int} (hc : kcode n X O = c) (h0 : c ≠ 0) :
    GivesE Tryz.prog 43 #[.agg (gv n X O).toArray] B w0 H (fun v' H' => ∃ u, v' = .tuple #[u, .int .i64 c] ∧ It.row u 2 1 [] ∈ H' ∧ ∀ x ∈ H, notRow x → x ∈ H') := by
  have ug := gv_len (n := n) bX.1 bO.1
  refine givesE_of (args := [.agg (gv n X O).toArray]) [(0, .agg (gv n X O).toArray)] Tryz.func43 rfl Tryz.ntmps43 rfl (argsF_cons rfl argsF_nil) ?_
  repeat' (first | (apply Jq_move; exact rfl; exact rfl) | (apply Jq_assign; exact rfl; exact rfl) | (apply Jq_cmp; exact rfl; exact rfl; exact rfl; exact rfl) | (apply Jq_loadW; exact rfl; exact rfl; (exact mb); (omega)) | (apply JqM; exact rfl; exact rfl; exact rfl; infer_instance; (exact lknot_gives n X O bX bO hc)) | (apply J_box; exact rfl; exact rfl; exact rfl; (intro _)) | refine thenQ_normal ?_ | refine thenQ_ret ?_ | refine JC_seq ?_ | refine JC_region ?_ | refine J_nil ?_ | refine JC_ret ?_ | (apply JC_ndec_true; exact rfl; omega))
  refine eT2nil (H' := H) rfl rfl rfl rfl ?_ ⟨_, rfl, m0, fun x hx _ => mS hx⟩
  (refine ent ?_ ?_; (repeat refine fr_cons rfl ?_); exact fr_nil; (repeat (first | exact List.Sublist.refl _ | refine List.Sublist.cons _ ?_)))
set_option maxRecDepth 100000 in
theorem klS_bad {B : Nat} {w0 : World} {H : Hp} {f : Value} (n : Int) (X O : List Nat) (bX : isB X) (bO : isB O) {c : Int} (hc : (c = 5 ∧ okG n X O ∧ n ≤ 6 ∧ comps n.toNat X O ≠ 1) ∨ ((¬ okG n X O ∧ c = 1) ∨ (okG n X O ∧ 6 < n ∧ c = 2))) :
    GivesE Tryz.prog 97 #[.agg (gv n X O).toArray, f] B w0 H (fun v' H' => ∃ u, v' = .tuple #[u, .int .i64 c] ∧ H' = .row u 2 1 [] :: H) := by
  have ug := gv_len (n := n) bX.1 bO.1
  rcases hc with ⟨rfl, g, h6, h1⟩ | hc
  · obtain ⟨k, rfl⟩ := okG_nat g
    have hcm : (comps k X O : Int) ≠ 1 := by rw [Int.toNat_natCast] at h1; omega
    refine givesE_of (args := [.agg (gv (k : Int) X O).toArray, f]) [(0, .agg (gv (k : Int) X O).toArray), (1, f)] Tryz.func97 rfl Tryz.ntmps97 rfl (argsF_cons rfl (argsF_cons rfl argsF_nil)) ?_
    repeat' (first | (apply JcE; exact rfl; exact rfl; exact rfl; infer_instance; (exact klisted_good k X O bX bO g (by omega)); (intro v' H' hV; obtain ⟨rfl, rfl⟩ := hV)) | (apply Jq_move; exact rfl; exact rfl) | (apply Jq_assign; exact rfl; exact rfl) | (apply Jq_cmp; exact rfl; exact rfl; exact rfl; exact rfl) | (apply Jq_not; exact rfl; exact rfl) | (apply Jq_loadW; exact rfl; exact rfl; (exact mb); (omega)) | (apply Jq_ext20; exact rfl; exact rfl) | (apply Jq_ext21; exact rfl; exact rfl) | (apply J_box; exact rfl; exact rfl; exact rfl; (intro _)) | refine thenQ_normal ?_ | refine thenQ_ret ?_ | refine inBlockQ_ret ?_ | refine JC_seq ?_ | refine JC_region ?_ | refine J_nil ?_ | refine JC_block ?_ | refine JC_ret ?_ | (apply JC_if_false; exact rfl) | (apply JC_ndec_true; exact rfl; omega))
    refine eT2nil (H' := H) rfl rfl rfl rfl ?_ ⟨_, rfl, rfl⟩
    (refine ent ?_ ?_; (repeat refine fr_cons rfl ?_); exact fr_nil; (repeat (first | exact List.Sublist.refl _ | refine List.Sublist.cons _ ?_)))
  · have h0 : c ≠ 0 := by omega
    refine givesE_of (args := [.agg (gv n X O).toArray, f]) [(0, .agg (gv n X O).toArray), (1, f)] Tryz.func97 rfl Tryz.ntmps97 rfl (argsF_cons rfl (argsF_cons rfl argsF_nil)) ?_
    repeat' (first | (apply JcE; exact rfl; exact rfl; exact rfl; infer_instance; (exact klisted_bad n X O bX bO hc); (intro v' H' hV; obtain ⟨rfl, rfl⟩ := hV)) | (apply Jq_move; exact rfl; exact rfl) | (apply Jq_assign; exact rfl; exact rfl) | (apply Jq_cmp; exact rfl; exact rfl; exact rfl; exact rfl) | (apply Jq_loadW; exact rfl; exact rfl; (exact mb); (omega)) | (apply Jq_ext20; exact rfl; exact rfl) | (apply Jq_ext21; exact rfl; exact rfl) | (apply J_box; exact rfl; exact rfl; exact rfl; (intro _)) | refine thenQ_normal ?_ | refine thenQ_ret ?_ | refine inBlockQ_ret ?_ | refine JC_seq ?_ | refine JC_region ?_ | refine J_nil ?_ | refine JC_block ?_ | refine JC_ret ?_ | (apply JC_ndec_true; exact rfl; omega))
    refine eT2nil (H' := H) rfl rfl rfl rfl ?_ ⟨_, rfl, rfl⟩
    (refine ent ?_ ?_; (repeat refine fr_cons rfl ?_); exact fr_nil; (repeat (first | exact List.Sublist.refl _ | refine List.Sublist.cons _ ?_)))
set_option maxRecDepth 100000 in
theorem klS_good {B : Nat} {w0 : World} {H : Hp} {fk : FuncId} {caps : Array Value} (hk : Runs Tryz.prog fk) (n : Nat) (X O : List Nat) (bX : isB X) (bO : isB O) (g0 : okG (n : Int) X O) (h6 : n ≤ 6) (h1 : comps n X O = 1) (hTb : tabI ∈ H) {Q : Nat → GrB → Int} (t : Tower n X O Q) (R : Nat → TB → Value → Hp → Prop)
    (hf : ∀ b M, IsT (Q (n - 1)) M → M.length ≤ 720 → GivesE Tryz.prog fk (([.map (some b)] : List Value) ++ caps.toList).toArray B w0 (.obj b (mapO (encM grK zV M)) :: H) (R b M)) :
    GivesE Tryz.prog 97 #[.agg (gv (n : Int) X O).toArray, .func (.func fk) #[] caps] B w0 H (fun v' H' => ∃ u b M, v' = .tuple #[u, .int .i64 0] ∧ IsT (Q (n - 1)) M ∧ M.length ≤ 720 ∧ R b M u H') := by
  have ug := gv_len (n := (n : Int)) bX.1 bO.1
  have hcm : (comps n X O : Int) = 1 := by omega
  refine givesE_of (args := [.agg (gv (n : Int) X O).toArray, .func (.func fk) #[] caps]) [(0, .agg (gv (n : Int) X O).toArray), (1, .func (.func fk) #[] caps)] Tryz.func97 rfl Tryz.ntmps97 rfl (argsF_cons rfl (argsF_cons rfl argsF_nil)) ?_
  repeat' (first | (apply JcE; exact rfl; exact rfl; exact rfl; infer_instance; (exact klisted_good n X O bX bO g0 h6); (intro v' H' hV; obtain ⟨rfl, rfl⟩ := hV)) | (apply JcE; exact rfl; exact rfl; exact rfl; infer_instance; (exact idiv_gives n X O bX bO h6 g0 (by (repeat (first | exact hTb | refine mS ?_))) t); (intro v' H' hV; obtain ⟨b, M, rfl, hM, hl, rfl⟩ := hV)) | (apply JcEcP (H1 := .obj b (mapO (encM grK zV M)) :: H); exact rfl; exact rfl; exact rfl; exact hk; (refine entP (ent ?_ (List.nil_sublist _)) ?_; (repeat refine fr_cons rfl ?_); exact fr_nil; (repeat (first | exact sp_end | (with_reducible apply sp0)))); exact hf b M hM hl; (intro u H' hV)) | (apply Jq_move; exact rfl; exact rfl) | (apply Jq_assign; exact rfl; exact rfl) | (apply Jq_cmp; exact rfl; exact rfl; exact rfl; exact rfl) | (apply Jq_not; exact rfl; exact rfl) | (apply Jq_loadW; exact rfl; exact rfl; (exact mb); (omega)) | (apply Jq_ext20; exact rfl; exact rfl) | (apply Jq_ext21; exact rfl; exact rfl) | (apply J_box; exact rfl; exact rfl; exact rfl; (intro _)) | refine thenQ_normal ?_ | refine inBlockQ_normal ?_ | refine JC_seq ?_ | refine JC_region ?_ | refine J_nil ?_ | refine JC_block ?_ | refine JC_skip ?_ | refine JC_ret ?_ | (apply JC_if_false; exact rfl) | (apply JC_ndec_false; exact rfl; omega))
  exact eT2 (H' := H') rfl rfl rfl rfl (entS fun _ _ h => h) ⟨u, b, M, rfl, hM, hl, hV⟩
theorem msort_le (zs : List Int) : (zs.mergeSort fun x y => decide (x ≤ y)).Pairwise fun x y => x ≤ y :=
  (List.pairwise_mergeSort (le := fun x y => decide (x ≤ y)) (fun a b c h1 h2 => by simp only [decide_eq_true_eq] at *; omega) (fun a b => by simp only [Bool.or_eq_true, decide_eq_true_eq]; omega) zs).imp fun {a b} h => of_decide_eq_true h
set_option maxRecDepth 100000 in
theorem idia1_gives {B : Nat} {w0 : World} {H : Hp} {b : Nat} {F : GrB → Int} {k : GrB} (M : TB) (hM : IsT F M) (hk : isTop F k) (hb : It.obj b (mapO (encM grK zV M)) ∈ H) (hl : M.length ≤ 720) (hkb : ∀ e ∈ M, (-302 ≤ e.1.1 ∧ e.1.1 ≤ 302) ∧ (-130 ≤ e.1.2 ∧ e.1.2 ≤ 130)) :
    GivesE Tryz.prog 98 #[.map (some b)] B w0 H (fun v' H' => ∃ D, isDia F D ∧ D.length ≤ 720 ∧ H' = .row v' 2 1 (D.map zV) :: H) := by
  have imo : MO b H (mapO (encM grK zV M)) := ⟨hb⟩
  have hpos := hk.pos hM
  refine givesE_of (args := [.map (some b)]) [(0, .map (some b))] Tryz.func98 rfl Tryz.ntmps98 rfl (argsF_cons rfl argsF_nil) ?_
  repeat' (first | (apply J_lit0; decide; (intro b6; generalize Value.slice (some ⟨b6, 0, none⟩) 0 0 = v6)) | (apply J_rangeT (eK := grK) (eV := zV); exact rfl; exact rfl; exact mo; (intro bi)) | (apply Jq_move; exact rfl; exact rfl) | (apply Jq_assign; exact rfl; exact rfl) | refine thenQ_normal ?_ | refine JC_seq ?_ | refine JC_region ?_ | refine J_nil ?_ | refine JC_block ?_)
  refine JC_loop (X := List Nat × Value) (fun p => p.1.Nodup ∧ ∀ i ∈ p.1, i < M.length) (fun p => [(7, .pointer (some ⟨bi, 0, none⟩)), (3, p.2), (0, .map (some b))]) (fun p => .obj bi (itO b M.length p.1) :: .row p.2 2 1 ((p.1.map fun i => ((M[i]?).map fun e => dgG e.1).getD 0).map zV) :: H) (fun p => M.length - p.1.length) ([], v6) ⟨List.nodup_nil, fun i hi => absurd hi List.not_mem_nil⟩ ?_ ?_
  · (refine ent ?_ ?_; (repeat refine fr_cons rfl ?_); exact fr_nil; (repeat (exact List.Sublist.refl _)))
  · rintro ⟨seen, v⟩ ⟨hs1, hs2⟩
    dsimp only at hs1 hs2 ⊢
    have hsz0 : seen.length ≤ M.length := by
      have := List.Nodup.length_le_of_subset hs1 (l₂ := List.range M.length) fun a ha => List.mem_range.2 (hs2 a ha)
      rwa [List.length_range] at this
    repeat' (first | refine J_nextT (eK := grK) (eV := zV) (m := M) rfl rfl inferInstance rfl mo hs2 (fun hall => ?_) (fun i p hi hns => ?_) | (apply Jq_entryT (eK := grK) (eV := zV) (m := M) (p := p); exact rfl; exact rfl; exact mo; exact mo; exact hi) | (apply Jq_move; exact rfl; exact rfl) | (apply Jq_load; exact rfl; exact rfl; (exact mb); (exact rfl)) | (apply Jq_fieldAddr; exact rfl; exact rfl) | (apply J_sW; exact rfl; exact rfl; infer_instance; (exact rfl); (exact rfl); (exact ones_of rfl); infer_instance) | (apply Jq_ext20; exact rfl; exact rfl) | (apply Jq_extract; exact rfl; exact rfl; exact rfl) | (apply J_alloc; exact rfl; exact rfl; (intro _)) | refine thenQ_normal ?_ | refine thenQ_exit ?_ | refine inBlockQ_here ?_ | refine JC_seq ?_ | refine JC_region ?_ | refine J_nil ?_ | refine JC_block ?_ | refine JC_skip ?_ | refine JC_exit ?_ | (apply JC_if_true; exact rfl) | (apply JC_if_false; exact rfl))
    · have hpm : (seen.map fun i => ((M[i]?).map fun e => dgG e.1).getD 0).Perm (M.map fun e => dgG e.1) := by rw [← at_all]; exact (all_met hs1 hs2 hall).map _
      generalize (seen.map fun i => ((M[i]?).map fun e => dgG e.1).getD 0) = zs at *
      have hzl := hpm.length_eq
      rw [List.length_map] at hzl
      refine J_ent (H' := .row v 2 1 (zs.map zV) :: H) (by (refine entP (ent ?_ (List.nil_sublist _)) ?_; (repeat refine fr_cons rfl ?_); exact fr_nil; (repeat (exact sp_end)))) ?_
      repeat' (first | (apply JcE; exact rfl; exact rfl; exact rfl; infer_instance; (exact sortI_gives zs (by omega) (by omega)); (intro vt H1 hV; obtain ⟨rfl, rfl⟩ := hV)) | (apply JcE; exact rfl; exact rfl; exact rfl; infer_instance; (exact compactI_gives _ _ (by rw [List.length_mergeSort]; omega) (msort_le zs)); (intro v' H1 hV; obtain ⟨D, hD, hDm, hDl, rfl⟩ := hV; rw [List.length_mergeSort] at hDl)) | (apply Jq_move; exact rfl; exact rfl) | (apply Jq_assign; exact rfl; exact rfl) | refine thenQ_normal ?_ | refine JC_seq ?_ | refine JC_region ?_ | refine J_nil ?_ | refine JC_ret ?_)
      refine SL.e1 (H' := .row v' 2 1 (D.map zV) :: H) rfl rfl rfl ?_ ⟨D, ⟨hD, fun x => ?_⟩, by omega, rfl⟩
      · (refine entP (ent ?_ (List.nil_sublist _)) ?_; (repeat refine fr_cons rfl ?_); exact fr_nil; (repeat (exact sp_refl)))
      · rw [hDm, (List.mergeSort_perm zs _).mem_iff, hpm.mem_iff, hM.dia, List.mem_map]
    · have hin : ∀ t ∈ seen ++ [i], t < M.length := fun t ht => by
        rcases List.mem_append.1 ht with h | h
        · exact hs2 t h
        · rw [List.mem_singleton] at h
          subst h
          exact (List.getElem?_eq_some_iff.1 hi).1
      have hnn : (seen ++ [i]).Nodup := List.nodup_append.2 ⟨hs1, by simp, fun a ha b hb e => hns (by rw [List.mem_singleton] at hb; subst hb e; exact ha)⟩
      have hlt : seen.length < M.length := by
        have := List.Nodup.length_le_of_subset hnn (l₂ := List.range M.length) fun a ha => List.mem_range.2 (hin a ha)
        rw [List.length_range, List.length_append, List.length_singleton] at this
        omega
      have hsz : (seen ++ [i]).length = seen.length + 1 := by rw [List.length_append]; rfl
      have hpb := hkb _ (List.mem_of_getElem? hi)
      have hdb := dgG_bd hpb
      have hsn : ((seen ++ [i]).map fun i => ((M[i]?).map fun e => dgG e.1).getD 0).map zV = (seen.map fun i => ((M[i]?).map fun e => dgG e.1).getD 0).map zV ++ [.int .i64 (dgG p.1)] := by
        rw [List.map_append, List.map_append]
        show _ ++ [zV (((M[i]?).map fun e => dgG e.1).getD 0)] = _
        rw [hi]; rfl
      have lz : ((seen.map fun i => ((M[i]?).map fun e => dgG e.1).getD 0).map zV).length = seen.length := by rw [List.length_map, List.length_map]
      generalize ((seen.map fun i => ((M[i]?).map fun e => dgG e.1).getD 0).map zV) = zs at *
      obtain ⟨⟨a, m⟩, c⟩ := p
      have hdd : dgG (a, m) = Int.tdiv a 2 - m := rfl
      dsimp only at hpb hdb hsn
      rw [hdd] at hdb hsn
      obtain ⟨hd1, hd2⟩ := hdb
      unfold zV grK
      dsimp only
      repeat' (first | (apply Jq_quoR (r := Int.tdiv a 2); exact rfl; exact rfl; exact rfl; decide; exact rfl; omega) | (apply J_ap; decide; exact rfl; exact rfl; exact rfl; infer_instance; exact m0; exact List.cons_ne_nil _ _; exact ones_of rfl; ((show (_ + 1) * _ ≤ _); omega); decide; exact hsn.symm; (intro v')) | (apply Jq_assign; exact rfl; exact rfl) | (apply Jq_load; exact rfl; exact rfl; (exact mb); (exact rfl)) | (apply Jq_fieldAddr; exact rfl; exact rfl) | (apply Jq_sub; exact rfl; exact rfl; exact rfl; omega) | (apply J_lit1; exact rfl; exact rfl; exact rfl; (intro _)) | refine thenQ_normal ?_ | refine inBlockQ_normal ?_ | refine J_nil ?_)
      refine ⟨(seen ++ [i], v'), ⟨hnn, hin⟩, by dsimp only; omega, ?_⟩
      dsimp only
      (refine entP (ent ?_ (List.nil_sublist _)) ?_; (repeat refine fr_cons rfl ?_); exact fr_nil; (repeat (first | exact sp_end | (with_reducible apply sp2) | apply sp2)))
set_option maxRecDepth 100000 in
theorem idia_good {B : Nat} {w0 : World} {H : Hp} (n : Nat) (X O : List Nat) (bX : isB X) (bO : isB O) (h6 : n ≤ 6) (g0 : okG (n : Int) X O) (h1 : comps n X O = 1) (hTb : tabI ∈ H) {Q : Nat → GrB → Int} (t : Tower n X O Q) {k : GrB} (hk : isTop (Q (n - 1)) k) :
    GivesE Tryz.prog 44 #[.agg (gv (n : Int) X O).toArray] B w0 H (fun v' H' => ∃ u D, v' = .tuple #[u, .int .i64 0] ∧ isDia (Q (n - 1)) D ∧ D.length ≤ 720 ∧ H' = .row u 2 1 (D.map zV) :: H) := by
  have ug := gv_len (n := (n : Int)) bX.1 bO.1
  have hn2 := (okG.grd g0).h2
  have hkl := fun (H : Hp) (hTb : tabI ∈ H) => klS_good (B := B) (w0 := w0) (H := H) (fk := 98) (caps := #[]) inferInstance n X O bX bO g0 h6 h1 hTb t (fun (b : Nat) (M : TB) v' H' => ∃ D, isDia (Q (n - 1)) D ∧ D.length ≤ 720 ∧ H' = .row v' 2 1 (D.map zV) :: .obj b (mapO (encM grK zV M)) :: H) (fun b M hM hl => idia1_gives M hM hk m0 hl fun e he => by
    have := cN_keys h6 (t.supp g0 h6 (n - 1) (by omega) e.1 (by rw [((hM.mem e).1 he).1]; exact hM.nz e he))
    omega)
  refine givesE_of (args := [.agg (gv (n : Int) X O).toArray]) [(0, .agg (gv (n : Int) X O).toArray)] Tryz.func44 rfl Tryz.ntmps44 rfl (argsF_cons rfl argsF_nil) ?_
  repeat' (first | (apply JcE; exact rfl; exact rfl; exact rfl; infer_instance; (exact hkl _ (mS hTb)); (intro v' H' hV; obtain ⟨u, b, M, rfl, hM, hl, D, hD, hDl, rfl⟩ := hV)) | (apply Jq_assign; exact rfl; exact rfl) | (apply Jq_loadW; exact rfl; exact rfl; (exact mb); (omega)) | (apply Jq_ext20; exact rfl; exact rfl) | (apply Jq_ext21; exact rfl; exact rfl) | (apply J_box; exact rfl; exact rfl; exact rfl; (intro _)) | refine thenQ_normal ?_ | refine JC_seq ?_ | refine JC_region ?_ | refine J_nil ?_ | refine JC_ret ?_)
  refine eT2 (H' := .row u 2 1 (D.map zV) :: H) rfl rfl rfl rfl ?_ ⟨u, D, rfl, hD, hDl, rfl⟩
  (refine entP (ent ?_ (List.nil_sublist _)) ?_; (repeat refine fr_cons rfl ?_); exact fr_nil; (repeat (first | exact sp_end | (with_reducible apply sp0))))
set_option maxRecDepth 100000 in
theorem idia_bad {B : Nat} {w0 : World} {H : Hp} (n : Int) (X O : List Nat) (bX : isB X) (bO : isB O) {c : Int} (hc : (c = 5 ∧ okG n X O ∧ n ≤ 6 ∧ comps n.toNat X O ≠ 1) ∨ ((¬ okG n X O ∧ c = 1) ∨ (okG n X O ∧ 6 < n ∧ c = 2))) :
    GivesE Tryz.prog 44 #[.agg (gv n X O).toArray] B w0 H (fun v' H' => ∃ u, v' = .tuple #[u, .int .i64 c] ∧ H' = .row u 2 1 [] :: H) := by
  have ug := gv_len (n := n) bX.1 bO.1
  refine givesE_of (args := [.agg (gv n X O).toArray]) [(0, .agg (gv n X O).toArray)] Tryz.func44 rfl Tryz.ntmps44 rfl (argsF_cons rfl argsF_nil) ?_
  repeat' (first | (apply JcE; exact rfl; exact rfl; exact rfl; infer_instance; (exact klS_bad n X O bX bO hc); (intro v' H' hV; obtain ⟨u, rfl, rfl⟩ := hV)) | (apply Jq_assign; exact rfl; exact rfl) | (apply Jq_loadW; exact rfl; exact rfl; (exact mb); (omega)) | (apply Jq_ext20; exact rfl; exact rfl) | (apply Jq_ext21; exact rfl; exact rfl) | (apply J_box; exact rfl; exact rfl; exact rfl; (intro _)) | refine thenQ_normal ?_ | refine JC_seq ?_ | refine JC_region ?_ | refine J_nil ?_ | refine JC_ret ?_)
  refine eT2 (H' := .row u 2 1 [] :: H) rfl rfl rfl rfl ?_ ⟨u, rfl, rfl⟩
  (refine entP (ent ?_ (List.nil_sublist _)) ?_; (repeat refine fr_cons rfl ?_); exact fr_nil; (repeat (first | exact sp_end | (with_reducible apply sp0))))
theorem dia_exists {F : GrB → Int} {T : TB} (h : IsT F T) : ∃ D, isDia F D ∧ D.length ≤ T.length := by
  have key : ∀ T : TB, ∃ D : List Int, Asc id D ∧ (∀ x, x ∈ D ↔ ∃ e ∈ T, dgG e.1 = x) ∧ D.length ≤ T.length := fun T => by
    induction T with
    | nil => exact ⟨[], List.Pairwise.nil, fun x => ⟨fun h => absurd h List.not_mem_nil, fun h => h.elim fun e he => absurd he.1 List.not_mem_nil⟩, Nat.le_refl _⟩
    | cons e T ih =>
      obtain ⟨D, h1, h2, h3⟩ := ih
      by_cases hm : dgG e.1 ∈ D
      · refine ⟨D, h1, fun x => ?_, by rw [List.length_cons]; omega⟩
        rw [h2]
        constructor
        · rintro ⟨q, hq, rfl⟩; exact ⟨q, List.mem_cons_of_mem _ hq, rfl⟩
        · rintro ⟨q, hq, rfl⟩
          rcases List.mem_cons.1 hq with rfl | hq
          · exact (h2 _).1 hm
          · exact ⟨q, hq, rfl⟩
      · refine ⟨(D.filter fun y => decide (y < dgG e.1)) ++ dgG e.1 :: (D.filter fun y => decide (dgG e.1 < y)), ?_, fun x => ?_, ?_⟩
        · refine List.pairwise_append.2 ⟨h1.filter _, List.pairwise_cons.2 ⟨fun y hy => ?_, h1.filter _⟩, fun a ha b hb => ?_⟩
          · exact of_decide_eq_true (List.mem_filter.1 hy).2
          · have h4 := of_decide_eq_true (List.mem_filter.1 ha).2
            rcases List.mem_cons.1 hb with rfl | hb
            · exact h4
            · have h5 := of_decide_eq_true (List.mem_filter.1 hb).2
              show a < b
              omega
        · rw [List.mem_append, List.mem_cons, List.mem_filter, List.mem_filter, decide_eq_true_iff, decide_eq_true_iff, h2]
          constructor
          · rintro (⟨⟨q, hq, rfl⟩, _⟩ | rfl | ⟨⟨q, hq, rfl⟩, _⟩)
            · exact ⟨q, List.mem_cons_of_mem _ hq, rfl⟩
            · exact ⟨e, List.mem_cons_self, rfl⟩
            · exact ⟨q, List.mem_cons_of_mem _ hq, rfl⟩
          · rintro ⟨q, hq, rfl⟩
            rcases List.mem_cons.1 hq with rfl | hq
            · exact .inr (.inl rfl)
            · have h5 : dgG q.1 ∈ D := (h2 _).2 ⟨q, hq, rfl⟩
              have h6 : dgG q.1 ≠ dgG e.1 := fun k => hm (k ▸ h5)
              by_cases h7 : dgG q.1 < dgG e.1
              · exact .inl ⟨⟨q, hq, rfl⟩, h7⟩
              · exact .inr (.inr ⟨⟨q, hq, rfl⟩, by omega⟩)
        · have h4 : ∀ D : List Int, (D.filter fun y => decide (y < dgG e.1)).length + (D.filter fun y => decide (dgG e.1 < y)).length ≤ D.length := fun D => by
            induction D with
            | nil => exact Nat.le_refl _
            | cons a D ih =>
              rw [List.filter_cons, List.filter_cons, List.length_cons]
              by_cases h5 : a < dgG e.1
              · rw [if_pos (by simpa using h5), if_neg (by simp; omega), List.length_cons]; omega
              · rw [if_neg (by simpa using h5)]
                split
                · rw [List.length_cons]; omega
                · omega
          have := h4 D
          rw [List.length_append, List.length_cons, List.length_cons]
          omega
  obtain ⟨D, h1, h2, h3⟩ := key T
  exact ⟨D, ⟨h1, fun x => by rw [h2, h.dia]⟩, h3⟩
theorem GivesE.wk {P : Program} {f : FuncId} {args : Array Value} {B : Nat} {w0 : World} {H : Hp} {R R' : Value → Hp → Prop} (h : GivesE P f args B w0 H R) (ho : ∀ v H1, R v H1 → R' v H1) : GivesE P f args B w0 H R' := by
  unfold GivesE at *
  intro w hw
  refine (h w hw).mono ?_
  rintro e w' ⟨v', H', rfl, hr, hh⟩
  exact ⟨v', H', rfl, ho _ _ hr, hh⟩
theorem isNums_zV (D : List Int) : isNums (D.map zV) := fun j hj => by
  rw [List.length_map] at hj
  exact ⟨D[j], by rw [List.getElem?_map, List.getElem?_eq_getElem hj]; rfl⟩
theorem dia_res (n : Int) (X O : List Nat) : ∃ (xs : List Value) (c : Int), isNums xs ∧ xs.length ≤ 720 ∧ ∀ (B : Nat) (w0 : World) (H : Hp), tabI ∈ H → isB X → isB O →
    GivesE Tryz.prog 43 #[.agg (gv n X O).toArray] B w0 H (fun v' H' => ∃ u, v' = .tuple #[u, .int .i64 c] ∧ It.row u 2 1 xs ∈ H' ∧ ∀ x ∈ H, notRow x → x ∈ H') ∧
    GivesE Tryz.prog 44 #[.agg (gv n X O).toArray] B w0 H (fun v' H' => ∃ u, v' = .tuple #[u, .int .i64 c] ∧ H' = .row u 2 1 xs :: H) := by
  rcases kcode_cases (n := n) (X := X) (O := O) rfl with ⟨h0, g, h6, h1⟩ | ⟨h0, h⟩
  · obtain ⟨k, rfl⟩ := okG_nat g
    have h6' : k ≤ 6 := by omega
    rw [Int.toNat_natCast] at h1
    obtain ⟨Q, t⟩ := knot_tower g (show k ≤ 8 by omega) h1
    obtain ⟨T, q, hT, hv, hl, hq, hqb⟩ := top_exists t g h6' h1
    obtain ⟨D, hD, hDl⟩ := dia_exists (IsT.ofTab hT hv)
    refine ⟨D.map zV, 0, isNums_zV D, by rw [List.length_map]; omega, fun B w0 H hTb bX bO => ⟨?_, ?_⟩⟩
    · have h := sdia_good (B := B) (w0 := w0) (H := H) k X O bX bO h6' g h0 t
      refine GivesE.wk h ?_
      rintro v' H' ⟨u, D', rfl, hD', hu, hk⟩
      rw [hD'.one hD] at hu
      exact ⟨u, rfl, hu, hk⟩
    · have h := idia_good (B := B) (w0 := w0) (H := H) k X O bX bO h6' g h1 hTb t hq
      refine GivesE.wk h ?_
      rintro v' H' ⟨u, D', rfl, hD', _, rfl⟩
      rw [hD'.one hD]
      exact ⟨u, rfl, rfl⟩
  · refine ⟨[], kcode n X O, fun j hj => absurd hj (Nat.not_lt_zero _), Nat.zero_le _, fun B w0 H _ bX bO => ⟨sdia_bad n X O bX bO rfl h0, idia_bad n X O bX bO h⟩⟩
set_option maxRecDepth 100000 in
theorem lawDia_gives {B : Nat} {w0 : World} {H : Hp} (hT : tabI ∈ H) (n : Int) (X O : List Nat) (bX : isB X) (bO : isB O) :
    GivesE Tryz.prog 10 #[.agg (gv n X O).toArray] B w0 H (fun v' _ => v' = .bool true) := by
  have ug := gv_len (n := n) bX.1 bO.1
  obtain ⟨xs, c, hxs, hxl, hres⟩ := dia_res n X O
  refine givesE_of (args := [.agg (gv n X O).toArray]) [(0, .agg (gv n X O).toArray)] Tryz.func10 rfl Tryz.ntmps10 rfl (argsF_cons rfl argsF_nil) ?_
  repeat' (first | (apply JcE; exact rfl; exact rfl; exact rfl; infer_instance; (exact (hres _ _ _ (by (repeat (first | exact hT | refine mS ?_))) bX bO).1); (intro v0 H0 hV; obtain ⟨u0, rfl, hu0, hk0⟩ := hV; have i3 : MB _ H0 _ _ := ⟨hk0 _ m0 trivial⟩)) | (apply JcE; exact rfl; exact rfl; exact rfl; infer_instance; (exact (hres _ _ _ (by (repeat (first | exact hT | exact hk0 _ (by (repeat (first | exact hT | refine mS ?_))) trivial | refine mS ?_))) bX bO).2); (intro v' H' hV; obtain ⟨u, rfl, rfl⟩ := hV)) | (apply Jq_move; exact rfl; exact rfl) | (apply Jq_assign; exact rfl; exact rfl) | (apply Jq_cmp; exact rfl; exact rfl; exact rfl; exact rfl) | (apply Jq_not; exact rfl; exact rfl) | (apply Jq_pick_false; exact rfl; exact rfl; exact rfl) | (apply J_on; exact rfl; exact rfl) | (apply Jc; exact rfl; exact rfl; exact rfl; infer_instance; ((intro w hw); exact toGrid_gives n X O bX.1 bO.1 w)) | (apply Jq_loadW; exact rfl; exact rfl; (exact mb); (omega)) | (apply JqM; exact rfl; exact rfl; exact rfl; infer_instance; (first | (focus (apply eqSame_gives (xs := xs); (repeat (first | exact m0 | exact hu0 | refine mS ?_)); (repeat (exact m0)); assumption; omega)) | (focus (apply held_gives 1 xs.length; (repeat (first | exact m0 | refine mS ?_)); decide; omega)))) | (apply JcM; exact rfl; exact rfl; exact rfl; infer_instance; (exact mark_gives0 1 (by decide) (by omega))) | (apply Jq_ext20; exact rfl; exact rfl) | (apply Jq_ext21; exact rfl; exact rfl) | (apply J_box; exact rfl; exact rfl; exact rfl; (intro _)) | refine thenQ_normal ?_ | refine JC_seq ?_ | refine JC_region ?_ | refine J_nil ?_ | refine JC_skip ?_ | refine JC_ret ?_ | (apply JC_if_false; exact rfl) | (apply JC_ndec_false; exact rfl; omega))
  refine SL.e1 rfl rfl rfl (entS fun _ _ h => h) ?_
  exact rfl
end Go.Proofs.YtmbbcmebdefggaaGreatDoor
