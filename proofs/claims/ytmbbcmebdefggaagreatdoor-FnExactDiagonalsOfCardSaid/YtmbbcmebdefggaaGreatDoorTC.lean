/- The comparison of grids as slices.SortFunc asks for it. The comparison of states as slices.SortFunc asks for it. -/
import Derived.Test.YtmbbcmebdefggaaGreatDoorGB
import Derived.Test.YtmbbcmebdefggaaGreatDoorV
import Derived.Test.YtmbbcmebdefggaaGreatDoorVA
import Derived.Shelf.SlSortCmp.WholeK
namespace Go.Proofs.YtmbbcmebdefggaaGreatDoor
open Go Go.RowKit SL
theorem grown_of_blw {W W' : World} (h : Blw W.heap.size W W') : ∃ q os', W' = Go.Sort.grow (W.drewN q) os' := by
  refine ⟨W'.drawn - W.drawn, W'.heap.extract W.heap.size W'.heap.size, ?_⟩
  have hd := h.drawn
  have hs := h.size
  have hb := h.block
  have h := h.lo
  obtain ⟨heap', tape', drawn', os', output'⟩ := W'
  have e1 : os' = W.os := h.os
  have e2 : tape' = W.tape := h.tape
  have e3 : output' = W.output := h.output
  subst e1 e2 e3
  have hd' : W.drawn ≤ drawn' := hd
  have hs' : W.heap.size ≤ heap'.size := hs
  have hb' : ∀ k, k < W.heap.size → heap'[k]? = W.heap[k]? := hb
  have eh : heap' = W.heap ++ heap'.extract W.heap.size heap'.size := by
    apply Array.ext_getElem?
    intro k
    by_cases hk : k < W.heap.size
    · rw [Array.getElem?_append_left hk]; exact hb' k hk
    · rw [Array.getElem?_append_right (by omega), Array.getElem?_extract]
      by_cases hk2 : k < heap'.size
      · rw [if_pos (by omega)]; congr 1; omega
      · rw [if_neg (by omega), Array.getElem?_eq_none (by omega)]
  have ed : drawn' = W.drawn + (drawn' - W.drawn) := by omega
  simp only [Go.Sort.grow, World.drewN]
  congr 1
end Go.Proofs.YtmbbcmebdefggaaGreatDoor
namespace Go.Proofs.YtmbbcmebdefggaaGreatDoor
open Go Go.RowKit SL
theorem part0 {ds : List Value} : ∀ (i : Nat) (v : Value), ds[i]? = some v → ds[0 + i]? = some v := fun i v h => by rw [Nat.zero_add]; exact h
set_option maxRecDepth 100000 in
theorem compareS_gives (X Y : List Nat) (bX : isB X) (bY : isB Y) (w : World) :
    Gives Tryz.prog 62 #[.agg (u8s X).toArray, .agg (u8s Y).toArray] (.int .i64 (cmpL X Y)) w := by
  have uX := (u8s_len X).trans bX.1
  have uY := (u8s_len Y).trans bY.1
  refine gives_of (args := [.agg (u8s X).toArray, .agg (u8s Y).toArray]) [(0, .agg (u8s X).toArray), (1, .agg (u8s Y).toArray)] [] Tryz.func62 rfl Tryz.ntmps62 rfl (argsF_cons rfl (argsF_cons rfl argsF_nil)) (Holds.start w) ?_
  repeat' (first | (apply Jq_assign; exact rfl; exact rfl) | (apply Jc; exact rfl; exact rfl; exact rfl; infer_instance; ((intro w hw); exact sliceCmp_gives X Y _ _ _ _ bX bY w (hw.blk_lt (mS m0)) (hw.blk_cells (mS m0) part0) (hw.blk_lt m0) (hw.blk_cells m0 part0))) | (apply Jq_sliceA; exact rfl; exact rfl) | (apply J_box; exact rfl; exact rfl; exact rfl; (intro _)) | refine thenQ_normal ?_ | refine JC_seq ?_ | refine JC_region ?_ | (apply JC_draw mixed; kernel_rfl) | refine J_nil ?_ | refine JC_ret ?_)
  exact g1 rfl rfl rfl rfl
def cfS (p q : StB) : Int := cmpL p.1 q.1
/-- The number by which states are in order. -/
abbrev rkS := rkT
theorem cfS_lt (x y : StB) : cfS x y < 0 ↔ rkS x < rkS y := by
  unfold cfS cmpL cmp3 rkS rkT
  by_cases h1 : (key x.1 : Int) < (key y.1 : Int)
  · rw [if_pos h1]; simp; omega
  · rw [if_neg h1]
    by_cases h2 : (key y.1 : Int) < (key x.1 : Int)
    · rw [if_pos h2]; simp; omega
    · rw [if_neg h2]; simp; omega
theorem swoT : Go.Sort.SWO (Go.Proofs.ltOf cfS) where
  irrefl x := by unfold Go.Proofs.ltOf; simp only [decide_eq_false_iff_not, cfS_lt]; omega
  trans x y z h1 h2 := by unfold Go.Proofs.ltOf at *; simp only [decide_eq_true_eq, cfS_lt] at *; omega
  ntrans x y z h1 h2 := by unfold Go.Proofs.ltOf at *; simp only [decide_eq_false_iff_not, cfS_lt] at *; omega
theorem cmpLaysT (blk off size : Nat) (w : World) : CmpLays Tryz.prog 62 #[] encS 8 cfS blk off size w := fun m os dk _ x y => by
  have h := compareS_gives x.1 y.1 x.2 y.2 (sortWorldK encS 8 w blk off m dk os)
  unfold Gives at h
  exact h.mono fun e w' ⟨he, hb⟩ => ⟨he, grown_of_blw hb⟩
end Go.Proofs.YtmbbcmebdefggaaGreatDoor
