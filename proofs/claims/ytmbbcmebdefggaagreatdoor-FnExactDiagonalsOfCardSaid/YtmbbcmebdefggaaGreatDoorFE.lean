/- Walks: the genus of a knot; knots that are fibred. Walks: unknots told by their genus. Walks: fibred knots. -/
import Derived.Test.YtmbbcmebdefggaaGreatDoorFB
import Derived.Test.YtmbbcmebdefggaaGreatDoorMM
namespace Go.Proofs.YtmbbcmebdefggaaGreatDoor
open Go Go.RowKit SL
theorem Tower.len {n : Nat} {X O : List Nat} {Q : Nat → GrB → Int} (t : Tower n X O Q) (g0 : okG (n : Int) X O) (h6 : n ≤ 6) {T : TB} (hi : IsT (Q (n - 1)) T) : T.length ≤ 720 := by
  have hn2 := (okG.grd g0).h2
  exact keys_720 h6 hi.nd fun e he => t.supp g0 h6 (n - 1) (by omega) _ (by rw [((hi.mem e).1 he).1]; exact hi.nz e he)
theorem isTop.pos {F : GrB → Int} {k : GrB} (h : isTop F k) {T : TB} (hT : IsT F T) : 0 < T.length := by
  have h1 : (k, F k) ∈ T := (hT.mem (k, F k)).2 ⟨rfl, h.1⟩
  exact List.length_pos_of_mem h1
theorem top_exists {n : Nat} {X O : List Nat} {Q : Nat → GrB → Int} (t : Tower n X O Q) (g0 : okG (n : Int) X O) (h6 : n ≤ 6) (h1 : comps n X O = 1) : ∃ T k, Tab T ∧ (∀ g, vT T g = Q (n - 1) g) ∧ T.length ≤ 720 ∧ isTop (Q (n - 1)) k ∧ ((-300 ≤ k.1 ∧ k.1 ≤ 300) ∧ (-127 ≤ k.2 ∧ k.2 ≤ 129)) := by
  have hn2 := (okG.grd g0).h2
  have hs := t.supp g0 h6 (n - 1) (by omega)
  obtain ⟨T, hT, hv, hl⟩ := tab_of (X := X) (O := O) h6 (Q (n - 1)) hs
  obtain ⟨q, hq⟩ := t.some g0 h6 h1
  have hi := IsT.ofTab hT hv
  have hm : (q, Q (n - 1) q) ∈ T := (hi.mem (q, Q (n - 1) q)).2 ⟨rfl, hq⟩
  have hp : 0 < T.length := List.length_pos_of_mem hm
  obtain ⟨e, he⟩ : ∃ e, T[T.length - 1]? = some e := ⟨_, List.getElem?_eq_getElem (by omega)⟩
  have ht := isTop.last hT hv he
  exact ⟨T, e.1, hT, hv, hl, ht, cN_keys h6 (hs _ ht.1)⟩
end Go.Proofs.YtmbbcmebdefggaaGreatDoor
namespace Go.Proofs.YtmbbcmebdefggaaGreatDoor
open Go Go.RowKit SL
namespace SL
end SL
end Go.Proofs.YtmbbcmebdefggaaGreatDoor
namespace Go.Proofs.YtmbbcmebdefggaaGreatDoor
open Go Go.RowKit SL
theorem at_all (g : GrB × Int → Int) (T : TB) : (List.range T.length).map (fun i => ((T[i]?).map g).getD 0) = T.map g := List.ext_getElem? fun i => by
  rw [List.getElem?_map, List.getElem?_map]
  by_cases h : i < T.length
  · rw [List.getElem?_range h, Option.map_some, List.getElem?_eq_getElem h]; rfl
  · rw [List.getElem?_eq_none (by rw [List.length_range]; omega), List.getElem?_eq_none (by omega)]; rfl
end Go.Proofs.YtmbbcmebdefggaaGreatDoor
