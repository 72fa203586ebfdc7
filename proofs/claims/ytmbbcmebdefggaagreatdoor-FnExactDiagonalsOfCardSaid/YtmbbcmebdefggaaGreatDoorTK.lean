/- Rules: room for a slice's elements. Walks: lists of states joined. Walks: sums of states: impl.AddSums. Walks: FnExactAddSums. -/
import Derived.Test.YtmbbcmebdefggaaGreatDoorAP
import Derived.Test.YtmbbcmebdefggaaGreatDoorTG
import Derived.Test.YtmbbcmebdefggaaGreatDoorTH
import Derived.Lib.AppendZeros
namespace Go.Proofs.YtmbbcmebdefggaaGreatDoor
open Go Go.RowKit
namespace SL
section
variable {P : Program} {B : Nat} {w0 : World} {n : Nat} {Q : Po} {F : Fr} {H H1 H2 : Hp} {ops : Array Oper} {l : List Oper} {ty : TypeId} {pos : String} {af : Array Edge} {d : Nat} {dst : Option Tmp} {g : Option (Nat × Bool)}
end
end SL
end Go.Proofs.YtmbbcmebdefggaaGreatDoor
namespace Go.Proofs.YtmbbcmebdefggaaGreatDoor
open Go Go.RowKit SL
end Go.Proofs.YtmbbcmebdefggaaGreatDoor
namespace Go.Proofs.YtmbbcmebdefggaaGreatDoor
open Go Go.RowKit SL
namespace SL
section
variable {P : Program} {B : Nat} {w0 : World} {n : Nat} {Q : Po} {F : Fr} {H H1 H2 : Hp} {ops : Array Oper} {l : List Oper} {ty : TypeId} {pos : String} {af : Array Edge} {d : Nat}
end
end SL
theorem codeS_cases {n : Int} {X O : List Nat} {Ls : List (List StB)} {c : Int} (hc : codeS n X O Ls = c) : (c = 1 ∧ ¬ (okG n X O ∧ ∀ l ∈ Ls, sumOK n X O l)) ∨ ((okG n X O ∧ ∀ l ∈ Ls, sumOK n X O l) ∧ ((c = 2 ∧ 6 < n) ∨ (c = 0 ∧ n ≤ 6))) := by
  unfold codeS at hc
  split at hc
  · rename_i h
    split at hc
    · exact .inr ⟨h, .inl ⟨hc.symm, by assumption⟩⟩
    · exact .inr ⟨h, .inr ⟨hc.symm, by omega⟩⟩
  · exact .inl ⟨hc.symm, by assumption⟩
end Go.Proofs.YtmbbcmebdefggaaGreatDoor
namespace Go.Proofs.YtmbbcmebdefggaaGreatDoor
open Go Go.RowKit SL
end Go.Proofs.YtmbbcmebdefggaaGreatDoor
