/- Rules: room for a slice's elements. Walks: lists of states joined. Walks: sums of states: impl.AddSums. Walks: FnExactAddSums. -/
import Derived.Test.YtmbbcmebdefggaaDoorAP
import Derived.Test.YtmbbcmebdefggaaDoorTG
import Derived.Test.YtmbbcmebdefggaaDoorTH
import Derived.Lib.AppendZeros
namespace Go.Proofs.YtmbbcmebdefggaaDoor
open Go Go.RowKit
namespace SL
section
variable {P : Program} {B : Nat} {w0 : World} {n : Nat} {Q : Po} {F : Fr} {H H1 H2 : Hp} {ops : Array Oper} {l : List Oper} {ty : TypeId} {pos : String} {af : Array Edge} {d : Nat} {dst : Option Tmp} {g : Option (Nat × Bool)}
end
end SL
end Go.Proofs.YtmbbcmebdefggaaDoor
namespace Go.Proofs.YtmbbcmebdefggaaDoor
open Go Go.RowKit SL
end Go.Proofs.YtmbbcmebdefggaaDoor
namespace Go.Proofs.YtmbbcmebdefggaaDoor
open Go Go.RowKit SL
namespace SL
section
variable {P : Program} {B : Nat} {w0 : World} {n : Nat} {Q : Po} {F : Fr} {H H1 H2 : Hp} {ops : Array Oper} {l : List Oper} {ty : TypeId} {pos : String} {af : Array Edge} {d : Nat}
theorem Jq_func2 {dr : Bool} {fn : Fn} {x y : Operand} {v u : Value} (hdn : Nat.blt d n = true) (hx : ev F x = some v) (hy : ev F y = some u) (kk : J dr P B w0 n ops Q l ((d, .func fn #[] #[v, u]) :: F) H) :
    J dr P B w0 n ops Q (⟨some d, .makeFunc fn #[] #[x, y], ty, pos, af, none⟩ :: l) F H :=
  J_q hdn (q_makeFunc (fun a ha => by simp) (fun a ha => by simp [ha.ev hx, ha.ev hy])) kk
end
end SL
theorem codeS_cases {n : Int} {X O : List Nat} {Ls : List (List StB)} {c : Int} (hc : codeS n X O Ls = c) : (c = 1 ∧ ¬ (okG n X O ∧ ∀ l ∈ Ls, sumOK n X O l)) ∨ ((okG n X O ∧ ∀ l ∈ Ls, sumOK n X O l) ∧ ((c = 2 ∧ 6 < n) ∨ (c = 0 ∧ n ≤ 6))) := by
  unfold codeS at hc
  split at hc
  · rename_i h
    split at hc
    · exact .inr ⟨h, .inl ⟨hc.symm, by assumption⟩⟩
    · exact .inr ⟨h, .inr ⟨hc.symm, by omega⟩⟩
  · exact .inl ⟨hc.symm, by assumption⟩
end Go.Proofs.YtmbbcmebdefggaaDoor
namespace Go.Proofs.YtmbbcmebdefggaaDoor
open Go Go.RowKit SL
end Go.Proofs.YtmbbcmebdefggaaDoor
