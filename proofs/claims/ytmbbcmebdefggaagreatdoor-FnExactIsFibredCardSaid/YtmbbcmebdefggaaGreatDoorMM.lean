/- Items found behind an unknown part of the memory. Walks: slices.Compact at a list of grids in order. -/
import Derived.Test.YtmbbcmebdefggaaGreatDoorGE
import Derived.Test.YtmbbcmebdefggaaGreatDoorSH
import Derived.Test.YtmbbcmebdefggaaGreatDoorV
import Derived.Test.YtmbbcmebdefggaaGreatDoorAP
import Derived.Test.YtmbbcmebdefggaaGreatDoorWC
import Derived.Test.YtmbbcmebdefggaaGreatDoorTG
namespace Go.Proofs.YtmbbcmebdefggaaGreatDoor
open Go Go.RowKit SL
namespace SL
instance (priority := low) RB_N {v : Value} {A H : Hp} {e sz : Nat} {xs : List Value} [h : RB v H e sz xs] : RB v (A ++ H) e sz xs := ⟨List.mem_append.2 (.inr h.out)⟩
instance (priority := low) MB_N {b : Nat} {A H : Hp} {cs : List Value} {E : TypeId} [h : MB b H cs E] : MB b (A ++ H) cs E := ⟨List.mem_append.2 (.inr h.out)⟩
instance (priority := low) RB_L {v : Value} {A H : Hp} {e sz : Nat} {xs : List Value} [h : RB v A e sz xs] : RB v (A ++ H) e sz xs := ⟨List.mem_append.2 (.inl h.out)⟩
instance (priority := low) MU_N {b : Nat} {A H H' : Hp} {cs cs' : List Value} {E : TypeId} [h : MU b H cs E cs' H'] : MU b (A ++ H) cs E cs' (A ++ H') := ⟨by
  obtain ⟨H1, H2, rfl, rfl⟩ := h.out
  exact ⟨A ++ H1, H2, (List.append_assoc ..).symm, (List.append_assoc ..).symm⟩⟩
instance (priority := low) RF_N {v : Value} {A H : Hp} {H' : Value → List Value → Hp} {e sz : Nat} {xs : List Value} [h : RF v H e sz xs H'] : RF v (A ++ H) e sz xs (fun v' xs' => A ++ H' v' xs') := ⟨by
  obtain ⟨H1, H2, rfl, h2⟩ := h.out
  exact ⟨A ++ H1, H2, (List.append_assoc ..).symm, fun v' xs' => by rw [h2, List.append_assoc]⟩⟩
section
variable {P : Program} {B : Nat} {w0 : World} {n : Nat} {Q : Po} {F : Fr} {H : Hp} {ops : Array Oper} {l : List Oper} {ty : TypeId} {pos : String} {af : Array Edge} {d : Nat} {dst : Option Tmp} {g : Option (Nat × Bool)}
end
end SL
end Go.Proofs.YtmbbcmebdefggaaGreatDoor
namespace Go.Proofs.YtmbbcmebdefggaaGreatDoor
open Go Go.RowKit SL
/-! Plain. -/
namespace SL
section
variable {P : Program} {B : Nat} {w0 : World} {n : Nat} {Q : Po} {F : Fr} {H : Hp} {ops : Array Oper} {l : List Oper} {ty : TypeId} {pos : String} {af : Array Edge} {d : Nat} {dst : Option Tmp} {g : Option (Nat × Bool)}
end
end SL
end Go.Proofs.YtmbbcmebdefggaaGreatDoor
