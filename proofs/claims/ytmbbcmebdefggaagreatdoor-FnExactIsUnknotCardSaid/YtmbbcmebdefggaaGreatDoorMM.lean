/- Items found behind an unknown part of the memory. Walks: slices.Compact at a list of grids in order. -/
import Derived.Test.YtmbbcmebdefggaaGreatDoorGE
import Derived.Test.YtmbbcmebdefggaaGreatDoorSH
import Derived.Test.YtmbbcmebdefggaaGreatDoorV
import Derived.Test.YtmbbcmebdefggaaGreatDoorAP
import Derived.Test.YtmbbcmebdefggaaGreatDoorWC
import Derived.Test.YtmbbcmebdefggaaGreatDoorTG
namespace Go.Proofs.YtmbbcmebdefggaaGreatDoor
open Go Go.RowKit SL
namespace SL
instance (priority := low) RB_N {v : Value} {A H : Hp} {e sz : Nat} {xs : List Value} [h : RB v H e sz xs] : RB v (A ++ H) e sz xs := ⟨List.mem_append.2 (.inr h.out)⟩
instance (priority := low) MB_N {b : Nat} {A H : Hp} {cs : List Value} {E : TypeId} [h : MB b H cs E] : MB b (A ++ H) cs E := ⟨List.mem_append.2 (.inr h.out)⟩
instance (priority := low) RB_L {v : Value} {A H : Hp} {e sz : Nat} {xs : List Value} [h : RB v A e sz xs] : RB v (A ++ H) e sz xs := ⟨List.mem_append.2 (.inl h.out)⟩
instance (priority := low) MU_N {b : Nat} {A H H' : Hp} {cs cs' : List Value} {E : TypeId} [h : MU b H cs E cs' H'] : MU b (A ++ H) cs E cs' (A ++ H') := ⟨by
  obtain ⟨H1, H2, rfl, rfl⟩ := h.out
  exact ⟨A ++ H1, H2, (List.append_assoc ..).symm, (List.append_assoc ..).symm⟩⟩
instance (priority := low) RF_N {v : Value} {A H : Hp} {H' : Value → List Value → Hp} {e sz : Nat} {xs : List Value} [h : RF v H e sz xs H'] : RF v (A ++ H) e sz xs (fun v' xs' => A ++ H' v' xs') := ⟨by
  obtain ⟨H1, H2, rfl, h2⟩ := h.out
  exact ⟨A ++ H1, H2, (List.append_assoc ..).symm, fun v' xs' => by rw [h2, List.append_assoc]⟩⟩
section
variable {P : Program} {B : Nat} {w0 : World} {n : Nat} {Q : Po} {F : Fr} {H : Hp} {ops : Array Oper} {l : List Oper} {ty : TypeId} {pos : String} {af : Array Edge} {d : Nat} {dst : Option Tmp} {g : Option (Nat × Bool)}
theorem q_quoR {T T' : TypeId} {x y : Operand} {a b r : Int} (hx : ev F x = some (.int .i64 a)) (hy : ev F y = some (.int .i64 b)) (hb : b ≠ 0) (hr : a.tdiv b = r) (h : -9223372036854775808 ≤ r ∧ r ≤ 9223372036854775807) :
    OpQ P B w0 n H F ⟨dst, .binOp .quo T x y T', ty, pos, af, g⟩ (.int .i64 r) :=
  q_bin hx hy fun w => by
    subst hr
    rw [eqGuard_int]
    simp [binOp_quo, Op.intDiv, hb, wrap_in h]
theorem Jq_quoR {dr : Bool} {T T' : TypeId} {x y : Operand} {a b r : Int} (hdn : Nat.blt d n = true) (hx : ev F x = some (.int .i64 a)) (hy : ev F y = some (.int .i64 b)) (hb : b ≠ 0) (hr : a.tdiv b = r) (h : -9223372036854775808 ≤ r ∧ r ≤ 9223372036854775807) (kk : J dr P B w0 n ops Q l ((d, .int .i64 r) :: F) H) :
    J dr P B w0 n ops Q (⟨some d, .binOp .quo T x y T', ty, pos, af, none⟩ :: l) F H := J_q hdn (q_quoR hx hy hb hr h) kk
end
end SL
end Go.Proofs.YtmbbcmebdefggaaGreatDoor
namespace Go.Proofs.YtmbbcmebdefggaaGreatDoor
open Go Go.RowKit SL
/-! Plain. -/
namespace SL
section
variable {P : Program} {B : Nat} {w0 : World} {n : Nat} {Q : Po} {F : Fr} {H : Hp} {ops : Array Oper} {l : List Oper} {ty : TypeId} {pos : String} {af : Array Edge} {d : Nat} {dst : Option Tmp} {g : Option (Nat × Bool)}
end
end SL
end Go.Proofs.YtmbbcmebdefggaaGreatDoor
