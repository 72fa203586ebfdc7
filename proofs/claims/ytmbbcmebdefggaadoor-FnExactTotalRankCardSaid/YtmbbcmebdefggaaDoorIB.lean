/- Walks: rows of rows of numbers: alike, marked, held. Rows of rows, the newest first. -/
import Derived.Test.YtmbbcmebdefggaaDoorDr
import Derived.Test.YtmbbcmebdefggaaDoorV
import Derived.Test.YtmbbcmebdefggaaDoorPG
import Derived.Test.YtmbbcmebdefggaaDoorTG
import Derived.Test.YtmbbcmebdefggaaDoorAP
namespace Go.Proofs.YtmbbcmebdefggaaDoor
open Go Go.RowKit SL
end Go.Proofs.YtmbbcmebdefggaaDoor
namespace Go.Proofs.YtmbbcmebdefggaaDoor
open Go Go.RowKit SL
namespace SL
instance (priority := low) RB_A {v : Value} {A H : Hp} {e sz : Nat} {xs : List Value} [h : RB v H e sz xs] : RB v (A ++ H) e sz xs := ⟨List.mem_append.2 (.inr h.out)⟩
instance (priority := low) MB_A {b : Nat} {A H : Hp} {cs : List Value} {E : TypeId} [h : MB b H cs E] : MB b (A ++ H) cs E := ⟨List.mem_append.2 (.inr h.out)⟩
end SL
end Go.Proofs.YtmbbcmebdefggaaDoor
