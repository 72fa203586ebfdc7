/- Walks: states by their grades, in the program. Walks: states by their grades, in the program. Walks: the reference's states of a grade. Walks: the reference's matrix of a grade. -/
import Derived.Test.YtmbbcmebdefggaaDoorHL
import Derived.Test.YtmbbcmebdefggaaDoorHM
import Derived.Test.YtmbbcmebdefggaaDoorHP
import Derived.Test.YtmbbcmebdefggaaDoorHB
import Derived.Test.YtmbbcmebdefggaaDoorIB
import Derived.Test.YtmbbcmebdefggaaDoorGE
namespace Go.Proofs.YtmbbcmebdefggaaDoor
open Go Go.RowKit SL
end Go.Proofs.YtmbbcmebdefggaaDoor
namespace Go.Proofs.YtmbbcmebdefggaaDoor
open Go Go.RowKit SL
namespace SL
instance (priority := low) RF_A {v : Value} {A H : Hp} {H' : Value → List Value → Hp} {e sz : Nat} {xs : List Value} [h : RF v H e sz xs H'] : RF v (A ++ H) e sz xs (fun v' xs' => A ++ H' v' xs') := ⟨by
  obtain ⟨H1, H2, rfl, h2⟩ := h.out
  exact ⟨A ++ H1, H2, (List.append_assoc ..).symm, fun v' xs' => by rw [h2, List.append_assoc]⟩⟩
end SL
end Go.Proofs.YtmbbcmebdefggaaDoor
namespace Go.Proofs.YtmbbcmebdefggaaDoor
open Go Go.RowKit SL
end Go.Proofs.YtmbbcmebdefggaaDoor
namespace Go.Proofs.YtmbbcmebdefggaaDoor
open Go Go.RowKit SL
end Go.Proofs.YtmbbcmebdefggaaDoor
