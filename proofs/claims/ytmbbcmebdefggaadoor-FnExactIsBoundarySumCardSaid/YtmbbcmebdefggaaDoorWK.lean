/- Walks: shifts of grids. -/
import Derived.Test.YtmbbcmebdefggaaDoorPC
import Derived.Test.YtmbbcmebdefggaaDoorDr
import Derived.Test.YtmbbcmebdefggaaDoorWC
namespace Go.Proofs.YtmbbcmebdefggaaDoor
open Go Go.RowKit SL
theorem wrap8 {r : Nat} (h : r < 256) : IntKind.u8.wrap (r : Int) = (r : Int) := IntWalk.u8_in _ (by omega)
end Go.Proofs.YtmbbcmebdefggaaDoor
