/- The comparison of grades as slices.SortFunc asks for it. -/
import Derived.Test.YtmbbcmebdefggaaDoorTC
import Derived.Test.YtmbbcmebdefggaaDoorFL
import Derived.Test.YtmbbcmebdefggaaDoorPG
import Derived.Test.YtmbbcmebdefggaaDoorTG
namespace Go.Proofs.YtmbbcmebdefggaaDoor
open Go Go.RowKit SL
abbrev GrB : Type := Int × Int
def encGr (g : GrB) : List Value := [.int .i64 g.1, .int .i64 g.2]
end Go.Proofs.YtmbbcmebdefggaaDoor
