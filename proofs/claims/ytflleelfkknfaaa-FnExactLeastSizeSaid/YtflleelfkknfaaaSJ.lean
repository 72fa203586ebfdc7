/- Plain laws: what a sort leaves; the canonical grids among pairs of states. -/
import Derived.Test.YtflleelfkknfaaaSE
import Derived.Test.YtflleelfkknfaaaSB
import Derived.Test.YtflleelfkknfaaaWM
import Derived.Test.YtflleelfkknfaaaPO
import Derived.Test.YtflleelfkknfaaaPC
import Derived.Test.YtflleelfkknfaaaGB
import Derived.Sort.Statements
namespace Go.Proofs.Ytflleelfkknfaaa
theorem cfG_rk (x y : GridB) : cfG x y < 0 ↔ rkG x < rkG y := by
  have h1 := key_bd x.2.2
  have h2 := key_bd y.2.2
  rw [cfG_lt, rkG_lt, keyG_eq x.2.2.1, keyG_eq y.2.2.1]
  omega
end Go.Proofs.Ytflleelfkknfaaa
