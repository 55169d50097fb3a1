/- The library's contract of strconv.Itoa, laid at this program; the conditions stand in each theorem. -/
import Derived.Shelf.Strconv.Itoa3
import Derived.Shelf.Lay
import Derived.Ground.NamesProg
import Derived.Test.YtopbbjoflopjbaaDoorChecked
/-! strconv.Itoa. -/
namespace Go.Proofs
open Go.Shelf

shelf_lay LaysM.n171 Nm 171 at Tryd as Tryd.laysItoa
end Go.Proofs
