/- The library's contracts of the kit's shelf: none is needed at this program. -/
import Derived.Shelf.Abstract
import Derived.Test.YtoddoekmgkcomaaDoorProg
namespace Go.Proofs.YtoddoekmgkcomaaDoor
end Go.Proofs.YtoddoekmgkcomaaDoor
