/- The library's contracts of the kit's shelf: none is needed at this program. -/
import Derived.Shelf.Abstract
import Derived.Test.YtoddoekmgkcomaaProg
namespace Go.Proofs.Ytoddoekmgkcomaa
end Go.Proofs.Ytoddoekmgkcomaa
