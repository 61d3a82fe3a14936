/- strconv.Atoi's three contracts off the shelf, laid at this seat's translation. -/
import Derived.Shelf.Strconv.AtoiAll
import Derived.Shelf.Lay
import Derived.Ground.NamesProg
import Derived.Test.YtldneiodfhpiaaaDoorProg
import Derived.WalkKit
import Derived.BigCall
namespace Go.Proofs
open Go.Shelf Go.RowKit
end Go.Proofs
