/- Contracts of the wire package's functions that put bytes. -/
import Derived.Test.YtfblmmnofhkkaaaByt
import Derived.WalkKit
import Derived.WalkSpells
import Derived.WalkLawsBesides
import Derived.Lib.Hide
import Derived.Lib.AppendZerosOnto
import Derived.Lib.AppendZeros
import Derived.IntWalk
namespace Go.Proofs.Ytfblmmnofhkkaaa
open Go.RowKit
end Go.Proofs.Ytfblmmnofhkkaaa
