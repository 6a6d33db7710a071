/- What bytes.Contains' contract is imported by. -/
import Derived.Test.YtnlmdmpfgdiipaaMine
import Derived.Shelf.LaysM
import Derived.Shelf.Bytes.SlIndexWhole
namespace Go.Proofs.YtnlmdmpfgdiipaaW.PrintMine
end Go.Proofs.YtnlmdmpfgdiipaaW.PrintMine
