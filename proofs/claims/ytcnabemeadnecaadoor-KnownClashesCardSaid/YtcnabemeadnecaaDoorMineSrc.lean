/- What the sources' and drives' contracts (srcs.py) lean on. -/
import Derived.Test.YtcnabemeadnecaaDoorMine
import Derived.StillTailTactics
import Derived.Laws.MakeOwn
import Derived.Maps.OwnSet
import Derived.Maps.OwnOps
namespace Go.Proofs.YtcnabemeadnecaaDoorW.PrintMine
end Go.Proofs.YtcnabemeadnecaaDoorW.PrintMine
