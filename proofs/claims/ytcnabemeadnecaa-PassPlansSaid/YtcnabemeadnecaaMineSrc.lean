/- What the sources' and drives' contracts (srcs.py) lean on. -/
import Derived.Test.YtcnabemeadnecaaMine
import Derived.StillTailTactics
import Derived.Laws.MakeOwn
import Derived.Maps.OwnSet
import Derived.Maps.OwnOps
namespace Go.Proofs.YtcnabemeadnecaaW.PrintMine
end Go.Proofs.YtcnabemeadnecaaW.PrintMine
