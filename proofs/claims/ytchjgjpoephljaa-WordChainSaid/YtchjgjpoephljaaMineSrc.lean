/- What the sources' and drives' contracts (srcs.py) lean on. -/
import Derived.Test.YtchjgjpoephljaaMine
import Derived.StillTailTactics
import Derived.Laws.MakeOwn
import Derived.Maps.OwnSet
import Derived.Maps.OwnOps
namespace Go.Proofs.YtchjgjpoephljaaW.PrintMine
end Go.Proofs.YtchjgjpoephljaaW.PrintMine
