/- What the sources' and drives' contracts (srcs.py) lean on. -/
import Derived.Test.YtppbkljdeiegjaaMine
import Derived.StillTailTactics
import Derived.Laws.MakeOwn
import Derived.Maps.OwnSet
import Derived.Maps.OwnOps
namespace Go.Proofs.YtppbkljdeiegjaaW.PrintMine
end Go.Proofs.YtppbkljdeiegjaaW.PrintMine
