/- What the sources' contracts (srcs.py) lean on. -/
import Derived.Test.YtoanpgeijokgpaaMine
import Derived.StillTailTactics
import Derived.Laws.MakeOwn
namespace Go.Proofs.YtoanpgeijokgpaaW.PrintMine
end Go.Proofs.YtoanpgeijokgpaaW.PrintMine
