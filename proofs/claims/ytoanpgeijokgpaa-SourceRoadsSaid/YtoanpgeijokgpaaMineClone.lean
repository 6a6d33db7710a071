/- What slices.Clone's contract (hands.py) leans on. -/
import Derived.Test.YtoanpgeijokgpaaMine
import Derived.Lib.SliceRun
namespace Go.Proofs.YtoanpgeijokgpaaW.PrintMine
end Go.Proofs.YtoanpgeijokgpaaW.PrintMine
