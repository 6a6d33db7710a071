/- What slices.Clone's contract (hands.py) leans on. -/
import Derived.Test.YtehkplafehlkgaaMine
import Derived.Lib.SliceRun
namespace Go.Proofs.YtehkplafehlkgaaW.PrintMine
end Go.Proofs.YtehkplafehlkgaaW.PrintMine
