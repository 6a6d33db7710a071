/- What slices.Clone's contract (hands.py) leans on. -/
import Derived.Test.YtcnabemeadnecaaMine
import Derived.Lib.SliceRun
namespace Go.Proofs.YtcnabemeadnecaaW.PrintMine
end Go.Proofs.YtcnabemeadnecaaW.PrintMine
