/- What slices.Clone's contract (hands.py) leans on. -/
import Derived.Test.YtcnabemeadnecaaDoorMine
import Derived.Lib.SliceRun
namespace Go.Proofs.YtcnabemeadnecaaDoorW.PrintMine
end Go.Proofs.YtcnabemeadnecaaDoorW.PrintMine
