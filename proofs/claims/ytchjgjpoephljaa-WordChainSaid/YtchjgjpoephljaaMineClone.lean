/- What slices.Clone's contract (hands.py) leans on. -/
import Derived.Test.YtchjgjpoephljaaMine
import Derived.Lib.SliceRun
namespace Go.Proofs.YtchjgjpoephljaaW.PrintMine
end Go.Proofs.YtchjgjpoephljaaW.PrintMine
