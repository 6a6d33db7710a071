/- What slices.Clone's contract (hands.py) leans on. -/
import Derived.Test.YtppbkljdeiegjaaMine
import Derived.Lib.SliceRun
namespace Go.Proofs.YtppbkljdeiegjaaW.PrintMine
end Go.Proofs.YtppbkljdeiegjaaW.PrintMine
