/- What slices.Clone's contract (hands.py) leans on. -/
import Derived.Test.YtcgflahchpeakaaMine
import Derived.Lib.SliceRun
namespace Go.Proofs.YtcgflahchpeakaaW.PrintMine
end Go.Proofs.YtcgflahchpeakaaW.PrintMine
