/- Maps that a call made: the library's laws, for texts by hand. -/
import Derived.Test.YtchjgjpoephljaaMine
import Derived.Maps.RangeWalk
import Derived.Maps.OwnSet
import Derived.Sort.KeysCollected
namespace Go.Proofs.YtchjgjpoephljaaW.PrintMine
theorem maps_here : True := trivial
end Go.Proofs.YtchjgjpoephljaaW.PrintMine
