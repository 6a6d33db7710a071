/- What strings.Builder's contracts (the shelf's) lean on. -/
import Derived.Test.YtcnabemeadnecaaDoorMine
import Derived.Shelf.Strings.Builder1
namespace Go.Proofs.YtcnabemeadnecaaDoorW.PrintMine
end Go.Proofs.YtcnabemeadnecaaDoorW.PrintMine
