import Derived.Test.YtdpipfifoinncaaDoorKh
import Derived.Deep.RegionHeld3
namespace Go.Proofs.YtdpipfifoinncaaDoor
open Go.RowKit
set_option linter.unusedVariables false

end Go.Proofs.YtdpipfifoinncaaDoor
