/- Functions of the program, as plain functions. No condition. -/
import Derived.Test.YtgflffacaobkoaaGreatDoorL4
import Derived.Test.YtgflffacaobkoaaGreatDoorL3h
set_option linter.unusedVariables false
set_option linter.unusedSimpArgs false
set_option maxRecDepth 100000
namespace Go.Proofs.YtgflffacaobkoaaGreatDoor.V
open Go Go.Ev Go.Proofs

end Go.Proofs.YtgflffacaobkoaaGreatDoor.V
