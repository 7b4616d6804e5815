/- Functions of the program, as plain functions. No condition. -/
import Derived.Test.YtbemnabojjiikaaB9
import Derived.Test.YtbemnabojjiikaaB8h
set_option linter.unusedVariables false
set_option linter.unusedSimpArgs false
set_option maxRecDepth 100000
namespace Go.Proofs.Ytbemnabojjiikaa.V
open Go Go.Ev Go.Proofs

end Go.Proofs.Ytbemnabojjiikaa.V
