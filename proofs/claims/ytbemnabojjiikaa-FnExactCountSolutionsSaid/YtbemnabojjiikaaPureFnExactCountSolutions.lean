/- The plain law of FnExactCountSolutions: the plain function answers true. No condition. -/
import Derived.Test.YtbemnabojjiikaaB5h
set_option linter.unusedVariables false
set_option linter.unusedSimpArgs false
set_option maxRecDepth 100000
namespace Go.Proofs.Ytbemnabojjiikaa.V
open Go Go.Ev Go.Proofs
theorem pure_FnExactCountSolutions (y : List (Int × Int × Int)) (hw : Wf kwPuzzle y) : F_w_FnExactCountSolutions (y, ()) = some true := by
  show w_FnExactCountSolutions y = some true
  unfold w_FnExactCountSolutions
  cases hs : decide (w_szPuzzle y 1048576 < 0)
  · have hl := szPuzzle_le hw.1 hs
    simp [toPuzzle_eq hl, s_CountSolutions_eq, i_CountSolutions_eq, eqPuzzle_eq]
  · rfl
end Go.Proofs.Ytbemnabojjiikaa.V
