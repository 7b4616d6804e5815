/- The plain law of FnExactIsSolved: the plain function answers true. No condition. -/
import Derived.Test.YtbemnabojjiikaaB5h
set_option linter.unusedVariables false
set_option linter.unusedSimpArgs false
set_option maxRecDepth 100000
namespace Go.Proofs.Ytbemnabojjiikaa.V
open Go Go.Ev Go.Proofs
theorem pure_FnExactIsSolved (y : List (Int × Int × Int)) (hw : Wf kwPuzzle y) : F_w_FnExactIsSolved (y, ()) = some true := by
  show w_FnExactIsSolved y = some true
  unfold w_FnExactIsSolved
  cases hs : decide (w_szPuzzle y 1048576 < 0)
  · have hl := szPuzzle_le hw.1 hs
    obtain ⟨r, h1, h2⟩ := IsSolved_both y
    simp [toPuzzle_eq hl, h1, h2, eqPuzzle_eq]
  · rfl
end Go.Proofs.Ytbemnabojjiikaa.V
