/- The plain law of FnExactHarderPuzzle: the plain function answers true. No condition. -/
import Derived.Test.YtbemnabojjiikaaB8h
set_option linter.unusedVariables false
set_option linter.unusedSimpArgs false
set_option maxRecDepth 100000
namespace Go.Proofs.Ytbemnabojjiikaa.V
open Go Go.Ev Go.Proofs
theorem pure_FnExactHarderPuzzle (y : List (Int × Int × Int)) (hw : Wf kwPuzzle y) : F_w_FnExactHarderPuzzle (y, ()) = some true := by
  show w_FnExactHarderPuzzle y = some true
  unfold w_FnExactHarderPuzzle
  cases hs : decide (w_szPuzzle y 1048576 < 0)
  · have hl := szPuzzle_le hw.1 hs
    obtain ⟨r, h1, h2, h3, -⟩ := HarderPuzzle_both y
    have m1 := heldPuzzle_eq y (by omega)
    have m2 := heldPuzzle_eq r.1 (by omega)
    simp [toPuzzle_eq hl, h1, h2, eqPuzzle_eq, m1.1, m2.1, m2.2]
  · rfl
end Go.Proofs.Ytbemnabojjiikaa.V
