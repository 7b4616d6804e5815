/- The plain law of FnExactMakePuzzle: the plain function answers true. No condition. -/
import Derived.Test.YtbemnabojjiikaaB11h
set_option linter.unusedVariables false
set_option linter.unusedSimpArgs false
set_option maxRecDepth 100000
namespace Go.Proofs.Ytbemnabojjiikaa.V
open Go Go.Ev Go.Proofs
theorem pure_FnExactMakePuzzle (y : Int × List Int × List Int) (hw : Wf kwStairs y) (n : Int) (hn : Wf kint n) (seed : Int) (hsd : Wf kint seed) : F_w_FnExactMakePuzzle (y, n, seed, ()) = some true := by
  obtain ⟨a, b, c⟩ := y
  show w_FnExactMakePuzzle a b c n seed = some true
  unfold w_FnExactMakePuzzle
  cases hs : decide (w_szStairs a b c 1048576 < 0)
  · obtain ⟨lb, lc⟩ : b.length ≤ 1048576 ∧ c.length ≤ 1048576 := szStairs_le hw.2.1.1 hw.2.2.1 hs
    obtain ⟨h1, h2⟩ := MakePuzzle_both a b c n seed lb
    have m1 := heldStairs_eq a b c (by omega)
    have m2 := heldPuzzle_eq (makeN a b c n seed).1 (by have := makeN_len a b c n seed; omega)
    simp [toStairs_eq lb lc, h1, h2, eqPuzzle_eq, m1.1, m2.1, m2.2, eqStairs_eq (a, b, c) (a, b, c)]
  · rfl
end Go.Proofs.Ytbemnabojjiikaa.V
