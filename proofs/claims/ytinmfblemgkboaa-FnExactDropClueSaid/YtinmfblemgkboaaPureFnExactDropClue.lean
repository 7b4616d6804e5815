/- The plain law of FnExactDropClue: the plain function answers true. No condition. -/
import Derived.Test.YtinmfblemgkboaaA5
set_option linter.unusedVariables false
set_option linter.unusedSimpArgs false
set_option maxRecDepth 100000
namespace Go.Proofs.Ytinmfblemgkboaa.V
open Go Go.Ev Go.Proofs
theorem pure_FnExactDropClue (y : List (Int × Int × Int)) (hw : Wf kwPuzzle y) (k : Int) (hk : Wf kint k) : F_w_FnExactDropClue (y, k, ()) = some true := by
  show w_FnExactDropClue y k = some true
  unfold w_FnExactDropClue
  cases hs : decide (w_szPuzzle y 1048576 < 0)
  · have hl := szPuzzle_le hw.1 hs
    have m1 := heldPuzzle_eq y (by omega)
    have e0 : i_DropClue_n y k = s_DropClue_n y k := rfl
    have hsz : (s_DropClue_n y k).1.length ≤ 1000000000000 := by
      unfold s_DropClue_n
      cases s_pzGood_n y && (decide (0 ≤ k) && decide (k < (y.length : Int))) <;> simp; omega
    have m2 := heldPuzzle_eq (s_DropClue_n y k).1 hsz
    simp only [cond_false, toPuzzle_eq hl, Option.bind_some, e0, eqPuzzle_eq, m1.1, m2.1, m2.2]
    simp
  · rfl
end Go.Proofs.Ytinmfblemgkboaa.V
