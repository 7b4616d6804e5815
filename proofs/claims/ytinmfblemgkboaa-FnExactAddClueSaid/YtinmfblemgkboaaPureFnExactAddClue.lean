/- The plain law of FnExactAddClue: the plain function answers true. No condition. -/
import Derived.Test.YtinmfblemgkboaaA3
set_option linter.unusedVariables false
set_option linter.unusedSimpArgs false
set_option maxRecDepth 100000
namespace Go.Proofs.Ytinmfblemgkboaa.V
open Go Go.Ev Go.Proofs
theorem pure_FnExactAddClue (y : List (Int × Int × Int)) (hw : Wf kwPuzzle y) (c : Int × Int × Int) (hc : Wf kwClue c) : F_w_FnExactAddClue (y, c, ()) = some true := by
  obtain ⟨c1, c2, c3⟩ := c
  show w_FnExactAddClue y c1 c2 c3 = some true
  unfold w_FnExactAddClue
  cases hs : decide (w_szPuzzle y 1048576 < 0)
  · have hl := szPuzzle_le hw.1 hs
    have m1 := heldPuzzle_eq y (by omega)
    have e0 : i_AddClue_n y c1 c2 c3 = s_AddClue_n y c1 c2 c3 := rfl
    have hsz : (s_AddClue_n y c1 c2 c3).1.length ≤ 1000000000000 := by
      unfold s_AddClue_n
      cases s_pzGood_n y && (s_pzClue c1 c2 c3 && !decide (y.length = 6)) <;> simp; omega
    have m2 := heldPuzzle_eq (s_AddClue_n y c1 c2 c3).1 hsz
    simp only [cond_false, toPuzzle_eq hl, Option.bind_some, e0, eqPuzzle_eq, w_toClue, m1.1, m2.1, m2.2]
    simp
  · rfl
end Go.Proofs.Ytinmfblemgkboaa.V
