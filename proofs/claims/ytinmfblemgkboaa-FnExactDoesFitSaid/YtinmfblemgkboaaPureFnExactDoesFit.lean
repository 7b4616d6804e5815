/- The plain law of FnExactDoesFit: the plain function answers true. No condition. -/
import Derived.Test.YtinmfblemgkboaaA4h
set_option linter.unusedVariables false
set_option linter.unusedSimpArgs false
set_option maxRecDepth 100000
namespace Go.Proofs.Ytinmfblemgkboaa.V
open Go Go.Ev Go.Proofs
theorem pure_FnExactDoesFit (k : Int × Int × Int) (hk : Wf kwClue k) (y : Int × List Int × List Int) (hw : Wf kwStairs y) : F_w_FnExactDoesFit (k, y, ()) = some true := by
  obtain ⟨k1, k2, k3⟩ := k
  obtain ⟨a, b, c⟩ := y
  show w_FnExactDoesFit k1 k2 k3 a b c = some true
  unfold w_FnExactDoesFit
  cases hs : decide (w_szStairs a b c 1048576 < 0)
  · obtain ⟨hb, hc⟩ : b.length ≤ 1048576 ∧ c.length ≤ 1048576 := szStairs_le (a := a) hw.2.1.1 hw.2.2.1 hs
    obtain ⟨r, h1, h2⟩ := DoesFit_eq k1 k2 k3 a b c hb
    simp only [cond_false, toStairs_eq hb hc, Option.bind_some, w_toClue, h1, h2, eqStairs_eq]
    simp
  · rfl
end Go.Proofs.Ytinmfblemgkboaa.V
