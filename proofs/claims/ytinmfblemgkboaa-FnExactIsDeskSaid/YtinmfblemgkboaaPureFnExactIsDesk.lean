/- The plain law of FnExactIsDesk: the plain function answers true. No condition. -/
import Derived.Test.YtinmfblemgkboaaA3
set_option linter.unusedVariables false
set_option linter.unusedSimpArgs false
set_option maxRecDepth 100000
namespace Go.Proofs.Ytinmfblemgkboaa.V
open Go Go.Ev Go.Proofs
theorem pure_FnExactIsDesk (y : (Int × List Int × List Int) × (Int × Int) × (Int × Int × Int) × List Int) (hw : Wf kwDesk y) : F_w_FnExactIsDesk (y, ()) = some true := by
  obtain ⟨⟨a1, a2, a3⟩, ⟨b1, b2⟩, ⟨c1, c2, c3⟩, d⟩ := y
  show w_FnExactIsDesk a1 a2 a3 b1 b2 c1 c2 c3 d = some true
  unfold w_FnExactIsDesk
  cases hs : decide (w_szDesk a1 a2 a3 b1 b2 c1 c2 c3 d 1048576 < 0)
  · obtain ⟨h1, h2, h3⟩ := szDesk_le hw.1.2.1.1 hw.1.2.2.1 hw.2.2.2.1 hs
    simp only [cond_false, toDesk_eq h1 h2 h3, Option.bind_some, i_IsDesk_eq, s_IsDesk, eqDesk_eq]
    simp
  · rfl
end Go.Proofs.Ytinmfblemgkboaa.V
