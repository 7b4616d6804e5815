/- The plain law of FnExactMendStep: the plain function answers true. No condition. -/
import Derived.Test.YtinmfblemgkboaaA6
set_option linter.unusedVariables false
set_option linter.unusedSimpArgs false
set_option maxRecDepth 100000
namespace Go.Proofs.Ytinmfblemgkboaa.V
open Go Go.Ev Go.Proofs
theorem pure_FnExactMendStep (y : Int × List Int × List Int) (hw : Wf kwStairs y) (k : Int) (hk : Wf kint k) : F_w_FnExactMendStep (y, k, ()) = some true := by
  obtain ⟨a, b, c⟩ := y
  show w_FnExactMendStep a b c k = some true
  unfold w_FnExactMendStep
  cases hs : decide (w_szStairs a b c 1048576 < 0)
  · obtain ⟨hb, hc⟩ : b.length ≤ 1048576 ∧ c.length ≤ 1048576 := szStairs_le (a := a) hw.2.1.1 hw.2.2.1 hs
    have e0 : s_MendStep_n a b c k = i_MendStep_n a b c k := rfl
    have m1 := heldStairs_eq a b c (by omega)
    have hsz : (i_MendStep_n a b c k).1.2.1.length + (i_MendStep_n a b c k).1.2.2.length ≤ 4611686018427387904 := by
      unfold i_MendStep_n s_MendStep_n
      have := List.length_filter_le (fun x => !(x == k)) c
      cases s_clGood a b c && decide (k ∈ c) <;> simp; omega
    have m2 := heldStairs_eq (i_MendStep_n a b c k).1.1 (i_MendStep_n a b c k).1.2.1 (i_MendStep_n a b c k).1.2.2 hsz
    simp only [cond_false, toStairs_eq hb hc, Option.bind_some, e0, eqStairs_eq, m1.1, m2.1, m2.2]
    simp
  · rfl
end Go.Proofs.Ytinmfblemgkboaa.V
