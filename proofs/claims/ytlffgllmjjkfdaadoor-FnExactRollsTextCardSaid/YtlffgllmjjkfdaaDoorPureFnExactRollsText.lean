/- The plain law of FnExactRollsText: the plain function answers true. No condition. -/
import Derived.Test.YtlffgllmjjkfdaaDoorH1h
set_option linter.unusedVariables false
set_option linter.unusedSimpArgs false
set_option maxRecDepth 100000
namespace Go.Proofs.YtlffgllmjjkfdaaDoor.V
open Go Go.Ev Go.Proofs
theorem pure_FnExactRollsText (R : List Int) (_ : Wf kSint R) : F_w_FnExactRollsText (R, ()) = some true := by
  show w_FnExactRollsText R = some true
  unfold w_FnExactRollsText
  by_cases h : (R.length : Int) > 1048576
  · rw [decide_eq_true h]; rfl
  · have ht : w_toIntS_n R = some R := by unfold w_toIntS_n; rw [decide_eq_true (by omega)]; rfl
    have he : w_eqIntS_n R R = true := by unfold w_eqIntS_n; rw [decide_eq_true rfl]
    rw [decide_eq_false h, ht]
    simp only [cond_false, Option.bind_some]
    unfold i_RollsText s_RollsText
    rw [areRolls_eqT]
    cases hg : s_cpRolls R
    · simp [he]
    · have g := rolls_small hg
      rw [joined_ok g _ (by simp), cpText_ok g]
      simp [he]
end Go.Proofs.YtlffgllmjjkfdaaDoor.V
