/- The plain law of FnExactFewestRolls: the plain function answers true. No condition. -/
import Derived.Test.YthenlapjhlljnaaE1h
set_option linter.unusedVariables false
set_option linter.unusedSimpArgs false
set_option maxRecDepth 100000
namespace Go.Proofs.Ythenlapjhlljnaa.V
open Go Go.Ev Go.Proofs
theorem pure_FnExactFewestRolls (R : List Int) (_ : Wf kSint R) (steps : Int) (_ : Wf kint steps) (need : Int) (_ : Wf kint need) : F_w_FnExactFewestRolls (R, steps, need, ()) = some true := by
  show w_FnExactFewestRolls R steps need = some true
  unfold w_FnExactFewestRolls
  by_cases h : (R.length : Int) > 1048576
  · rw [decide_eq_true h]; rfl
  · obtain ⟨v, h1, h2⟩ := FewestRolls_both R steps need
    rw [decide_eq_false h, toIntR (by omega)]
    simp only [cond_false, Option.bind_some, h1, h2, bne_self_eq_false, beq_self_eq_true, Bool.not_true]
    unfold w_eqIntS_n
    rw [decide_eq_true rfl]; rfl
end Go.Proofs.Ythenlapjhlljnaa.V
