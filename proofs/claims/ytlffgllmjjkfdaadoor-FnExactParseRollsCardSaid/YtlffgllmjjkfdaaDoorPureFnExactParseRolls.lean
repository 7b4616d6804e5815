/- The plain law of FnExactParseRolls: the plain function answers true. No condition. -/
import Derived.Test.YtlffgllmjjkfdaaDoorJ1h
set_option linter.unusedVariables false
set_option linter.unusedSimpArgs false
set_option maxRecDepth 100000
namespace Go.Proofs.YtlffgllmjjkfdaaDoor.V
open Go Go.Ev Go.Proofs
theorem pure_FnExactParseRolls (s : ByteArray) (_ : Wf kstring s) : F_w_FnExactParseRolls (s, ()) = some true := by
  show w_FnExactParseRolls s = some true
  unfold w_FnExactParseRolls
  by_cases h : (s.size : Int) > 1048576
  · rw [decide_eq_true h]; rfl
  · obtain ⟨l, f, h1, h2, h3⟩ := ParseRolls_both (s := s) (by omega)
    have he : w_eqIntS_n l l = true := by unfold w_eqIntS_n; rw [decide_eq_true rfl]
    have hm : w_heldIntS_n (markL l 1) 1 = markK l 1 := held_mark l 1
    have hk := markK_eq l 1 (by omega) (by omega)
    rw [decide_eq_false h, h1, h2]
    simp only [cond_false, Option.bind_some, he, hm, bne_self_eq_false, Bool.not_true, beq_self_eq_true]
    rw [decide_eq_false (show ¬ markK l 1 < 0 by omega)]
    cases f <;> rfl
end Go.Proofs.YtlffgllmjjkfdaaDoor.V
