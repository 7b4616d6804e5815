/- The plain law of FnExactParsePuzzle: the plain function answers true. No condition. -/
import Derived.Test.YtlffgllmjjkfdaaDoorJ2h
set_option linter.unusedVariables false
set_option linter.unusedSimpArgs false
set_option maxRecDepth 100000
namespace Go.Proofs.YtlffgllmjjkfdaaDoor.V
open Go Go.Ev Go.Proofs
theorem pure_FnExactParsePuzzle (t : ByteArray) (_ : Wf kstring t) : F_w_FnExactParsePuzzle (t, ()) = some true := by
  show w_FnExactParsePuzzle t = some true
  unfold w_FnExactParsePuzzle
  by_cases h : (t.size : Int) > 1048576
  · rw [decide_eq_true h]; rfl
  · obtain ⟨l, f, h1, h2, h3⟩ := ParsePuzzle_both (t := t) (by omega)
    have hm := heldPuzzle_eq l (by omega)
    rw [decide_eq_false h, h1, h2]
    simp only [cond_false, Option.bind_some, eqPuzzle_eq, hm.1, hm.2, bne_self_eq_false, Bool.not_true, beq_self_eq_true, decide_true]
end Go.Proofs.YtlffgllmjjkfdaaDoor.V
