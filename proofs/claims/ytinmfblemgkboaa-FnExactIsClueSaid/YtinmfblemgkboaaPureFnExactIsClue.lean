import Derived.Test.YtinmfblemgkboaaFns
/- The plain law of FnExactIsClue: the two plain functions agree. -/
set_option linter.unusedVariables false
namespace Go.Proofs.Ytinmfblemgkboaa.V
open Go Go.Ev Go.Proofs
theorem clue_same (k a b : Int) : f17 k a b = f15 k a b := by
  unfold f17 f15 f99 f100 f132
  rw [Bool.eq_iff_iff]
  by_cases h0 : k = 0 <;> by_cases h1 : k = 1 <;> by_cases h2 : k = 2 <;> by_cases h3 : k = 3 <;> by_cases h4 : k = 4 <;> by_cases h5 : k = 5 <;> simp_all [Bool.cond_eq_ite] <;> (try split) <;> (try simp_all) <;> omega
theorem pure3 (y0 : k23.Ty) (hw0 : Wf k23 y0) : F3 (y0, ()) = (true, ()) := by
  unfold F3 f3
  simp only [clue_same]
  simp
  rfl
end Go.Proofs.Ytinmfblemgkboaa.V
