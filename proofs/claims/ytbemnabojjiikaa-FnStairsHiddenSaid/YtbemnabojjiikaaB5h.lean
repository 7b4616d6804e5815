/- Functions of the program, as plain functions. No condition. -/
import Derived.Test.YtbemnabojjiikaaB5
import Derived.Test.YtbemnabojjiikaaB3h
set_option linter.unusedVariables false
set_option linter.unusedSimpArgs false
set_option maxRecDepth 100000
namespace Go.Proofs.Ytbemnabojjiikaa.V
open Go Go.Ev Go.Proofs
noncomputable def countN (p : List (Int × Int × Int)) : Int × Bool := bif s_pzGood_n p then (((pzSol p).length : Int), true) else (0, false)
theorem s_CountSolutions_eq (p : List (Int × Int × Int)) : s_CountSolutions p = some (countN p) := by
  unfold s_CountSolutions countN
  cases h : s_pzGood_n p
  · rfl
  · obtain ⟨h1, h2⟩ := good_kinds h
    rw [pzAll_eq h1 (by omega)]; rfl
theorem i_CountSolutions_eq (p : List (Int × Int × Int)) : i_CountSolutions p = some (countN p) := by
  unfold i_CountSolutions countN
  rw [i_Solutions_eq]
  unfold solN
  cases h : s_pzGood_n p <;> rfl
theorem s_pzSolved_eq {cl : List (Int × Int × Int)} (h1 : Kinds cl) (h2 : cl.length ≤ 1000) : s_pzSolved cl = some (((pzSol cl).length : Int) == 1) := by
  unfold s_pzSolved; rw [pzAll_eq h1 h2]; rfl
theorem IsSolved_both (p : List (Int × Int × Int)) : ∃ r, s_IsSolved p = some r ∧ i_IsSolved p = some r := by
  unfold s_IsSolved i_IsSolved
  rw [i_CountSolutions_eq]
  unfold countN
  cases h : s_pzGood_n p
  · exact ⟨_, rfl, rfl⟩
  · obtain ⟨h1, h2⟩ := good_kinds h
    rw [s_pzSolved_eq h1 (by omega)]
    exact ⟨_, rfl, rfl⟩
end Go.Proofs.Ytbemnabojjiikaa.V
