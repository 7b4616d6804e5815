/- Functions of the program, as plain functions. No condition. -/
import Derived.Test.YtbemnabojjiikaaB6
import Derived.Test.YtbemnabojjiikaaB5h
set_option linter.unusedVariables false
set_option linter.unusedSimpArgs false
set_option maxRecDepth 100000
namespace Go.Proofs.Ytbemnabojjiikaa.V
open Go Go.Ev Go.Proofs
/-! ### lists of numbers, marked and held -/
theorem heldInt_at (l : List Int) (k : Int) (h0 : 0 ≤ k) (h : k + l.length ≤ 4611686018427387904) : w_heldIntS_n (markL l k) k = k + l.length ∧ markK l k = k + l.length := by
  have := markK_eq l k h0 (by omega)
  exact ⟨by unfold w_heldIntS_n; rw [held_mark, this], this⟩
theorem heldInt_eq (l : List Int) (h : l.length ≤ 1000000000000) : decide (markK l 1 < 0) = false ∧ w_heldIntS_n (markL l 1) 1 = markK l 1 := by
  obtain ⟨h1, h2⟩ := heldInt_at l 1 (by omega) (by omega)
  rw [h1, h2]
  exact ⟨decide_eq_false (by omega), rfl⟩
theorem heldInt2_eq (a b : List Int) (ha : a.length ≤ 1000000000000) (hb : b.length ≤ 1000000000000) : decide (markK b (markK a 1) < 0) = false ∧ w_heldIntS_n (markL b (markK a 1)) (markK a 1) = markK b (markK a 1) := by
  obtain ⟨h1, h2⟩ := heldInt_at a 1 (by omega) (by omega)
  rw [h2]
  obtain ⟨h3, h4⟩ := heldInt_at b (1 + a.length) (by omega) (by omega)
  rw [h3, h4]
  exact ⟨decide_eq_false (by omega), rfl⟩
end Go.Proofs.Ytbemnabojjiikaa.V
