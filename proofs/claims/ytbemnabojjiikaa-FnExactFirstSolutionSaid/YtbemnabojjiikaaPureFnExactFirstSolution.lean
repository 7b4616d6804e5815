/- The plain law of FnExactFirstSolution: the plain function answers true. No condition. -/
import Derived.Test.YtbemnabojjiikaaB9h
set_option linter.unusedVariables false
set_option linter.unusedSimpArgs false
set_option maxRecDepth 100000
namespace Go.Proofs.Ytbemnabojjiikaa.V
open Go Go.Ev Go.Proofs
theorem hid_small : hidAll.all (fun s => decide (s.2.1.length + s.2.2.length ≤ 100)) = true := by kernel_rfl
theorem FirstSolution_both (p : List (Int × Int × Int)) : ∃ r, s_FirstSolution p = some r ∧ i_FirstSolution p = some r ∧ r.1.2.1.length + r.1.2.2.length ≤ 100 := by
  unfold s_FirstSolution i_FirstSolution
  rw [i_Solutions_eq]
  unfold solN
  cases h : s_pzGood_n p
  · exact ⟨_, rfl, rfl, by simp⟩
  · obtain ⟨hk, hl⟩ := good_kinds h
    rw [pzAll_eq hk (by omega)]
    simp only [cond_true, Option.bind_some, Bool.not_true, cond_false]
    cases h0 : ((pzSol p).length : Int) == 0
    · have hne : ¬ ((pzSol p).length : Int) = 0 := by simpa using h0
      have hp : 0 < (pzSol p).length := by omega
      have e : rdk kStairs (pzSol p) 0 = (pzSol p)[0] := rdk_get (k := kStairs) hp
      have hb := of_decide_eq_true (List.all_eq_true.1 hid_small _ (pzSol_mem (List.getElem_mem hp)))
      simp only [cond_false, e, decide_eq_true (by omega : (0 : Int) < ((pzSol p).length : Int)), cond_true]
      exact ⟨_, rfl, rfl, hb⟩
    · exact ⟨_, rfl, rfl, by simp⟩
theorem pure_FnExactFirstSolution (y : List (Int × Int × Int)) (hw : Wf kwPuzzle y) : F_w_FnExactFirstSolution (y, ()) = some true := by
  show w_FnExactFirstSolution y = some true
  unfold w_FnExactFirstSolution
  cases hs : decide (w_szPuzzle y 1048576 < 0)
  · have hl := szPuzzle_le hw.1 hs
    obtain ⟨r, h1, h2, h3⟩ := FirstSolution_both y
    have m1 := heldPuzzle_eq y (by omega)
    have m2 := heldStairs_eq r.1.1 r.1.2.1 r.1.2.2 (by omega)
    simp [toPuzzle_eq hl, h1, h2, eqPuzzle_eq, m1.1, eqStairs_eq, m2.1, m2.2]
  · rfl
end Go.Proofs.Ytbemnabojjiikaa.V
