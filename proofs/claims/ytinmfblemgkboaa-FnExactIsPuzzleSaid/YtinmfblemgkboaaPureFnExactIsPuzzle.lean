/- The plain law of FnExactIsPuzzle: the plain function answers true. No condition. -/
import Derived.Test.YtinmfblemgkboaaA1
set_option linter.unusedVariables false
set_option linter.unusedSimpArgs false
set_option maxRecDepth 100000
namespace Go.Proofs.Ytinmfblemgkboaa.V
open Go Go.Ev Go.Proofs
theorem szClueS_le {l : List (Int × Int × Int)} (h : l.length ≤ maxLen) (hs : decide (w_szClueS l 1048576 < 0) = false) : l.length ≤ 1048576 := by
  rw [maxLen_eq] at h
  unfold w_szClueS at hs
  rw [wrap64 (by omega) (by omega)] at hs
  by_cases hh : (1048576 - (l.length : Int)) < 0
  · simp [hh] at hs
  · omega
theorem IsClue_eq (a b c : Int) : i_IsClue a b c = s_pzClue a b c := by
  unfold i_IsClue s_pzClue i_within s_l1In
  have e : decide (c ≤ 1) = decide (c < 2) := by rw [decide_eq_decide]; omega
  rw [e]
  simp only [Bool.cond_eq_ite, ge_iff_le]
  grind
theorem IsPuzzle_eq (l : List (Int × Int × Int)) : i_IsPuzzle l = s_IsPuzzle l := by
  unfold i_IsPuzzle s_IsPuzzle s_pzGood_n slices_ContainsFunc_Clue__i_IsPuzzle_c1 slices_IndexFunc_Clue__i_IsPuzzle_c1_n
  rw [idxF_any]
  by_cases h : (l.length : Int) ≤ 6
  · have h' : ¬ ((l.length : Int) > 6) := by omega
    simp only [h, h', decide_true, decide_false, cond_true, cond_false, i_IsPuzzle_c1, IsClue_eq]
    cases l.any _ <;> rfl
  · have h' : ((l.length : Int) > 6) := by omega
    simp [h, h']
theorem pure_FnExactIsPuzzle (y : List (Int × Int × Int)) (hw : Wf kwPuzzle y) : F_w_FnExactIsPuzzle (y, ()) = some true := by
  show w_FnExactIsPuzzle y = some true
  unfold w_FnExactIsPuzzle
  cases hs : decide (w_szPuzzle y 1048576 < 0)
  · have hl := szClueS_le (l := y) hw.1 (by
      unfold w_szPuzzle at hs
      cases h : decide (w_szClueS y 1048576 < 0)
      · rfl
      · rw [h] at hs; simp at hs)
    have ht : w_toPuzzle y = some y := by
      have : decide (y.length ≤ 4294967296) = true := decide_eq_true (by omega)
      simp [w_toPuzzle, w_toClueS_n, this]
    simp [ht, IsPuzzle_eq, w_eqPuzzle, w_eqClueS_n]
  · rfl
end Go.Proofs.Ytinmfblemgkboaa.V
