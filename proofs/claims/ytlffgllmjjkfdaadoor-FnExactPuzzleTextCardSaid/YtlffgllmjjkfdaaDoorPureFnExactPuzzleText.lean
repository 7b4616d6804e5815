/- The plain law of FnExactPuzzleText: the plain function answers true. No condition. -/
import Derived.Test.YtlffgllmjjkfdaaDoorI1h
set_option linter.unusedVariables false
set_option linter.unusedSimpArgs false
set_option maxRecDepth 100000
namespace Go.Proofs.YtlffgllmjjkfdaaDoor.V
open Go Go.Ev Go.Proofs
theorem l1In_ifP {x lo hi : Int} : s_l1In x lo hi = true ↔ lo ≤ x ∧ x ≤ hi := by
  unfold s_l1In
  by_cases h1 : lo ≤ x <;> by_cases h2 : x ≤ hi <;> simp [h1, h2]
theorem clue_good {c : Int × Int × Int} (h : s_pzClue c.1 c.2.1 c.2.2 = true) : GoodC c := by
  obtain ⟨k, a, b⟩ := c
  unfold s_pzClue at h
  have main : (0 ≤ k ∧ k ≤ 5) ∧ (0 ≤ a ∧ a ≤ 7) ∧ (0 ≤ b ∧ b ≤ 60) := by
    cases hb : s_l1In b 0 60
    · simp only [hb, Bool.not_false, cond_true] at h; cases h
    · have gb := l1In_ifP.1 hb
      simp only [hb, Bool.not_true, cond_false] at h
      by_cases h0 : k = 0
      · subst h0; simp at h; omega
      · by_cases h1 : k = 1
        · subst h1; simp at h; omega
        · by_cases h4 : k = 4
          · subst h4; simp at h; omega
          · by_cases h5 : k = 5
            · subst h5; simp at h; omega
            · simp only [show (k == 0) = false from beq_eq_false_iff_ne.2 h0, show (k == 1) = false from beq_eq_false_iff_ne.2 h1, show (k == 4) = false from beq_eq_false_iff_ne.2 h4, show (k == 5) = false from beq_eq_false_iff_ne.2 h5, cond_false] at h
              by_cases h2 : k = 2
              · subst h2
                cases ha : s_l1In a 1 3
                · simp [ha] at h
                · have := l1In_ifP.1 ha; omega
              · by_cases h3 : k = 3
                · subst h3
                  cases ha : s_l1In a 1 7
                  · simp [ha] at h
                  · have := l1In_ifP.1 ha; omega
                · simp only [show (k == 2) = false from beq_eq_false_iff_ne.2 h2, show (k == 3) = false from beq_eq_false_iff_ne.2 h3, cond_false] at h
                  cases h
  constructor <;> simp only <;> omega
theorem puzzle_good {l : List (Int × Int × Int)} (h : s_pzGood_n l = true) : GoodP l := by
  refine ⟨by have := s_pzGood_len h; omega, fun c hc => ?_⟩
  unfold s_pzGood_n at h
  cases hl : decide ((l.length : Int) > 6)
  · rw [hl, cond_false] at h
    cases ha : l.any (fun c => !s_pzClue c.1 c.2.1 c.2.2)
    · have := List.any_eq_false.1 ha c hc
      exact clue_good (by simpa using this)
    · rw [ha] at h; cases h
  · rw [hl] at h; cases h
theorem pure_FnExactPuzzleText (y : List (Int × Int × Int)) (hw : Wf kwPuzzle y) : F_w_FnExactPuzzleText (y, ()) = some true := by
  show w_FnExactPuzzleText y = some true
  unfold w_FnExactPuzzleText
  cases hs : decide (w_szPuzzle y 1048576 < 0)
  · have hl := szPuzzle_le hw.1 hs
    simp only [cond_false, toPuzzle_eq hl, Option.bind_some, eqPuzzle_eq]
    unfold i_PuzzleText i_PuzzleText_t0 s_PuzzleText
    rw [IsPuzzle_eq]
    cases hg : s_pzGood_n y
    · simp
    · have g := puzzle_good hg
      simp only [Bool.not_true, cond_false]
      rw [puzzle_i g, puzzle_s g]
      simp
  · rfl
end Go.Proofs.YtlffgllmjjkfdaaDoor.V
