/- The plain law of FnExactTurnStairs: the plain function answers true. No condition. -/
import Derived.Test.YtinmfblemgkboaaA2
set_option linter.unusedVariables false
set_option linter.unusedSimpArgs false
set_option maxRecDepth 100000
namespace Go.Proofs.Ytinmfblemgkboaa.V
open Go Go.Ev Go.Proofs
theorem szIntS_le {l : List Int} {k : Int} (h : l.length ≤ maxLen) (h0 : 0 ≤ k) (h1 : k ≤ 1048576) (hs : decide (w_szIntS l k < 0) = false) : (l.length : Int) ≤ k ∧ w_szIntS l k = k - l.length := by
  rw [maxLen_eq] at h
  unfold w_szIntS at hs ⊢
  rw [wrap64 (by omega) (by omega)] at hs ⊢
  by_cases hh : (k - (l.length : Int)) < 0
  · simp [hh] at hs
  · simp [hh]; omega
theorem szStairs_le {a : Int} {b c : List Int} (h : b.length ≤ maxLen) (h' : c.length ≤ maxLen) (hs : decide (w_szStairs a b c 1048576 < 0) = false) : b.length ≤ 1048576 ∧ c.length ≤ 1048576 := by
  unfold w_szStairs at hs
  cases h1 : decide (w_szIntS b 1048576 < 0)
  · obtain ⟨g1, g2⟩ := szIntS_le h (by omega) (by omega) h1
    rw [h1] at hs
    simp only [cond_false] at hs
    cases h2 : decide (w_szIntS c (w_szIntS b 1048576) < 0)
    · obtain ⟨g3, g4⟩ := szIntS_le h' (by omega) (by omega) h2
      omega
    · rw [h2] at hs; simp at hs
  · rw [h1] at hs; simp at hs
theorem toStairs_eq {a : Int} {b c : List Int} (h : b.length ≤ 1048576) (h' : c.length ≤ 1048576) : w_toStairs a b c = some (a, b, c) := by
  unfold w_toStairs w_toIntS_n
  rw [decide_eq_true (by omega : b.length ≤ 4294967296), decide_eq_true (by omega : c.length ≤ 4294967296)]
  rfl
theorem eqStairs_eq (a b : Int × List Int × List Int) : w_eqStairs a.1 a.2.1 a.2.2 b.1 b.2.1 b.2.2 = decide (a = b) := by
  obtain ⟨a1, a2, a3⟩ := a
  obtain ⟨b1, b2, b3⟩ := b
  unfold w_eqStairs w_eqIntS_n
  by_cases h1 : a1 = b1 <;> by_cases h2 : a2 = b2 <;> by_cases h3 : a3 = b3 <;> simp [h1, h2, h3]
/-- stairs of any sizes, marked: what is held is what was marked -/
theorem heldStairs_eq (a : Int) (b c : List Int) (h : b.length + c.length ≤ 4611686018427387904) :
    decide (markK c (markK b 1) < 0) = false ∧ w_heldStairs a (markL b 1) (markL c (markK b 1)) 1 = markK c (markK b 1) := by
  have e1 : markK b 1 = 1 + b.length := markK_eq b 1 (by omega) (by omega)
  have e2 : markK c (1 + b.length) = 1 + b.length + c.length := markK_eq c _ (by omega) (by omega)
  have h1 : ¬ (1 + (b.length : Int) < 0) := by omega
  have h2 : ¬ (1 + (b.length : Int) + c.length < 0) := by omega
  constructor
  · rw [e1, e2]; simp [h2]
  · unfold w_heldStairs w_heldIntS_n
    rw [held_mark, held_mark, e1, e2]
    simp [h1, h2]
theorem pure_FnExactTurnStairs (y : Int × List Int × List Int) (hw : Wf kwStairs y) : F_w_FnExactTurnStairs (y, ()) = some true := by
  obtain ⟨a, b, c⟩ := y
  show w_FnExactTurnStairs a b c = some true
  unfold w_FnExactTurnStairs
  cases hs : decide (w_szStairs a b c 1048576 < 0)
  · obtain ⟨hb, hc⟩ : b.length ≤ 1048576 ∧ c.length ≤ 1048576 := szStairs_le (a := a) hw.2.1.1 hw.2.2.1 hs
    have e0 : s_TurnStairs_n a b c = i_TurnStairs_n a b c := rfl
    have m1 := heldStairs_eq a b c (by omega)
    have hsz : (i_TurnStairs_n a b c).1.2.1.length + (i_TurnStairs_n a b c).1.2.2.length ≤ 4611686018427387904 := by
      unfold i_TurnStairs_n
      cases s_clGood a b c <;> simp; omega
    have m2 := heldStairs_eq (i_TurnStairs_n a b c).1.1 (i_TurnStairs_n a b c).1.2.1 (i_TurnStairs_n a b c).1.2.2 hsz
    simp only [cond_false, toStairs_eq hb hc, Option.bind_some, e0, eqStairs_eq, m1.1, m2.1, m2.2]
    simp
  · rfl
end Go.Proofs.Ytinmfblemgkboaa.V
