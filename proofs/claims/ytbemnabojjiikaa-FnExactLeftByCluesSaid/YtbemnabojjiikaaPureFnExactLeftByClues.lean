/- The plain law of FnExactLeftByClues: the plain function answers true. No condition. -/
import Derived.Test.YtbemnabojjiikaaB8h
set_option linter.unusedVariables false
set_option linter.unusedSimpArgs false
set_option maxRecDepth 100000
namespace Go.Proofs.Ytbemnabojjiikaa.V
open Go Go.Ev Go.Proofs
theorem LeftByClues_loop {p : List (Int × Int × Int)} (hk : Kinds p) (hl : p.length ≤ 6) : ∀ (d k : Nat) (acc : List Int), k + d = p.length + 1 → acc.length ≤ k →
    ∃ r, s_LeftByClues_L1 acc p k = some r ∧ i_LeftByClues_L1 acc p ((p.length + 1 : Nat) : Int) k = some r ∧ r.1.length ≤ 1000
  | 0, k, acc, hd, ha => by
    have h1 : ¬ ((k : Int) ≤ p.length) := by omega
    have h2 : ¬ ((k : Int) < ((p.length + 1 : Nat) : Int)) := by omega
    rw [s_LeftByClues_u1, s_LeftByClues_t1, i_LeftByClues_u1, i_LeftByClues_t1, decide_eq_false h1, decide_eq_false h2]
    exact ⟨_, rfl, rfl, by simp only; omega⟩
  | d + 1, k, acc, hd, ha => by
    have c1 : decide ((k : Int) ≤ p.length) = true := decide_eq_true (by omega)
    have c2 : decide ((k : Int) < ((p.length + 1 : Nat) : Int)) = true := decide_eq_true (by omega)
    have hw : IntKind.wrap .i64 ((k : Int) + 1) = ((k + 1 : Nat) : Int) := by rw [wrapI (by omega) (by omega)]; omega
    have hb : Nat.ble (acc.length + 1) 4294967296 = true := by rw [ble_dec]; exact decide_eq_true (by omega)
    have t2 : Int.toNat (0 : Int) = 0 := rfl
    have hk1 : Kinds (p.take k) := hk.sub fun c hc => List.mem_of_mem_take hc
    have hl1 : (p.take k).length ≤ 1000 := by simp; omega
    rw [s_LeftByClues_u1, s_LeftByClues_t1, i_LeftByClues_u1, i_LeftByClues_t1, c1, c2, hw, t2, List.drop_zero, Nat.sub_zero, Int.toNat_natCast, pzAll_eq hk1 hl1, sol_eq hk1 hl1, hb, decide_eq_true (Int.natCast_nonneg k)]
    simp only [cond_true, Option.bind_some]
    exact LeftByClues_loop hk hl d (k + 1) _ (by omega) (by simp; omega)
theorem LeftByClues_both (p : List (Int × Int × Int)) : ∃ r, s_LeftByClues p = some r ∧ i_LeftByClues p = some r ∧ r.1.length ≤ 1000 := by
  unfold s_LeftByClues i_LeftByClues s_LeftByClues_t0 i_LeftByClues_t0
  rw [IsPuzzle_eq]
  cases h : s_pzGood_n p
  · exact ⟨_, rfl, rfl, by simp⟩
  · obtain ⟨hk, hl⟩ := good_kinds h
    have hw : IntKind.wrap .i64 ((p.length : Int) + 1) = ((p.length + 1 : Nat) : Int) := by rw [wrapI (by omega) (by omega)]; omega
    rw [hw]
    exact LeftByClues_loop hk hl (p.length + 1) 0 [] (by omega) (by simp)
theorem pure_FnExactLeftByClues (y : List (Int × Int × Int)) (hw : Wf kwPuzzle y) : F_w_FnExactLeftByClues (y, ()) = some true := by
  show w_FnExactLeftByClues y = some true
  unfold w_FnExactLeftByClues
  cases hs : decide (w_szPuzzle y 1048576 < 0)
  · have hl := szPuzzle_le hw.1 hs
    obtain ⟨r, h1, h2, h3⟩ := LeftByClues_both y
    have m1 := heldPuzzle_eq y (by omega)
    have m2 := heldInt_eq r.1 (by omega)
    simp [toPuzzle_eq hl, h1, h2, eqPuzzle_eq, m1.1, m2.1, m2.2, w_eqIntS_n]
  · rfl
end Go.Proofs.Ytbemnabojjiikaa.V
