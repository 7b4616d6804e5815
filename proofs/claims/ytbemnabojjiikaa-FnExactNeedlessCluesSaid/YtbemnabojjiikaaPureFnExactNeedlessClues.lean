/- The plain law of FnExactNeedlessClues: the plain function answers true. No condition. -/
import Derived.Test.YtbemnabojjiikaaB8h
set_option linter.unusedVariables false
set_option linter.unusedSimpArgs false
set_option maxRecDepth 100000
namespace Go.Proofs.Ytbemnabojjiikaa.V
open Go Go.Ev Go.Proofs
theorem Needless_loop {p : List (Int × Int × Int)} (hk : Kinds p) (hl : p.length ≤ 6) : ∀ (d k : Nat) (acc : List Int), k + d = p.length → acc.length ≤ k →
    ∃ r, s_NeedlessClues_L1 acc p (pzSol p).length p.length k = some r ∧ i_NeedlessClues_L1 acc p p.length k = some r ∧ r.1.length ≤ 1000
  | 0, k, acc, hd, ha => by
    have h1 : ¬ ((k : Int) < p.length) := by omega
    rw [s_NeedlessClues_u1, s_NeedlessClues_t1, i_NeedlessClues_u1, i_NeedlessClues_t1, decide_eq_false h1]
    exact ⟨_, rfl, rfl, by simp only; omega⟩
  | d + 1, k, acc, hd, ha => by
    have c1 : decide ((k : Int) < p.length) = true := decide_eq_true (by omega)
    have hw : IntKind.wrap .i64 ((k : Int) + 1) = ((k + 1 : Nat) : Int) := by rw [wrapI (by omega) (by omega)]; omega
    have hb : Nat.ble (acc.length + 1) 4294967296 = true := by rw [ble_dec]; exact decide_eq_true (by omega)
    have hk1 : Kinds (p.take k ++ p.drop (k + 1)) := hk.sub fun c hc => by
      rcases List.mem_append.1 hc with h | h
      · exact List.mem_of_mem_take h
      · exact List.mem_of_mem_drop h
    have hl1 : (p.take k ++ p.drop (k + 1)).length ≤ 1000 := by simp; omega
    rw [s_NeedlessClues_u1, s_NeedlessClues_t1, i_NeedlessClues_u1, i_NeedlessClues_t1, c1, hw, s_pzWithout_eq p k (by omega) hl, i_without_eq p k (by omega) hl]
    simp only [cond_true, Option.bind_some]
    rw [pzAll_eq hk1 hl1, sol_eq hk1 hl1, sol_eq hk (by omega), hb]
    simp only [cond_true, Option.bind_some]
    cases (((pzSol (p.take k ++ p.drop (k + 1))).length : Int) == ((pzSol p).length : Int))
    · exact Needless_loop hk hl d (k + 1) _ (by omega) (by omega)
    · exact Needless_loop hk hl d (k + 1) _ (by omega) (by simp; omega)
theorem NeedlessClues_both (p : List (Int × Int × Int)) : ∃ r, s_NeedlessClues p = some r ∧ i_NeedlessClues p = some r ∧ r.1.length ≤ 1000 := by
  unfold s_NeedlessClues i_NeedlessClues s_NeedlessClues_t0 i_NeedlessClues_t0
  rw [IsPuzzle_eq]
  cases h : s_pzGood_n p
  · exact ⟨_, rfl, rfl, by simp⟩
  · obtain ⟨hk, hl⟩ := good_kinds h
    rw [pzAll_eq hk (by omega)]
    exact Needless_loop hk hl p.length 0 [] (by omega) (by simp)
theorem pure_FnExactNeedlessClues (y : List (Int × Int × Int)) (hw : Wf kwPuzzle y) : F_w_FnExactNeedlessClues (y, ()) = some true := by
  show w_FnExactNeedlessClues y = some true
  unfold w_FnExactNeedlessClues
  cases hs : decide (w_szPuzzle y 1048576 < 0)
  · have hl := szPuzzle_le hw.1 hs
    obtain ⟨r, h1, h2, h3⟩ := NeedlessClues_both y
    have m1 := heldPuzzle_eq y (by omega)
    have m2 := heldInt_eq r.1 (by omega)
    simp [toPuzzle_eq hl, h1, h2, eqPuzzle_eq, m1.1, m2.1, m2.2, w_eqIntS_n]
  · rfl
end Go.Proofs.Ytbemnabojjiikaa.V
