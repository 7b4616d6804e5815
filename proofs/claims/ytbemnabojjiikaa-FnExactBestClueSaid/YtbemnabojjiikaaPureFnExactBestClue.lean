/- The plain law of FnExactBestClue: the plain function answers true. No condition. -/
import Derived.Test.YtbemnabojjiikaaB5h
set_option linter.unusedVariables false
set_option linter.unusedSimpArgs false
set_option maxRecDepth 100000
namespace Go.Proofs.Ytbemnabojjiikaa.V
open Go Go.Ev Go.Proofs
theorem BestClue_loop {p : List (Int × Int × Int)} (hk : Kinds p) (hl : p.length ≤ 6) : ∀ (d k : Nat) (best least : Int), k + d = p.length → 1 ≤ k → 0 ≤ least →
    ∃ r, s_BestClue_L1 p best least p.length k = some r ∧ i_BestClue_L1 p best least p.length k = some r
  | 0, k, best, least, hd, h1, h0 => by
    have : ¬ ((k : Int) < p.length) := by omega
    rw [s_BestClue_u1, s_BestClue_t1, i_BestClue_u1, i_BestClue_t1, decide_eq_false this]
    exact ⟨_, rfl, rfl⟩
  | d + 1, k, best, least, hd, h1, h0 => by
    have hkl : k < p.length := by omega
    have hw : IntKind.wrap .i64 ((k : Int) + 1) = ((k + 1 : Nat) : Int) := by rw [wrapI (by omega) (by omega)]; omega
    have e1 : (p.drop k).take (k + 1 - k) = [p[k]] := by
      rw [List.drop_eq_getElem_cons hkl, Nat.add_sub_cancel_left]; rfl
    have hk1 : Kinds [p[k]] := hk.sub (fun c hc => by rw [List.mem_singleton] at hc; subst hc; exact List.getElem_mem hkl)
    have hn : ¬ (least < 0) := by omega
    have hz : ((k : Int) == 0) = false := by rw [beq_eq_false_iff_ne]; omega
    have c1 : decide ((k : Int) < p.length) = true := decide_eq_true (by omega)
    have c2 : decide ((0 : Int) ≤ ((k + 1 : Nat) : Int)) = true := decide_eq_true (by omega)
    have c3 : decide (((k + 1 : Nat) : Int) ≤ (p.length : Int)) = true := decide_eq_true (by omega)
    have c4 : decide ((k : Int) ≤ ((k + 1 : Nat) : Int)) = true := decide_eq_true (by omega)
    rw [s_BestClue_u1, s_BestClue_t1, i_BestClue_u1, i_BestClue_t1, hw, rdk_get (k := kClue) hkl, c1, c2, c3, c4, decide_eq_true (Int.natCast_nonneg k), Int.toNat_natCast, Int.toNat_natCast, e1, hz, decide_eq_false hn]
    simp only [cond_true, cond_false]
    rw [pzAll_eq hk1 (by simp)]
    have e2 : i_solutions [(p[k].1, p[k].2.1, p[k].2.2)] = some (pzSol [p[k]]) := sol_eq hk1 (by simp)
    rw [e2]
    simp only [Option.bind_some]
    cases decide (((pzSol [p[k]]).length : Int) < least)
    · exact BestClue_loop hk hl d (k + 1) _ _ (by omega) (by omega) h0
    · exact BestClue_loop hk hl d (k + 1) _ _ (by omega) (by omega) (by omega)
theorem BestClue_both (p : List (Int × Int × Int)) : ∃ r, s_BestClue p = some r ∧ i_BestClue p = some r := by
  unfold s_BestClue i_BestClue s_BestClue_t0 i_BestClue_t0
  rw [IsPuzzle_eq]
  cases h : s_pzGood_n p
  · exact ⟨_, rfl, rfl⟩
  · obtain ⟨hk, hl⟩ := good_kinds h
    cases h0 : (p.length : Int) == 0
    · have hp : ¬ ((p.length : Int) = 0) := by simpa using h0
      have hkl : 0 < p.length := by omega
      have hw : IntKind.wrap .i64 ((0 : Int) + 1) = ((1 : Nat) : Int) := rfl
      have e1 : (p.drop 0).take (1 - 0) = [p[0]] := by rw [List.drop_eq_getElem_cons hkl]; rfl
      have hk1 : Kinds [p[0]] := hk.sub (fun c hc => by rw [List.mem_singleton] at hc; subst hc; exact List.getElem_mem hkl)
      have e2 : i_solutions [(p[0].1, p[0].2.1, p[0].2.2)] = some (pzSol [p[0]]) := sol_eq hk1 (by simp)
      have c3 : decide (((1 : Nat) : Int) ≤ (p.length : Int)) = true := decide_eq_true (by omega)
      have c1 : decide ((0 : Int) < p.length) = true := decide_eq_true (by omega)
      have r0 : rdk kClue p 0 = p[0] := rdk_get (k := kClue) hkl
      have t1 : Int.toNat ((1 : Nat) : Int) - Int.toNat 0 = 1 - 0 := rfl
      simp only [Bool.not_true, cond_false]
      rw [s_BestClue_u1, s_BestClue_t1, i_BestClue_u1, i_BestClue_t1, hw, c1, c3, r0, t1]
      have t2 : Int.toNat (0 : Int) = 0 := rfl
      rw [t2, e1, pzAll_eq hk1 (by simp), e2]
      exact BestClue_loop hk hl (p.length - 1) 1 0 _ (by omega) (by omega) (by omega)
    · exact ⟨_, rfl, rfl⟩
theorem pure_FnExactBestClue (y : List (Int × Int × Int)) (hw : Wf kwPuzzle y) : F_w_FnExactBestClue (y, ()) = some true := by
  show w_FnExactBestClue y = some true
  unfold w_FnExactBestClue
  cases hs : decide (w_szPuzzle y 1048576 < 0)
  · have hl := szPuzzle_le hw.1 hs
    obtain ⟨r, h1, h2⟩ := BestClue_both y
    simp [toPuzzle_eq hl, h1, h2, eqPuzzle_eq]
  · rfl
end Go.Proofs.Ytbemnabojjiikaa.V
