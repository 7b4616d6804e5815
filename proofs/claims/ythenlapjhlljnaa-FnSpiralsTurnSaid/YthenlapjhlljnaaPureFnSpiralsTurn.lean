/- The plain law of FnSpiralsTurn: the plain function answers true. No condition. -/
import Derived.Test.YthenlapjhlljnaaG3h
set_option linter.unusedVariables false
set_option linter.unusedSimpArgs false
set_option maxRecDepth 100000
namespace Go.Proofs.Ythenlapjhlljnaa.V
open Go Go.Ev Go.Proofs
theorem L3_ok {m : List Int} (hm : Bytes m) : w_FnSpiralsTurn_L3 m = some true := by
  obtain ⟨⟨⟨S, R, r⟩, a, b⟩, d1, _⟩ := s_DrawApartAround_ok hm
  obtain ⟨⟨⟨S', R', r'⟩, z⟩, d2, _⟩ := s_DrawStepsAtSide_ok hm
  obtain ⟨⟨ri, le⟩, d3, _⟩ := s_DrawLeastRound_ok hm
  obtain ⟨l, f, a1, a2, a3⟩ := AtSide_both S' R' r' z
  obtain ⟨q, u, e1, e2⟩ := LeastRound_s ri le
  have L6 : w_FnSpiralsTurn_L6 = some true := by rw [w_FnSpiralsTurn_u6, w_FnSpiralsTurn_t6]
  rw [w_FnSpiralsTurn_u3, w_FnSpiralsTurn_t3, d1, Option.bind_some, Apart_i, Apart_s, AreOpp_i, AreOpp_s, d2]
  simp only [Option.bind_some]
  rw [a1, a2, d3]
  simp only [Option.bind_some]
  rw [LeastRound_i, e1]
  simp only [Option.bind_some]
  rw [wSame_self (a := l) (by omega), L6]
  have c1 : ∀ x : Bool, (!x == x) = false := fun x => by cases x <;> rfl
  simp only [Option.bind_some, c1, bne_self_eq_false, cond_false, Bool.not_true]
  have c2 : (!(bif s_spStep S R r a && s_spStep S R r b then (opP R a b, true) else (false, false)).snd == (bif s_spStep S R r a && s_spStep S R r b then (frN (apt R a b) R, frD (apt R a b) R, true) else (0, 0, false)).snd.snd) = false := by
    cases s_spStep S R r a && s_spStep S R r b <;> rfl
  rw [c2, cond_false]
  cases hu : u
  · rfl
  · obtain ⟨g1, g2, g3, g4, g5, g6⟩ := e2 hu
    have b1 : q * ri ≤ 60 * 300 := Int.mul_le_mul (by omega) (by omega) (by omega) (by omega)
    have b2 : 0 ≤ q * ri := Int.mul_nonneg (by omega) (by omega)
    have b3 : (q - 1) * ri = q * ri - ri := by rw [Int.sub_mul, Int.one_mul]
    rw [cond_true, decide_eq_false (show ¬ q < 3 by omega), wrapI (n := q * ri) (by omega) (by omega), decide_eq_false (show ¬ q * ri < le by omega), wrapI (n := q - 1) (by omega) (by omega), wrapI (n := (q - 1) * ri) (by omega) (by omega)]
    by_cases h : q > 3
    · have := g6 h
      rw [decide_eq_true h, decide_eq_false (show ¬ ((q - 1) * ri ≥ le) by omega)]; rfl
    · rw [decide_eq_false h]; rfl
theorem seg_short {p : Int → Bool} {S : Int} (h : S ≤ 400) : (seg p 1 S.toNat).length ≤ 100000 := by
  have := seg_len (p := p) (n := S.toNat) (k := 1); omega
theorem wSame_nil : w_wSame [] [] = some true := wSame_self (by simp)
theorem pure_FnSpiralsTurn (code : List Int) (hc : Wf kSuint8 code) (more : List Int) (hm : Wf kSuint8 more) : F_w_FnSpiralsTurn (code, more, ()) = some true := by
  show w_FnSpiralsTurn code more = some true
  have h3 := L3_ok (bytes_wf hm)
  obtain ⟨⟨⟨S, R, r⟩, k⟩, d1, _⟩ := s_DrawAngleOf_ok (bytes_wf hc)
  have c1 : ∀ x : Bool, (!x == x) = false := fun x => by cases x <;> rfl
  unfold w_FnSpiralsTurn w_FnSpiralsTurn_t0
  rw [d1]
  cases w_big code more
  · simp only [Option.bind_some, cond_false]
    rw [AngleOf_i, AngleOf_s, HeadOver_i, SideOf_i, SideOf_s, Height_i, Count_i, Count_s, TurnsOf_i, TurnsOf_s, isS_eq]
    unfold s_IsSpiral
    cases hk : s_spStep S R r k
    · obtain ⟨n1, n2⟩ := above_no hk
      obtain ⟨n3, n4⟩ := opposite_no hk
      have ho : s_HeadOver S R r k = (0, false) := by rw [HeadOver_s, hk]; rfl
      have hh : s_HeightSpiral S R r k = (0, false) := by rw [Height_s, hk]; rfl
      rw [n1, n2, n3, n4, ho, hh]
      simp only [Option.bind_some, cond_false, wSame_nil, c1, bne_self_eq_false, beq_self_eq_true, Bool.not_true]
      cases hg : s_spGood S R r
      · simp only [cond_false, wSame_nil, Option.bind_some, Bool.not_true, c1, bne_self_eq_false, Bool.not_false, beq_self_eq_true]
        have l1 : w_FnSpiralsTurn_L1 more S R r [] [] [] k 0 0 false 0 ⟨#[]⟩ 0 0 0 false = some true := by
          rw [w_FnSpiralsTurn_u1, w_FnSpiralsTurn_t1, cond_false]
          exact L2_no h3 _ _ _ _ _ _ _ _ _ _
        simp [l1]
      · have g := good_iff.1 hg
        have l1 : w_FnSpiralsTurn_L1 more S R r [] [] (csL S R) k 0 0 false 0 ⟨#[]⟩ 0 (frN (S - 1) R) (frD (S - 1) R) true = some true := L1_ok g (fun h => by cases h) (L2_no h3 _ _ _ _ _ _ _ _ _ _)
        have hcs : w_wSame (csL S R) (csL S R) = some true := wSame_self (by simp [csL])
        have hdec : 1 ≤ k → decide (k ≤ S) = false := fun h1 => by
          rw [decide_eq_false_iff_not]
          intro h2
          have := step_iff.2 ⟨g, h1, h2⟩
          rw [hk] at this; cases this
        simp only [cond_true, hcs, Option.bind_some, Bool.not_true, c1, bne_self_eq_false, cond_false, Bool.not_false, beq_self_eq_true, l1]
        by_cases h1 : k ≥ 1
        · rw [decide_eq_true h1, hdec h1] <;> simp
        · rw [decide_eq_false h1] <;> simp
    · obtain ⟨g, k1, k2⟩ := step_iff.1 hk
      have hg := good_iff.2 g
      have s2 := g.s2
      have hcs : w_wSame (csL S R) (csL S R) = some true := wSame_self (by simp [csL])
      have w1 : w_wSame (aboveL S R k) (aboveL S R k) = some true := wSame_self (seg_short g.s2)
      have w2 : w_wSame (oppL S R k) (oppL S R k) = some true := wSame_self (seg_short g.s2)
      have hh : s_HeightSpiral S R r k = (k * r, true) := by rw [Height_s, hk]; rfl
      have l1 : w_FnSpiralsTurn_L1 more S R r (aboveL S R k) (oppL S R k) (csL S R) k (frN ((k - 1) % R) R) (frD ((k - 1) % R) R) true (s_HeadOver S R r k).1 (sdB (sd R k)) (k * r) (frN (S - 1) R) (frD (S - 1) R) true = some true :=
        L1_ok g (fun _ => ⟨⟨k1, k2⟩, rfl⟩) (L2_yes h3 hk)
      have hab : (s_HeadOver S R r k).2 = decide (((aboveL S R k).length : Int) > 0) := by
        rw [aboveL_eq g k1 k2, apL_len, HeadOver_s, hk, Bool.true_and]
        have e := abN_le (R := R) (S := S) g.r1 k2 0
        by_cases h : k + R ≤ S
        · rw [decide_eq_true h, decide_eq_true (by have := e.2 (by simpa using h); omega)]; rfl
        · rw [decide_eq_false h, decide_eq_false (fun c => h (by have := e.1 (by omega); simpa using this))]; rfl
      rw [above_i hk, above_s hk, opposite_i hk, opposite_s hk, hg, hh]
      simp only [cond_true, w1, w2, hcs, Option.bind_some, Bool.not_true, c1, bne_self_eq_false, cond_false, Bool.not_false, beq_self_eq_true, decide_eq_true k1, decide_eq_true k2, ← hab, l1]
      first | done | (rw [decide_eq_true (show k ≥ 1 from k1)] <;> simp)
  · rfl
end Go.Proofs.Ythenlapjhlljnaa.V
