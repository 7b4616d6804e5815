/- The plain law of FnMovingTimed: the plain function answers true. No condition. -/
import Derived.Test.YtadcmhdjoglagaaGreatDoorO2h
set_option linter.unusedVariables false
set_option linter.unusedSimpArgs false
set_option maxRecDepth 100000
namespace Go.Proofs.YtadcmhdjoglagaaGreatDoor.V
open Go Go.Ev Go.Proofs
theorem frF_ok (c : Bool) (n d : Int) : (frF c n d).2.2 = c := by cases c <;> rfl
theorem wtN_ok (V S : Int) : (wtN V S).2 = s_moGood V S := by unfold wtN; cases s_moGood V S <;> rfl
theorem mtN_ok (V S : Int) : (mtN V S).2 = s_moGood V S := by unfold mtN; cases s_moGood V S <;> rfl
theorem wtN_len (V S : Int) : (wtN V S).1.length ≤ 21 := by
  unfold wtN
  cases s_moGood V S
  · simp
  · exact numF_len _ _ _
theorem mt8 : w_FnMovingTimed_L8 = some true := by rw [w_FnMovingTimed_u8, w_FnMovingTimed_t8]
theorem mt7 (V S k : Int) : w_FnMovingTimed_L7 V S k (frF (psC V S k) (k * S) (V - k)).1 (frF (psC V S k) (k * S) (V - k)).2.1 (frF (psC V S k) (k * S) (V - k)).2.2 = some true := by
  rw [w_FnMovingTimed_u7, w_FnMovingTimed_t7, mt8]
  cases hc : psC V S k
  · rfl
  · obtain ⟨⟨⟨v1, v2⟩, s1, s2⟩, ⟨k1, k2⟩, h⟩ := psC_of hc
    have B : 0 ≤ k * S ∧ k * S ≤ 500 * 20 := mul_bd ⟨by omega, by omega⟩ ⟨by omega, by omega⟩
    have F := fr_is B.1 (show 0 < V - k by omega)
    have x0 := F.x0; have xn := F.xn; have y1 := F.y1; have yd := F.yd
    have E := mv_walk F
    have b1 : 0 ≤ frN (k * S) (V - k) * V ∧ frN (k * S) (V - k) * V ≤ 10000 * 500 := mul_bd ⟨by omega, by omega⟩ ⟨by omega, by omega⟩
    have b2 : 0 ≤ S * frD (k * S) (V - k) ∧ S * frD (k * S) (V - k) ≤ 20 * 500 := mul_bd ⟨by omega, by omega⟩ ⟨by omega, by omega⟩
    rw [frF_yes]
    simp only [cond_true]
    rw [lLow_ok F, wrapI (n := frN (k * S) (V - k) * V) (by omega) (by omega), wrapI (n := S * frD (k * S) (V - k)) (by omega) (by omega), wrapI (n := S * frD (k * S) (V - k) + frN (k * S) (V - k)) (by omega) (by omega), ← E, wrapI (by omega) (by omega), bne_self_eq_false]
    rfl
theorem mt6 (V S k p w a : Int) : w_FnMovingTimed_L6 V S w a (frF (vbC p w a) (2 * w * a) (w + a)).1 (frF (vbC p w a) (2 * w * a) (w + a)).2.1 (frF (vbC p w a) (2 * w * a) (w + a)).2.2 k (frF (psC V S k) (k * S) (V - k)).1 (frF (psC V S k) (k * S) (V - k)).2.1 (frF (psC V S k) (k * S) (V - k)).2.2 = some true := by
  rw [w_FnMovingTimed_u6, w_FnMovingTimed_t6, mt7]
  cases hc : vbC p w a
  · rfl
  · obtain ⟨⟨p1, p2⟩, ⟨w1, w2⟩, a1, a2⟩ := vbC_iff.1 hc
    have B : 0 ≤ 2 * w * a ∧ 2 * w * a ≤ 20000 * 10000 := mul_bd ⟨by omega, by omega⟩ ⟨by omega, by omega⟩
    have F := fr_is B.1 (show 0 < w + a by omega)
    have x0 := F.x0; have xn := F.xn; have y1 := F.y1; have yd := F.yd
    obtain ⟨m1, m2⟩ := mv_mean F (by omega) a1
    have b1 : 0 ≤ w * frD (2 * w * a) (w + a) ∧ w * frD (2 * w * a) (w + a) ≤ 10000 * 20000 := mul_bd ⟨by omega, by omega⟩ ⟨by omega, by omega⟩
    have b2 : 0 ≤ a * frD (2 * w * a) (w + a) ∧ a * frD (2 * w * a) (w + a) ≤ 10000 * 20000 := mul_bd ⟨by omega, by omega⟩ ⟨by omega, by omega⟩
    rw [frF_yes]
    simp only [cond_true]
    rw [wrapI (n := 2 * w) (by omega) (by omega), wrapI (n := 2 * w * a) (by omega) (by omega), wrapI (n := w + a) (by omega) (by omega), lIs_ok F F.cr, wrapI (n := w * frD (2 * w * a) (w + a)) (by omega) (by omega), wrapI (n := a * frD (2 * w * a) (w + a)) (by omega) (by omega), decide_eq_false (show ¬ frN (2 * w * a) (w + a) < w * frD (2 * w * a) (w + a) by omega), decide_eq_false (show ¬ frN (2 * w * a) (w + a) > a * frD (2 * w * a) (w + a) by omega)]
    rfl
section
variable {more : List Int} (hm : Bytes more)
include hm
theorem mt5 : w_FnMovingTimed_L5 more = some true := by
  obtain ⟨⟨p, x, q, y⟩, d1, -⟩ := drawTwo_ok hm
  obtain ⟨⟨z, w, a⟩, d2, -⟩ := drawBoth_ok hm
  obtain ⟨⟨⟨V, S⟩, k⟩, d3, -⟩ := drawPaceS_ok hm
  have key := mt6 V S k z w a
  rw [w_FnMovingTimed_u5, w_FnMovingTimed_t5, d1]
  simp only [Option.bind_some]
  rw [(VisibleFromTwo_two _ _ _ _).1, (VisibleFromTwo_two _ _ _ _).2, (SpeedFromTwo_two _ _ _ _).1, (SpeedFromTwo_two _ _ _ _).2, d2]
  simp only [Option.bind_some]
  rw [(VisibleFromBoth_two _ _ _).1, (VisibleFromBoth_two _ _ _).2, d3]
  simp only [Option.bind_some]
  rw [(PaceForSteps_two _ _ _).1, (PaceForSteps_two _ _ _).2]
  simp only [Option.bind_some, key, bne_self_eq_false, beq_self_eq_true, Bool.not_true, cond_false]
  cases hc : twC p x q y
  · rfl
  · have hA : twA p x q y = true ∧ 0 < x * q - y * p := by
      unfold twC at hc
      rw [Bool.and_eq_true, decide_eq_true_eq] at hc
      exact hc
    obtain ⟨b1, b2, b3, b4, b5, b6⟩ := tw_bd hA.1
    obtain ⟨⟨p1, p2⟩, ⟨q1, q2⟩, ⟨x1, x2⟩, y1, y2⟩ := twA_iff.1 hA.1
    have F1 := fr_is b6.1 hA.2
    have F2 := fr_is b4.1 hA.2
    have n0 := F1.x0; have nn := F1.xn; have k1 := F1.y1; have kd := F1.yd
    have f0 := F2.x0; have fn := F2.xn; have g1 := F2.y1; have gd := F2.yd
    obtain ⟨E1, E2⟩ := mv_visible F1 F2
    rw [frF_yes, frF_yes]
    simp only [cond_true, beq_self_eq_true, Bool.not_true, cond_false]
    rw [lLow_ok F1, lLow_ok F2]
    simp only [Option.bind_some, Bool.not_true, cond_false]
    generalize frN (x * y * (q - p)) (x * q - y * p) = n at *
    generalize frD (x * y * (q - p)) (x * q - y * p) = kk at *
    generalize frN ((y - x) * p * q) (x * q - y * p) = fast at *
    generalize frD ((y - x) * p * q) (x * q - y * p) = f at *
    have c1 : 0 ≤ n * p ∧ n * p ≤ 2000000000 * 20 := mul_bd ⟨by omega, by omega⟩ ⟨by omega, by omega⟩
    have c2 : 0 ≤ n * p * f ∧ n * p * f ≤ 40000000000 * 200000 := mul_bd ⟨by omega, by omega⟩ ⟨by omega, by omega⟩
    have c3 : 0 ≤ p * f ∧ p * f ≤ 20 * 200000 := mul_bd ⟨by omega, by omega⟩ ⟨by omega, by omega⟩
    have c4 : 0 ≤ x * (p * f + fast) ∧ x * (p * f + fast) ≤ 10000 * 8000000 := mul_bd ⟨by omega, by omega⟩ ⟨by omega, by omega⟩
    have c5 : 0 ≤ n * q ∧ n * q ≤ 2000000000 * 20 := mul_bd ⟨by omega, by omega⟩ ⟨by omega, by omega⟩
    have c6 : 0 ≤ n * q * f ∧ n * q * f ≤ 40000000000 * 200000 := mul_bd ⟨by omega, by omega⟩ ⟨by omega, by omega⟩
    have c7 : 0 ≤ q * f ∧ q * f ≤ 20 * 200000 := mul_bd ⟨by omega, by omega⟩ ⟨by omega, by omega⟩
    have c8 : 0 ≤ y * (q * f + fast) ∧ y * (q * f + fast) ≤ 10000 * 8000000 := mul_bd ⟨by omega, by omega⟩ ⟨by omega, by omega⟩
    rw [wrapI (n := n * p) (by omega) (by omega), wrapI (n := n * p * f) (by omega) (by omega), wrapI (n := p * f) (by omega) (by omega), wrapI (n := p * f + fast) (by omega) (by omega), wrapI (n := x * (p * f + fast)) (by omega) (by omega), ← E1, wrapI (n := n * p * f) (by omega) (by omega), bne_self_eq_false, cond_false,
      wrapI (n := n * q) (by omega) (by omega), wrapI (n := n * q * f) (by omega) (by omega), wrapI (n := q * f) (by omega) (by omega), wrapI (n := q * f + fast) (by omega) (by omega), wrapI (n := y * (q * f + fast)) (by omega) (by omega), ← E2, wrapI (n := n * q * f) (by omega) (by omega), bne_self_eq_false, cond_false]
variable (V S p : Int)
theorem mt4 : w_FnMovingTimed_L4 more V S (wtN V S).1 (wtN V S).2 (mtN V S).1 = some true := by
  rw [w_FnMovingTimed_u4, w_FnMovingTimed_t4, mt5 hm]
  cases hg : s_moGood V S
  · unfold wtN; rw [hg]; rfl
  · have e1 : wtN V S = (numF (wtB V S) 0 21, true) := by unfold wtN; rw [hg]; rfl
    have e2 : mtN V S = (⟨(mT V S).toArray⟩, true) := by unfold mtN; rw [hg]; rfl
    have hl := numF_len (wtB V S) 0 21
    have hr : w_lRises (numF (wtB V S) 0 21) = some true := lRises_ok (by omega) (fun i hi => List.pairwise_iff_getElem.1 (numF_pw (wtB V S) 0 21) i (i + 1) (by omega) hi (by omega))
    rw [e1, e2, parse_told hg, hr]
    simp
noncomputable def cW : Bool := askM V S p && decide (0 < S + p)
noncomputable def cA : Bool := askM V S p && decide (S < p)
omit hm in
theorem cA_cW (h : cA V S p = true) : askM V S p = true ∧ AskM V S p ∧ S < p ∧ cW V S p = true := by
  unfold cA at h
  rw [Bool.and_eq_true, decide_eq_true_eq] at h
  have A := ask_of h.1
  have := A.s1
  refine ⟨h.1, A, h.2, ?_⟩
  unfold cW
  rw [h.1, decide_eq_true (by omega)]; rfl
theorem mt2 : w_FnMovingTimed_L2 more V S (wtN V S).1 p (frF (cW V S p) V (S + p)).1 (frF (cW V S p) V (S + p)).2.1 (frF (cW V S p) (p * V) (S + p)).1 (frF (cW V S p) (p * V) (S + p)).2.1 (frF (cA V S p) V (p - S)).1 (frF (cA V S p) V (p - S)).2.1 (frF (cA V S p) V (p - S)).2.2
    (frF (cA V S p) (p * V) (p - S)).1 (frF (cA V S p) (p * V) (p - S)).2.1 (wtN V S).2 (mtN V S).1 = some true := by
  rw [w_FnMovingTimed_u2, w_FnMovingTimed_t2, mt4 hm V S]
  cases hc : cA V S p
  · rfl
  · obtain ⟨hA, A, hS, hW⟩ := cA_cW V S p hc
    have v1 := A.v1; have v2 := A.v2; have s1 := A.s1; have s2 := A.s2; have p1 := A.p1; have p2 := A.p2
    have W := ask_mul A
    have F1 := fr_is (n := V) (by omega) (show 0 < S + p by omega)
    have F2 := fr_is W.1 (show 0 < S + p by omega)
    have F3 := fr_is (n := V) (by omega) (show 0 < p - S by omega)
    have F4 := fr_is W.1 (show 0 < p - S by omega)
    have t0 := F1.x0; have tn := F1.xn; have t1 := F1.y1; have td := F1.yd
    have u0 := F2.x0; have un := F2.xn; have u1 := F2.y1; have ud := F2.yd
    have b0 := F3.x0; have bn := F3.xn; have b1 := F3.y1; have bd := F3.yd
    have d0 := F4.x0; have dn := F4.xn; have d1 := F4.y1; have dd := F4.yd
    have L := mv_slower F3 F1 s1
    have B1 : 0 ≤ p * frN V (p - S) ∧ p * frN V (p - S) ≤ 20 * 500 := mul_bd ⟨by omega, by omega⟩ ⟨by omega, by omega⟩
    have B2 : 0 ≤ frN V (p - S) * frD V (S + p) ∧ frN V (p - S) * frD V (S + p) ≤ 500 * 40 := mul_bd ⟨by omega, by omega⟩ ⟨by omega, by omega⟩
    have B3 : 0 ≤ frN V (S + p) * frD V (p - S) ∧ frN V (S + p) * frD V (p - S) ≤ 500 * 40 := mul_bd ⟨by omega, by omega⟩ ⟨by omega, by omega⟩
    rw [hW, frF_yes, frF_yes, frF_yes, frF_yes]
    simp only [cond_true]
    rw [wrapI (n := p - S) (by omega) (by omega), lIs_ok F3 F3.cr, wrapI (n := p * frN V (p - S)) (by omega) (by omega), lIs_ok F4 (mv_against F4 F3), wrapI (n := frN V (p - S) * frD V (S + p)) (by omega) (by omega), wrapI (n := frN V (S + p) * frD V (p - S)) (by omega) (by omega), decide_eq_false (show ¬ frN V (p - S) * frD V (S + p) < frN V (S + p) * frD V (p - S) by omega)]
    simp only [Option.bind_some, Bool.not_true, cond_false]
    by_cases h1 : frD (p * V) (S + p) = 1
    · by_cases h2 : frD (p * V) (p - S) = 1
      · by_cases h3 : frN (p * V) (S + p) ≥ 1
        · by_cases h4 : frN (p * V) (p - S) ≤ 10000
          · have hle : frN (p * V) (S + p) ≤ frN (p * V) (p - S) := by
              have c1 := F2.cr
              have c2 := F4.cr
              rw [h1] at c1
              rw [h2] at c2
              apply canc_le (show 0 < p - S by omega)
              have : frN (p * V) (S + p) * (p - S) ≤ frN (p * V) (S + p) * (S + p) := Int.mul_le_mul_of_nonneg_left (by omega) u0
              omega
            have hv : vbC p (frN (p * V) (S + p)) (frN (p * V) (p - S)) = true := vbC_iff.2 ⟨⟨by omega, by omega⟩, ⟨by omega, by omega⟩, by omega, by omega⟩
            have B4 : 0 ≤ 2 * frN (p * V) (S + p) * frN (p * V) (p - S) ∧ 2 * frN (p * V) (S + p) * frN (p * V) (p - S) ≤ 20000 * 10000 := mul_bd ⟨by omega, by omega⟩ ⟨by omega, by omega⟩
            have F5 := fr_is B4.1 (show 0 < frN (p * V) (S + p) + frN (p * V) (p - S) by omega)
            have E := mv_both (by rw [h1] at F2; exact F2) (by rw [h2] at F4; exact F4) F5 (by omega)
            rw [h1, h2, decide_eq_true h3, decide_eq_true h4, (VisibleFromBoth_two _ _ _).1, hv, frF_yes]
            simp only [beq_self_eq_true, cond_true, Option.bind_some, Bool.not_true, cond_false]
            rw [lIs_ok F5 (by rw [Int.mul_one]; exact E)]
            rfl
          · rw [decide_eq_false h4]
            cases frD (p * V) (S + p) == 1 <;> cases frD (p * V) (p - S) == 1 <;> cases decide (frN (p * V) (S + p) ≥ 1) <;> rfl
        · rw [decide_eq_false h3]
          cases frD (p * V) (S + p) == 1 <;> cases frD (p * V) (p - S) == 1 <;> rfl
      · rw [show (frD (p * V) (p - S) == 1) = false from beq_eq_false_iff_ne.2 h2]
        cases frD (p * V) (S + p) == 1 <;> rfl
    · rw [show (frD (p * V) (S + p) == 1) = false from beq_eq_false_iff_ne.2 h1]
      rfl
theorem mt3 (hc : cW V S p = true) : w_FnMovingTimed_L3 more V S (wtN V S).1 p (frF (cW V S p) V (S + p)).1 (frF (cW V S p) V (S + p)).2.1 (frF (cW V S p) (p * V) (S + p)).1 (frF (cW V S p) (p * V) (S + p)).2.1 (frF (cA V S p) V (p - S)).1 (frF (cA V S p) V (p - S)).2.1 (frF (cA V S p) V (p - S)).2.2
    (frF (cA V S p) (p * V) (p - S)).1 (frF (cA V S p) (p * V) (p - S)).2.1 (wtN V S).2 (mtN V S).1 = some true := by
  rw [w_FnMovingTimed_u3, w_FnMovingTimed_t3, mt2 hm V S p]
  have hc' := hc
  unfold cW at hc'
  rw [Bool.and_eq_true, decide_eq_true_eq] at hc'
  obtain ⟨hA, hS⟩ := hc'
  have A := ask_of hA
  have v1 := A.v1; have v2 := A.v2; have s1 := A.s1; have s2 := A.s2; have p1 := A.p1; have p2 := A.p2
  have F := fr_is (n := V) (by omega) hS
  have t0 := F.x0; have tn := F.xn; have t1 := F.y1; have td := F.yd
  have L := mv_last F
  rw [hc, frF_yes]
  generalize frN V (S + p) = t at *
  generalize frD V (S + p) = d at *
  have h0 : 0 ≤ (t + d - 1) / d := Int.ediv_nonneg (by omega) (by omega)
  have hle : (t + d - 1) / d ≤ t + d - 1 := Int.ediv_le_self _ (by omega)
  simp only
  rw [show (d == 0) = false from beq_eq_false_iff_ne.2 (by omega), wrapI (n := t + d) (by omega) (by omega), wrapI (n := t + d - 1) (by omega) (by omega), Int.tdiv_eq_ediv_of_nonneg (by omega), wrapI (n := (t + d - 1) / d) (by omega) (by omega), PlaceAt_i]
  by_cases hq : (t + d - 1) / d ≤ 1000
  · unfold plN
    rw [decide_eq_true hq, hA, l1In_iff.2 (⟨h0, hq⟩ : 0 ≤ (t + d - 1) / d ∧ (t + d - 1) / d ≤ 1000), if_neg (by omega)]
    simp
  · rw [decide_eq_false hq]; rfl
theorem mt1 : w_FnMovingTimed_L1 more V S (wtN V S).1 p (frF (cW V S p) V (S + p)).1 (frF (cW V S p) V (S + p)).2.1 (cW V S p) (frF (cW V S p) (p * V) (S + p)).1 (frF (cW V S p) (p * V) (S + p)).2.1 (frF (cA V S p) V (p - S)).1 (frF (cA V S p) V (p - S)).2.1 (cA V S p)
    (frF (cA V S p) (p * V) (p - S)).1 (frF (cA V S p) (p * V) (p - S)).2.1 (frF (cW V S p) (2 * V) (S + p)).1 (frF (cW V S p) (2 * V) (S + p)).2.1 (wtN V S).2 (mtN V S).1 = some true := by
  have k2 := mt2 hm V S p
  rw [frF_ok (cA V S p)] at k2
  rw [w_FnMovingTimed_u1, w_FnMovingTimed_t1, k2]
  cases hc : cW V S p
  · rfl
  · have k3 := mt3 hm V S p hc
    rw [frF_ok (cA V S p), hc] at k3
    have hc' := hc
    unfold cW at hc'
    rw [Bool.and_eq_true, decide_eq_true_eq] at hc'
    obtain ⟨hA, hS⟩ := hc'
    have A := ask_of hA
    have v1 := A.v1; have v2 := A.v2; have s1 := A.s1; have s2 := A.s2; have p1 := A.p1; have p2 := A.p2
    have W := ask_mul A
    have F1 := fr_is (n := V) (by omega) hS
    have F2 := fr_is W.1 hS
    have F3 := fr_is (n := 2 * V) (by omega) hS
    have t0 := F1.x0; have tn := F1.xn; have t1 := F1.y1; have td := F1.yd
    have u0 := F2.x0; have un := F2.xn
    have B1 : 0 ≤ p * frN V (S + p) ∧ p * frN V (S + p) ≤ 20 * 500 := mul_bd ⟨by omega, by omega⟩ ⟨by omega, by omega⟩
    have hg : s_moGood V S = true := by unfold askM at hA; rw [Bool.and_eq_true] at hA; exact hA.1
    have hl := wtN_len V S
    have hmem : decide (p ∈ (wtN V S).1) = (frD V (S + p) == 1) := by
      rw [Bool.eq_iff_iff, decide_eq_true_eq, beq_iff_eq, fr_den1 F1]
      obtain ⟨n, rfl⟩ : ∃ n : Nat, p = n := ⟨p.toNat, by omega⟩
      unfold wtN
      rw [hg]
      show (n : Int) ∈ numF (wtB V S) 0 21 ↔ _
      rw [numF_nat]
      unfold wtB
      rw [Bool.and_eq_true, decide_eq_true_eq, beq_iff_eq]
      exact ⟨fun h => h.2.2, fun h => ⟨⟨by omega, by omega⟩, hS, h⟩⟩
    rw [k3, frF_yes, frF_yes, frF_yes]
    simp only [cond_true]
    rw [wrapI (n := S + p) (by omega) (by omega), lIs_ok F1 F1.cr, wrapI (n := p * frN V (S + p)) (by omega) (by omega), lIs_ok F2 (mv_taken F2 F1), wrapI (n := 2 * frN V (S + p)) (by omega) (by omega), lIs_ok F3 (mv_round F3 F1), lHas_eq (by omega), hmem]
    simp only [Option.bind_some, Bool.not_true, cond_false, beq_self_eq_true]
    by_cases h1 : frD (p * V) (S + p) = 1
    · by_cases h2 : frN (p * V) (S + p) < V
      · by_cases h3 : S > 0
        · have hp : psC V S (frN (p * V) (S + p)) = true := by
            unfold psC
            rw [hg, l1In_iff.2 (⟨u0, by omega⟩ : 0 ≤ frN (p * V) (S + p) ∧ frN (p * V) (S + p) ≤ V - 1), decide_eq_true (show 0 < S from h3)]; rfl
          have B : 0 ≤ frN (p * V) (S + p) * S := Int.mul_nonneg u0 s1
          have F5 := fr_is B (show 0 < V - frN (p * V) (S + p) by omega)
          have E := mv_pace (by rw [h1] at F2; exact F2) F5
          rw [h1, decide_eq_true h2, decide_eq_true h3, (PaceForSteps_two _ _ _).1, hp, frF_yes]
          simp only [beq_self_eq_true, cond_true, Option.bind_some, Bool.not_true, cond_false]
          rw [lIs_ok F5 (by rw [Int.mul_one]; exact E)]
          rfl
        · rw [decide_eq_false h3]
          cases frD (p * V) (S + p) == 1 <;> cases decide (frN (p * V) (S + p) < V) <;> rfl
      · rw [decide_eq_false h2]
        cases frD (p * V) (S + p) == 1 <;> rfl
    · rw [show (frD (p * V) (S + p) == 1) = false from beq_eq_false_iff_ne.2 h1]
      rfl
end
theorem pure_FnMovingTimed (code : List Int) (w0 : Wf kSuint8 code) (more : List Int) (w1 : Wf kSuint8 more) : F_w_FnMovingTimed (code, more, ()) = some true := by
  show w_FnMovingTimed code more = some true
  unfold w_FnMovingTimed w_FnMovingTimed_t0
  cases w_big code more
  · obtain ⟨⟨⟨V, S⟩, p⟩, hp, -⟩ := drawTime_ok (bytes_wf w0)
    have key := mt1 (bytes_wf w1) V S p
    have hl := wtN_len V S
    rw [hp, cond_false]
    simp only [Option.bind_some]
    rw [TimeWith_i, TimeWith_s, (StepsWith_two _ _ _).1, (StepsWith_two _ _ _).2, (TimeAgainst_two _ _ _).1, (TimeAgainst_two _ _ _).2, (StepsAgainst_two _ _ _).1, (StepsAgainst_two _ _ _).2, (RoundTrip_two _ _ _).1, (RoundTrip_two _ _ _).2, (WholeTimes_two _ _).1, (WholeTimes_two _ _).2, MovingText_i, MovingText_s]
    have hW : (askM V S p && decide (0 < S + p)) = cW V S p := rfl
    have hA : (askM V S p && decide (S < p)) = cA V S p := rfl
    rw [hW, hA]
    simp only [Option.bind_some]
    rw [lSame_self (by omega)]
    simp only [Option.bind_some, bne_self_eq_false, beq_self_eq_true, Bool.not_true, cond_false, frF_ok, wtN_ok, mtN_ok, IsMoving_eq, IsMoving_s]
    rw [wtN_ok] at key
    rw [key]
    have g1 : cW V S p = true → s_moGood V S = true := fun h => by
      unfold cW askM at h
      simp only [Bool.and_eq_true] at h
      exact h.1.1
    cases hc : cA V S p
    · cases hw : cW V S p
      · rfl
      · rw [g1 hw]; rfl
    · have hw := (cA_cW V S p hc).2.2.2
      rw [hw, g1 hw]; rfl
  · rfl
end Go.Proofs.YtadcmhdjoglagaaGreatDoor.V
