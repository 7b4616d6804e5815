/- The plain law of FnRisersPlaced: the plain function answers true. No condition. -/
import Derived.Test.YthenlapjhlljnaaC1h
set_option linter.unusedVariables false
set_option linter.unusedSimpArgs false
set_option maxRecDepth 100000
namespace Go.Proofs.Ythenlapjhlljnaa.V
open Go Go.Ev Go.Proofs
theorem rp10 : w_FnRisersPlaced_L10 = some true := by rw [w_FnRisersPlaced_u10]; rfl
theorem rp7 (rise pace : Int) : w_FnRisersPlaced_L7 rise pace (s_TreadFor rise pace).1 (s_TreadFor rise pace).2 = some true := by
  rw [w_FnRisersPlaced_u7, w_FnRisersPlaced_t7, rp10]
  unfold s_TreadFor
  cases h1 : s_l1In rise 1 250
  · rfl
  · cases h2 : s_l1In pace 1 2000
    · rfl
    · obtain ⟨a1, a2⟩ := l1In_iff.1 h1
      obtain ⟨b1, b2⟩ := l1In_iff.1 h2
      rw [wrapI (n := 2 * rise) (by omega) (by omega), wrapI (n := pace - 2 * rise) (by omega) (by omega)]
      cases h3 : s_l1In (pace - 2 * rise) 1 500
      · rfl
      · obtain ⟨c1, c2⟩ := l1In_iff.1 h3
        have e : IntKind.wrap .i64 (2 * rise + (pace - 2 * rise)) = pace := by rw [wrapI (by omega) (by omega)]; omega
        simp only [Bool.not_true, cond_false, cond_true]
        rw [e]
        have d1 : ¬ (pace - 2 * rise < 1) := by omega
        have d2 : ¬ (pace - 2 * rise > 500) := by omega
        simp [d1, d2]
theorem rp11 {x sum t b f : Int} (hB : Bp x sum t) (hb : BestOf x sum t (candL x 1 100) b f) (rise pace : Int) : ∀ (d k : Nat), k + d = 101 → 1 ≤ k →
    w_FnRisersPlaced_L11 x sum t b rise pace (s_TreadFor rise pace).1 (s_TreadFor rise pace).2 f k = some true
  | 0, k, hd, hk => by
    have : ¬ ((k : Int) ≤ 100) := by omega
    rw [w_FnRisersPlaced_u11, w_FnRisersPlaced_t11, decide_eq_false this, cond_false]
    exact rp7 rise pace
  | d + 1, k, hd, hk => by
    have ih := rp11 hB hb rise pace d (k + 1) (by omega) (by omega)
    obtain ⟨x1, x2, s1, s2, t1, t2⟩ := hB
    have c1 : (k : Int) ≤ 100 := by omega
    have hz : ((k : Int) == 0) = false := by rw [beq_eq_false_iff_ne]; omega
    have hw : IntKind.wrap .i64 ((k : Int) + 1) = ((k + 1 : Nat) : Int) := by rw [wrapI (by omega) (by omega)]; omega
    obtain ⟨e1, e2⟩ := tm_eq (x := x) (n := k) (by omega)
    obtain ⟨b1, b2⟩ := div_bd (x := x) (n := k) (by omega) (by omega)
    rw [w_FnRisersPlaced_u11, w_FnRisersPlaced_t11, decide_eq_true c1, hz, hw, e1, e2]
    simp only [cond_true, cond_false]
    rw [wrapI (n := x / k) (by omega) (by omega), wrapI (n := 2 * (x / k)) (by omega) (by omega), wrapI (n := 2 * (x / k) + t) (by omega) (by omega), wrapI (n := 2 * (x / k) + t - sum) (by omega) (by omega), wrapI (n := 0 - (2 * (x / k) + t - sum)) (by omega) (by omega), ih]
    by_cases g1 : x % (k : Int) = 0
    · by_cases g2 : x / (k : Int) ≤ 250
      · have g2' : ¬ (x / (k : Int) > 250) := by omega
        have hm : (k : Int) ∈ candL x 1 100 := candL_all 100 1 (by omega) (by omega) (by unfold candB; simp [g1, g2])
        have hle := hb.le _ hm
        have h9 : w_FnRisersPlaced_L9 x sum t b rise pace (s_TreadFor rise pace).1 (s_TreadFor rise pace).2 f k (farV x sum t k) = some true := by
          rw [w_FnRisersPlaced_u9, w_FnRisersPlaced_t9, hw, ih]
          have d1 : ¬ (farV x sum t k < f) := by omega
          rw [decide_eq_false d1, cond_false]
          by_cases g : farV x sum t k = f
          · have d2 : ¬ ((k : Int) < b) := by have := hle.2 g; omega
            rw [decide_eq_false d2, cond_false]; cases farV x sum t k == f <;> rfl
          · rw [beq_eq_false_iff_ne.2 g]; rfl
        have hv : (bif decide (2 * (x / (k : Int)) + t - sum < 0) then w_FnRisersPlaced_L9 x sum t b rise pace (s_TreadFor rise pace).1 (s_TreadFor rise pace).2 f k (0 - (2 * (x / (k : Int)) + t - sum)) else
            w_FnRisersPlaced_L9 x sum t b rise pace (s_TreadFor rise pace).1 (s_TreadFor rise pace).2 f k (2 * (x / (k : Int)) + t - sum)) = some true := by
          rw [← h9]
          unfold farV
          by_cases g3 : 2 * (x / (k : Int)) + t - sum < 0
          · rw [decide_eq_true g3, cond_true]; congr 1; omega
          · rw [decide_eq_false g3, cond_false]; congr 1; omega
        simp only [g1, bne_self_eq_false, cond_false, decide_eq_false g2']
        exact hv
      · have g2' : (x / (k : Int) > 250) := by omega
        simp only [g1, bne_self_eq_false, cond_false, decide_eq_true g2', cond_true]
    · have g1' : (x % (k : Int) != 0) = true := by rw [bne_iff_ne]; exact g1
      simp only [g1', cond_true]
theorem rp6 (x sum t rise pace : Int) : w_FnRisersPlaced_L6 x sum t (bestRes x sum t).1 (bestRes x sum t).2 rise pace (s_TreadFor rise pace).1 (s_TreadFor rise pace).2 = some true := by
  rw [w_FnRisersPlaced_u6, w_FnRisersPlaced_t6, rp7]
  unfold bestRes
  cases h : bestOkB x sum t
  · rfl
  · rcases bestR_or (x := x) (sum := sum) (t := t) with h0 | ⟨h0, f, hf⟩
    · rw [h0]; rfl
    · have hz : (bestR x sum t == 0) = false := by rw [beq_eq_false_iff_ne]; exact h0
      simp only [cond_true, hz, cond_false]
      have hB := bestOk_bp h
      obtain ⟨m1, m2, m3⟩ := candL_mem hf.mem
      generalize bestR x sum t = b at hf hz m1 m2 m3 h0 ⊢
      have hB' := hB
      obtain ⟨x1, x2, s1, s2, t1, t2⟩ := hB'
      obtain ⟨e1, e2⟩ := tm_eq (x := x) (n := b) (by omega)
      obtain ⟨b1, b2⟩ := div_bd (x := x) (n := b) (by omega) (by omega)
      have h11 := rp11 hB hf rise pace 100 1 rfl (Nat.le_refl _)
      have h8 : w_FnRisersPlaced_L8 x sum t b rise pace (s_TreadFor rise pace).1 (s_TreadFor rise pace).2 f = some true := by
        rw [w_FnRisersPlaced_u8, w_FnRisersPlaced_t8, hz, e1, e2, wrapI (n := x / b) (by omega) (by omega)]
        unfold candB at m3
        simp only [Bool.and_eq_true, decide_eq_true_eq] at m3
        have g2' : ¬ (x / b > 250) := by omega
        rw [m3.1, decide_eq_false g2']
        exact h11
      have hff := hf.far
      rw [e2, wrapI (n := x / b) (by omega) (by omega), wrapI (n := 2 * (x / b)) (by omega) (by omega), wrapI (n := 2 * (x / b) + t) (by omega) (by omega), wrapI (n := 2 * (x / b) + t - sum) (by omega) (by omega), wrapI (n := 0 - (2 * (x / b) + t - sum)) (by omega) (by omega)]
      rw [← h8]
      unfold farV at hff
      by_cases g3 : 2 * (x / b) + t - sum < 0
      · rw [decide_eq_true g3, cond_true]; congr 1; omega
      · rw [decide_eq_false g3, cond_false]; congr 1; omega
theorem rp5 (r t : Int) {v : Int × Bool} (hv : s_MostRisers r t = some v) (x sum u rise pace : Int) : w_FnRisersPlaced_L5 r t v.1 v.2 x sum u (bestRes x sum u).1 (bestRes x sum u).2 rise pace (s_TreadFor rise pace).1 (s_TreadFor rise pace).2 = some true := by
  rw [w_FnRisersPlaced_u5, w_FnRisersPlaced_t5, rp6]
  obtain ⟨-, v', hv', hh⟩ := Most_eq r t
  rw [hv] at hv'; cases hv'
  cases h2 : v.2
  · rfl
  · obtain ⟨g1, g2, g3⟩ := hh h2
    have b1 : 0 ≤ r / t := Int.ediv_nonneg (by omega) (by omega)
    have b2 : r / t * t ≤ r := Int.ediv_mul_le _ (by omega)
    have b3 : r < (r / t + 1) * t := Int.lt_ediv_add_one_mul_self r (by omega)
    have e1 := mul_bd (x := v.1 - 1) (y := t) (m := r / t) (k := t) (by omega) (by omega) (by omega) (by omega)
    have e2 := mul_bd (x := v.1) (y := t) (m := 100) (k := 500) (by omega) (by omega) (by omega) (by omega)
    have c1 : ¬ (v.1 < 1) := by omega
    have c2 : ¬ (v.1 > 100) := by omega
    have c3 : ¬ ((v.1 - 1) * t > r) := by omega
    rw [wrapI (n := v.1 - 1) (by omega) (by omega), wrapI (n := (v.1 - 1) * t) (by omega) (by omega), wrapI (n := v.1 * t) (by omega) (by omega), decide_eq_false c1, decide_eq_false c2, decide_eq_false c3]
    simp only [cond_true, cond_false]
    by_cases c4 : v.1 < 100
    · have hv1 : v.1 = r / t + 1 := by omega
      have c5 : ¬ (v.1 * t ≤ r) := by rw [hv1]; omega
      rw [decide_eq_true c4, decide_eq_false c5]; rfl
    · rw [decide_eq_false c4]; rfl
theorem rp4 (h m : Int) {w : Int × Bool} (hw : s_FewestRisers h m = some w) (r t : Int) {v : Int × Bool} (hv : s_MostRisers r t = some v) (x sum u rise pace : Int) :
    w_FnRisersPlaced_L4 h m w.1 w.2 r t v.1 v.2 x sum u (bestRes x sum u).1 (bestRes x sum u).2 rise pace (s_TreadFor rise pace).1 (s_TreadFor rise pace).2 = some true := by
  rw [w_FnRisersPlaced_u4, w_FnRisersPlaced_t4, rp5 r t hv]
  obtain ⟨-, w', hw', hh⟩ := Fewest_eq h m
  rw [hw] at hw'; cases hw'
  cases h2 : w.2
  · rfl
  · obtain ⟨g1, g2, g3⟩ := hh h2
    have e0 := Int.emod_add_mul_ediv (h + m - 1) m
    have e1 := Int.emod_nonneg (h + m - 1) (by omega : m ≠ 0)
    have e2 := Int.emod_lt_of_pos (h + m - 1) (by omega : 0 < m)
    rw [Int.mul_comm, ← g3] at e0
    have b0 : 0 ≤ w.1 := by rw [g3]; exact Int.ediv_nonneg (by omega) (by omega)
    have b1 : 1 ≤ w.1 := by
      rcases Int.lt_or_le w.1 1 with hh | hh
      · have : w.1 = 0 := by omega
        rw [this] at e0; omega
      · exact hh
    have e3 : (w.1 - 1) * m = w.1 * m - m := by rw [Int.sub_mul]; omega
    have b2 : w.1 ≤ h + m - 1 := by rw [g3]; exact Int.ediv_le_self _ (by omega)
    have c1 : ¬ (w.1 < 1) := by omega
    have c2 : ¬ (w.1 * m < h) := by omega
    have c3 : ¬ ((w.1 - 1) * m ≥ h) := by omega
    rw [wrapI (n := w.1 - 1) (by omega) (by omega), wrapI (n := w.1 * m) (by omega) (by omega), wrapI (n := (w.1 - 1) * m) (by omega) (by omega), decide_eq_false c1, decide_eq_false c2, decide_eq_false c3]
    rfl
theorem rp3 (a b c l : Int) (h m : Int) {w : Int × Bool} (hw : s_FewestRisers h m = some w) (r t : Int) {v : Int × Bool} (hv : s_MostRisers r t = some v) (x sum u rise pace : Int) :
    w_FnRisersPlaced_L3 a b c (s_TimesFlight a b c l).1.1 (s_TimesFlight a b c l).1.2.1 (s_TimesFlight a b c l).1.2.2 l (s_TimesFlight a b c l).2 h m w.1 w.2 r t v.1 v.2 x sum u (bestRes x sum u).1 (bestRes x sum u).2 rise pace (s_TreadFor rise pace).1 (s_TreadFor rise pace).2 = some true := by
  rw [w_FnRisersPlaced_u3, w_FnRisersPlaced_t3, rp4 h m hw r t hv]
  cases h2 : (s_TimesFlight a b c l).2
  · rfl
  · obtain ⟨g1, l1, l2, g2, g3⟩ := Times_of h2
    rw [g3]
    simp only [cond_true]
    rw [Slope_eq g1, Slope_eq g2]
    obtain ⟨⟨a1, a2⟩, ⟨b1, b2⟩, c1, c2⟩ := riGood_iff.1 g1
    have m1 := mul_bd (x := l) (y := b) (m := 500) (k := 250) (by omega) (by omega) (by omega) (by omega)
    have e1 : (b * l).toNat = l.toNat * b.toNat := by rw [Int.toNat_mul (by omega) (by omega), Nat.mul_comm]
    have e2 : (c * l).toNat = l.toNat * c.toNat := by rw [Int.toNat_mul (by omega) (by omega), Nat.mul_comm]
    obtain ⟨q1, q2⟩ := part_mul b.toNat c.toNat l.toNat (by omega)
    rw [e1, e2, q1, q2, wrapI (n := l * b) (by omega) (by omega), Int.mul_comm b l]
    simp
theorem rp2 (a b c l : Int) (a' b' c' l' : Int) (h m : Int) {w : Int × Bool} (hw : s_FewestRisers h m = some w) (r t : Int) {v : Int × Bool} (hv : s_MostRisers r t = some v) (x sum u rise pace : Int) :
    w_FnRisersPlaced_L2 a b c (s_SplitFlight a b c l).1.1 (s_SplitFlight a b c l).1.2.1 (s_SplitFlight a b c l).1.2.2 (s_SplitFlight a b c l).2.1.1 (s_SplitFlight a b c l).2.1.2.1 (s_SplitFlight a b c l).2.1.2.2 a' b' c' (s_TimesFlight a' b' c' l').1.1 (s_TimesFlight a' b' c' l').1.2.1 (s_TimesFlight a' b' c' l').1.2.2
      l (s_SplitFlight a b c l).2.2 l' (s_TimesFlight a' b' c' l').2 h m w.1 w.2 r t v.1 v.2 x sum u (bestRes x sum u).1 (bestRes x sum u).2 rise pace (s_TreadFor rise pace).1 (s_TreadFor rise pace).2 = some true := by
  rw [w_FnRisersPlaced_u2, w_FnRisersPlaced_t2, rp3 a' b' c' l' h m hw r t hv]
  cases h2 : (s_SplitFlight a b c l).2.2
  · rfl
  · obtain ⟨g1, l1, l2, g3⟩ := Split_of h2
    obtain ⟨⟨a1, a2⟩, ⟨b1, b2⟩, c1, c2⟩ := riGood_iff.1 g1
    have ga : s_riGood l b c = true := riGood_iff.2 ⟨by omega, by omega, by omega⟩
    have gb : s_riGood (a - l) b c = true := riGood_iff.2 ⟨by omega, by omega, by omega⟩
    rw [g3]
    simp only [cond_true, HeightOf_eq ga, HeightOf_eq gb, HeightOf_eq g1, RunOf_eq ga, RunOf_eq gb, RunOf_eq g1]
    have m1 := mul_bd (x := a) (y := b) (m := 100) (k := 250) (by omega) (by omega) (by omega) (by omega)
    have m2 := mul_bd (x := a - 1) (y := c) (m := 99) (k := 500) (by omega) (by omega) (by omega) (by omega)
    have e1 : l * b + (a - l) * b = a * b := by rw [← Int.add_mul]; congr 1; omega
    have e2 : (l - 1) * c + (a - l - 1) * c + c = (a - 1) * c := by
      have : (a - 1) * c = ((l - 1) + (a - l - 1) + 1) * c := by congr 1; omega
      rw [this, Int.add_mul, Int.add_mul, Int.one_mul]
    have m3 := mul_bd (x := l - 1) (y := c) (m := 99) (k := 500) (by omega) (by omega) (by omega) (by omega)
    have m4 := mul_bd (x := a - l - 1) (y := c) (m := 99) (k := 500) (by omega) (by omega) (by omega) (by omega)
    rw [e1, wrapI (n := a * b) (by omega) (by omega), wrapI (n := (l - 1) * c + (a - l - 1) * c) (by omega) (by omega), wrapI (n := (l - 1) * c + (a - l - 1) * c + c) (by omega) (by omega), e2]
    simp
theorem rp1 {more : List Int} (hm : Bytes more) : w_FnRisersPlaced_L1 more = some true := by
  rw [w_FnRisersPlaced_u1, w_FnRisersPlaced_t1]
  obtain ⟨⟨⟨g1, g2, g3⟩, ceil, at_⟩, e1, -⟩ := s_DrawHeadRoom_ok hm
  obtain ⟨⟨⟨h1, h2, h3⟩, l⟩, e2, -⟩ := s_DrawSplitFlight_ok hm
  obtain ⟨⟨⟨k1, k2, k3⟩, by_⟩, e3, -⟩ := s_DrawTimesFlight_ok hm
  obtain ⟨⟨tall, most⟩, e4, -⟩ := s_DrawFewestRisers_ok hm
  obtain ⟨⟨run, tread⟩, e5, -⟩ := s_DrawMostRisers_ok hm
  obtain ⟨⟨x, sum, t⟩, e6, -⟩ := s_DrawBestRisers_ok hm
  obtain ⟨⟨rise, pace⟩, e7, -⟩ := s_DrawTreadFor_ok hm
  obtain ⟨q1, w1, q2, q3⟩ := Head_eq g1 g2 g3 ceil at_
  obtain ⟨q4, w2, q5, -⟩ := Fewest_eq tall most
  obtain ⟨q6, w3, q7, -⟩ := Most_eq run tread
  have r2 := rp2 h1 h2 h3 l k1 k2 k3 by_ tall most q5 run tread q7 x sum t rise pace
  simp only [e1, e2, e3, e4, e5, e6, e7, Option.bind_some, q1, q2, q4, q5, q6, q7, i_Best_eq, s_Best_eq, Split_eq, Times_eq, Tread_eq, r2, HAR_i]
  cases hw : w1.2
  · simp
  · obtain ⟨p1, p2, p3, p4, p5⟩ := q3 hw
    have hb := hat_bd (riPlace_pl p1)
    have e : IntKind.wrap .i64 (w1.1 + hat g1 g2 g3 at_) = ceil := by rw [p5, wrapI (by omega) (by omega)]; omega
    have c1 : ¬ (w1.1 < 1) := by omega
    simp [p1, e, c1]
theorem pure_FnRisersPlaced (code : List Int) (hc : Wf kSuint8 code) (more : List Int) (hm : Wf kSuint8 more) : F_w_FnRisersPlaced (code, more, ()) = some true := by
  show w_FnRisersPlaced code more = some true
  unfold w_FnRisersPlaced w_FnRisersPlaced_t0
  cases w_big code more
  · obtain ⟨⟨⟨a, b, c⟩, p⟩, e1, -⟩ := s_DrawHeightAtRun_ok (bytes_wf hc)
    simp only [cond_false, e1, Option.bind_some, HAR_i, HAR_s, rp1 (bytes_wf hm)]
    cases h : s_riPlace a b c p
    · simp
    · have hp := riPlace_pl h
      have hb := hat_bd hp
      obtain ⟨z1, z2⟩ := hat_zero hp
      obtain ⟨n1, n2, n3⟩ := hat_next hp
      have hg : s_riGood a b c = true := by
        unfold s_riPlace at h
        cases hg : s_riGood a b c
        · rw [hg] at h; cases h
        · rfl
      obtain ⟨a1, a2, b1, b2, c1, c2, p1, p2⟩ := hp
      have hw : IntKind.wrap .i64 (p + 1) = p + 1 := wrapI (by omega) (by omega)
      have hbz : (b == 0) = false := by rw [beq_eq_false_iff_ne]; omega
      have hcz : (c == 0) = false := by rw [beq_eq_false_iff_ne]; omega
      have d1 : ¬ (hat a b c p < 0) := by omega
      have d2 : ¬ (hat a b c p > a * b) := by omega
      have d3 : decide (p < 0) = (hat a b c p == 0) := by
        by_cases hh : p < 0
        · rw [decide_eq_true hh, z1.2 hh]; rfl
        · rw [decide_eq_false hh]; symm; rw [beq_eq_false_iff_ne]; exact fun hz => hh (z1.1 hz)
      simp only [cond_true, HeightOf_eq hg, hw, hbz, hcz, decide_eq_false d1, decide_eq_false d2, z2, d3, cond_false, Bool.not_true, beq_self_eq_true, bne_self_eq_false, Bool.not_eq_eq_eq_not]
      cases h2 : s_riPlace a b c (p + 1)
      · cases hat a b c p == 0 <;> simp
      · have hb2 := hat_bd (riPlace_pl h2)
        have d4 : ¬ (hat a b c (p + 1) < hat a b c p) := by omega
        have d5 : ¬ (hat a b c (p + 1) > hat a b c p + b) := by omega
        rw [wrapI (n := hat a b c p + b) (by omega) (by omega)]
        simp only [cond_true, decide_eq_false d4, decide_eq_false d5, cond_false]
        by_cases d6 : hat a b c (p + 1) > hat a b c p
        · obtain ⟨m1, m2⟩ := n3 d6
          have : Int.tmod (p + 1) c = 0 := by rw [Int.tmod_eq_emod_of_nonneg m2, m1]
          simp only [decide_eq_true d6, this, cond_true, bne_self_eq_false, cond_false]
        · simp only [decide_eq_false d6, cond_false]
  · rfl
end Go.Proofs.Ythenlapjhlljnaa.V
