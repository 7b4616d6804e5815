/- The plain law of FnMovingMeet: the plain function answers true. No condition. -/
import Derived.Test.YtadcmhdjoglagaaDoorN2h
set_option linter.unusedVariables false
set_option linter.unusedSimpArgs false
set_option maxRecDepth 100000
namespace Go.Proofs.YtadcmhdjoglagaaDoor.V
open Go Go.Ev Go.Proofs
theorem mm5 {r : Int × Int} {f : Bool} {t : ByteArray} (h : f = true → s_moGood r.1 r.2 = true ∧ mT r.1 r.2 = bL t) : w_FnMovingMeet_L5 r.1 r.2 t f = some true := by
  rw [w_FnMovingMeet_u5, w_FnMovingMeet_t5]
  cases hf : f
  · rfl
  · obtain ⟨h1, h2⟩ := h hf
    rw [MovingText_i]
    unfold mtN
    rw [h1]
    simp only [cond_true, Option.bind_some]
    rw [ByteArray.toList_eq, ByteArray.toList_eq]
    have e : ({ data := (mT r.1 r.2).toArray } : ByteArray).data.toList = mT r.1 r.2 := by simp
    rw [e, h2]
    show some (t.data.toList == t.data.toList) = _
    rw [beq_self_eq_true]
section
variable {r : Int × Int} {f : Bool} {t : ByteArray} (h : f = true → s_moGood r.1 r.2 = true ∧ mT r.1 r.2 = bL t)
include h
theorem mm4 (V S p k : Int) : w_FnMovingMeet_L4 V S r.1 r.2 p k (plN V S p k).1 (plN V S p k).2 t f = some true := by
  rw [w_FnMovingMeet_u4, w_FnMovingMeet_t4, mm5 h]
  unfold plN
  cases hc : askM V S p && s_l1In k 0 1000
  · rfl
  · rw [Bool.and_eq_true] at hc
    have A := ask_of hc.1
    have hk := l1In_iff.1 hc.2
    have B := pl_bd A hk
    have v1 := A.v1; have v2 := A.v2; have s1 := A.s1; have s2 := A.s2; have p1 := A.p1; have p2 := A.p2
    simp only [cond_true]
    rw [wrapI (n := S + p) (by omega) (by omega), wrapI (n := (S + p) * k) (by omega) (by omega)]
    by_cases c : (S + p) * k < V
    · rw [if_pos c, decide_eq_false (show ¬ (S + p) * k < 0 by omega), decide_eq_false (show ¬ (S + p) * k > V by omega), bne_self_eq_false]
      cases decide ((S + p) * k < V) <;> rfl
    · rw [if_neg c, decide_eq_false (show ¬ V < 0 by omega), decide_eq_false (show ¬ V > V by omega)]
      rfl
theorem mm3 (V S e : Int) (V' S' p k : Int) : w_FnMovingMeet_L3 V S V' S' r.1 r.2 e (fhN V S e).1 (fhN V S e).2.1 (fhN V S e).2.2 p k (plN V' S' p k).1 (plN V' S' p k).2 t f = some true := by
  rw [w_FnMovingMeet_u3, w_FnMovingMeet_t3, mm4 h]
  unfold fhN
  cases hc : s_moGood V S && s_l1In e 1 5
  · rfl
  · rw [Bool.and_eq_true] at hc
    obtain ⟨⟨h1, h2⟩, h3, h4⟩ := moGood_iff.1 hc.1
    have he := l1In_iff.1 hc.2
    have B : 0 ≤ 60 * S * e ∧ 60 * S * e ≤ 1200 * 5 := mul_bd ⟨by omega, by omega⟩ ⟨by omega, by omega⟩
    simp only [cond_true]
    rw [wrapI (n := 60 * S) (by omega) (by omega), wrapI (n := 60 * S * e) (by omega) (by omega), bne_self_eq_false, bne_self_eq_false]
    rfl
theorem mm2 (V S q p : Int) (V1 S1 e V2 S2 p2 k : Int) :
    w_FnMovingMeet_L2 V S V1 S1 V2 S2 r.1 r.2 q p (frF (rlC V S q p) ((q - S - p) * V) (S + p)).1 (frF (rlC V S q p) ((q - S - p) * V) (S + p)).2.1 (frF (rlC V S q p) ((q - S - p) * V) (S + p)).2.2
      e (fhN V1 S1 e).1 (fhN V1 S1 e).2.1 (fhN V1 S1 e).2.2 p2 k (plN V2 S2 p2 k).1 (plN V2 S2 p2 k).2 t f = some true := by
  rw [w_FnMovingMeet_u2, w_FnMovingMeet_t2, mm3 h]
  cases hc : rlC V S q p
  · rfl
  · obtain ⟨A, ⟨h1, h2⟩, h3, h4⟩ := rlC_of hc
    have hA : askM V S p = true := by unfold rlC at hc; rw [Bool.and_eq_true] at hc; exact hc.1
    have v1 := A.v1; have v2 := A.v2; have s1 := A.s1; have s2 := A.s2; have p1 := A.p1; have p2 := A.p2
    have B : 0 ≤ (q - S - p) * V ∧ (q - S - p) * V ≤ 20 * 500 := mul_bd ⟨by omega, by omega⟩ ⟨by omega, by omega⟩
    have F1 := fr_is B.1 h4
    have F2 := fr_is (n := V) (by omega) h4
    have x0 := F2.x0; have xn := F2.xn
    have B2 : 0 ≤ (q - S - p) * frN V (S + p) ∧ (q - S - p) * frN V (S + p) ≤ 20 * 500 := mul_bd ⟨by omega, by omega⟩ ⟨by omega, by omega⟩
    rw [TimeWith_i, hA, decide_eq_true h4, Bool.and_self, frF_yes, frF_yes]
    simp only [cond_true, Option.bind_some, Bool.not_true, cond_false]
    rw [wrapI (n := q - S) (by omega) (by omega), wrapI (n := q - S - p) (by omega) (by omega), wrapI (n := (q - S - p) * frN V (S + p)) (by omega) (by omega), lIs_ok F1 (mv_rail F1 F2)]
    rfl
end
theorem mm1 {more : List Int} (hm : Bytes more) : w_FnMovingMeet_L1 more = some true := by
  obtain ⟨⟨⟨V, S⟩, p, q, k⟩, d1, -⟩ := drawCatch_ok hm
  obtain ⟨⟨⟨V1, S1⟩, q1, p1⟩, d2, -⟩ := drawRail_ok hm
  obtain ⟨⟨⟨V2, S2⟩, e⟩, d3, -⟩ := drawFull_ok hm
  obtain ⟨⟨⟨V3, S3⟩, p3, k3⟩, d4, -⟩ := drawPlace_ok hm
  obtain ⟨t, d5, ht⟩ := drawParseM_ok hm
  obtain ⟨r, f, e1, e2, h⟩ := ParseMoving_full ht
  have key := mm2 h V1 S1 q1 p1 V2 S2 e V3 S3 p3 k3
  rw [w_FnMovingMeet_u1, w_FnMovingMeet_t1, d1]
  simp only [Option.bind_some]
  rw [(CatchUp_two _ _ _ _ _).1, (CatchUp_two _ _ _ _ _).2, d2]
  simp only [Option.bind_some]
  rw [(RailLead_two _ _ _ _).1, (RailLead_two _ _ _ _).2, d3]
  simp only [Option.bind_some]
  rw [(FullHouse_two _ _ _).1, d4, d5]
  simp only [Option.bind_some]
  rw [e1, e2]
  simp only [Option.bind_some, (FullHouse_two _ _ _).2, PlaceAt_i, PlaceAt_s, key, bne_self_eq_false, beq_self_eq_true, Bool.not_true, cond_false, Bool.and_self]
  cases hc : cuC V S p q k
  · rfl
  · obtain ⟨A, ⟨h1, h2⟩, h3, h4, h5⟩ := cuC_of hc
    have hA : askM V S p = true := by unfold cuC at hc; rw [Bool.and_eq_true] at hc; exact hc.1
    have v1 := A.v1; have v2 := A.v2; have s1 := A.s1; have s2 := A.s2; have p1 := A.p1; have p2 := A.p2
    have B : 0 ≤ (S + q) * k ∧ (S + q) * k ≤ 40 * 1000 := mul_bd ⟨by omega, by omega⟩ h4
    have F1 := fr_is B.1 (show 0 < q - p by omega)
    have x0 := F1.x0; have xn := F1.xn; have y1 := F1.y1; have yd := F1.yd
    have B1 : 0 ≤ (S + p) * frN ((S + q) * k) (q - p) ∧ (S + p) * frN ((S + q) * k) (q - p) ≤ 40 * 40000 := mul_bd ⟨by omega, by omega⟩ ⟨by omega, by omega⟩
    have B2 : 0 ≤ V * frD ((S + q) * k) (q - p) ∧ V * frD ((S + q) * k) (q - p) ≤ 500 * 20 := mul_bd ⟨by omega, by omega⟩ ⟨by omega, by omega⟩
    have L := mv_catch0 F1 h5
    rw [frF_yes, TimeWith_i, hA]
    simp only [cond_true, Option.bind_some, Bool.true_and]
    rw [wrapI (n := S + q) (by omega) (by omega), wrapI (n := (S + q) * k) (by omega) (by omega), wrapI (n := q - p) (by omega) (by omega), lIs_ok F1 F1.cr, wrapI (n := S + p) (by omega) (by omega), wrapI (n := (S + p) * frN ((S + q) * k) (q - p)) (by omega) (by omega), wrapI (n := V * frD ((S + q) * k) (q - p)) (by omega) (by omega)]
    simp only [Option.bind_some, Bool.not_true, cond_false]
    rw [decide_eq_false (show ¬ (S + p) * frN ((S + q) * k) (q - p) > V * frD ((S + q) * k) (q - p) by omega)]
    by_cases hz : 0 < S + p
    · have F2 := fr_is (n := V) (by omega) hz
      have z0 := F2.x0; have zn := F2.xn; have w1 := F2.y1; have wd := F2.yd
      have L2 := (mv_catch F1 F2 h5).2
      have B3 : 0 ≤ frN ((S + q) * k) (q - p) * frD V (S + p) ∧ frN ((S + q) * k) (q - p) * frD V (S + p) ≤ 40000 * 40 := mul_bd ⟨by omega, by omega⟩ ⟨by omega, by omega⟩
      have B4 : 0 ≤ frN V (S + p) * frD ((S + q) * k) (q - p) ∧ frN V (S + p) * frD ((S + q) * k) (q - p) ≤ 500 * 20 := mul_bd ⟨by omega, by omega⟩ ⟨by omega, by omega⟩
      rw [decide_eq_true hz, frF_yes]
      simp only [cond_true, cond_false, Bool.not_true]
      rw [wrapI (n := frN ((S + q) * k) (q - p) * frD V (S + p)) (by omega) (by omega), wrapI (n := frN V (S + p) * frD ((S + q) * k) (q - p)) (by omega) (by omega), decide_eq_false (by omega)]
      rfl
    · rw [decide_eq_false (show ¬ S + p > 0 from hz)]
      rfl
theorem pure_FnMovingMeet (code : List Int) (w0 : Wf kSuint8 code) (more : List Int) (w1 : Wf kSuint8 more) : F_w_FnMovingMeet (code, more, ()) = some true := by
  show w_FnMovingMeet code more = some true
  unfold w_FnMovingMeet w_FnMovingMeet_t0
  cases w_big code more
  · have g1 := mm1 (bytes_wf w1)
    obtain ⟨⟨⟨V, S⟩, u, d⟩, hp, -⟩ := drawMeet_ok (bytes_wf w0)
    rw [hp, cond_false]
    simp only [Option.bind_some]
    rw [(MeetTime_two _ _ _ _).1, (MeetTime_two _ _ _ _).2, (MeetStep_two _ _ _ _).1, (MeetStep_two _ _ _ _).2, (MeetStep_two _ _ _ _).1]
    simp only [Option.bind_some, g1, bne_self_eq_false, beq_self_eq_true, Bool.not_true, cond_false]
    cases hc : mtC V S u d
    · rfl
    · obtain ⟨A, h1, h2, h3⟩ := mtC_of hc
      have hc' : mtC V S d u = true := by
        unfold mtC askM at hc ⊢
        simp only [Bool.and_eq_true, decide_eq_true_eq] at hc ⊢
        exact ⟨⟨hc.1.1, hc.2.1⟩, hc.1.2, by omega⟩
      have hA : askM V S u = true := by unfold mtC at hc; rw [Bool.and_eq_true] at hc; exact hc.1
      have v1 := A.v1; have v2 := A.v2; have s1 := A.s1; have s2 := A.s2; have p1 := A.p1; have p2 := A.p2
      have W1 : 0 ≤ (S + u) * V ∧ (S + u) * V ≤ 40 * 500 := mul_bd ⟨by omega, by omega⟩ ⟨by omega, by omega⟩
      have W2 : 0 ≤ (S + d) * V ∧ (S + d) * V ≤ 40 * 500 := mul_bd ⟨by omega, by omega⟩ ⟨by omega, by omega⟩
      have Ft := fr_is (n := V) (by omega) h3
      have Fu := fr_is W1.1 h3
      have Fd := fr_is W2.1 (show 0 < 2 * S + d + u by omega)
      have t0 := Ft.x0; have tn := Ft.xn; have t1 := Ft.y1; have td := Ft.yd
      have u0 := Fu.x0; have un := Fu.xn; have u1 := Fu.y1; have ud := Fu.yd
      have d0 := Fd.x0; have dn := Fd.xn; have d1 := Fd.y1; have dd := Fd.yd
      have E := mv_two Fu Fd
      have e1 : (S + u) * frN V (2 * S + u + d) ≤ 40 * 500 ∧ 0 ≤ (S + u) * frN V (2 * S + u + d) := And.symm (mul_bd ⟨by omega, by omega⟩ ⟨by omega, by omega⟩)
      have E2 := mv_step Fu Ft
      rw [hc', frF_yes, frF_yes, frF_yes]
      simp only [cond_true, Bool.not_true, cond_false]
      rw [lLow_ok Ft, wrapI (n := S + u) (by omega) (by omega), wrapI (n := (S + u) * frN V (2 * S + u + d)) (by omega) (by omega), lIs_ok Fu E2]
      simp only [Option.bind_some, Bool.not_true, cond_false]
      have b1 : 0 ≤ frN ((S + u) * V) (2 * S + u + d) * frD ((S + d) * V) (2 * S + d + u) ∧ frN ((S + u) * V) (2 * S + u + d) * frD ((S + d) * V) (2 * S + d + u) ≤ 20000 * 80 := mul_bd ⟨by omega, by omega⟩ ⟨by omega, by omega⟩
      have b2 : 0 ≤ frN ((S + d) * V) (2 * S + d + u) * frD ((S + u) * V) (2 * S + u + d) ∧ frN ((S + d) * V) (2 * S + d + u) * frD ((S + u) * V) (2 * S + u + d) ≤ 20000 * 80 := mul_bd ⟨by omega, by omega⟩ ⟨by omega, by omega⟩
      have b3 : 0 ≤ V * frD ((S + u) * V) (2 * S + u + d) ∧ V * frD ((S + u) * V) (2 * S + u + d) ≤ 500 * 80 := mul_bd ⟨by omega, by omega⟩ ⟨by omega, by omega⟩
      have b4 : 0 ≤ V * frD ((S + u) * V) (2 * S + u + d) * frD ((S + d) * V) (2 * S + d + u) ∧ V * frD ((S + u) * V) (2 * S + u + d) * frD ((S + d) * V) (2 * S + d + u) ≤ 40000 * 80 := mul_bd ⟨by omega, by omega⟩ ⟨by omega, by omega⟩
      rw [wrapI (n := frN ((S + u) * V) (2 * S + u + d) * frD ((S + d) * V) (2 * S + d + u)) (by omega) (by omega), wrapI (n := frN ((S + d) * V) (2 * S + d + u) * frD ((S + u) * V) (2 * S + u + d)) (by omega) (by omega), wrapI (n := V * frD ((S + u) * V) (2 * S + u + d)) (by omega) (by omega), wrapI (n := V * frD ((S + u) * V) (2 * S + u + d) * frD ((S + d) * V) (2 * S + d + u)) (by omega) (by omega), E, wrapI (by omega) (by omega), bne_self_eq_false, cond_false]
      by_cases h4 : frD V (2 * S + u + d) = 1
      · rw [h4, PlaceAt_i]
        unfold plN
        rw [hA, decide_eq_true (show frN V (2 * S + u + d) ≤ 1000 by omega), l1In_iff.2 (⟨by omega, by omega⟩ : 0 ≤ frN V (2 * S + u + d) ∧ frN V (2 * S + u + d) ≤ 1000)]
        simp only [beq_self_eq_true, cond_true, Bool.and_self, Bool.not_true, cond_false]
        have hcr := Ft.cr
        rw [h4] at hcr E2
        have hle : (S + u) * frN V (2 * S + u + d) ≤ V := by
          have h9 : (S + u) * frN V (2 * S + u + d) ≤ (2 * S + u + d) * frN V (2 * S + u + d) := Int.mul_le_mul_of_nonneg_right (by omega) t0
          rw [Int.mul_comm (2 * S + u + d)] at h9
          omega
        have hpl : (if (S + u) * frN V (2 * S + u + d) < V then (S + u) * frN V (2 * S + u + d) else V) = (S + u) * frN V (2 * S + u + d) := by
          by_cases h8 : (S + u) * frN V (2 * S + u + d) < V
          · rw [if_pos h8]
          · rw [if_neg h8]; omega
        rw [hpl, lIs_ok Fu E2]
        rfl
      · rw [show (frD V (2 * S + u + d) == 1) = false from beq_eq_false_iff_ne.2 h4]
        rfl
  · rfl
end Go.Proofs.YtadcmhdjoglagaaDoor.V
