/- The plain law of FnRisersFit: the plain function answers true. No condition. -/
import Derived.Test.YtddlajhpdbjapaaGreatDoorQ2h
set_option linter.unusedVariables false
set_option linter.unusedSimpArgs false
set_option maxRecDepth 100000
namespace Go.Proofs.YtddlajhpdbjapaaGreatDoor.V
open Go Go.Ev Go.Proofs
theorem hoN_ok (a b c : Int) : (hoN a b c).2 = s_riGood a b c := by unfold hoN; cases s_riGood a b c <;> rfl
theorem roN_ok (a b c : Int) : (roN a b c).2 = s_riGood a b c := by unfold roN; cases s_riGood a b c <;> rfl
theorem paN_ok (a b c : Int) : (paN a b c).2 = s_riGood a b c := by unfold paN; cases s_riGood a b c <;> rfl
theorem sqN_ok (a b c : Int) : (sqN a b c).2 = s_riGood a b c := by unfold sqN; cases s_riGood a b c <;> rfl
theorem slN_ok (a b c : Int) : (slN a b c).2.2 = s_riGood a b c := by unfold slN; cases s_riGood a b c <;> rfl
theorem riN_ok (a b c : Int) : (riN a b c).2 = s_riGood a b c := by unfold riN; cases s_riGood a b c <;> rfl
theorem wrN_ok (x lo hi : Int) : (wrN x lo hi).2 = wrC x lo hi := by unfold wrN; cases wrC x lo hi <;> rfl
theorem evN_ok (h r : Int) : (evN h r).2 = evC h r := by unfold evN; cases evC h r <;> rfl
theorem wrN_len (x lo hi : Int) : (wrN x lo hi).1.length ≤ 100 := by
  unfold wrN
  cases wrC x lo hi
  · simp
  · exact numF_len _ _ _
theorem evN_len (h r : Int) : (evN h r).1.length ≤ 100 := by
  unfold evN
  cases hc : evC h r
  · simp
  · obtain ⟨-, ⟨r1, r2⟩, -⟩ := evC_of hc
    show (evL h r 0 r.toNat).length ≤ 100
    rw [evL_len]; omega
theorem ffN_len (x run sum : Int) : (ffN x run sum).1.length ≤ 100 := by
  unfold ffN
  cases ffC x run sum
  · simp
  · have h1 := ffL_len x run sum (numF (wrB x 1 250) 1 100)
    have h2 := numF_len (wrB x 1 250) 1 100
    show (ffL x run sum _).length ≤ 100
    omega
/-- what all flights for a height are -/
structure FfOk (x run sum : Int) (f : Fl) : Prop where
  good : s_riGood f.1 f.2.1 f.2.2 = true
  high : f.1 * f.2.1 = x
  runs : (f.1 - 1) * f.2.2 ≤ run
  pace : 2 * f.2.1 + f.2.2 = sum
theorem ffN_mem {x run sum : Int} {f : Fl} (h : f ∈ (ffN x run sum).1) : FfOk x run sum f := by
  unfold ffN at h
  cases hc : ffC x run sum
  · rw [hc] at h; cases h
  · rw [hc] at h
    have h : f ∈ ffL x run sum (numF (wrB x 1 250) 1 100) := h
    unfold ffL at h
    obtain ⟨n, hn, rfl⟩ := List.mem_map.1 h
    obtain ⟨h1, h2⟩ := List.mem_filter.1 hn
    obtain ⟨k, hk, hb, rfl⟩ := numF_mem.1 h1
    unfold wrB at hb
    rw [Bool.and_eq_true, beq_iff_eq] at hb
    unfold okF at h2
    rw [Bool.and_eq_true, decide_eq_true_eq] at h2
    have hd := Int.mul_ediv_cancel' (Int.dvd_of_emod_eq_zero hb.1)
    exact ⟨h2.1, hd, h2.2, by show 2 * (x / (k : Int)) + (sum - 2 * (x / (k : Int))) = sum; omega⟩
theorem ffN_pw (x run sum : Int) : (ffN x run sum).1.Pairwise (fun f g => f.1 < g.1) := by
  unfold ffN
  cases ffC x run sum
  · exact List.Pairwise.nil
  · show (ffL x run sum (numF (wrB x 1 250) 1 100)).Pairwise _
    unfold ffL
    rw [List.pairwise_map]
    exact (numF_pw _ _ _).filter _
section
variable {q : Int × Int × Int} {t : ByteArray} {f : Bool} (h : f = true → s_riGood q.1 q.2.1 q.2.2 = true ∧ T3 114 116 q.1 q.2.1 q.2.2 = bL t)
include h
theorem rf5 : w_FnRisersFit_L5 q.1 q.2.1 q.2.2 t f = some true := by
  rw [w_FnRisersFit_u5, w_FnRisersFit_t5]
  cases hf : f
  · rfl
  · obtain ⟨h1, h2⟩ := h hf
    rw [(FlightText_two _ _ _).1]
    unfold riN
    rw [h1]
    simp only [cond_true, Option.bind_some]
    rw [ByteArray.toList_eq, ByteArray.toList_eq]
    have e : ({ data := (T3 114 116 q.1 q.2.1 q.2.2).toArray } : ByteArray).data.toList = t.data.toList := by rw [h2]
    rw [e, beq_self_eq_true]
theorem rf8 {x lo hi : Int} (hc : wrC x lo hi = true) : ∀ (d n : Nat), n + d = 101 → 1 ≤ n → w_FnRisersFit_L8 (wrN x lo hi).1 q.1 q.2.1 q.2.2 x lo hi t f (n : Int) = some true := by
  have e1 : (wrN x lo hi).1 = numF (wrB x lo hi) 1 100 := by unfold wrN; rw [hc]; rfl
  have hl := wrN_len x lo hi
  have hr : w_lRises (wrN x lo hi).1 = some true := by
    rw [e1] at hl ⊢
    exact lRises_ok (by omega) (fun i hi' => List.pairwise_iff_getElem.1 (numF_pw (wrB x lo hi) 1 100) i (i + 1) (by omega) hi' (by omega))
  unfold wrC at hc
  simp only [Bool.and_eq_true, l1In_iff] at hc
  obtain ⟨⟨x1, x2⟩, ⟨l1, l2⟩, i1, i2⟩ := hc
  intro d
  induction d with
  | zero =>
    intro n hn h1
    rw [w_FnRisersFit_u8, w_FnRisersFit_t8, decide_eq_false (show ¬ ((n : Int) ≤ 100) by omega), cond_false, hr]
    exact rf5 h
  | succ d ih =>
    intro n hn h1
    have hnx := ih (n + 1) (by omega) (by omega)
    have hw : IntKind.wrap .i64 ((n : Int) + 1) = ((n + 1 : Nat) : Int) := by rw [wrapI (by omega) (by omega)]; omega
    have q0 : 0 ≤ x / (n : Int) := Int.ediv_nonneg (by omega) (by omega)
    have q1 : x / (n : Int) ≤ x := Int.ediv_le_self _ (by omega)
    have hm : decide ((n : Int) ∈ (wrN x lo hi).1) = wrB x lo hi n := by
      rw [e1, Bool.eq_iff_iff, decide_eq_true_eq, numF_nat]
      exact ⟨fun h => h.2, fun h => ⟨⟨by omega, by omega⟩, h⟩⟩
    rw [w_FnRisersFit_u8, w_FnRisersFit_t8, decide_eq_true (show (n : Int) ≤ 100 by omega), lHas_eq (by omega), hm, show ((n : Int) == 0) = false from beq_eq_false_iff_ne.2 (by omega), Int.tmod_eq_emod_of_nonneg (by omega), Int.tdiv_eq_ediv_of_nonneg (by omega), wrapI (n := x / (n : Int)) (by omega) (by omega), hw, hnx]
    unfold wrB s_l1In
    cases x % (n : Int) == 0 <;> cases decide (x / (n : Int) ≥ lo) <;> cases decide (x / (n : Int) ≤ hi) <;> rfl
theorem rf4 (x run sum : Int) (y lo hi : Int) : w_FnRisersFit_L4 (ffN x run sum).1 (wrN y lo hi).1 q.1 q.2.1 q.2.2 x run sum y lo hi (wrN y lo hi).2 t f = some true := by
  rw [w_FnRisersFit_u4, w_FnRisersFit_t4]
  have hl := ffN_len x run sum
  have hp := ffN_pw x run sum
  have hmem : ∀ g, g ∈ (ffN x run sum).1 → FfOk x run sum g := fun g hg => ffN_mem hg
  generalize (ffN x run sum).1 = M at *
  refine drop_ind M (fun i _ => w_FnRisersFit_L7 M (wrN y lo hi).1 q.1 q.2.1 q.2.2 x run sum y lo hi (wrN y lo hi).2 t f (M.length : Int) (i : Int) = some true) ?_ (fun i hi' ih => ?_)
  · have : ¬ ((M.length : Int) < M.length) := by omega
    rw [w_FnRisersFit_u7, w_FnRisersFit_t7, decide_eq_false this, cond_false]
    cases hc : (wrN y lo hi).2
    · exact rf5 h
    · rw [wrN_ok] at hc
      exact rf8 h hc 100 1 rfl (by omega)
  · have F := hmem _ (List.getElem_mem hi')
    have hw : IntKind.wrap .i64 ((i : Int) + 1) = ((i + 1 : Nat) : Int) := by rw [wrapI (by omega) (by omega)]; omega
    have g1 := F.good; have g2 := F.high; have g3 := F.runs; have g4 := F.pace
    rw [w_FnRisersFit_u7, w_FnRisersFit_t7, decide_eq_true (show (i : Int) < M.length by omega), decide_eq_true (Int.natCast_nonneg i), rdk_get (k := kFlight) hi', (HeightOf_two _ _ _).1, (RunOf_two _ _ _).1, (PaceSum_two _ _ _).1]
    unfold hoN roN paN
    rw [g1]
    simp only [cond_true, Bool.not_true, cond_false]
    rw [g2, g4, bne_self_eq_false, bne_self_eq_false, decide_eq_false (show ¬ (M[i].1 - 1) * M[i].2.2 > run by omega), hw]
    simp only [cond_false]
    by_cases c : 0 < i
    · have hv : IntKind.wrap .i64 ((i : Int) - 1) = ((i - 1 : Nat) : Int) := by rw [wrapI (by omega) (by omega)]; omega
      have hi1 : i - 1 < M.length := by omega
      have hlt := List.pairwise_iff_getElem.1 hp (i - 1) i hi1 hi' (by omega)
      rw [decide_eq_true (show (i : Int) > 0 by omega), hv, decide_eq_true (Int.natCast_nonneg (i - 1)), decide_eq_true (show ((i - 1 : Nat) : Int) < M.length by omega), rdk_get (k := kFlight) hi1, decide_eq_false (show ¬ M[i - 1].1 ≥ M[i].1 by omega)]
      exact ih
    · rw [decide_eq_false (show ¬ (i : Int) > 0 by omega)]
      exact ih
theorem rf6 {hh r : Int} (hc : evC hh r = true) (x run sum : Int) (y lo hi : Int) : w_FnRisersFit_L6 (evN hh r).1 (ffN x run sum).1 (wrN y lo hi).1 q.1 q.2.1 q.2.2 hh r x run sum y lo hi (wrN y lo hi).2 t f ((evN hh r).1.length : Int) 0 = some true := by
  have e1 : (evN hh r).1 = evL hh r 0 r.toNat := by unfold evN; rw [hc]; rfl
  obtain ⟨⟨h1, h2⟩, ⟨r1, r2⟩, r3⟩ := evC_of hc
  have hl : (evN hh r).1.length = r.toNat := by rw [e1, evL_len]
  have hget : ∀ i (hi : i < (evN hh r).1.length), (evN hh r).1[i] = ((i : Int) + 1) * hh / r - (i : Int) * hh / r := fun i hi => by
    have := evL_get (h := hh) (r := r) (d := r.toNat) (k := 0) (i := i) (by rw [evL_len]; omega)
    simp only [Nat.zero_add] at this
    simp only [e1]
    exact this
  have htake : ∀ i, i ≤ r.toNat → (evN hh r).1.take i = evL hh r 0 i := fun i hi => by rw [e1]; exact evL_take hi
  have q1 : 1 ≤ hh / r := (Int.le_ediv_iff_mul_le (by omega)).2 (by omega)
  have q2 : hh / r ≤ hh := Int.ediv_le_self _ (by omega)
  generalize (evN hh r).1 = M at *
  refine drop_ind M (fun i _ => w_FnRisersFit_L6 M (ffN x run sum).1 (wrN y lo hi).1 q.1 q.2.1 q.2.2 hh r x run sum y lo hi (wrN y lo hi).2 t f (M.length : Int) (i : Int) = some true) ?_ (fun i hi' ih => ?_)
  · have : ¬ ((M.length : Int) < M.length) := by omega
    rw [w_FnRisersFit_u6, w_FnRisersFit_t6, decide_eq_false this, cond_false]
    exact rf4 h x run sum y lo hi
  · have hw : IntKind.wrap .i64 ((i : Int) + 1) = ((i + 1 : Nat) : Int) := by rw [wrapI (by omega) (by omega)]; omega
    have hv := hget i hi'
    have hb := ev_bd (h := hh) (r := r) (k := (i : Int)) r1 r3 (by omega)
    obtain ⟨a1, a2, a3, a4⟩ := evv (k := ((i + 1 : Nat) : Int)) hc (by omega) (by omega)
    have htk : List.take (Int.toNat (((i + 1 : Nat) : Int)) - Int.toNat 0) (List.drop (Int.toNat 0) M) = evL hh r 0 (i + 1) := by
      have := htake (i + 1) (by omega)
      simpa using this
    have hs : w_lSum (evL hh r 0 (i + 1)) = some (((i + 1 : Nat) : Int) * hh / r) := by
      rw [lSum_ok (by rw [evL_len]; omega) (fun y hy => ?_), evL_sum]
      · congr 1
        rw [Nat.zero_add]
        simp
      · obtain ⟨j, hj, rfl⟩ := List.mem_iff_getElem.1 hy
        rw [evL_get hj]
        rw [evL_len] at hj
        simp only [Nat.zero_add]
        have := ev_bd (h := hh) (r := r) (k := (j : Int)) r1 r3 (by omega)
        omega
    rw [w_FnRisersFit_u6, w_FnRisersFit_t6, decide_eq_true (show (i : Int) < M.length by omega), decide_eq_true (Int.natCast_nonneg i), rdk_get (k := kint) hi', hw, htk, hs, show (r == 0) = false from beq_eq_false_iff_ne.2 (by omega), Int.tdiv_eq_ediv_of_nonneg (show 0 ≤ hh by omega), wrapI (n := hh / r) (by omega) (by omega), wrapI (n := hh / r + 1) (by omega) (by omega), decide_eq_true (Int.natCast_nonneg (i + 1)), decide_eq_true (show ((i + 1 : Nat) : Int) ≤ (M.length : Int) by omega), a1, a2]
    simp only [cond_true, cond_false, Option.bind_some]
    rw [decide_eq_false (show ¬ M[i] < 1 by omega)]
    simp only [cond_false, bne_self_eq_false]
    rcases hb with hb | hb
    · rw [show (M[i] != hh / r) = false from (by rw [bne_eq_false_iff_eq]; omega), cond_false]
      exact ih
    · rw [show (M[i] != hh / r + 1) = false from (by rw [bne_eq_false_iff_eq]; omega)]
      cases M[i] != hh / r
      · exact ih
      · exact ih
end
section
variable {more : List Int} (hb : Bytes more)
include hb
theorem rf2 : w_FnRisersFit_L2 more = some true := by
  obtain ⟨⟨hh, r⟩, d1, -⟩ := drawEven_ok hb
  obtain ⟨⟨x, run, sum⟩, d2, -⟩ := drawFor_ok hb
  obtain ⟨⟨y, lo, hi⟩, d3, -⟩ := drawWhole_ok hb
  obtain ⟨t, d4, ht⟩ := drawParseF_ok hb
  obtain ⟨q, f, e1, e2, h, -⟩ := ParseFlight_full ht
  have k4 := rf4 h x run sum y lo hi
  have l1 := evN_len hh r
  have l2 := ffN_len x run sum
  have l3 := wrN_len y lo hi
  rw [w_FnRisersFit_u2, w_FnRisersFit_t2, d1]
  simp only [Option.bind_some]
  rw [(Even_two _ _).1, (Even_two _ _).2, d2]
  simp only [Option.bind_some]
  rw [(FlightsFor_two _ _ _).1, (FlightsFor_two _ _ _).2, d3]
  simp only [Option.bind_some]
  rw [(WholeRisers_two _ _ _).1, (WholeRisers_two _ _ _).2, d4]
  simp only [Option.bind_some]
  rw [e1, e2]
  simp only [Option.bind_some]
  rw [lSame_self (by omega), lFlights_self (by omega), lSame_self (by omega)]
  simp only [Option.bind_some, bne_self_eq_false, beq_self_eq_true, Bool.not_true, cond_false, Bool.and_self, k4]
  cases hc : (evN hh r).2
  · rfl
  · rw [evN_ok] at hc
    have k6 := rf6 h hc x run sum y lo hi
    obtain ⟨⟨h1, h2⟩, ⟨r1, r2⟩, r3⟩ := evC_of hc
    have e3 : (evN hh r).1 = evL hh r 0 r.toNat := by unfold evN; rw [hc]; rfl
    have q2 : hh / r ≤ hh := Int.ediv_le_self _ (by omega)
    have q1 : 1 ≤ hh / r := (Int.le_ediv_iff_mul_le (by omega)).2 (by omega)
    have hs : w_lSum (evN hh r).1 = some hh := by
      rw [e3, lSum_ok (by rw [evL_len]; omega) (fun y hy => ?_), evL_sum]
      · congr 1
        rw [show ((0 + r.toNat : Nat) : Int) = r by omega, Int.mul_ediv_cancel_left _ (by omega)]
        simp
      · obtain ⟨j, hj, rfl⟩ := List.mem_iff_getElem.1 hy
        rw [evL_get hj]
        rw [evL_len] at hj
        simp only [Nat.zero_add]
        have := ev_bd (h := hh) (r := r) (k := (j : Int)) r1 r3 (by omega)
        omega
    have hl : (((evN hh r).1.length : Int) != r) = false := by rw [e3, evL_len, bne_eq_false_iff_eq]; omega
    rw [hl, hs]
    simp only [cond_true, cond_false, Option.bind_some, bne_self_eq_false]
    exact k6
theorem rf3 {a b c : Int} (hg : s_riGood a b c = true) : w_FnRisersFit_L3 more a b c (a * b) ((a - 1) * c) (2 * b + c) = some true := by
  have g := goodF_iff.1 hg
  rw [w_FnRisersFit_u3, w_FnRisersFit_t3, HeightAt_ok hg, rf2 hb]
  simp only [Option.bind_some]
  by_cases h : 2 * b + c ≤ 2000
  · rw [decide_eq_true h, TreadFor_ok g h]
    simp
  · rw [decide_eq_false h]
    simp
theorem rf1 (a b c : Int) : w_FnRisersFit_L1 more a b c (wlN a b c).1 (wlN a b c).2 (hoN a b c).1 (s_riGood a b c) (roN a b c).1 (slN a b c).1 (slN a b c).2.1 (paN a b c).1 (sqN a b c).1 (riN a b c).1 = some true := by
  rw [w_FnRisersFit_u1, w_FnRisersFit_t1, rf2 hb]
  cases hg : s_riGood a b c
  · rfl
  · have g := goodF_iff.1 hg
    obtain ⟨b1, b2⟩ := fl_bd g
    obtain ⟨b3, b4⟩ := sq_bd g
    have s1 := g.s1; have s2 := g.s2; have r1 := g.r1; have r2 := g.r2; have h1 := g.h1; have h2 := g.h2
    have hl := (riT_len g).2.2.2
    have hz : (⟨(T3 114 116 a b c).toArray⟩ : ByteArray).size ≤ 2000000 := by rw [bsz]; omega
    obtain ⟨p, ff, e1, -, -, e2⟩ := ParseFlight_full hz
    obtain ⟨rfl, rfl⟩ := e2 a b c hg (bL_mk _).symm
    have F := fr_is (n := b) (d := c) (by omega) (by omega)
    have x1 : hoN a b c = (a * b, true) := by unfold hoN; rw [hg]; rfl
    have x2 : roN a b c = ((a - 1) * c, true) := by unfold roN; rw [hg]; rfl
    have x3 : slN a b c = (frN b c, frD b c, true) := by unfold slN; rw [hg]; rfl
    have x4 : paN a b c = (2 * b + c, true) := by unfold paN; rw [hg]; rfl
    have x5 : sqN a b c = (sqV a b c, true) := by unfold sqN; rw [hg]; rfl
    have x6 : riN a b c = (⟨(T3 114 116 a b c).toArray⟩, true) := by unfold riN; rw [hg]; rfl
    have x7 : wlN a b c = lnN (sqV a b c) := by unfold wlN; rw [hg]; rfl
    rw [x1, x2, x3, x4, x5, x6, x7]
    simp only [cond_true]
    rw [e1, wrapI (n := a * b) (by omega) (by omega), wrapI (n := a - 1) (by omega) (by omega), wrapI (n := (a - 1) * c) (by omega) (by omega), lIs_ok F F.cr, wrapI (n := 2 * b) (by omega) (by omega), wrapI (n := 2 * b + c) (by omega) (by omega), wrapI (n := a * b * (a * b)) (by omega) (by omega), wrapI (n := (a - 1) * c * ((a - 1) * c)) (by omega) (by omega), wrapI (n := a * b * (a * b) + (a - 1) * c * ((a - 1) * c)) (by omega) (by omega), rf3 hb hg]
    have e4 : a * b * (a * b) + (a - 1) * c * ((a - 1) * c) = sqV a b c := rfl
    rw [e4]
    simp only [Option.bind_some, bne_self_eq_false, beq_self_eq_true, Bool.not_true, cond_false, Bool.and_self]
    cases hk : (lnN (sqV a b c)).2
    · rfl
    · have hsq := lnN_sq hk
      rw [hsq]
      have n0 : 0 ≤ sqV a b c ∧ sqV a b c ≤ 10000000000 := by unfold sqV; omega
      rw [wrapI (by omega) (by omega), bne_self_eq_false]
      rfl
end
theorem pure_FnRisersFit (code : List Int) (w0 : Wf kSuint8 code) (more : List Int) (w1 : Wf kSuint8 more) : F_w_FnRisersFit (code, more, ()) = some true := by
  show w_FnRisersFit code more = some true
  unfold w_FnRisersFit w_FnRisersFit_t0
  cases w_big code more
  · have hb := bytes_wf w1
    obtain ⟨⟨a, b, c⟩, d0, -⟩ := drawLine_ok (bytes_wf w0)
    have key := rf1 hb a b c
    rw [d0, cond_false]
    simp only [Option.bind_some]
    rw [(WholeLine_two _ _ _).1, (WholeLine_two _ _ _).2, (SlopeOf_two _ _ _).1, (SlopeOf_two _ _ _).2, (FlightText_two _ _ _).1, (FlightText_two _ _ _).2]
    simp only [Option.bind_some, (HeightOf_two _ _ _).1, (HeightOf_two _ _ _).2, (RunOf_two _ _ _).1, (RunOf_two _ _ _).2, (PaceSum_two _ _ _).1, (PaceSum_two _ _ _).2, (LineSquare_two _ _ _).1, (LineSquare_two _ _ _).2, flight_eq, IsFlight_s,
      bne_self_eq_false, beq_self_eq_true, Bool.not_true, cond_false, hoN_ok, roN_ok, paN_ok, sqN_ok, slN_ok, riN_ok, key]
    have g1 : (wlN a b c).2 = true → s_riGood a b c = true := fun h => by
      unfold wlN at h
      cases hg : s_riGood a b c
      · rw [hg] at h; cases h
      · rfl
    cases hc : (wlN a b c).2
    · rfl
    · rw [g1 hc]; rfl
  · rfl
end Go.Proofs.YtddlajhpdbjapaaGreatDoor.V
