/- The plain law of FnCarpetsCut: the plain function answers true. No condition. -/
import Derived.Test.YtddiigejhjfhdaaGreatDoorM5h
set_option linter.unusedVariables false
set_option linter.unusedSimpArgs false
set_option maxRecDepth 100000
namespace Go.Proofs.YtddiigejhjfhdaaGreatDoor.V
open Go Go.Ev Go.Proofs
noncomputable def rtN (R : List Int) : ByteArray × Bool := bif s_cpRolls R then (⟨(Lib.join (R.map Lib.itoa) [43]).toArray⟩, true) else (⟨#[]⟩, false)
theorem RollsText_two (R : List Int) : i_RollsText R = some (rtN R) ∧ s_RollsText R = some (rtN R) := by
  unfold i_RollsText s_RollsText rtN
  rw [areRolls_eqT]
  cases h : s_cpRolls R
  · exact ⟨rfl, rfl⟩
  · have hsm := rolls_small h
    have j1 : i_joined R { data := #[43] } = some ⟨(Lib.join (R.map Lib.itoa) [43]).toArray⟩ := joined_ok hsm _ (by decide)
    rw [j1, cpText_ok hsm]
    exact ⟨rfl, rfl⟩
theorem rt_len {R : List Int} (h : s_cpRolls R = true) : (rtN R).1.size ≤ 2000000 ∧ Lib.join (R.map Lib.itoa) [43] = bL (rtN R).1 := by
  obtain ⟨r1, r2⟩ := rolls_bd h
  have h1 := join_len [43] (R.map Lib.itoa)
  have h2 := lens_le (c := 4) (xs := R.map Lib.itoa) (fun x hx => by
    obtain ⟨n, hn, rfl⟩ := List.mem_map.1 hx
    have := r2 n hn
    exact itoa4 (by omega) (by omega))
  rw [List.length_map] at h1 h2
  simp only [List.length_singleton, Nat.one_mul] at h1
  have e : Lib.join (R.map Lib.itoa) [43] = bL (rtN R).1 := by unfold rtN; rw [h]; rfl
  refine ⟨?_, e⟩
  rw [← bL_len, ← e]
  omega
theorem ct7 {l : List Int} {t : ByteArray} {f : Bool} (h : f = true → s_cpRolls l = true ∧ Lib.join (l.map Lib.itoa) [43] = bL t) : w_FnCarpetsCut_L7 l t f = some true := by
  rw [w_FnCarpetsCut_u7, w_FnCarpetsCut_t7]
  cases hf : f
  · rfl
  · obtain ⟨h1, h2⟩ := h hf
    obtain ⟨-, e⟩ := rt_len h1
    rw [(RollsText_two l).1]
    have e1 : (rtN l).2 = true := by unfold rtN; rw [h1]; rfl
    simp only [cond_true, Option.bind_some]
    rw [e1, ByteArray.toList_eq, ByteArray.toList_eq]
    have e2 : (rtN l).1.data.toList = t.data.toList := e.symm.trans h2
    rw [e2, beq_self_eq_true]; rfl
theorem wSame_le {a : List Int} (h : a.length ≤ 1000) : w_wSame a a = some true := wSame_self (by omega)
theorem jn_has {p : List Int} (hp : p.length ≤ 100) {i : Nat} (hi : i < p.length) : w_wHas (jnL p) ((i + 1 : Nat) : Int) = some (decide (0 < i) && (p.getD i 0 != p.getD (i - 1) 0)) := by
  have hl := numF_len (jnB p) 2 (p.length - 1)
  rw [wHas_eq (show (jnL p).length ≤ 100000 by unfold jnL; omega)]
  congr 1
  rw [Bool.eq_iff_iff, decide_eq_true_eq]
  unfold jnL
  rw [numF_nat, Bool.and_eq_true, decide_eq_true_eq]
  have e : jnB p (i + 1) = (p.getD i 0 != p.getD (i - 1) 0) := rfl
  rw [e]
  constructor
  · rintro ⟨g1, g2⟩; exact ⟨by omega, g2⟩
  · rintro ⟨g1, g2⟩; exact ⟨by omega, g2⟩
section
variable {l : List Int} {t : ByteArray} {f : Bool} (h : f = true → s_cpRolls l = true ∧ Lib.join (l.map Lib.itoa) [43] = bL t) (w : List Int)
include h
theorem ct6 : w_FnCarpetsCut_L6 l w t f (rtN w).1 (rtN w).2 = some true := by
  rw [w_FnCarpetsCut_u6, w_FnCarpetsCut_t6, ct7 h]
  cases hw : s_cpRolls w
  · have e1 : (rtN w).2 = false := by unfold rtN; rw [hw]; rfl
    rw [e1]; rfl
  · obtain ⟨z1, z2⟩ := rt_len hw
    have e1 : (rtN w).2 = true := by unfold rtN; rw [hw]; rfl
    obtain ⟨m, g, p1, p2, p3, p4, p5⟩ := ParseRolls_full z1
    obtain ⟨rfl, rfl⟩ := p5 w hw z2
    rw [e1, p1]
    simp only [cond_true, Option.bind_some]
    rw [wSame_le (by omega)]; rfl
theorem ct5 {a b : Int} {r : Int × Int × Bool} (hr : r.2.2 = true → 0 ≤ r.1 ∧ 0 ≤ r.2.1 ∧ r.2.1 < b ∧ r.1 * b + r.2.1 = a ∧ a ≤ 2000 ∧ 1 ≤ b ∧ b ≤ 100 ∧ r.1 ≤ 2000) : w_FnCarpetsCut_L5 l w a b r.1 r.2.1 r.2.2 t f (rtN w).1 (rtN w).2 = some true := by
  rw [w_FnCarpetsCut_u5, w_FnCarpetsCut_t5, ct6 h w]
  cases hh : r.2.2
  · rfl
  · obtain ⟨h1, h2, h3, h4, h5, h6, h7, h8⟩ := hr hh
    have hm : 0 ≤ r.1 * b ∧ r.1 * b ≤ 2000 * 100 := ⟨Int.mul_nonneg h1 (by omega), Int.mul_le_mul h8 h7 (by omega) (by omega)⟩
    rw [decide_eq_false (show ¬ r.1 < 0 by omega), decide_eq_false (show ¬ r.2.1 < 0 by omega), decide_eq_false (show ¬ r.2.1 ≥ b by omega), wrapI (n := r.1 * b) (by omega) (by omega), wrapI (by omega) (by omega), h4, bne_self_eq_false]
    rfl
theorem ct11 {a b : Int} {r : Int × Int × Bool} (hr : r.2.2 = true → 0 ≤ r.1 ∧ 0 ≤ r.2.1 ∧ r.2.1 < b ∧ r.1 * b + r.2.1 = a ∧ a ≤ 2000 ∧ 1 ≤ b ∧ b ≤ 100 ∧ r.1 ≤ 2000) {p : List Int} (hp : p.length ≤ 100) :
    w_FnCarpetsCut_L11 p (jnL p) l w a b r.1 r.2.1 r.2.2 t f (rtN w).1 (rtN w).2 (p.length : Int) 0 = some true := by
  refine drop_ind p (fun i q => w_FnCarpetsCut_L11 p (jnL p) l w a b r.1 r.2.1 r.2.2 t f (rtN w).1 (rtN w).2 (p.length : Int) (i : Int) = some true) ?_ (fun i hi ih => ?_)
  · have : ¬ ((p.length : Int) < p.length) := by omega
    rw [w_FnCarpetsCut_u11, w_FnCarpetsCut_t11, decide_eq_false this, cond_false]
    exact ct5 h w hr
  · have hw : IntKind.wrap .i64 ((i : Int) + 1) = ((i + 1 : Nat) : Int) := by rw [wrapI (by omega) (by omega)]; omega
    rw [w_FnCarpetsCut_u11, w_FnCarpetsCut_t11, decide_eq_true (show (i : Int) < p.length by omega), hw, jn_has hp hi]
    simp only [cond_true, Option.bind_some]
    by_cases c : 0 < i
    · have hv : IntKind.wrap .i64 ((i : Int) - 1) = ((i - 1 : Nat) : Int) := by rw [wrapI (by omega) (by omega)]; omega
      rw [decide_eq_true (show (i : Int) > 0 by omega), decide_eq_true c, decide_eq_true (Int.natCast_nonneg i), hv, decide_eq_true (Int.natCast_nonneg (i - 1)), decide_eq_true (show ((i - 1 : Nat) : Int) < p.length by omega), jn_getD hi, jn_getD (show i - 1 < p.length by omega), Bool.true_and, beq_self_eq_true]
      exact ih
    · rw [decide_eq_false (show ¬ (i : Int) > 0 by omega), decide_eq_false c, Bool.false_and]
      exact ih
theorem ct4 {a b : Int} {r : Int × Int × Bool} (hr : r.2.2 = true → 0 ≤ r.1 ∧ 0 ≤ r.2.1 ∧ r.2.1 < b ∧ r.1 * b + r.2.1 = a ∧ a ≤ 2000 ∧ 1 ≤ b ∧ b ≤ 100 ∧ r.1 ≤ 2000) (p : List Int) :
    w_FnCarpetsCut_L4 p (jnN p).1 l w (jnN p).2 a b r.1 r.2.1 r.2.2 t f (rtN w).1 (rtN w).2 = some true := by
  rw [w_FnCarpetsCut_u4, w_FnCarpetsCut_t4, ct5 h w hr]
  unfold jnN
  cases hc : s_l1In (p.length : Int) 1 100 && p.all (inB 0 7)
  · rfl
  · rw [Bool.and_eq_true] at hc
    have := l1In_iffR.1 hc.1
    exact ct11 h w hr (by omega)
theorem ct3 {a b : Int} {r : Int × Int × Bool} (hr : r.2.2 = true → 0 ≤ r.1 ∧ 0 ≤ r.2.1 ∧ r.2.1 < b ∧ r.1 * b + r.2.1 = a ∧ a ≤ 2000 ∧ 1 ≤ b ∧ b ≤ 100 ∧ r.1 ≤ 2000) (p v : List Int) (many : Int) :
    w_FnCarpetsCut_L3 v p (jnN p).1 l w many (grN v many).1 (grN v many).2 (jnN p).2 a b r.1 r.2.1 r.2.2 t f (rtN w).1 (rtN w).2 = some true := by
  rw [w_FnCarpetsCut_u3, w_FnCarpetsCut_t3, ct4 h w hr p]
  cases hg : (grN v many).2
  · rfl
  · obtain ⟨k, k1, k2, k3, k4, k5, k6⟩ := greatest_ok hg
    rw [k1, (StepsOfRolls_two _ _).1, k4]
    simp only [cond_true, Option.bind_some, Bool.not_true, cond_false]
    rw [decide_eq_false (show ¬ totR v (k : Int) < many by omega), cond_false]
    by_cases c : k < 100
    · obtain ⟨m1, m2⟩ := k6 c
      have hw : IntKind.wrap .i64 ((k : Int) + 1) = ((k + 1 : Nat) : Int) := by rw [wrapI (by omega) (by omega)]; omega
      rw [decide_eq_true (show (k : Int) < 100 by omega), hw, (StepsOfRolls_two _ _).1, m1]
      simp only [cond_true, Option.bind_some, Bool.not_true, cond_false]
      rw [decide_eq_false (show ¬ totR v ((k + 1 : Nat) : Int) ≥ many by omega)]; rfl
    · rw [decide_eq_false (show ¬ (k : Int) < 100 by omega)]; rfl
end
section
variable {more : List Int} (hb : Bytes more)
include hb
theorem ct2 : w_FnCarpetsCut_L2 more = some true := by
  obtain ⟨⟨u, n⟩, d1, -⟩ := drawSteps_ok hb
  obtain ⟨⟨v, many⟩, d2, -⟩ := drawGreat_ok hb
  obtain ⟨p, d3, hp⟩ := drawJoins_ok hb
  obtain ⟨⟨a, b⟩, d4, -⟩ := drawRoll_ok hb
  obtain ⟨t, d5, ht⟩ := drawParseR_ok hb
  obtain ⟨w, d6, -⟩ := drawRollsT_ok hb
  obtain ⟨l, f, e1, e2, e3, e4, -⟩ := ParseRolls_full (s := t) (by omega)
  obtain ⟨r, r1, r2, r3⟩ := StepsOfRoll_two a b
  have hj : w_wSame (jnN p).1 (jnN p).1 = some true := by
    have := numF_len (jnB p) 2 (p.length - 1)
    refine wSame_self ?_
    unfold jnN
    cases s_l1In (p.length : Int) 1 100 && p.all (inB 0 7)
    · simp
    · show (jnL p).length ≤ _
      unfold jnL; omega
  have h3 := ct3 e4 w r3 p v many
  rw [w_FnCarpetsCut_u2, w_FnCarpetsCut_t2, d1]
  simp only [Option.bind_some]
  rw [(StepsOfRolls_two _ _).1, (StepsOfRolls_two _ _).2, (RestOfRolls_two _ _).1, (RestOfRolls_two _ _).2, d2]
  simp only [Option.bind_some]
  rw [(GreatestNeed_two _ _).1, (GreatestNeed_two _ _).2, d3]
  simp only [Option.bind_some]
  rw [(Joins_two hp).1, (Joins_two hp).2, d4]
  simp only [Option.bind_some]
  rw [r1, r2, d5]
  simp only [Option.bind_some]
  rw [e1, e2, d6]
  simp only [Option.bind_some]
  rw [(RollsText_two _).1, (RollsText_two _).2]
  simp only [Option.bind_some]
  rw [hj, wSame_le (by omega)]
  simp only [Option.bind_some, h3]
  unfold stN reN
  cases hg : gdN u n
  · simp
  · obtain ⟨g, hn⟩ := gdN_of hg
    have hs := rst_sum (R := u) n
    have ht := totR_bd g hn.1
    have hb := sumR_bd2 g (List.range' 0 u.length)
    have hh := g.hi
    rw [List.length_range'] at hb
    have hm : 0 ≤ totR u n * n ∧ totR u n * n ≤ 16000 * 100 := ⟨Int.mul_nonneg ht.1 (by omega), Int.mul_le_mul ht.2 hn.2 (by omega) (by omega)⟩
    have hc : n * totR u n = totR u n * n := Int.mul_comm _ _
    have hq : totR u n * n + rstR u n = sumR (rAt u) (List.range' 0 u.length) := by omega
    rw [wSum_eq g]
    simp only [cond_true, Option.bind_some]
    rw [wrapI (n := totR u n * n) (by omega) (by omega), wrapI (by omega) (by omega), hq, bne_self_eq_false]
    simp
variable {R : List Int} (g : GoodR R) {steps need : Int} (hs : 1 ≤ steps ∧ steps ≤ 100) (hn : 1 ≤ need ∧ need ≤ 100)
include g hs hn
theorem ct10 (htot : totR R need ≥ steps) : w_FnCarpetsCut_L10 more R (plL R steps need) ((plL R steps need).length : Int) 0 = some true := by
  obtain ⟨f1, f2, f3⟩ := pl_facts g hs hn.1 htot
  have hh := g.hi
  refine drop_ind (plL R steps need) (fun i q => w_FnCarpetsCut_L10 more R (plL R steps need) ((plL R steps need).length : Int) (i : Int) = some true) ?_ (fun i hi ih => ?_)
  · have : ¬ (((plL R steps need).length : Int) < (plL R steps need).length) := by omega
    have hne : plL R steps need ≠ [] := fun e => by rw [e] at f1; simp at f1; omega
    have hj := jn_lt hne f2 f3
    have hin : s_l1In ((plL R steps need).length : Int) 1 100 = true := l1In_iffR.2 (by omega)
    have hall : (plL R steps need).all (inB 0 7) = true := List.all_eq_true.2 fun x hx => by
      have := f3 x hx
      unfold inB
      simp; omega
    have ej : jnN (plL R steps need) = (jnL (plL R steps need), true) := by unfold jnN; rw [hin, hall]; rfl
    rw [w_FnCarpetsCut_u10, w_FnCarpetsCut_t10, decide_eq_false this, cond_false, (Joins_two (by omega)).1, ej]
    simp only [Option.bind_some, Bool.not_true, cond_false]
    rw [decide_eq_false (show ¬ ((jnL (plL R steps need)).length : Int) ≥ R.length by omega), cond_false]
    exact ct2 hb
  · have hb := f3 _ (List.getElem_mem hi)
    have hw : IntKind.wrap .i64 ((i : Int) + 1) = ((i + 1 : Nat) : Int) := by rw [wrapI (by omega) (by omega)]; omega
    rw [w_FnCarpetsCut_u10, w_FnCarpetsCut_t10, decide_eq_true (show (i : Int) < (plL R steps need).length by omega), decide_eq_true (Int.natCast_nonneg i), rdk_get (k := kint) hi, decide_eq_false (show ¬ (plL R steps need)[i] < 0 by omega), decide_eq_false (show ¬ (plL R steps need)[i] ≥ (R.length : Int) by omega), hw]
    simp only [cond_true, cond_false]
    by_cases c : 0 < i
    · have hv : IntKind.wrap .i64 ((i : Int) - 1) = ((i - 1 : Nat) : Int) := by rw [wrapI (by omega) (by omega)]; omega
      have hi1 : i - 1 < (plL R steps need).length := by omega
      have hle := List.pairwise_iff_getElem.1 f2 (i - 1) i hi1 hi (by omega)
      rw [decide_eq_true (show (i : Int) > 0 by omega), hv, decide_eq_true (Int.natCast_nonneg (i - 1)), decide_eq_true (show ((i - 1 : Nat) : Int) < (plL R steps need).length by omega), rdk_get (k := kint) hi1, decide_eq_false (show ¬ (plL R steps need)[i - 1] > (plL R steps need)[i] by omega)]
      exact ih
    · rw [decide_eq_false (show ¬ (i : Int) > 0 by omega)]
      exact ih
theorem ct9 (htot : totR R need ≥ steps) {q : List Nat} (hq : ∀ j, j ∈ q → j < R.length) (hql : q.length ≤ 8) {least cov len : Int} (h1 : cov ≥ steps) (h2 : sumR (cvR R need) q ≥ steps) (h3 : sumR (rAt R) q = least) (h4 : len ≥ least) :
    ∀ (d i : Nat) (lo ot : Int), i + d = q.length → (0 ≤ lo ∧ lo ≤ 2000 * (i : Int)) → (0 ≤ ot ∧ ot ≤ 2000 * (i : Int)) → lo + sumR (rAt R) (q.drop i) = sumR (rAt R) q → ot + sumR (cvR R need) (q.drop i) = sumR (cvR R need) q →
      w_FnCarpetsCut_L9 more R (plL R steps need) (toI q) steps need least cov lo ot len ((toI q).length : Int) (i : Int) = some true
  | 0, i, lo, ot, h, b1, b2, c1, c2 => by
    have hl : (toI q).length = q.length := by unfold toI; simp
    have hd : q.drop i = [] := List.drop_eq_nil_of_le (by omega)
    rw [hd] at c1 c2
    simp only [sumR] at c1 c2
    rw [w_FnCarpetsCut_u9, w_FnCarpetsCut_t9, hl, decide_eq_false (show ¬ ((i : Int) < q.length) by omega), cond_false, decide_eq_false (show ¬ cov < steps by omega), decide_eq_false (show ¬ ot < steps by omega), decide_eq_false (show ¬ len < least by omega), show (lo != least) = false from (by rw [bne_eq_false_iff_eq]; omega)]
    simp only [cond_false]
    exact ct10 hb g hs hn htot
  | d + 1, i, lo, ot, h, b1, b2, c1, c2 => by
    have hl : (toI q).length = q.length := by unfold toI; simp
    have hi : i < q.length := by omega
    have hj := hq _ (List.getElem_mem hi)
    have hr := rAt_bd g q[i]
    have hc := cvR_bd g hn.1 q[i]
    have hz : (need == 0) = false := by rw [beq_eq_false_iff_ne]; omega
    have hrd : rdk kint (toI q) (i : Int) = ((q[i] : Nat) : Int) := by
      rw [rdk_get (k := kint) (show i < (toI q).length by omega)]; simp [toI]
    have hw : IntKind.wrap .i64 ((i : Int) + 1) = ((i + 1 : Nat) : Int) := by rw [wrapI (by omega) (by omega)]; omega
    rw [List.drop_eq_getElem_cons hi] at c1 c2
    simp only [sumR] at c1 c2
    rw [w_FnCarpetsCut_u9, w_FnCarpetsCut_t9, hl, decide_eq_true (show (i : Int) < q.length by omega), decide_eq_true (Int.natCast_nonneg i), hrd, decide_eq_false (show ¬ ((q[i] : Nat) : Int) < 0 by omega), decide_eq_false (show ¬ ((q[i] : Nat) : Int) ≥ R.length by omega), decide_eq_true (Int.natCast_nonneg q[i]), decide_eq_true (show ((q[i] : Nat) : Int) < R.length by omega), hz, rAt_rdk hj, cvR_wrap g hn.1, hw, wrapI (n := lo + rAt R q[i]) (by omega) (by omega), wrapI (n := ot + cvR R need q[i]) (by omega) (by omega)]
    simp only [cond_true, cond_false]
    have := ct9 htot hq hql h1 h2 h3 h4 d (i + 1) (lo + rAt R q[i]) (ot + cvR R need q[i]) (by omega) (by push_cast; omega) (by push_cast; omega) (by omega) (by omega)
    rw [hl] at this
    exact this
theorem ct8 (htot : totR R need ≥ steps) {q q1 : List Nat} (hq : ∀ j, j ∈ q → j < R.length) (hql : q.length ≤ 8) (hq1 : ∀ j, j ∈ q1 → j < R.length) (hql1 : q1.length ≤ 8) {least : Int} (h1 : sumR (cvR R need) q1 ≥ steps) (h2 : sumR (cvR R need) q ≥ steps) (h3 : sumR (rAt R) q = least) (h4 : sumR (rAt R) q1 ≥ least) :
    ∀ (d i : Nat) (co le : Int), i + d = q1.length → (0 ≤ co ∧ co ≤ 2000 * (i : Int)) → (0 ≤ le ∧ le ≤ 2000 * (i : Int)) → co + sumR (cvR R need) (q1.drop i) = sumR (cvR R need) q1 → le + sumR (rAt R) (q1.drop i) = sumR (rAt R) q1 →
      w_FnCarpetsCut_L8 more R (toI q) (plL R steps need) (toI q1) steps need least co 0 0 le ((toI q1).length : Int) (i : Int) = some true
  | 0, i, co, le, h, b1, b2, c1, c2 => by
    have hl : (toI q1).length = q1.length := by unfold toI; simp
    have hd : q1.drop i = [] := List.drop_eq_nil_of_le (by omega)
    rw [hd] at c1 c2
    simp only [sumR] at c1 c2
    rw [w_FnCarpetsCut_u8, w_FnCarpetsCut_t8, hl, decide_eq_false (show ¬ ((i : Int) < q1.length) by omega), cond_false]
    exact ct9 hb g hs hn htot hq hql (by omega) h2 h3 (by omega) q.length 0 0 0 (by omega) (by simp) (by simp) (by simp) (by simp)
  | d + 1, i, co, le, h, b1, b2, c1, c2 => by
    have hl : (toI q1).length = q1.length := by unfold toI; simp
    have hi : i < q1.length := by omega
    have hj := hq1 _ (List.getElem_mem hi)
    have hr := rAt_bd g q1[i]
    have hc := cvR_bd g hn.1 q1[i]
    have hz : (need == 0) = false := by rw [beq_eq_false_iff_ne]; omega
    have hrd : rdk kint (toI q1) (i : Int) = ((q1[i] : Nat) : Int) := by
      rw [rdk_get (k := kint) (show i < (toI q1).length by omega)]; simp [toI]
    have hw : IntKind.wrap .i64 ((i : Int) + 1) = ((i + 1 : Nat) : Int) := by rw [wrapI (by omega) (by omega)]; omega
    rw [List.drop_eq_getElem_cons hi] at c1 c2
    simp only [sumR] at c1 c2
    rw [w_FnCarpetsCut_u8, w_FnCarpetsCut_t8, hl, decide_eq_true (show (i : Int) < q1.length by omega), decide_eq_true (Int.natCast_nonneg i), hrd, decide_eq_false (show ¬ ((q1[i] : Nat) : Int) < 0 by omega), decide_eq_false (show ¬ ((q1[i] : Nat) : Int) ≥ R.length by omega), decide_eq_true (Int.natCast_nonneg q1[i]), decide_eq_true (show ((q1[i] : Nat) : Int) < R.length by omega), hz, rAt_rdk hj, cvR_wrap g hn.1, hw, wrapI (n := le + rAt R q1[i]) (by omega) (by omega), wrapI (n := co + cvR R need q1[i]) (by omega) (by omega)]
    simp only [cond_true, cond_false]
    have := ct8 htot hq hql hq1 hql1 h1 h2 h3 h4 d (i + 1) (co + cvR R need q1[i]) (le + rAt R q1[i]) (by omega) (by push_cast; omega) (by push_cast; omega) (by omega) (by omega)
    rw [hl] at this
    exact this
end
theorem areRolls_s (R : List Int) : s_AreRolls R = s_cpRolls R := rfl
theorem pure_FnCarpetsCut (code : List Int) (w0 : Wf kSuint8 code) (more : List Int) (w1 : Wf kSuint8 more) : F_w_FnCarpetsCut (code, more, ()) = some true := by
  show w_FnCarpetsCut code more = some true
  unfold w_FnCarpetsCut w_FnCarpetsCut_t0
  cases w_big code more
  · have hb := bytes_wf w1
    obtain ⟨⟨R, steps, need⟩, d0, -⟩ := drawFirst_ok (bytes_wf w0)
    rw [d0, cond_false]
    simp only [Option.bind_some]
    obtain ⟨first, short, few, least, ok, F⟩ := four R steps need
    obtain ⟨c1, c2⟩ := CoverPlan_two R steps need
    obtain ⟨l1, l2⟩ := F.len
    have hpl : w_wSame (plnN R steps need).1 (plnN R steps need).1 = some true := by
      refine wSame_self ?_
      unfold plnN
      cases hc : goodA R steps need && decide (totR R need ≥ steps)
      · simp
      · show (plL R steps need).length ≤ _
        rw [Bool.and_eq_true] at hc
        have hgA := hc.1
        unfold goodA at hgA
        simp only [Bool.and_eq_true] at hgA
        have := l1In_iffR.1 hgA.2.1
        unfold plL
        rw [List.length_take]; omega
    have ep : (plnN R steps need).2 = ok := by
      rw [F.okv]
      unfold plnN
      cases goodA R steps need && decide (totR R need ≥ steps) <;> rfl
    have g1 : w_FnCarpetsCut_L1 more R first short (plnN R steps need).1 steps need ok few least = some true := by
      rw [w_FnCarpetsCut_u1, w_FnCarpetsCut_t1]
      cases hok : ok
      · exact ct2 hb
      · obtain ⟨b1, b2, o1, o2, rfl, rfl, rfl, rfl, m1, m2⟩ := F.best hok
        have hov := F.okv
        rw [hok] at hov
        have hov := hov.symm
        rw [Bool.and_eq_true, decide_eq_true_eq] at hov
        obtain ⟨hgA, htot⟩ := hov
        have epl : (plnN R steps need).1 = plL R steps need := by unfold plnN; rw [hgA, decide_eq_true htot]; rfl
        unfold goodA at hgA
        simp only [Bool.and_eq_true] at hgA
        have g := goodR_of hgA.1
        have hs := l1In_iffR.1 hgA.2.1
        have hn := l1In_iffR.1 hgA.2.2
        obtain ⟨f1, f2, f3⟩ := pl_facts g hs hn.1 htot
        have k1 := (cho_of (R := R) (steps := steps) (need := need) b1).pw
        have k2 := (cho_of (R := R) (steps := steps) (need := need) b2).pw
        have r1 : w_wRises (chR R b1).1 = some true := wRises_ok (by omega) (fun i hi => List.pairwise_iff_getElem.1 k1 i (i + 1) (by omega) hi (by omega))
        have r2 : w_wRises (chR R b2).1 = some true := wRises_ok (by omega) (fun i hi => List.pairwise_iff_getElem.1 k2 i (i + 1) (by omega) hi (by omega))
        have hh := g.hi
        have n1 := selR_len b1 0 R.length
        have n2 := selR_len b2 0 R.length
        have fin := ct8 hb g hs hn htot (q := selR b2 0 R.length) (q1 := selR b1 0 R.length) (fun j hj => (selR_mem.1 hj).1) (by omega) (fun j hj => (selR_mem.1 hj).1) (by omega) (of_decide_eq_true o1) (of_decide_eq_true o2) (least := (chR R b2).2) rfl m2 (selR b1 0 R.length).length 0 0 0 (by omega) (by simp) (by simp) (by simp) (by simp)
        rw [r1, r2, epl]
        simp only [cond_true, Option.bind_some, Bool.not_true, cond_false]
        rw [bne_self_eq_false, decide_eq_false (show ¬ ((chR R b2).1.length : Int) < (chR R b1).1.length by omega), show (((plL R steps need).length : Int) != steps) = false from (by rw [bne_eq_false_iff_eq]; exact f1)]
        simp only [cond_false]
        exact fin
    rw [F.i1, F.s1, F.i2, F.s2, F.i3, F.s3, F.i4, F.s4, c1, c2, areRolls_eq, areRolls_s]
    simp only [cond_false, Option.bind_some]
    rw [wSame_le (by omega), wSame_le (by omega), hpl]
    simp only [Option.bind_some, ep, g1]
    cases hok : ok
    · simp
    · have hov := F.okv
      rw [hok] at hov
      have hov := hov.symm
      rw [Bool.and_eq_true] at hov
      have hgA := hov.1
      unfold goodA at hgA
      simp only [Bool.and_eq_true] at hgA
      rw [hgA.1]; simp
  · rfl
end Go.Proofs.YtddiigejhjfhdaaGreatDoor.V
