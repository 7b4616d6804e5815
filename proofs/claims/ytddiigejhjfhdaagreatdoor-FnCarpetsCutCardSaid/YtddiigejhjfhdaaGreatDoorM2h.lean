/- Functions of the program, as plain functions. No condition. -/
import Derived.Test.YtddiigejhjfhdaaGreatDoorM2
import Derived.Test.YtddiigejhjfhdaaGreatDoorM1h
set_option linter.unusedVariables false
set_option linter.unusedSimpArgs false
set_option maxRecDepth 100000
namespace Go.Proofs.YtddiigejhjfhdaaGreatDoor.V
open Go Go.Ev Go.Proofs
/-! ### rolls cut: what the functions tell, in closed form -/
noncomputable def totR (R : List Int) (need : Int) : Int := sumR (cvR R need) (List.range' 0 R.length)
theorem totR_bd {R : List Int} (g : GoodR R) {need : Int} (hn : 1 ≤ need) : 0 ≤ totR R need ∧ totR R need ≤ 16000 := by
  have h := sumR_bd3 g hn (List.range' 0 R.length)
  rw [List.length_range'] at h
  have := g.hi
  unfold totR
  omega
theorem cvR_wrap {R : List Int} (g : GoodR R) {need : Int} (hn : 1 ≤ need) (k : Nat) : IntKind.wrap .i64 (Int.tdiv (rAt R k) need) = cvR R need k := by
  have hr := rAt_bd g k
  have hcv := cvR_bd g hn k
  rw [tdivR (by omega)]
  exact wrapI (by unfold cvR at hcv; omega) (by unfold cvR at hcv; omega)
theorem covers_loop {R : List Int} (g : GoodR R) {need : Int} (hn : 1 ≤ need ∧ need ≤ 100) : ∀ (d k : Nat) (s : Int), k + d = R.length → (0 ≤ s ∧ s ≤ 2000 * (k : Int)) → i_covers_L1 R need s (R.length : Int) (k : Int) = some (s + sumR (cvR R need) (List.range' k d))
  | 0, k, s, h1, h2 => by
    rw [i_covers_u1, i_covers_t1, decide_eq_false (show ¬ ((k : Int) < R.length) by omega)]
    simp [sumR]
  | d + 1, k, s, h1, h2 => by
    have hh := g.hi
    have hk : k < R.length := by omega
    have hcv := cvR_bd g hn.1 k
    have hz : (need == 0) = false := by rw [beq_eq_false_iff_ne]; omega
    have hw : IntKind.wrap .i64 ((k : Int) + 1) = ((k + 1 : Nat) : Int) := by rw [wrapI (by omega) (by omega)]; omega
    rw [i_covers_u1, i_covers_t1, decide_eq_true (show (k : Int) < R.length by omega), decide_eq_true (Int.natCast_nonneg k), rAt_rdk hk, hz, hw, cvR_wrap g hn.1, wrapI (n := s + cvR R need k) (by omega) (by omega)]
    simp only [cond_true, cond_false]
    rw [covers_loop g hn d (k + 1) _ (by omega) (by push_cast; omega), List.range'_succ, sumR, Int.add_assoc]
theorem covers_eq {R : List Int} (g : GoodR R) {need : Int} (hn : 1 ≤ need ∧ need ≤ 100) : i_covers R need = some (totR R need) := by
  unfold i_covers i_covers_t0
  have := covers_loop g hn R.length 0 0 (by omega) (by simp)
  rw [Int.zero_add] at this
  exact this
theorem cpSum_eq {R : List Int} (g : GoodR R) {need : Int} (hn : 1 ≤ need ∧ need ≤ 100) : s_cpSum R need = some (totR R need) := by
  unfold s_cpSum s_cpSum_t0
  have := cpSum_loop g hn R.length 0 0 (by omega) (by simp)
  rw [Int.zero_add] at this
  exact this
noncomputable def gdN (R : List Int) (need : Int) : Bool := s_cpRolls R && s_l1In need 1 100
theorem gdN_of {R : List Int} {need : Int} (h : gdN R need = true) : GoodR R ∧ 1 ≤ need ∧ need ≤ 100 := by
  unfold gdN at h
  rw [Bool.and_eq_true] at h
  exact ⟨goodR_of h.1, l1In_iffR.1 h.2⟩
noncomputable def stN (R : List Int) (need : Int) : Int × Bool := bif gdN R need then (totR R need, true) else (0, false)
theorem StepsOfRolls_two (R : List Int) (need : Int) : i_StepsOfRolls R need = some (stN R need) ∧ s_StepsOfRolls R need = some (stN R need) := by
  unfold i_StepsOfRolls s_StepsOfRolls stN gdN i_isNeed s_cpNeed
  rw [areRolls_eq, within_l1]
  cases h1 : s_cpRolls R
  · exact ⟨rfl, rfl⟩
  · cases h2 : s_l1In need 1 100
    · exact ⟨rfl, rfl⟩
    · have g := goodR_of h1
      have hn := l1In_iffR.1 h2
      rw [covers_eq g hn, cpSum_eq g hn]
      exact ⟨rfl, rfl⟩
theorem sum_loop {R : List Int} (g : GoodR R) : ∀ (d k : Nat) (s : Int), k + d = R.length → (0 ≤ s ∧ s ≤ 2000 * (k : Int)) → i_sum_L1 R s (R.length : Int) (k : Int) = some (s + sumR (rAt R) (List.range' k d))
  | 0, k, s, h1, h2 => by
    rw [i_sum_u1, i_sum_t1, decide_eq_false (show ¬ ((k : Int) < R.length) by omega)]
    simp [sumR]
  | d + 1, k, s, h1, h2 => by
    have hh := g.hi
    have hk : k < R.length := by omega
    have hr := rAt_bd g k
    have hw : IntKind.wrap .i64 ((k : Int) + 1) = ((k + 1 : Nat) : Int) := by rw [wrapI (by omega) (by omega)]; omega
    rw [i_sum_u1, i_sum_t1, decide_eq_true (show (k : Int) < R.length by omega), decide_eq_true (Int.natCast_nonneg k), rAt_rdk hk, hw, wrapI (n := s + rAt R k) (by omega) (by omega)]
    simp only [cond_true]
    rw [sum_loop g d (k + 1) _ (by omega) (by push_cast; omega), List.range'_succ, sumR, Int.add_assoc]
theorem sum_eq {R : List Int} (g : GoodR R) : i_sum R = some (sumR (rAt R) (List.range' 0 R.length)) := by
  unfold i_sum i_sum_t0
  have := sum_loop g R.length 0 0 (by omega) (by simp)
  rw [Int.zero_add] at this
  exact this
noncomputable def rstR (R : List Int) (need : Int) : Int := sumR (fun j => rAt R j % need) (List.range' 0 R.length)
theorem rst_loop {R : List Int} (g : GoodR R) {need : Int} (hn : 1 ≤ need ∧ need ≤ 100) : ∀ (d k : Nat) (s : Int), k + d = R.length → (0 ≤ s ∧ s ≤ 2000 * (k : Int)) → s_RestOfRolls_L1 R need s (R.length : Int) (k : Int) = some (s + sumR (fun j => rAt R j % need) (List.range' k d), true)
  | 0, k, s, h1, h2 => by
    rw [s_RestOfRolls_u1, s_RestOfRolls_t1, decide_eq_false (show ¬ ((k : Int) < R.length) by omega)]
    simp [sumR]
  | d + 1, k, s, h1, h2 => by
    have hh := g.hi
    have hk : k < R.length := by omega
    have hr := rAt_bd g k
    have hz : (need == 0) = false := by rw [beq_eq_false_iff_ne]; omega
    have hw : IntKind.wrap .i64 ((k : Int) + 1) = ((k + 1 : Nat) : Int) := by rw [wrapI (by omega) (by omega)]; omega
    have e1 : Int.tmod (rAt R k) need = rAt R k % need := Int.tmod_eq_emod_of_nonneg (by omega)
    have m1 := Int.emod_nonneg (rAt R k) (show need ≠ 0 by omega)
    have m2 := Int.emod_lt_of_pos (rAt R k) (show 0 < need by omega)
    rw [s_RestOfRolls_u1, s_RestOfRolls_t1, decide_eq_true (show (k : Int) < R.length by omega), decide_eq_true (Int.natCast_nonneg k), rAt_rdk hk, hz, hw, e1, wrapI (n := s + rAt R k % need) (by omega) (by omega)]
    simp only [cond_true, cond_false]
    rw [rst_loop g hn d (k + 1) _ (by omega) (by push_cast; omega), List.range'_succ, sumR, Int.add_assoc]
noncomputable def reN (R : List Int) (need : Int) : Int × Bool := bif gdN R need then (rstR R need, true) else (0, false)
theorem rst_sum {R : List Int} (need : Int) : rstR R need + need * totR R need = sumR (rAt R) (List.range' 0 R.length) := rest_sum need _
theorem RestOfRolls_two (R : List Int) (need : Int) : i_RestOfRolls R need = some (reN R need) ∧ s_RestOfRolls R need = some (reN R need) := by
  unfold i_RestOfRolls s_RestOfRolls s_RestOfRolls_t0 reN gdN i_isNeed s_cpNeed
  rw [areRolls_eq, within_l1]
  cases h1 : s_cpRolls R
  · exact ⟨rfl, rfl⟩
  · cases h2 : s_l1In need 1 100
    · exact ⟨rfl, rfl⟩
    · have g := goodR_of h1
      have hn := l1In_iffR.1 h2
      have hs := rst_sum (R := R) need
      have ht := totR_bd g hn.1
      have hr := rst_loop g hn R.length 0 0 (by omega) (by simp)
      have hb := sumR_bd2 g (List.range' 0 R.length)
      have hh := g.hi
      rw [List.length_range'] at hb
      have hm : 0 ≤ need * totR R need ∧ need * totR R need ≤ 100 * 16000 := ⟨Int.mul_nonneg (by omega) ht.1, Int.mul_le_mul hn.2 ht.2 ht.1 (by omega)⟩
      rw [sum_eq g, covers_eq g hn]
      simp only [Bool.not_true, cond_false, Option.bind_some, Bool.and_self, cond_true]
      rw [wrapI (n := need * totR R need) (by omega) (by omega), wrapI (by omega) (by omega)]
      refine ⟨?_, ?_⟩
      · congr 2; omega
      · refine Eq.trans hr ?_
        rw [Int.zero_add]; rfl
noncomputable def gtF (R : List Int) (steps : Int) (k : Nat) : Bool := decide (totR R (k : Int) ≥ steps)
def ofG : Option Nat → Int × Bool | some k => ((k : Int), true) | none => (0, false)
theorem greatest_i {R : List Int} (g : GoodR R) (steps : Int) : ∀ n : Nat, n ≤ 100 → i_GreatestNeed_L1 R steps (n : Int) = some (ofG (gtN (gtF R steps) n))
  | 0, _ => by
    rw [i_GreatestNeed_u1, i_GreatestNeed_t1]; rfl
  | n + 1, h => by
    have hw : IntKind.wrap .i64 (((n + 1 : Nat) : Int) - 1) = (n : Int) := by rw [wrapI (by omega) (by omega)]; omega
    rw [i_GreatestNeed_u1, i_GreatestNeed_t1, decide_eq_true (show ((n + 1 : Nat) : Int) > 0 by omega), covers_eq g (by omega), hw]
    simp only [cond_true, Option.bind_some]
    unfold gtN
    by_cases c : totR R ((n + 1 : Nat) : Int) ≥ steps
    · rw [decide_eq_true c, if_pos (show gtF R steps (n + 1) = true from decide_eq_true c)]; rfl
    · rw [decide_eq_false c, if_neg (show ¬ gtF R steps (n + 1) = true from fun h => c (of_decide_eq_true h))]
      exact greatest_i g steps n (by omega)
theorem greatest_s {R : List Int} (g : GoodR R) (steps : Int) : ∀ n : Nat, n ≤ 100 → s_GreatestNeed_L1 R steps (n : Int) = some (ofG (gtN (gtF R steps) n))
  | 0, _ => by
    rw [s_GreatestNeed_u1, s_GreatestNeed_t1]; rfl
  | n + 1, h => by
    have hw : IntKind.wrap .i64 (((n + 1 : Nat) : Int) - 1) = (n : Int) := by rw [wrapI (by omega) (by omega)]; omega
    rw [s_GreatestNeed_u1, s_GreatestNeed_t1, decide_eq_true (show ((n + 1 : Nat) : Int) > 0 by omega), cpSum_eq g (by omega), hw]
    simp only [cond_true, Option.bind_some]
    unfold gtN
    by_cases c : totR R ((n + 1 : Nat) : Int) ≥ steps
    · rw [decide_eq_true c, if_pos (show gtF R steps (n + 1) = true from decide_eq_true c)]; rfl
    · rw [decide_eq_false c, if_neg (show ¬ gtF R steps (n + 1) = true from fun h => c (of_decide_eq_true h))]
      exact greatest_s g steps n (by omega)
noncomputable def grN (R : List Int) (steps : Int) : Int × Bool := bif s_cpRolls R && s_l1In steps 1 100 then ofG (gtN (gtF R steps) 100) else (0, false)
theorem GreatestNeed_two (R : List Int) (steps : Int) : i_GreatestNeed R steps = some (grN R steps) ∧ s_GreatestNeed R steps = some (grN R steps) := by
  unfold i_GreatestNeed i_GreatestNeed_t0 s_GreatestNeed s_GreatestNeed_t0 grN i_isCover
  rw [areRolls_eq, within_l1]
  cases h1 : s_cpRolls R
  · exact ⟨rfl, rfl⟩
  · cases h2 : s_l1In steps 1 100
    · exact ⟨rfl, rfl⟩
    · have g := goodR_of h1
      exact ⟨greatest_i g steps 100 (by omega), greatest_s g steps 100 (by omega)⟩
/-- what the law asks of the greatest need -/
theorem greatest_ok {R : List Int} {steps : Int} (h : (grN R steps).2 = true) : ∃ k : Nat, (grN R steps).1 = k ∧ 1 ≤ k ∧ k ≤ 100 ∧ stN R (k : Int) = (totR R (k : Int), true) ∧ totR R (k : Int) ≥ steps ∧
    (k < 100 → stN R ((k + 1 : Nat) : Int) = (totR R ((k + 1 : Nat) : Int), true) ∧ totR R ((k + 1 : Nat) : Int) < steps) := by
  unfold grN at h ⊢
  cases hc : s_cpRolls R && s_l1In steps 1 100
  · rw [hc] at h; cases h
  · rw [hc, cond_true] at h
    cases hg : gtN (gtF R steps) 100 with
    | none => rw [hg] at h; cases h
    | some k =>
      obtain ⟨h1, h2, h3, h4⟩ := gtN_some hg
      rw [Bool.and_eq_true] at hc
      have st : ∀ j : Nat, 1 ≤ j → j ≤ 100 → stN R (j : Int) = (totR R (j : Int), true) := fun j j1 j2 => by
        unfold stN gdN
        rw [hc.1, l1In_iffR.2 (by omega)]; rfl
      refine ⟨k, rfl, h2, h3, st k h2 h3, of_decide_eq_true h1, fun hk => ⟨st (k + 1) (by omega) (by omega), ?_⟩⟩
      have := of_decide_eq_false (h4 (k + 1) (by omega) (by omega))
      omega
/-! ### rolls cut: the best lists, in closed form -/
structure Four (R : List Int) (steps need : Int) (first short : List Int) (few least : Int) (ok : Bool) : Prop where
  i1 : i_FirstRolls R steps need = some (first, ok)
  s1 : s_FirstRolls R steps need = some (first, ok)
  i2 : i_FewestRolls R steps need = some (few, ok)
  s2 : s_FewestRolls R steps need = some (few, ok)
  i3 : i_LeastLength R steps need = some (least, ok)
  s3 : s_LeastLength R steps need = some (least, ok)
  i4 : i_RollsOfLeast R steps need = some (short, ok)
  s4 : s_RollsOfLeast R steps need = some (short, ok)
  okv : ok = (goodA R steps need && decide (totR R need ≥ steps))
  len : first.length ≤ 8 ∧ short.length ≤ 8
  best : ok = true → ∃ b1 b2, okR R need steps b1 = true ∧ okR R need steps b2 = true ∧ first = (chR R b1).1 ∧ short = (chR R b2).1 ∧ few = (first.length : Int) ∧ least = (chR R b2).2 ∧ first.length ≤ short.length ∧ least ≤ (chR R b1).2
theorem four (R : List Int) (steps need : Int) : ∃ first short few least ok, Four R steps need first short few least ok := by
  cases hgA : goodA R steps need
  · have hz : ∀ {P : Prop}, False → P := fun h => h.elim
    refine ⟨[], [], 0, 0, false, ?_, ?_, ?_, ?_, ?_, ?_, ?_, ?_, by rw [hgA]; rfl, by simp, fun h => by cases h⟩
    all_goals
      first
        | (unfold i_FirstRolls) | (unfold s_FirstRolls) | (unfold i_FewestRolls) | (unfold s_FewestRolls) | (unfold i_LeastLength) | (unfold s_LeastLength) | (unfold i_RollsOfLeast) | (unfold s_RollsOfLeast)
    all_goals
      first
        | (rw [cpAll_eq, hgA]; rfl)
        | (unfold i_least__i_many i_least__i_many_t0 i_isCover i_isNeed
           rw [areRolls_eq, within_l1, within_l1]
           unfold goodA at hgA
           cases h1 : s_cpRolls R
           · rfl
           · cases h2 : s_l1In steps 1 100
             · rfl
             · cases h3 : s_l1In need 1 100
               · rfl
               · rw [h1, h2, h3] at hgA; cases hgA)
        | (unfold i_least__i_length i_least__i_length_t0 i_isCover i_isNeed
           rw [areRolls_eq, within_l1, within_l1]
           unfold goodA at hgA
           cases h1 : s_cpRolls R
           · rfl
           · cases h2 : s_l1In steps 1 100
             · rfl
             · cases h3 : s_l1In need 1 100
               · rfl
               · rw [h1, h2, h3] at hgA; cases hgA)
  · have hgA' := hgA
    unfold goodA at hgA'
    simp only [Bool.and_eq_true] at hgA'
    obtain ⟨h1, h2, h3⟩ := hgA'
    have g := goodR_of h1
    have hs := l1In_iffR.1 h2
    have hn := l1In_iffR.1 h3
    have many : i_least__i_many R steps need = some ((sortR (allR R need steps 0 (2 ^ R.length))).foldl (bstS (fR false)) (([], 0), false)) := by
      unfold i_least__i_many i_least__i_many_t0 i_isCover i_isNeed
      rw [areRolls_eq, within_l1, within_l1, h1, h2, h3, choices_eq g hn, sort_all g]
      simp only [Bool.not_true, cond_false, Option.bind_some]
      rw [least_many (sort_len g need steps)]
    have long : i_least__i_length R steps need = some ((sortR (allR R need steps 0 (2 ^ R.length))).foldl (bstS (fR true)) (([], 0), false)) := by
      unfold i_least__i_length i_least__i_length_t0 i_isCover i_isNeed
      rw [areRolls_eq, within_l1, within_l1, h1, h2, h3, choices_eq g hn, sort_all g]
      simp only [Bool.not_true, cond_false, Option.bind_some]
      rw [least_len (sort_len g need steps)]
    by_cases hex : ∃ b, b < 2 ^ R.length ∧ okR R need steps b = true
    · obtain ⟨b1, p1, p2, p3, p4, p5⟩ := bests g hs hn false hex
      obtain ⟨b2, q1, q2, q3, q4, q5⟩ := bests g hs hn true hex
      have hd := decide_eq_true ((some_iff g hn.1).1 hex)
      have c1 := (cho_of (R := R) (steps := steps) (need := need) b1).len
      have c2 := (cho_of (R := R) (steps := steps) (need := need) b2).len
      have hh := g.hi
      refine ⟨(chR R b1).1, (chR R b2).1, ((chR R b1).1.length : Int), (chR R b2).2, true, ?_, ?_, ?_, ?_, ?_, ?_, ?_, ?_, by rw [hgA]; exact hd.symm, ⟨by omega, by omega⟩, fun _ => ⟨b1, b2, p2, q2, rfl, rfl, rfl, rfl, ?_, q5 b1 p1 p2⟩⟩
      · unfold i_FirstRolls; rw [many, p3]; rfl
      · unfold s_FirstRolls; rw [cpAll_eq, hgA, hd, cpBest_eq g hs hn, p4]; rfl
      · unfold i_FewestRolls; rw [many, p3]; rfl
      · unfold s_FewestRolls; rw [cpAll_eq, hgA, hd, cpBest_eq g hs hn, p4]; rfl
      · unfold i_LeastLength; rw [long, q3]; rfl
      · unfold s_LeastLength; rw [cpAll_eq, hgA, hd, cpBest_eq g hs hn, q4]; rfl
      · unfold i_RollsOfLeast; rw [long, q3]; rfl
      · unfold s_RollsOfLeast; rw [cpAll_eq, hgA, hd, cpBest_eq g hs hn, q4]; rfl
      · have := p5 b2 q1 q2
        unfold fR at this
        simp only [cond_false] at this
        omega
    · have hd := decide_eq_false (fun h => hex ((some_iff g hn.1).2 h))
      have hnil := sort_nil hex
      rw [hnil] at many long
      refine ⟨[], [], 0, 0, false, ?_, ?_, ?_, ?_, ?_, ?_, ?_, ?_, by rw [hgA]; exact hd.symm, by simp, fun h => by cases h⟩
      · unfold i_FirstRolls; rw [many]; rfl
      · unfold s_FirstRolls; rw [cpAll_eq, hgA, hd]; rfl
      · unfold i_FewestRolls; rw [many]; rfl
      · unfold s_FewestRolls; rw [cpAll_eq, hgA, hd]; rfl
      · unfold i_LeastLength; rw [long]; rfl
      · unfold s_LeastLength; rw [cpAll_eq, hgA, hd]; rfl
      · unfold i_RollsOfLeast; rw [long]; rfl
      · unfold s_RollsOfLeast; rw [cpAll_eq, hgA, hd]; rfl
/-! ### plans and their joins -/
theorem jn_idx {l : List Int} (hl : l.length ≤ 10000) : slices_ContainsFunc_int__i_JoinsOfPlan_c1 l = some (!l.all (inB 0 7)) := by
  have hm : l.length ≤ maxLen := by rw [maxLen_eq]; omega
  have e : slices_IndexFunc_int__i_JoinsOfPlan_c1 l = some (idxF (fun x => i_JoinsOfPlan_c1 x) l 0) :=
    loop_idx (L := fun i => slices_IndexFunc_int__i_JoinsOfPlan_c1_L1 l l.length (i : Int)) (l := l) (p := fun x => i_JoinsOfPlan_c1 x)
      (fun i h => by simp only [slices_IndexFunc_int__i_JoinsOfPlan_c1_u1 l l.length i, slices_IndexFunc_int__i_JoinsOfPlan_c1_t1, rdk_get (k := kint) h, wrapS h hm]; simp [h]) (by simp [slices_IndexFunc_int__i_JoinsOfPlan_c1_u1 l l.length l.length, slices_IndexFunc_int__i_JoinsOfPlan_c1_t1])
  unfold slices_ContainsFunc_int__i_JoinsOfPlan_c1
  rw [e, Option.bind_some, idxF_any]
  have e2 : (fun x => i_JoinsOfPlan_c1 x) = fun n => !inB 0 7 n := by
    funext n
    unfold i_JoinsOfPlan_c1
    rw [within_l1, s_l1In_inB2]
  rw [e2, ← not_anyR, Bool.not_not]
theorem jn_getD {p : List Int} {i : Nat} (h : i < p.length) : rdk kint p (i : Int) = p.getD i 0 := by
  rw [rdk_get (k := kint) h]; simp [List.getD, List.getElem?_eq_getElem h]
theorem joins_i {p : List Int} (hl : p.length ≤ 100) : ∀ (d i : Nat) (acc : List Int), i + d = p.length → 1 ≤ i → acc.length ≤ i → i_JoinsOfPlan_L1 p acc (i : Int) = some (acc ++ numF (jnB p) (i + 1) d, true)
  | 0, i, acc, h, h1, ha => by
    rw [i_JoinsOfPlan_u1, i_JoinsOfPlan_t1, decide_eq_false (show ¬ ((i : Int) < p.length) by omega), numF_zero, List.append_nil]; rfl
  | d + 1, i, acc, h, h1, ha => by
    have hb : Nat.ble (acc.length + 1) 4294967296 = true := by rw [Nat.ble_eq]; omega
    have hw : IntKind.wrap .i64 ((i : Int) + 1) = ((i + 1 : Nat) : Int) := by rw [wrapI (by omega) (by omega)]; omega
    have hv : IntKind.wrap .i64 ((i : Int) - 1) = ((i - 1 : Nat) : Int) := by rw [wrapI (by omega) (by omega)]; omega
    have hj : jnB p (i + 1) = (p.getD i 0 != p.getD (i - 1) 0) := rfl
    rw [i_JoinsOfPlan_u1, i_JoinsOfPlan_t1, decide_eq_true (show (i : Int) < p.length by omega), hw, hv, decide_eq_true (Int.natCast_nonneg i), decide_eq_true (Int.natCast_nonneg (i - 1)), decide_eq_true (show ((i - 1 : Nat) : Int) < p.length by omega), jn_getD (show i < p.length by omega), jn_getD (show i - 1 < p.length by omega), hb, numF_succ, hj]
    simp only [cond_true]
    cases p.getD i 0 != p.getD (i - 1) 0
    · simpa using joins_i hl d (i + 1) acc (by omega) (by omega) (by omega)
    · simpa using joins_i hl d (i + 1) (acc ++ [((i + 1 : Nat) : Int)]) (by omega) (by omega) (by simp; omega)
theorem joins_s {p : List Int} (hl : p.length ≤ 100) : ∀ (d i : Nat) (acc : List Int), i + d = p.length → 1 ≤ i → acc.length ≤ i → s_JoinsOfPlan_L1 p acc (i : Int) = some (acc ++ numF (jnB p) (i + 1) d, true)
  | 0, i, acc, h, h1, ha => by
    rw [s_JoinsOfPlan_u1, s_JoinsOfPlan_t1, decide_eq_false (show ¬ ((i : Int) < p.length) by omega), numF_zero, List.append_nil]; rfl
  | d + 1, i, acc, h, h1, ha => by
    have hb : Nat.ble (acc.length + 1) 4294967296 = true := by rw [Nat.ble_eq]; omega
    have hw : IntKind.wrap .i64 ((i : Int) + 1) = ((i + 1 : Nat) : Int) := by rw [wrapI (by omega) (by omega)]; omega
    have hv : IntKind.wrap .i64 ((i : Int) - 1) = ((i - 1 : Nat) : Int) := by rw [wrapI (by omega) (by omega)]; omega
    have hj : jnB p (i + 1) = (p.getD i 0 != p.getD (i - 1) 0) := rfl
    rw [s_JoinsOfPlan_u1, s_JoinsOfPlan_t1, decide_eq_true (show (i : Int) < p.length by omega), hw, hv, decide_eq_true (Int.natCast_nonneg i), decide_eq_true (Int.natCast_nonneg (i - 1)), decide_eq_true (show ((i - 1 : Nat) : Int) < p.length by omega), jn_getD (show i < p.length by omega), jn_getD (show i - 1 < p.length by omega), hb, numF_succ, hj]
    simp only [cond_true]
    cases p.getD i 0 != p.getD (i - 1) 0
    · simpa using joins_s hl d (i + 1) acc (by omega) (by omega) (by omega)
    · simpa using joins_s hl d (i + 1) (acc ++ [((i + 1 : Nat) : Int)]) (by omega) (by omega) (by simp; omega)
noncomputable def jnN (p : List Int) : List Int × Bool := bif s_l1In (p.length : Int) 1 100 && p.all (inB 0 7) then (jnL p, true) else ([], false)
theorem Joins_two {p : List Int} (hp : p.length ≤ 10000) : i_JoinsOfPlan p = some (jnN p) ∧ s_JoinsOfPlan p = some (jnN p) := by
  unfold i_JoinsOfPlan i_JoinsOfPlan_t0 s_JoinsOfPlan s_JoinsOfPlan_t0 jnN i_isCover s_l1All_n
  rw [within_l1]
  cases h1 : s_l1In (p.length : Int) 1 100
  · exact ⟨rfl, rfl⟩
  · have hb := l1In_iffR.1 h1
    rw [jn_idx hp]
    simp only [Bool.not_true, cond_false, Option.bind_some, Bool.true_and]
    cases h2 : p.all (inB 0 7)
    · exact ⟨rfl, rfl⟩
    · simp only [Bool.not_true, cond_false, cond_true]
      have e1 := joins_i (p := p) (by omega) (p.length - 1) 1 [] (by omega) (by omega) (by simp)
      have e2 := joins_s (p := p) (by omega) (p.length - 1) 1 [] (by omega) (by omega) (by simp)
      rw [List.nil_append] at e1 e2
      exact ⟨e1, e2⟩
/-! the plan -/
theorem rep_snoc (l : List Int) (c : Nat) (x : Int) : l ++ [x] ++ List.replicate c x = l ++ List.replicate (c + 1) x := by
  rw [List.replicate_succ, List.append_assoc]; rfl
section
variable {R : List Int} {steps need : Int} (hs : 1 ≤ steps ∧ steps ≤ 100)
include hs
theorem plan_in_i (k : Nat) (hk : k ≤ 8) (C : Nat) (hC : C ≤ 2000) : ∀ (d j : Nat) (l : List Int), j + d = C → i_CoverPlan_L2 (l.take steps.toNat) R steps need (k : Int) (R.length : Int) (k : Int) (C : Int) (j : Int) = i_CoverPlan_L1 ((l ++ List.replicate d (k : Int)).take steps.toNat) R steps need (R.length : Int) ((k + 1 : Nat) : Int)
  | 0, j, l, h => by
    have hw : IntKind.wrap .i64 ((k : Int) + 1) = ((k + 1 : Nat) : Int) := by rw [wrapI (by omega) (by omega)]; omega
    rw [i_CoverPlan_u2, i_CoverPlan_t2, decide_eq_false (show ¬ ((j : Int) < C) by omega), hw, List.replicate_zero, List.append_nil]; rfl
  | d + 1, j, l, h => by
    have hw : IntKind.wrap .i64 ((j : Int) + 1) = ((j + 1 : Nat) : Int) := by rw [wrapI (by omega) (by omega)]; omega
    have ht : (l.take steps.toNat).length ≤ 100 := by rw [List.length_take]; omega
    have hb : Nat.ble ((l.take steps.toNat).length + 1) 4294967296 = true := by rw [Nat.ble_eq]; omega
    have hp := take_push l steps.toNat (k : Int)
    rw [i_CoverPlan_u2, i_CoverPlan_t2, decide_eq_true (show (j : Int) < C by omega), hw, hb]
    simp only [cond_true]
    by_cases c : (l.take steps.toNat).length < steps.toNat
    · rw [if_pos c] at hp
      rw [decide_eq_true (show ((l.take steps.toNat).length : Int) < steps by omega), cond_true, hp, plan_in_i k hk C hC d (j + 1) (l ++ [(k : Int)]) (by omega), rep_snoc]
    · rw [decide_eq_false (show ¬ ((l.take steps.toNat).length : Int) < steps by omega), cond_false, plan_in_i k hk C hC d (j + 1) l (by omega), take_rep l _ _ c, take_rep l _ _ c]
theorem plan_in_s (k : Nat) (hk : k ≤ 8) : ∀ (d : Nat) (l : List Int), d ≤ 2000 → s_CoverPlan_L2 (l.take steps.toNat) R steps need (k : Int) (d : Int) (R.length : Int) (k : Int) = s_CoverPlan_L1 ((l ++ List.replicate d (k : Int)).take steps.toNat) R steps need (R.length : Int) ((k + 1 : Nat) : Int)
  | 0, l, h => by
    have hw : IntKind.wrap .i64 ((k : Int) + 1) = ((k + 1 : Nat) : Int) := by rw [wrapI (by omega) (by omega)]; omega
    rw [s_CoverPlan_u2, s_CoverPlan_t2, decide_eq_false (show ¬ (((0 : Nat) : Int) > 0) by omega), hw, List.replicate_zero, List.append_nil]; rfl
  | d + 1, l, h => by
    have hw : IntKind.wrap .i64 (((d + 1 : Nat) : Int) - 1) = (d : Int) := by rw [wrapI (by omega) (by omega)]; omega
    have hw2 : IntKind.wrap .i64 ((k : Int) + 1) = ((k + 1 : Nat) : Int) := by rw [wrapI (by omega) (by omega)]; omega
    have ht : (l.take steps.toNat).length ≤ 100 := by rw [List.length_take]; omega
    have hb : Nat.ble ((l.take steps.toNat).length + 1) 4294967296 = true := by rw [Nat.ble_eq]; omega
    have hp := take_push l steps.toNat (k : Int)
    rw [s_CoverPlan_u2, s_CoverPlan_t2, decide_eq_true (show ((d + 1 : Nat) : Int) > 0 by omega), hw, hw2, hb]
    simp only [cond_true]
    by_cases c : (l.take steps.toNat).length < steps.toNat
    · rw [if_pos c] at hp
      rw [decide_eq_true (show ((l.take steps.toNat).length : Int) < steps by omega), cond_true, hp, plan_in_s k hk d (l ++ [(k : Int)]) (by omega), rep_snoc]
    · rw [decide_eq_false (show ¬ ((l.take steps.toNat).length : Int) < steps by omega), cond_false, take_rep l _ _ c]
variable (g : GoodR R) (hn : 1 ≤ need ∧ need ≤ 100)
include g hn
theorem plan_out : ∀ (d k : Nat), k + d = R.length → i_CoverPlan_L1 ((stepsOf (plN R need) k).take steps.toNat) R steps need (R.length : Int) (k : Int) = some (plL R steps need, true) ∧ s_CoverPlan_L1 ((stepsOf (plN R need) k).take steps.toNat) R steps need (R.length : Int) (k : Int) = some (plL R steps need, true)
  | 0, k, h => by
    have hk : k = R.length := by omega
    subst hk
    rw [i_CoverPlan_u1, i_CoverPlan_t1, s_CoverPlan_u1, s_CoverPlan_t1, decide_eq_false (show ¬ ((R.length : Int) < R.length) by omega)]
    exact ⟨rfl, rfl⟩
  | d + 1, k, h => by
    have hh := g.hi
    have hcv := cvR_bd g hn.1 k
    have hz : (need == 0) = false := by rw [beq_eq_false_iff_ne]; omega
    have hc : cvR R need k = ((plN R need k : Nat) : Int) := by unfold plN; omega
    obtain ⟨ih1, ih2⟩ := plan_out d (k + 1) (by omega)
    have e1 := plan_in_i hs (R := R) (need := need) k (by omega) (plN R need k) (by omega) (plN R need k) 0 (stepsOf (plN R need) k) (by omega)
    have e2 := plan_in_s hs (R := R) (need := need) k (by omega) (plN R need k) (stepsOf (plN R need) k) (by omega)
    rw [← stepsOf_succ] at e1 e2
    rw [i_CoverPlan_u1, i_CoverPlan_t1, s_CoverPlan_u1, s_CoverPlan_t1, decide_eq_true (show (k : Int) < R.length by omega), decide_eq_true (Int.natCast_nonneg k), rAt_rdk (show k < R.length by omega), hz, cvR_wrap g hn.1, hc]
    simp only [cond_true, cond_false]
    exact ⟨e1.trans ih1, e2.trans ih2⟩
end
noncomputable def plnN (R : List Int) (steps need : Int) : List Int × Bool := bif goodA R steps need && decide (totR R need ≥ steps) then (plL R steps need, true) else ([], false)
theorem CoverPlan_two (R : List Int) (steps need : Int) : i_CoverPlan R steps need = some (plnN R steps need) ∧ s_CoverPlan R steps need = some (plnN R steps need) := by
  unfold i_CoverPlan i_CoverPlan_t0 s_CoverPlan s_CoverPlan_t0 plnN i_isCover i_isNeed
  rw [areRolls_eq, within_l1, within_l1, cpAll_eq]
  unfold goodA
  cases h1 : s_cpRolls R
  · exact ⟨rfl, rfl⟩
  · cases h2 : s_l1In steps 1 100
    · exact ⟨rfl, rfl⟩
    · cases h3 : s_l1In need 1 100
      · exact ⟨rfl, rfl⟩
      · have g := goodR_of h1
        have hs := l1In_iffR.1 h2
        have hn := l1In_iffR.1 h3
        obtain ⟨e1, e2⟩ := plan_out hs g hn R.length 0 (by omega)
        have z0 : (stepsOf (plN R need) 0).take steps.toNat = [] := by simp [stepsOf]
        rw [z0] at e1 e2
        rw [covers_eq g hn]
        simp only [Bool.not_true, cond_false, Option.bind_some, Bool.and_self, Bool.true_and]
        by_cases c : totR R need ≥ steps
        · rw [decide_eq_false (show ¬ totR R need < steps by omega)]
          have : decide (sumR (cvR R need) (List.range' 0 R.length) ≥ steps) = true := decide_eq_true c
          rw [this, decide_eq_true c]
          simp only [Bool.not_true, cond_false, cond_true]
          exact ⟨e1, e2⟩
        · rw [decide_eq_true (show totR R need < steps by omega)]
          have : decide (sumR (cvR R need) (List.range' 0 R.length) ≥ steps) = false := decide_eq_false c
          rw [this, decide_eq_false c]
          exact ⟨rfl, rfl⟩
theorem StepsOfRoll_two (a b : Int) : ∃ r, i_StepsOfRoll a b = some r ∧ s_StepsOfRoll a b = some r ∧ (r.2.2 = true → 0 ≤ r.1 ∧ 0 ≤ r.2.1 ∧ r.2.1 < b ∧ r.1 * b + r.2.1 = a ∧ a ≤ 2000 ∧ 1 ≤ b ∧ b ≤ 100 ∧ r.1 ≤ 2000) := by
  unfold i_StepsOfRoll s_StepsOfRoll i_isRoll i_isNeed s_cpNeed
  rw [within_l1, within_l1]
  cases h1 : s_l1In a 1 2000
  · exact ⟨_, rfl, rfl, fun h => by cases h⟩
  · cases h2 : s_l1In b 1 100
    · exact ⟨_, rfl, rfl, fun h => by cases h⟩
    · have ha := l1In_iffR.1 h1
      have hb := l1In_iffR.1 h2
      have hz : (b == 0) = false := by rw [beq_eq_false_iff_ne]; omega
      have e1 : Int.tmod a b = a % b := Int.tmod_eq_emod_of_nonneg (by omega)
      have m1 := Int.emod_nonneg a (show b ≠ 0 by omega)
      have m2 := Int.emod_lt_of_pos a (show 0 < b by omega)
      have q1 : 0 ≤ a / b := Int.ediv_nonneg (by omega) (by omega)
      have q2 : a / b ≤ a := Int.ediv_le_self _ (by omega)
      have q3 := Int.emod_add_mul_ediv a b
      rw [hz, tdivR (by omega), e1, wrapI (n := a / b) (by omega) (by omega)]
      refine ⟨_, rfl, rfl, fun _ => ⟨q1, m1, m2, ?_, ha.2, hb.1, hb.2, by show a / b ≤ 2000; omega⟩⟩
      show a / b * b + a % b = a
      rw [Int.mul_comm]; omega
theorem wSum_loop {R : List Int} (g : GoodR R) : ∀ (d k : Nat) (s : Int), k + d = R.length → (0 ≤ s ∧ s ≤ 2000 * (k : Int)) → w_wSum_L1 R s (R.length : Int) (k : Int) = some (s + sumR (rAt R) (List.range' k d))
  | 0, k, s, h1, h2 => by
    rw [w_wSum_u1, w_wSum_t1, decide_eq_false (show ¬ ((k : Int) < R.length) by omega)]
    simp [sumR]
  | d + 1, k, s, h1, h2 => by
    have hh := g.hi
    have hk : k < R.length := by omega
    have hr := rAt_bd g k
    have hw : IntKind.wrap .i64 ((k : Int) + 1) = ((k + 1 : Nat) : Int) := by rw [wrapI (by omega) (by omega)]; omega
    rw [w_wSum_u1, w_wSum_t1, decide_eq_true (show (k : Int) < R.length by omega), decide_eq_true (Int.natCast_nonneg k), rAt_rdk hk, hw, wrapI (n := s + rAt R k) (by omega) (by omega)]
    simp only [cond_true]
    rw [wSum_loop g d (k + 1) _ (by omega) (by push_cast; omega), List.range'_succ, sumR, Int.add_assoc]
theorem wSum_eq {R : List Int} (g : GoodR R) : w_wSum R = some (sumR (rAt R) (List.range' 0 R.length)) := by
  unfold w_wSum w_wSum_t0
  have := wSum_loop g R.length 0 0 (by omega) (by simp)
  rw [Int.zero_add] at this
  exact this
end Go.Proofs.YtddiigejhjfhdaaGreatDoor.V
