/- The plain law of FnClimbsBroken: the plain function answers true. No condition. -/
import Derived.Test.YtgflffacaobkoaaGreatDoorL5h
set_option linter.unusedVariables false
set_option linter.unusedSimpArgs false
set_option maxRecDepth 100000
namespace Go.Proofs.YtgflffacaobkoaaGreatDoor.V
open Go Go.Ev Go.Proofs
theorem good_lens {a : Int} {b c : List Int} (h : s_clGood a b c = true) : b.length ≤ 100 ∧ c.length ≤ 100 := by
  obtain ⟨N, rfl, G⟩ := goodS_of h
  have := G.d2
  exact ⟨by omega, brk_len G⟩
theorem bk_lens (a : Int) (b c : List Int) (k : Int) : (bkN a b c k).1.2.1.length ≤ 1000 ∧ (bkN a b c k).1.2.2.length ≤ 1000 := by
  cases h : (bkN a b c k).2
  · unfold bkN at h ⊢
    cases hc : s_clGood a b c && (s_l1In k 1 (a - 1) && !decide (k ∈ c))
    · simp
    · rw [hc] at h; cases h
  · obtain ⟨N, m, rfl, rfl, G, h1, h2, h3, e⟩ := bk_of h
    have G' := (brkL_good G h1 h2 h3).1
    have := G'.d2
    have := brk_len G'
    rw [e]
    exact ⟨by show b.length ≤ 1000; omega, by show (brkL c m).length ≤ 1000; omega⟩
theorem md_of {a : Int} {b c : List Int} {k : Int} (h : (i_MendStep_n a b c k).2 = true) : s_clGood a b c = true := by
  have e0 : i_MendStep_n a b c k = s_MendStep_n a b c k := rfl
  rw [e0] at h
  unfold s_MendStep_n at h
  cases hc : s_clGood a b c
  · rw [hc] at h; cases h
  · rfl
theorem md_lens (a : Int) (b c : List Int) (k : Int) : (i_MendStep_n a b c k).1.2.1.length ≤ 1000 ∧ (i_MendStep_n a b c k).1.2.2.length ≤ 1000 := by
  have e0 : i_MendStep_n a b c k = s_MendStep_n a b c k := rfl
  rw [e0]
  unfold s_MendStep_n
  cases hc : s_clGood a b c && decide (k ∈ c)
  · simp
  · rw [Bool.and_eq_true] at hc
    obtain ⟨h1, h2⟩ := good_lens hc.1
    have := List.length_filter_le (fun x => !(x == k)) c
    exact ⟨by show b.length ≤ 1000; omega, by show (c.filter _).length ≤ 1000; omega⟩
theorem counted_bad {a : Int} {b c : List Int} (h : s_clGood a b c = false) : i_counted a b c = some ([], false) ∧ s_clCounted a b c = some false ∧ i_CountClimbs a b c = some (0, false) := by
  have h1 : i_counted a b c = some ([], false) := by
    unfold i_counted
    rw [i_AreStairs_eq, h]; rfl
  refine ⟨h1, ?_, ?_⟩
  · unfold s_clCounted
    rw [h]; rfl
  · unfold i_CountClimbs
    rw [h1]; rfl
theorem through_all (a : Int) (b c : List Int) (k : Int) : ∃ r, i_ClimbsThrough a b c k = some r ∧ s_ClimbsThrough a b c k = some r := by
  cases h : s_clGood a b c
  · obtain ⟨h1, h2, -⟩ := counted_bad h
    refine ⟨(0, false), ?_, ?_⟩
    · unfold i_ClimbsThrough
      rw [h1]; rfl
    · unfold s_ClimbsThrough
      rw [h2]; rfl
  · obtain ⟨N, rfl, G⟩ := goodS_of h
    exact ⟨_, through_both G k⟩
theorem wst_ok {N : Nat} {D B : List Int} (G : GoodS N D B) (h : (wstL N D B).2.2 = true) {k : Nat} (h1 : 1 ≤ k) (h2 : k < N) : thr N D B k ≤ (wstL N D B).2.1 ∧ (thr N D B k = (wstL N D B).2.1 → (wstL N D B).1 ≤ k) := by
  unfold wstL at h ⊢
  cases hc : cntB N D B && (!(U N D B 0 == 0) && !((N : Int) == 1))
  · rw [hc] at h; cases h
  · obtain ⟨g1, g2, g3, g4, g5⟩ := wst_inv (thr N D B) (N - 1) 1 (0, -1)
    have hb := thr_bd G h1 (show k ≤ N by omega)
    exact ⟨g1 k h1 (by omega), fun e => g4 k h1 (by omega) e (by show (-1 : Int) < _; omega)⟩
theorem rch_len {N : Nat} {D B : List Int} (G : GoodS N D B) : (rchL N D B).length ≤ 100 ∧ (stkL N D B).length ≤ 100 ∧ (ndL N D B).length ≤ 100 := by
  have := G.n2
  have h1 := numF_len (rchB N D B) 1 N
  have h2 := numF_len (stkB N D B) 1 N
  have h3 := numF_len (ndB N D B) 1 N
  unfold rchL stkL ndL
  omega
section
variable {x : ByteArray}
theorem cb6 {r : Int × List Int × List Int} {f : Bool} (h : f = true → ∃ N : Nat, r.1 = N ∧ GoodS N r.2.1 r.2.2 ∧ tS r.1 r.2.1 r.2.2 = bL x) : w_FnClimbsBroken_L6 r.1 r.2.1 r.2.2 x f = some true := by
  rw [w_FnClimbsBroken_u6, w_FnClimbsBroken_t6]
  cases hf : f
  · rfl
  · obtain ⟨N, h1, G, h2⟩ := h hf
    rw [h1] at h2 ⊢
    rw [stText_i G]
    simp only [cond_true, Option.bind_some]
    rw [ByteArray.toList_eq, ByteArray.toList_eq]
    have e : ({ data := (tS (N : Int) r.2.1 r.2.2).toArray } : ByteArray).data.toList = tS (N : Int) r.2.1 r.2.2 := by simp
    rw [e, h2]
    show some (x.data.toList == x.data.toList) = _
    rw [beq_self_eq_true]
theorem cb5 (a : Int) (b c : List Int) (k : Int) {r : Int × List Int × List Int} {f : Bool} (h : f = true → ∃ N : Nat, r.1 = N ∧ GoodS N r.2.1 r.2.2 ∧ tS r.1 r.2.1 r.2.2 = bL x) :
    w_FnClimbsBroken_L5 a (i_MendStep_n a b c k).1.1 r.1 b c (i_MendStep_n a b c k).1.2.1 (i_MendStep_n a b c k).1.2.2 r.2.1 r.2.2 k (i_MendStep_n a b c k).2 x f = some true := by
  rw [w_FnClimbsBroken_u5, w_FnClimbsBroken_t5, cb6 h]
  cases hm : (i_MendStep_n a b c k).2
  · rfl
  · obtain ⟨l1, l2⟩ := good_lens (md_of hm)
    rw [(break_eq _ _ _ _).1, break_mended hm]
    simp only [cond_true, Option.bind_some, Bool.not_true, cond_false]
    rw [lStairs_self (by omega) (by omega)]
    rfl
variable {more : List Int} (hm : Bytes more)
include hm
theorem cb4 : w_FnClimbsBroken_L4 more = some true := by
  obtain ⟨⟨⟨ta, tb, tc⟩, step⟩, d1, -⟩ := drawBrk_ok hm
  obtain ⟨⟨⟨a, b, c⟩, k⟩, d2, -⟩ := drawMend_ok hm
  obtain ⟨x, d3, hx⟩ := drawStairsT_ok hm
  obtain ⟨r, f, e1, e2, ⟨l1, l2⟩, h, -⟩ := ParseStairs_full (t := x) (by omega)
  obtain ⟨q, q1, q2⟩ := through_all ta tb tc step
  have b1 := bk_lens ta tb tc step
  have m1 := md_lens a b c k
  have em : s_MendStep_n a b c k = i_MendStep_n a b c k := rfl
  rw [w_FnClimbsBroken_u4, w_FnClimbsBroken_t4, d1, Option.bind_some]
  simp only
  rw [(break_eq _ _ _ _).1, (break_eq _ _ _ _).2, q1, q2, d2]
  simp only [Option.bind_some]
  rw [d3, Option.bind_some, e1, e2, em]
  simp only [Option.bind_some]
  rw [lStairs_self (by omega) (by omega), lStairs_self (by omega) (by omega), lStairs_self (by omega) (by omega)]
  simp only [cb5 a b c k h]
  cases hb : (bkN ta tb tc step).2
  · simp
  · obtain ⟨N, m, e3, e4, G, -⟩ := bk_of hb
    have := G.d2
    have := brk_len G
    rw [mend_broken hb]
    simp only [Option.bind_some]
    rw [lStairs_self (by omega) (by omega)]
    simp
variable {N : Nat} {D B : List Int} (G : GoodS N D B)
include G
theorem cb9 (hc : cntB N D B = true) (h0 : U N D B 0 ≠ 0) :
    w_FnClimbsBroken_L9 more (N : Int) (ndL N D B) (stkL N D B) (rchL N D B) D B (wstL N D B).1 (wstL N D B).2.1 (wstL N D B).2.2 (U N D B 0) ((rchL N D B).length : Int) 0 = some true := by
  obtain ⟨n1, n2, n3⟩ := rch_len G
  have hu := of_decide_eq_true hc
  have hn := U_nn G (Nat.zero_le N)
  refine drop_ind (rchL N D B) (fun i l => w_FnClimbsBroken_L9 more (N : Int) (ndL N D B) (stkL N D B) (rchL N D B) D B (wstL N D B).1 (wstL N D B).2.1 (wstL N D B).2.2 (U N D B 0) ((rchL N D B).length : Int) (i : Int) = some true) ?_ (fun i hi ih => ?_)
  · have : ¬ (((rchL N D B).length : Int) < (rchL N D B).length) := by omega
    rw [w_FnClimbsBroken_u9, w_FnClimbsBroken_t9, decide_eq_false this, cond_false]
    exact cb4 hm
  · obtain ⟨m, ⟨m1, m2⟩, md, me⟩ := rch_mem.1 (List.getElem_mem hi)
    have hw : IntKind.wrap .i64 ((i : Int) + 1) = ((i + 1 : Nat) : Int) := by rw [wrapI (by omega) (by omega)]; omega
    have hin : s_l1In (m : Int) 1 N = true := by rw [l1In_inS, Bool.and_eq_true, decide_eq_true_eq, decide_eq_true_eq]; omega
    have ht : thrL N D B (m : Int) = (thr N D B m, true) := by unfold thrL; rw [hc, hin]; rfl
    have hb := thr_bd G m1 m2
    rw [w_FnClimbsBroken_u9, w_FnClimbsBroken_t9, decide_eq_true (show (i : Int) < (rchL N D B).length by omega), decide_eq_true (Int.natCast_nonneg i), rdk_get (k := kint) hi, me, (through_both G _).1, ht, hw]
    simp only [cond_true, Option.bind_some, Bool.not_true, cond_false]
    rw [decide_eq_false (show ¬ thr N D B m < 0 by omega), decide_eq_false (show ¬ thr N D B m > U N D B 0 by omega), lHas_eq (by omega), lHas_eq (by omega), nd_thr m1 m2, stk_thr G m1 m2 md]
    simp only [cond_true, Option.bind_some, Bool.not_true, cond_false, beq_self_eq_true]
    by_cases hm : m < N
    · have hnb : ¬ brk B m := fun h => by rw [Dn_brk G m2 h] at md; omega
      obtain ⟨G', hb'⟩ := brkL_good G m1 hm hnb
      have hbk : bkN (N : Int) D B (m : Int) = (((N : Int), D, brkL B m), true) := by
        unfold bkN
        rw [good_of G, in_iff.2 (by omega), decide_eq_false (show ¬ (m : Int) ∈ B from hnb)]; rfl
      have htb := thr_brkL G m1 hm hnb
      have h0' := U_nn G' (Nat.zero_le N)
      have hc' : cntB N D (brkL B m) = true := decide_eq_true (by omega)
      rw [decide_eq_true (show (m : Int) < N by omega), (break_eq _ _ _ _).1, hbk]
      simp only [cond_true, Option.bind_some, Bool.not_true, cond_false]
      rw [CountClimbs_i G', hc']
      simp only [cond_true, Option.bind_some, Bool.not_true, cond_false]
      rw [wrapI (n := U N D B 0 - thr N D B m) (by omega) (by omega), htb, bne_self_eq_false]
      simp only [cond_false]
      cases hf : (wstL N D B).2.2
      · rw [hf] at ih; exact ih
      · obtain ⟨w1, w2⟩ := wst_ok G hf m1 hm
        rw [hf] at ih
        simp only [cond_true]
        rw [decide_eq_false (show ¬ thr N D B m > (wstL N D B).2.1 by omega), cond_false]
        cases he : thr N D B m == (wstL N D B).2.1
        · exact ih
        · have := w2 (beq_iff_eq.1 he)
          rw [decide_eq_false (show ¬ (m : Int) < (wstL N D B).1 by omega)]
          exact ih
    · rw [decide_eq_false (show ¬ (m : Int) < N by omega), cond_false]
      exact ih
theorem cb2 : w_FnClimbsBroken_L2 more (N : Int) (needL N D B).1 (rchL N D B) (stkL N D B) D B (needL N D B).2 (wstL N D B).1 (wstL N D B).2.1 (wstL N D B).2.2 = some true := by
  obtain ⟨n1, n2, n3⟩ := rch_len G
  rw [w_FnClimbsBroken_u2, w_FnClimbsBroken_t2, CountClimbs_i G, cb4 hm]
  unfold needL
  simp only [Option.bind_some]
  cases h0 : U N D B 0 == 0
  · have h0 : U N D B 0 ≠ 0 := beq_eq_false_iff_ne.1 h0
    have hr : w_lRises (ndL N D B) = some true := lRises_ok (by omega) (fun i hi => List.pairwise_iff_getElem.1 (numF_pw (ndB N D B) 1 N) i (i + 1) (by unfold ndL at hi; omega) hi (by omega))
    simp only [cond_false, cond_true]
    rw [hr, lHas_eq (by omega), decide_eq_true (nd_top G)]
    simp only [cond_true, Option.bind_some, Bool.not_true, cond_false]
    cases hc : cntB N D B
    · rfl
    · exact cb9 hm G hc h0
  · rfl
theorem cb8 : w_FnClimbsBroken_L8 more (N : Int) (needL N D B).1 (rchL N D B) (stkL N D B) B D (needL N D B).2 (wstL N D B).1 (wstL N D B).2.1 (wstL N D B).2.2 (B.length : Int) 0 = some true := by
  obtain ⟨n1, n2, n3⟩ := rch_len G
  have hbl := brk_len G
  refine drop_ind B (fun i l => w_FnClimbsBroken_L8 more (N : Int) (needL N D B).1 (rchL N D B) (stkL N D B) B D (needL N D B).2 (wstL N D B).1 (wstL N D B).2.1 (wstL N D B).2.2 (B.length : Int) (i : Int) = some true) ?_ (fun i hi ih => ?_)
  · have : ¬ ((B.length : Int) < B.length) := by omega
    rw [w_FnClimbsBroken_u8, w_FnClimbsBroken_t8, decide_eq_false this, cond_false]
    exact cb2 hm G
  · have hw : IntKind.wrap .i64 ((i : Int) + 1) = ((i + 1 : Nat) : Int) := by rw [wrapI (by omega) (by omega)]; omega
    rw [w_FnClimbsBroken_u8, w_FnClimbsBroken_t8, decide_eq_true (show (i : Int) < B.length by omega), decide_eq_true (Int.natCast_nonneg i), rdk_get (k := kint) hi, lHas_eq (by omega), decide_eq_false (brk_rch G (List.getElem_mem hi)), hw]
    exact ih
theorem cb7 : w_FnClimbsBroken_L7 more (N : Int) (needL N D B).1 (rchL N D B) (stkL N D B) D B (needL N D B).2 (wstL N D B).1 (wstL N D B).2.1 (wstL N D B).2.2 ((stkL N D B).length : Int) 0 = some true := by
  obtain ⟨n1, n2, n3⟩ := rch_len G
  have hnl : (needL N D B).1.length ≤ 100 := by
    unfold needL
    cases U N D B 0 == 0
    · exact n3
    · simp
  refine drop_ind (stkL N D B) (fun i l => w_FnClimbsBroken_L7 more (N : Int) (needL N D B).1 (rchL N D B) (stkL N D B) D B (needL N D B).2 (wstL N D B).1 (wstL N D B).2.1 (wstL N D B).2.2 ((stkL N D B).length : Int) (i : Int) = some true) ?_ (fun i hi ih => ?_)
  · have : ¬ (((stkL N D B).length : Int) < (stkL N D B).length) := by omega
    rw [w_FnClimbsBroken_u7, w_FnClimbsBroken_t7, decide_eq_false this, cond_false]
    exact cb8 hm G
  · have hw : IntKind.wrap .i64 ((i : Int) + 1) = ((i + 1 : Nat) : Int) := by rw [wrapI (by omega) (by omega)]; omega
    have hs := List.getElem_mem hi
    have hnn : (stkL N D B)[i] ∉ (needL N D B).1 := by
      unfold needL
      cases h0 : U N D B 0 == 0
      · exact stk_nd G (beq_eq_false_iff_ne.1 h0) hs
      · exact List.not_mem_nil
    rw [w_FnClimbsBroken_u7, w_FnClimbsBroken_t7, decide_eq_true (show (i : Int) < (stkL N D B).length by omega), decide_eq_true (Int.natCast_nonneg i), rdk_get (k := kint) hi, lHas_eq (by omega), lHas_eq (by omega), decide_eq_true (stk_rch hs), decide_eq_false hnn, hw]
    exact ih
theorem cb3 : w_FnClimbsBroken_L3 more (N : Int) (needL N D B).1 (rchL N D B) (stkL N D B) D B (needL N D B).2 (wstL N D B).1 (wstL N D B).2.1 (wstL N D B).2.2 = some true := by
  rw [w_FnClimbsBroken_u3, w_FnClimbsBroken_t3]
  exact cb7 hm G
theorem cb1 : w_FnClimbsBroken_L1 more (N : Int) (needL N D B).1 (rchL N D B) (stkL N D B) (N : Int) D B D (B.map fun x => (N : Int) - x).reverse (needL N D B).2 true (wstL N D B).1 (wstL N D B).2.1 (wstL N D B).2.2 ⟨(tS (N : Int) D B).toArray⟩ = some true := by
  obtain ⟨n1, n2, n3⟩ := rch_len G
  have hd := G.d2
  have hbl := brk_len G
  have hz : (⟨(tS (N : Int) D B).toArray⟩ : ByteArray).size ≤ 2000000 := by rw [bsz]; have := good_len G; omega
  obtain ⟨r, f, e1, e2, -, -, h⟩ := ParseStairs_full hz
  obtain ⟨rfl, rfl⟩ := h N D B G (bL_mk _).symm
  have hr1 : w_lRises (rchL N D B) = some true := lRises_ok (by omega) (fun i hi => List.pairwise_iff_getElem.1 (numF_pw (rchB N D B) 1 N) i (i + 1) (by unfold rchL at hi; omega) hi (by omega))
  have hr2 : w_lRises (stkL N D B) = some true := lRises_ok (by omega) (fun i hi => List.pairwise_iff_getElem.1 (numF_pw (stkB N D B) 1 N) i (i + 1) (by unfold stkL at hi; omega) hi (by omega))
  have hok : ((needL N D B).2 == decide ((N : Int) ∈ rchL N D B)) = true := by
    rw [beq_iff_eq, Bool.eq_iff_iff, decide_eq_true_eq, rch_top G]
    unfold needL
    cases h0 : U N D B 0 == 0
    · exact ⟨fun _ => beq_eq_false_iff_ne.1 h0, fun _ => rfl⟩
    · exact ⟨fun h => (by cases h), fun h => absurd (beq_iff_eq.1 h0) h⟩
  rw [w_FnClimbsBroken_u1, w_FnClimbsBroken_t1, cb3 hm G, e1, hr1, hr2, turn_twice G]
  simp only [cond_true, Option.bind_some, Bool.not_true, cond_false]
  rw [lStairs_self (by omega) (by omega), lHas_eq (by omega), lHas_eq (by omega), decide_eq_false stk_top]
  simp only [cond_true, Option.bind_some, Bool.not_true, cond_false, hok]
  cases h0 : (needL N D B).2
  · have hu : U N D B 0 = 0 := by
      unfold needL at h0
      cases hh : U N D B 0 == 0
      · rw [hh] at h0; cases h0
      · exact beq_iff_eq.1 hh
    rw [stk_all G hu, lSame_self (by omega)]
    rfl
  · rfl
end
theorem pure_FnClimbsBroken (code : List Int) (w0 : Wf kSuint8 code) (more : List Int) (w1 : Wf kSuint8 more) : F_w_FnClimbsBroken (code, more, ()) = some true := by
  show w_FnClimbsBroken code more = some true
  unfold w_FnClimbsBroken w_FnClimbsBroken_t0
  cases w_big code more
  · have hm := bytes_wf w1
    obtain ⟨⟨sa, sb, sc⟩, hp, -⟩ := drawNeed_ok (bytes_wf w0)
    rw [hp, Option.bind_some, cond_false]
    simp only
    cases hg : s_clGood sa sb sc
    · obtain ⟨c1, c2, c3⟩ := counted_bad hg
      have e1 : i_NeededSteps sa sb sc = some ([], false) := by unfold i_NeededSteps; rw [i_AreStairs_eq, hg]; rfl
      have e2 : s_NeededSteps sa sb sc = some ([], false) := by unfold s_NeededSteps s_NeededSteps_t0; rw [hg]; rfl
      have e3 : i_ReachedSteps sa sb sc = some ([], false) := by unfold i_ReachedSteps; rw [i_AreStairs_eq, hg]; rfl
      have e4 : s_ReachedSteps sa sb sc = some ([], false) := by unfold s_ReachedSteps s_ReachedSteps_t0; rw [hg]; rfl
      have e5 : i_StuckSteps sa sb sc = some ([], false) := by unfold i_StuckSteps; rw [i_AreStairs_eq, hg]; rfl
      have e6 : s_StuckSteps sa sb sc = some ([], false) := by unfold s_StuckSteps s_StuckSteps_t0; rw [hg]; rfl
      have e7 : i_WorstToBreak sa sb sc = some (0, 0, false) := by unfold i_WorstToBreak i_WorstToBreak_t0; rw [c1]; rfl
      have e8 : s_WorstToBreak sa sb sc = some (0, 0, false) := by unfold s_WorstToBreak s_WorstToBreak_t0; rw [c2]; rfl
      have e9 : i_StairsText sa sb sc = some ({ data := #[] }, false) := by unfold i_StairsText; rw [i_AreStairs_eq, hg]; rfl
      have e10 : s_StairsText sa sb sc = some ({ data := #[] }, false) := by unfold s_StairsText; rw [hg]; rfl
      have e11 : i_TurnStairs_n sa sb sc = ((0, [], []), false) := by unfold i_TurnStairs_n; rw [hg]; rfl
      have e12 : s_TurnStairs_n sa sb sc = ((0, [], []), false) := by unfold s_TurnStairs_n; rw [hg]; rfl
      have e13 : s_AreStairs sa sb sc = false := hg
      have hS : w_lSame [] [] = some true := lSame_self (by simp)
      have hT : w_lStairs 0 [] [] 0 [] [] = some true := lStairs_self (by simp) (by simp)
      have g1 : w_FnClimbsBroken_L1 more sa [] [] [] 0 sb sc [] [] false false 0 0 false { data := #[] } = some true := by
        rw [w_FnClimbsBroken_u1, w_FnClimbsBroken_t1, cond_false, w_FnClimbsBroken_u2, w_FnClimbsBroken_t2, c3, Option.bind_some, cond_false]
        exact cb4 hm
      rw [e1, e2, e3, e4, e5, e6, e7, e8, e9, e10, e11, e12, e13, i_AreStairs_eq, hg]
      simp only [Option.bind_some, hS, hT, g1]
      simp
    · obtain ⟨N, rfl, G⟩ := goodS_of hg
      obtain ⟨n1, n2, n3⟩ := rch_len G
      obtain ⟨w1, w2⟩ := worst_both G
      have hd := G.d2
      have hbl := brk_len G
      have hnl : (needL N sb sc).1.length ≤ 100 := by
        unfold needL
        cases U N sb sc 0 == 0
        · exact n3
        · simp
      have e11 : i_TurnStairs_n (N : Int) sb sc = (((N : Int), sb, (sc.map fun x => (N : Int) - x).reverse), true) := by unfold i_TurnStairs_n; rw [hg]; rfl
      have e12 : s_TurnStairs_n (N : Int) sb sc = (((N : Int), sb, (sc.map fun x => (N : Int) - x).reverse), true) := by unfold s_TurnStairs_n; rw [hg]; rfl
      have e13 : s_AreStairs (N : Int) sb sc = true := hg
      have hT : w_lStairs (N : Int) sb (sc.map fun x => (N : Int) - x).reverse (N : Int) sb (sc.map fun x => (N : Int) - x).reverse = some true := lStairs_self (by omega) (by rw [List.length_reverse, List.length_map]; omega)
      have hfive : (wstL N sb sc).2.2 = true → (needL N sb sc).2 = true := fun h => by
        unfold wstL at h
        unfold needL
        cases h0 : U N sb sc 0 == 0
        · rfl
        · rw [h0] at h
          cases hc : cntB N sb sc
          · rw [hc] at h; cases h
          · rw [hc] at h; cases h
      rw [need_i G, need_s G, reach_i G, reach_s G, stuck_i G, stuck_s G, w1, w2, stText_i G, stText_s G, e11, e12, e13, i_AreStairs_eq, hg]
      simp only [Option.bind_some]
      rw [lSame_self (by omega), lSame_self (by omega), lSame_self (by omega), hT]
      simp only [Option.bind_some, cb1 hm G]
      cases hn : (needL N sb sc).2
      · cases hf : (wstL N sb sc).2.2
        · simp
        · rw [hfive hf] at hn; cases hn
      · cases (wstL N sb sc).2.2 <;> simp
  · rfl
end Go.Proofs.YtgflffacaobkoaaGreatDoor.V
