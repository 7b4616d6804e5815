/- The plain law of FnClimbsRanked: the plain function answers true. No condition. -/
import Derived.Test.YthenlapjhlljnaaD6h
set_option linter.unusedVariables false
set_option linter.unusedSimpArgs false
set_option maxRecDepth 100000
namespace Go.Proofs.Ythenlapjhlljnaa.V
open Go Go.Ev Go.Proofs
theorem hr8 : w_FnClimbsRanked_L8 = some true := by rw [w_FnClimbsRanked_u8]; rfl
section
variable {N : Nat} {D B : List Int}
theorem goodB (G : GoodS N D B) : B.length ≤ 100 := by
  have := sorted_len G.bp G.bb
  have := G.n2
  omega
theorem hr10 (G : GoodS N D B) {c : List Int} (hv : Vd N D B 0 c) : w_FnClimbsRanked_L10 (N : Int) c (stp 0 c) D B ((stp 0 c).length : Int) 0 = some true := by
  have hl := (vd_few G hv).2.2.2
  have hs := stp_len c 0
  have hB := goodB G
  refine drop_ind (stp 0 c) (fun i _ => w_FnClimbsRanked_L10 (N : Int) c (stp 0 c) D B ((stp 0 c).length : Int) (i : Int) = some true) ?_ (fun i hi ih => ?_)
  · rw [w_FnClimbsRanked_u10, w_FnClimbsRanked_t10, decide_eq_false (show ¬ (((stp 0 c).length : Int) < (stp 0 c).length) by omega)]
    exact hr8
  · have hm := vd_mem G c 0 hv
    have hw : IntKind.wrap .i64 ((i : Int) + 1) = ((i + 1 : Nat) : Int) := by rw [wrapI (by omega) (by omega)]; omega
    have e1 := stp_get c 0 i hi (fun d hd => by have := (G.db d (hm d hd)).1; omega)
    have hnb := stp_brk c 0 hv (stp 0 c)[i] (List.getElem_mem hi)
    rw [w_FnClimbsRanked_u10, w_FnClimbsRanked_t10, decide_eq_true (show (i : Int) < (stp 0 c).length by omega), decide_eq_true (Int.natCast_nonneg i), rdk_get (k := kint) hi, hw, lHas_eqC (by omega), decide_eq_false hnb]
    simp only [Option.bind_some, cond_true, cond_false]
    rw [decide_eq_true (Int.natCast_nonneg (i + 1)), decide_eq_true (show ((i + 1 : Nat) : Int) ≤ (c.length : Int) by omega), Int.toNat_natCast, show Int.toNat 0 = 0 from rfl, List.drop_zero, Nat.sub_zero, lSum_eq (by rw [List.length_take]; omega) (fun x hx => by
      have := G.db x (hm x (List.mem_of_mem_take hx)); omega)]
    simp only [Option.bind_some, cond_true, cond_false]
    rw [show ((stp 0 c)[i] != sm (c.take (i + 1)) (fun x => x)) = false from (by rw [e1, show ((0 : Nat) : Int) + sm (c.take (i + 1)) (fun x => x) = sm (c.take (i + 1)) (fun x => x) from by omega]; exact bne_self_eq_false _)]
    exact ih
theorem hr7 (G : GoodS N D B) {c : List Int} (hv : Vd N D B 0 c) : w_FnClimbsRanked_L7 (N : Int) c (stp 0 c) D B true = some true := by
  have hl := (vd_few G hv).2.2.2
  have hs := stp_len c 0
  have hN := G.n1
  have hm := vd_mem G c 0 hv
  have hpos : ∀ d, d ∈ c → 0 ≤ d := fun d hd => by have := (G.db d (hm d hd)).1; omega
  have hc0 : 0 < c.length := by
    rcases Nat.eq_zero_or_pos c.length with h0 | h0
    · rw [List.eq_nil_of_length_eq_zero h0] at hv
      have : 0 = N := hv
      omega
    · exact h0
  have hw : IntKind.wrap .i64 (((stp 0 c).length : Int) - 1) = (((stp 0 c).length - 1 : Nat) : Int) := by rw [wrapI (by omega) (by omega)]; omega
  have hlast : rdk kint (stp 0 c) (((stp 0 c).length - 1 : Nat) : Int) = N := by
    have hi : (stp 0 c).length - 1 < (stp 0 c).length := by omega
    rw [rdk_get (k := kint) hi, stp_get c 0 _ hi hpos, show (stp 0 c).length - 1 + 1 = c.length from by omega, List.take_length, vd_sm G c 0 hv]
  rw [w_FnClimbsRanked_u7, w_FnClimbsRanked_t7, show (((stp 0 c).length : Int) != (c.length : Int)) = false from (by rw [hs]; exact bne_self_eq_false _), lRises_eq (by omega) (fun i hi => by
    rw [stp_get c 0 i (by omega) hpos, stp_get c 0 (i + 1) hi hpos]
    have hi' : i + 1 < c.length := by omega
    rw [List.take_succ_eq_append_getElem hi', sm_append, sm, sm]
    have := (G.db _ (hm c[i + 1] (List.getElem_mem hi'))).1
    omega)]
  simp only [Option.bind_some, cond_true, cond_false, Bool.not_true]
  rw [hw, hlast, decide_eq_true (Int.natCast_nonneg _), decide_eq_true (show (((stp 0 c).length - 1 : Nat) : Int) < ((stp 0 c).length : Int) by omega), bne_self_eq_false]
  exact hr10 G hv
end
theorem hr4 {more : List Int} (hm : Bytes more) : w_FnClimbsRanked_L4 more = some true := by
  obtain ⟨dr, hd1, hd2⟩ := drawRoc_ok hm
  obtain ⟨ds, hd3, _⟩ := drawCbs_ok hm
  obtain ⟨⟨a, D, B⟩, c⟩ := dr
  obtain ⟨⟨a', D', B'⟩, m⟩ := ds
  have hc : c.length ≤ 10000 := by have : c.length ≤ 61 := hd2; omega
  obtain ⟨rr, is, st, nx, h1, h2, h3, h4, h5, h6, h7, h8, k1, k2, k3, k4, k5⟩ := t_all a D B c hc
  obtain ⟨r, g1, g2⟩ := cbs_both a' D' B' m
  have hb : ∀ b : Bool, (!b == b) = false := by decide
  have h67 : ∀ e : Bool, (e = true → st.2 = true ∧ i_ClimbOfRank a D B rr.1 = some (c, true)) → w_FnClimbsRanked_L6 a c st.1 D B rr.1 e st.2 = some true := by
    intro e he
    have h7' : w_FnClimbsRanked_L7 a c st.1 D B st.2 = some true := by
      cases hs : st.2
      · rw [w_FnClimbsRanked_u7, w_FnClimbsRanked_t7]; exact hr8
      · obtain ⟨N, rfl, G, hv, e⟩ := k3 hs
        rw [e]; exact hr7 G hv
    rw [w_FnClimbsRanked_u6, w_FnClimbsRanked_t6]
    cases e
    · exact h7'
    · rw [(he rfl).2]
      simp only [cond_true, Option.bind_some, Bool.not_true, cond_false]
      rw [lSame_refl (by omega)]
      exact h7'
  rw [w_FnClimbsRanked_u4, w_FnClimbsRanked_t4, hd1, hd3]
  simp only [Option.bind_some]
  rw [h1, h2, h3, h4, h5, h6, h7, h8, g1, g2]
  simp only [Option.bind_some]
  rw [lSame_refl (by omega), lSame_refl (by omega)]
  simp only [Option.bind_some, hb, bne_self_eq_false, cond_false, Bool.not_true]
  have hx := h67 rr.2 k2
  cases hi : is.2
  · rw [hi] at k1
    have k1 : st.2 = false := k1
    rw [k1] at hx ⊢
    cases hr : rr.2
    · rw [hr] at hx; exact hx
    · have := (k2 hr).1; rw [k1] at this; cases this
  · rw [hi] at k1
    have k1 : st.2 = is.1 := k1
    rw [k1] at hx k2 ⊢
    cases hr : rr.2
    · rw [hr] at hx
      simp only [hb, cond_true, cond_false]; exact hx
    · have h9 := (k2 hr).1
      rw [hr] at hx
      simp only [hb, cond_true, cond_false]
      rw [h9] at hx ⊢
      exact hx
section
variable {N : Nat} {D B : List Int}
noncomputable def fv (x : Int) : Int := (bif decide (x < 0) then ((0 : Int), false) else (x, true)).1
theorem hr9 (G : GoodS N D B) (hc : U N D B 0 ≤ 1000000000000000) {more : List Int} (hm : Bytes more) : ∀ (e k : Nat), k + e = N + 1 →
    w_FnClimbsRanked_L9 more (N : Int) D B (U N D B 0) (decide (0 < U N D B 0)) (fv (few N D B)) (fv (most N D B)) true (U N D B 0) true (sr k (byS N D B)) (k : Int) = some true
  | 0, k, h => by
    obtain rfl : k = N + 1 := by omega
    rw [w_FnClimbsRanked_u9, w_FnClimbsRanked_t9, decide_eq_false (show ¬ ((N + 1 : Nat) : Int) ≤ N by omega), bne_self_eq_false, show sr (N + 1) (byS N D B) = U N D B 0 from byS_sum G, bne_self_eq_false]
    exact hr4 hm
  | e + 1, k, h => by
    have hN := G.n2
    obtain ⟨f1, f2, f3, f4, f5, f6⟩ := byS_facts G (k := k)
    have f2 := f2 (by omega)
    have hs0 : 0 ≤ sr k (byS N D B) := sr_nonneg fun j _ => (byS_facts G).1
    have hs1 : sr (k + 1) (byS N D B) ≤ U N D B 0 := by
      have : ∀ n, sr (k + 1) (byS N D B) ≤ sr (k + 1 + n) (byS N D B) := by
        intro n
        induction n with
        | zero => exact Int.le_refl _
        | succ n ih => have e := sr_succ (k + 1 + n) (byS N D B); have := (byS_facts G (k := k + 1 + n)).1; rw [show k + 1 + (n + 1) = k + 1 + n + 1 from by omega]; omega
      have h2 := this (N + 1 - (k + 1))
      rw [show k + 1 + (N + 1 - (k + 1)) = N + 1 from by omega, show sr (N + 1) (byS N D B) = U N D B 0 from byS_sum G] at h2
      exact h2
    rw [sr_succ] at hs1
    have ih := hr9 G hc hm e (k + 1) (by omega)
    have h5 : w_FnClimbsRanked_L5 more (N : Int) D B (U N D B 0) (decide (0 < U N D B 0)) (fv (few N D B)) (fv (most N D B)) true (U N D B 0) true (sr k (byS N D B)) (k : Int) (byS N D B k) = some true := by
      rw [w_FnClimbsRanked_u5, w_FnClimbsRanked_t5, wrapI (n := sr k (byS N D B) + byS N D B k) (by omega) (by omega), wrapI (n := (k : Int) + 1) (by omega) (by omega)]
      rw [sr_succ] at ih
      exact ih
    rw [w_FnClimbsRanked_u9, w_FnClimbsRanked_t9, decide_eq_true (show (k : Int) ≤ N by omega), iCbs_good G hc (show k ≤ N by omega)]
    simp only [Option.bind_some, cond_true, cond_false, Bool.not_true]
    rw [decide_eq_false (show ¬ byS N D B k < 0 by omega), h5]
    by_cases hu : 0 < U N D B 0
    · obtain ⟨q1, q2⟩ := few_U G
      have q1 := q1.1 hu
      have q2 := q2.1 hu
      have e1 : fv (few N D B) = few N D B := by unfold fv; rw [decide_eq_false (show ¬ few N D B < 0 by omega)]; rfl
      have e2 : fv (most N D B) = most N D B := by unfold fv; rw [decide_eq_false (show ¬ most N D B < 0 by omega)]; rfl
      rw [decide_eq_true hu, e1, e2]
      have x1 : (k : Int) = few N D B → decide (byS N D B k < 1) = false := fun h => decide_eq_false (by have := f5 h; omega)
      have x2 : (k : Int) = most N D B → decide (byS N D B k < 1) = false := fun h => decide_eq_false (by have := f6 h; omega)
      by_cases c1 : (k : Int) < few N D B
      · rw [decide_eq_true c1, show (byS N D B k != 0) = false from (by rw [f3 c1]; rfl), show ((k : Int) == few N D B) = false from (by rw [beq_eq_false_iff_ne]; omega), show ((k : Int) == most N D B) = false from (by rw [beq_eq_false_iff_ne]; have := (few_most G q1).2; omega)]
        rfl
      · rw [decide_eq_false c1]
        by_cases c2 : (k : Int) > most N D B
        · rw [decide_eq_true c2, show (byS N D B k != 0) = false from (by rw [f4 q2 c2]; rfl), show ((k : Int) == few N D B) = false from (by rw [beq_eq_false_iff_ne]; have := (few_most G q1).2; omega), show ((k : Int) == most N D B) = false from (by rw [beq_eq_false_iff_ne]; omega)]
          rfl
        · rw [decide_eq_false c2]
          by_cases c3 : (k : Int) = few N D B
          · rw [beq_iff_eq.2 c3, x1 c3]; rfl
          · rw [beq_eq_false_iff_ne.2 c3]
            by_cases c4 : (k : Int) = most N D B
            · rw [beq_iff_eq.2 c4, x2 c4]; rfl
            · rw [beq_eq_false_iff_ne.2 c4]; rfl
    · rw [decide_eq_false hu]; rfl
theorem hr3 (G : GoodS N D B) {more : List Int} (hm : Bytes more) :
    w_FnClimbsRanked_L3 more (N : Int) D B (bif cntB N D B then (U N D B 0, true) else (0, false)).1 (bif cntB N D B then (U N D B 0, true) else (0, false)).2 (decide (0 < U N D B 0)) (fv (few N D B)) (fv (most N D B)) = some true := by
  rw [w_FnClimbsRanked_u3, w_FnClimbsRanked_t3]
  by_cases hc : U N D B 0 ≤ 1000000000000000
  · obtain ⟨h1, h2⟩ := CountTurned G hc
    rw [show cntB N D B = true from decide_eq_true hc]
    simp only [cond_true]
    rw [h1, h2]
    exact hr9 G hc hm (N + 1) 0 (by omega)
  · rw [show cntB N D B = false from decide_eq_false hc]
    exact hr4 hm
theorem isC_good (G : GoodS N D B) {c : List Int} (h : Vd N D B 0 c) : i_IsClimb (N : Int) D B c = some (true, true) := by
  unfold i_IsClimb
  rw [i_AreStairs_eq, good_of G, (isC_eq G (c := c) (by have := (vd_few G h).2.2.2; omega)).1, (vd_iff c 0).2 h]; rfl
theorem hr2 (G : GoodS N D B) {more : List Int} (hm : Bytes more) :
    w_FnClimbsRanked_L2 more (N : Int) (fcl N D B).1 (ffn N D B).1 D B (bif cntB N D B then (U N D B 0, true) else (0, false)).1 (bif cntB N D B then (U N D B 0, true) else (0, false)).2 (decide (0 < U N D B 0)) (fv (few N D B)) (fv (most N D B)) = some true := by
  rw [w_FnClimbsRanked_u2, w_FnClimbsRanked_t2, hr3 G hm]
  by_cases hu : 0 < U N D B 0
  · obtain ⟨q1, q2⟩ := few_U G
    have q1 := q1.1 hu
    have q2 := q2.1 hu
    have e1 : fv (few N D B) = few N D B := by unfold fv; rw [decide_eq_false (show ¬ few N D B < 0 by omega)]; rfl
    have e2 : fv (most N D B) = most N D B := by unfold fv; rw [decide_eq_false (show ¬ most N D B < 0 by omega)]; rfl
    obtain ⟨v1, _⟩ := ofR_vd G N 0 0 (by omega) (by omega) (Int.le_refl _) hu
    obtain ⟨v2, v3⟩ := ffw_vd G N 0 (by omega) (by omega) (show 0 ≤ LF N D B false 0 from q1)
    obtain ⟨g1, g2⟩ := few_most G q1
    have x1 : (fcl N D B).1 = ofR N D B N 0 0 := by unfold fcl; rw [if_pos hu]
    have x2 : (ffn N D B).1 = ffw N D B N 0 := by unfold ffn; rw [if_neg (by omega)]
    rw [decide_eq_true hu, e1, e2, x1, x2, isC_good G v1, isC_good G v2]
    simp only [Option.bind_some, cond_true, cond_false, Bool.not_true]
    rw [show (((ffw N D B N 0).length : Int) != few N D B) = false from (by rw [v3]; exact bne_self_eq_false _), decide_eq_false (show ¬ few N D B > most N D B by omega), decide_eq_false (show ¬ few N D B < 1 by omega)]
    rfl
  · rw [decide_eq_false hu]; rfl
theorem hr1 (G : GoodS N D B) (r : Int) {more : List Int} (hm : Bytes more) :
    w_FnClimbsRanked_L1 more (N : Int) (cor N D B r).1 (fcl N D B).1 (ffn N D B).1 D B r (cor N D B r).2 (bif cntB N D B then (U N D B 0, true) else (0, false)).1 (bif cntB N D B then (U N D B 0, true) else (0, false)).2 (decide (0 < U N D B 0)) (fv (few N D B)) (fv (most N D B)) = some true := by
  rw [w_FnClimbsRanked_u1, w_FnClimbsRanked_t1, hr2 G hm]
  by_cases hok : U N D B 0 ≤ 1000000000000000 ∧ 0 ≤ r ∧ r < U N D B 0
  · obtain ⟨hc, h0, h1⟩ := id hok
    have hu : 0 < U N D B 0 := by omega
    obtain ⟨v1, v2⟩ := ofR_vd G N 0 r (by omega) (by omega) h0 h1
    obtain ⟨w1, w2⟩ := ofR_vd G N 0 0 (by omega) (by omega) (Int.le_refl _) hu
    obtain ⟨l1, l2, l3, l4⟩ := vd_few G v1
    obtain ⟨_, _, _, l5⟩ := vd_few G w1
    have e1 : fv (few N D B) = few N D B := by unfold fv; rw [decide_eq_false (show ¬ few N D B < 0 by omega)]; rfl
    have e2 : fv (most N D B) = most N D B := by unfold fv; rw [decide_eq_false (show ¬ most N D B < 0 by omega)]; rfl
    have x1 : (fcl N D B).1 = ofR N D B N 0 0 := by unfold fcl; rw [if_pos hu]
    have x2 : cor N D B r = (ofR N D B N 0 r, true) := by unfold cor; rw [if_pos hok]
    have hcnt : cntB N D B = true := decide_eq_true hc
    have x3 : ror N D B (ofR N D B N 0 r) = (r, true) := by unfold ror; rw [hcnt, (vd_iff _ 0).2 v1, v2]; rfl
    have x4 : nxc N D B (ofR N D B N 0 r) = cor N D B (r + 1) := by unfold nxc; rw [x3, v2]; rfl
    rw [e1, e2, x1, x2, isC_good G v1, iRor_eq G (c := ofR N D B N 0 r) (by omega), (nxc_both G (c := ofR N D B N 0 r) (by omega)).1, x3, x4, hcnt]
    simp only [Option.bind_some, cond_true, cond_false, Bool.not_true, bne_self_eq_false]
    rw [lBef_eq (by omega), bef_rk G _ _ 0 (brk_no G).1 w1 v1 (by omega), decide_eq_false (show ¬ ((ofR N D B N 0 r).length : Int) < few N D B by omega), decide_eq_false (show ¬ ((ofR N D B N 0 r).length : Int) > most N D B by omega), wrapI (n := r + 1) (by omega) (by omega)]
    simp only [Option.bind_some, cond_true, cond_false, Bool.not_true]
    by_cases c1 : r + 1 < U N D B 0
    · obtain ⟨z1, z2⟩ := ofR_vd G N 0 (r + 1) (by omega) (by omega) (by omega) c1
      rw [show cor N D B (r + 1) = (ofR N D B N 0 (r + 1), true) from (by unfold cor; rw [if_pos ⟨hc, by omega, c1⟩]), decide_eq_true c1]
      simp only [Bool.not_true, cond_true]
      rw [lBef_eq (by omega), bef_rk G _ _ 0 (brk_no G).1 v1 z1 (by omega), lSame_eq (by omega), decide_eq_false (fun h => by rw [h, z2] at v2; omega)]
      rfl
    · rw [show cor N D B (r + 1) = ([], false) from (by unfold cor; rw [if_neg (by omega)]), decide_eq_false c1]
      rfl
  · rw [show cor N D B r = ([], false) from (by unfold cor; rw [if_neg hok])]
    rfl
end
theorem pure_FnClimbsRanked (code : List Int) (hco : Wf kSuint8 code) (more : List Int) (hmo : Wf kSuint8 more) : F_w_FnClimbsRanked (code, more, ()) = some true := by
  show w_FnClimbsRanked code more = some true
  have hm := bytes_wf hmo
  obtain ⟨ds, hd1, _⟩ := drawCor_ok (bytes_wf hco)
  obtain ⟨s, r⟩ := ds
  unfold w_FnClimbsRanked w_FnClimbsRanked_t0
  have hb : ∀ b : Bool, (!b == b) = false := by decide
  cases w_big code more
  · rw [hd1, cond_false, Option.bind_some]
    show Option.bind (i_ClimbOfRank s.1 s.2.1 s.2.2 r) _ = some true
    cases hg : s_clGood s.1 s.2.1 s.2.2
    · obtain ⟨h1, h2, h3, h4, h5, h6, h7, h8, h9, h10, h11, h12⟩ := s_bad hg r
      have h20 := hr4 hm
      have hL : w_FnClimbsRanked_L1 more s.1 [] [] [] s.2.1 s.2.2 r false 0 false false 0 0 = some true := by
        rw [w_FnClimbsRanked_u1, w_FnClimbsRanked_t1, w_FnClimbsRanked_u2, w_FnClimbsRanked_t2, w_FnClimbsRanked_u3, w_FnClimbsRanked_t3, h20]
        rfl
      rw [h1, h2, h3, h4, h5, h6, h7, h8, h9, h10, h11, h12]
      simp only [Option.bind_some]
      rw [lSame_refl (a := []) (by simp)]
      simp only [Option.bind_some, cond_true, cond_false, Bool.not_true, bne_self_eq_false, hb, hL]
    · obtain ⟨N, hN, G⟩ := goodS_of hg
      rw [hN]
      have h1 := hr1 G r hm
      obtain ⟨c1, c2⟩ := CountClimbs_eq G
      have l1 := cor_len G r
      have l2 : (fcl N s.2.1 s.2.2).1.length ≤ 60 := by
        unfold fcl
        by_cases hu : 0 < U N s.2.1 s.2.2 0
        · rw [if_pos hu]; exact (vd_few G (ofR_vd G N 0 0 (by omega) (by omega) (Int.le_refl _) hu).1).2.2.2
        · rw [if_neg hu]; simp
      have l3 : (ffn N s.2.1 s.2.2).1.length ≤ 60 := by
        unfold ffn
        by_cases hu : few N s.2.1 s.2.2 < 0
        · rw [if_pos hu]; simp
        · rw [if_neg hu]; exact (vd_few G (ffw_vd G N 0 (by omega) (by omega) (show 0 ≤ LF N s.2.1 s.2.2 false 0 by unfold few at hu; omega)).1).2.2.2
      rw [iCor_eq G, sCor_eq G, c1, c2, iFcl_eq G, sFcl_eq G, iFew_eq G, sFew_eq G, iMost_eq G, sMost_eq G, iFfn_eq G, sFfn_eq G, Option.bind_some, Option.bind_some, Option.bind_some, Option.bind_some, Option.bind_some, Option.bind_some, Option.bind_some, Option.bind_some, Option.bind_some, Option.bind_some, Option.bind_some, Option.bind_some,
        lSame_refl (by omega), lSame_refl (by omega), lSame_refl (by omega)]
      have f2 : (fcl N s.2.1 s.2.2).2 = decide (0 < U N s.2.1 s.2.2 0) := by
        unfold fcl
        by_cases hu : 0 < U N s.2.1 s.2.2 0
        · rw [if_pos hu, decide_eq_true hu]
        · rw [if_neg hu, decide_eq_false hu]
      have f3 : (bif decide (few N s.2.1 s.2.2 < 0) then ((0 : Int), false) else (few N s.2.1 s.2.2, true)).2 = decide (0 < U N s.2.1 s.2.2 0) := by
        by_cases hu : 0 < U N s.2.1 s.2.2 0
        · have := (few_U G).1.1 hu; rw [decide_eq_true hu, decide_eq_false (by omega)]; rfl
        · have : few N s.2.1 s.2.2 < 0 := by have := (few_U G).1; omega
          rw [decide_eq_false hu, decide_eq_true this]; rfl
      have f4 : (bif decide (most N s.2.1 s.2.2 < 0) then ((0 : Int), false) else (most N s.2.1 s.2.2, true)).2 = decide (0 < U N s.2.1 s.2.2 0) := by
        by_cases hu : 0 < U N s.2.1 s.2.2 0
        · have := (few_U G).2.1 hu; rw [decide_eq_true hu, decide_eq_false (by omega)]; rfl
        · have : most N s.2.1 s.2.2 < 0 := by have := (few_U G).2; omega
          rw [decide_eq_false hu, decide_eq_true this]; rfl
      have f5 : (ffn N s.2.1 s.2.2).2 = decide (0 < U N s.2.1 s.2.2 0) := by
        unfold ffn
        by_cases hu : 0 < U N s.2.1 s.2.2 0
        · have := (few_U G).1.1 hu; rw [decide_eq_true hu, if_neg (by omega)]
        · have : few N s.2.1 s.2.2 < 0 := by have := (few_U G).1; omega
          rw [decide_eq_false hu, if_pos this]
      have f6 : (cor N s.2.1 s.2.2 r).2 = (cntB N s.2.1 s.2.2 && (decide (r ≥ 0) && decide (r < U N s.2.1 s.2.2 0))) := by
        unfold cor cntB
        by_cases hu : U N s.2.1 s.2.2 0 ≤ 1000000000000000 ∧ 0 ≤ r ∧ r < U N s.2.1 s.2.2 0
        · rw [if_pos hu, decide_eq_true hu.1, decide_eq_true hu.2.1, decide_eq_true hu.2.2]; rfl
        · rw [if_neg hu]; symm
          rw [Bool.eq_false_iff]
          intro h
          simp only [Bool.and_eq_true, decide_eq_true_iff] at h
          exact hu h
      simp only [Option.bind_some, cond_true, cond_false, Bool.not_true, bne_self_eq_false, hb]
      rw [f2, f3, f4, f5]
      rw [f6] at h1
      rw [f6]
      show (bif (bif cntB N s.2.1 s.2.2 then (U N s.2.1 s.2.2 0, true) else ((0 : Int), false)).2 then _ else _) = some true
      unfold fv at h1
      cases hc : cntB N s.2.1 s.2.2
      · rw [hc] at h1
        simp only [cond_false, Bool.false_and, hb] at h1 ⊢
        exact h1
      · rw [hc] at h1
        cases h2 : decide (r ≥ 0)
        · rw [h2] at h1
          simp only [cond_true, cond_false, Bool.false_and, Bool.and_false, hb] at h1 ⊢
          exact h1
        · rw [h2] at h1
          simp only [cond_true, cond_false, Bool.true_and, hb] at h1 ⊢
          exact h1
  · rfl
end Go.Proofs.Ythenlapjhlljnaa.V
