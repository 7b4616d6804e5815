/- The plain law of FnStairsGuessed: the plain function answers true. No condition. -/
import Derived.Test.YtoldoplpnkojdaaGreatDoorK5h
set_option linter.unusedVariables false
set_option linter.unusedSimpArgs false
set_option maxRecDepth 100000
namespace Go.Proofs.YtoldoplpnkojdaaGreatDoor.V
open Go Go.Ev Go.Proofs
theorem gu2 {more : List Int} (ht : Bytes more) : w_FnStairsGuessed_L2 more = some true := by
  rw [w_FnStairsGuessed_u2, w_FnStairsGuessed_t2]
  obtain ⟨t, e, hz⟩ := drawParse_ok ht
  obtain ⟨l, f, h1, h2, hl, hf, -⟩ := ParsePuzzle_full (t := t) (by omega)
  rw [e, Option.bind_some, h1, h2]
  simp only [Option.bind_some]
  rw [wPuzzle_self (by omega), (PuzzleText_two l).2]
  cases hh : f
  · rfl
  · obtain ⟨g1, g2⟩ := hf hh
    rw [ptN_of g1 g2]
    simp
section
variable {p : List (Int × Int × Int)} {more : List Int} (hg : s_pzGood_n p = true) (ht : Bytes more) {bst : Int} (hb : 0 < p.length → 0 ≤ bst ∧ bst < p.length)
include hg ht hb
theorem gu9 : w_FnStairsGuessed_L9 more (numF (idle p) 0 p.length) (leftL p 0 (p.length + 1)) p ((pzSol p).length : Int) bst (ptN p).1 (p.length : Int) 0 = some true := by
  have hl := s_pzGood_len hg
  refine drop_ind p (fun i l => w_FnStairsGuessed_L9 more (numF (idle p) 0 p.length) (leftL p 0 (p.length + 1)) p ((pzSol p).length : Int) bst (ptN p).1 (p.length : Int) (i : Int) = some true) ?_ (fun i hi ih => ?_)
  · have : ¬ ((p.length : Int) < p.length) := by omega
    rw [w_FnStairsGuessed_u9, w_FnStairsGuessed_t9, decide_eq_false this, cond_false]
    obtain ⟨l, f, h1, h2, h3, h4, h5⟩ := ParsePuzzle_full (t := (ptN p).1) (pz_bd6 hg)
    obtain ⟨rfl, rfl⟩ := h5 p hg (ptN_back hg)
    rw [h1, gu2 ht]
    simp only [Option.bind_some]
    rw [wPuzzle_self (by omega)]; rfl
  · have c1 : decide ((i : Int) < p.length) = true := decide_eq_true (by omega)
    have hw : IntKind.wrap .i64 ((i : Int) + 1) = ((i + 1 : Nat) : Int) := by rw [wrapI (by omega) (by omega)]; omega
    have hll := leftL_len p 0 (p.length + 1)
    have e1 : i_CountSolutions (woP p i) = some (((pzSol (woP p i)).length : Int), true) := by
      rw [i_CountSolutions_eq]; unfold countN; rw [woP_good hg]; rfl
    have e2 : w_wHas (numF (idle p) 0 p.length) (i : Int) = some (idle p i) := by
      rw [wHas_eq (by have := numF_len (idle p) 0 p.length; omega)]
      congr 1
      rw [Bool.eq_iff_iff, decide_eq_true_eq, numF_nat]
      exact ⟨fun h => h.2, fun h => ⟨by omega, h⟩⟩
    have e3 : (idle p i == (((pzSol (woP p i)).length : Int) == ((pzSol p).length : Int))) = true := by
      rw [beq_iff_eq]
      unfold idle
      rw [Bool.eq_iff_iff, beq_iff_eq, beq_iff_eq]; omega
    have hle : (pzSol (p.take (i + 1))).length ≤ (pzSol (p.take i)).length := pzSol_anti fun c hc => List.take_subset_take_left p (by omega) hc
    have c2 : ¬ (((pzSol (p.take (i + 1))).length : Int) > ((pzSol (p.take i)).length : Int)) := by omega
    obtain ⟨b1, b2⟩ := hb (by omega)
    rw [w_FnStairsGuessed_u9, w_FnStairsGuessed_t9, c1, DropClue_wo hg hi, hw, e1, e2, hll, leftL_get p _ _ (by omega), leftL_get p _ _ (by omega), decide_eq_true (Int.natCast_nonneg i), decide_eq_true (Int.natCast_nonneg (i + 1)),
      decide_eq_true (show ((i + 1 : Nat) : Int) < ((p.length + 1 : Nat) : Int) by omega), decide_eq_true (show (i : Int) < ((p.length + 1 : Nat) : Int) by omega), decide_eq_false c2, decide_eq_false (show ¬ bst < 0 by omega), decide_eq_false (show ¬ bst ≥ (p.length : Int) by omega)]
    simp only [Option.bind_some, e3, cond_true, cond_false, Bool.not_true]
    exact ih
variable {H K : List Int} (h1 : ∀ x, x ∈ H → ∀ s, s ∈ pzSol p → x ∈ s.2.1) (h2 : ∀ x, x ∈ K → ∀ s, s ∈ pzSol p → x ∉ s.2.1) (hH : H.length ≤ 3) (hK : K.length ≤ 3)
include h1 h2 hH hK
theorem gu5 : w_FnStairsGuessed_L5 more (pzSol p) H K (numF (idle p) 0 p.length) (leftL p 0 (p.length + 1)) p ((pzSol p).length : Int) bst (ptN p).1 ((pzSol p).length : Int) 0 = some true := by
  have hl := s_pzGood_len hg
  have hsl := pzSol_len p
  refine drop_ind (pzSol p) (fun i l => w_FnStairsGuessed_L5 more (pzSol p) H K (numF (idle p) 0 p.length) (leftL p 0 (p.length + 1)) p ((pzSol p).length : Int) bst (ptN p).1 ((pzSol p).length : Int) (i : Int) = some true) ?_ (fun i hi ih => ?_)
  · have : ¬ (((pzSol p).length : Int) < (pzSol p).length) := by omega
    rw [w_FnStairsGuessed_u5, w_FnStairsGuessed_t5, decide_eq_false this, cond_false]
    exact gu9 hg ht hb
  · have hs := List.getElem_mem hi
    obtain ⟨k1, k2, k3⟩ := sol_ok hs
    have hw : IntKind.wrap .i64 ((i : Int) + 1) = ((i + 1 : Nat) : Int) := by rw [wrapI (by omega) (by omega)]; omega
    have e8 : w_FnStairsGuessed_L8 more (pzSol p) H K (numF (idle p) 0 p.length) (leftL p 0 (p.length + 1)) (pzSol p)[i].1 p (pzSol p)[i].2.1 (pzSol p)[i].2.2 ((pzSol p).length : Int) bst (ptN p).1 ((pzSol p).length : Int) (i : Int) (p.length : Int) 0 = some true := by
      refine drop_ind p (fun j l => w_FnStairsGuessed_L8 more (pzSol p) H K (numF (idle p) 0 p.length) (leftL p 0 (p.length + 1)) (pzSol p)[i].1 p (pzSol p)[i].2.1 (pzSol p)[i].2.2 ((pzSol p).length : Int) bst (ptN p).1 ((pzSol p).length : Int) (i : Int) (p.length : Int) (j : Int) = some true) ?_ (fun j hj jh => ?_)
      · have : ¬ ((p.length : Int) < p.length) := by omega
        rw [w_FnStairsGuessed_u8, w_FnStairsGuessed_t8, decide_eq_false this, cond_false, hw]
        exact ih
      · have hwj : IntKind.wrap .i64 ((j : Int) + 1) = ((j + 1 : Nat) : Int) := by rw [wrapI (by omega) (by omega)]; omega
        rw [w_FnStairsGuessed_u8, w_FnStairsGuessed_t8, decide_eq_true (show (j : Int) < p.length by omega), decide_eq_true (Int.natCast_nonneg j), rdk_get (k := kClue) hj, sol_fits hg hs (List.getElem_mem hj), hwj]
        exact jh
    have e7 : w_FnStairsGuessed_L7 more (pzSol p) H K (numF (idle p) 0 p.length) (leftL p 0 (p.length + 1)) (pzSol p)[i].1 p (pzSol p)[i].2.1 (pzSol p)[i].2.2 ((pzSol p).length : Int) bst (ptN p).1 ((pzSol p).length : Int) (i : Int) (K.length : Int) 0 = some true := by
      refine drop_ind K (fun j l => w_FnStairsGuessed_L7 more (pzSol p) H K (numF (idle p) 0 p.length) (leftL p 0 (p.length + 1)) (pzSol p)[i].1 p (pzSol p)[i].2.1 (pzSol p)[i].2.2 ((pzSol p).length : Int) bst (ptN p).1 ((pzSol p).length : Int) (i : Int) (K.length : Int) (j : Int) = some true) ?_ (fun j hj jh => ?_)
      · have : ¬ ((K.length : Int) < K.length) := by omega
        rw [w_FnStairsGuessed_u7, w_FnStairsGuessed_t7, decide_eq_false this, cond_false]
        exact e8
      · have hwj : IntKind.wrap .i64 ((j : Int) + 1) = ((j + 1 : Nat) : Int) := by rw [wrapI (by omega) (by omega)]; omega
        rw [w_FnStairsGuessed_u7, w_FnStairsGuessed_t7, decide_eq_true (show (j : Int) < K.length by omega), decide_eq_true (Int.natCast_nonneg j), rdk_get (k := kint) hj, wHas_eq (by omega), decide_eq_false (h2 _ (List.getElem_mem hj) _ hs), hwj]
        exact jh
    have e6 : w_FnStairsGuessed_L6 more (pzSol p) H K (numF (idle p) 0 p.length) (leftL p 0 (p.length + 1)) (pzSol p)[i].1 p (pzSol p)[i].2.1 (pzSol p)[i].2.2 ((pzSol p).length : Int) bst (ptN p).1 ((pzSol p).length : Int) (i : Int) (H.length : Int) 0 = some true := by
      refine drop_ind H (fun j l => w_FnStairsGuessed_L6 more (pzSol p) H K (numF (idle p) 0 p.length) (leftL p 0 (p.length + 1)) (pzSol p)[i].1 p (pzSol p)[i].2.1 (pzSol p)[i].2.2 ((pzSol p).length : Int) bst (ptN p).1 ((pzSol p).length : Int) (i : Int) (H.length : Int) (j : Int) = some true) ?_ (fun j hj jh => ?_)
      · have : ¬ ((H.length : Int) < H.length) := by omega
        rw [w_FnStairsGuessed_u6, w_FnStairsGuessed_t6, decide_eq_false this, cond_false]
        exact e7
      · have hwj : IntKind.wrap .i64 ((j : Int) + 1) = ((j + 1 : Nat) : Int) := by rw [wrapI (by omega) (by omega)]; omega
        rw [w_FnStairsGuessed_u6, w_FnStairsGuessed_t6, decide_eq_true (show (j : Int) < H.length by omega), decide_eq_true (Int.natCast_nonneg j), rdk_get (k := kint) hj, wHas_eq (by omega), decide_eq_true (h1 _ (List.getElem_mem hj) _ hs), hwj]
        exact jh
    have e4 : w_FnStairsGuessed_L4 more (pzSol p) H K (numF (idle p) 0 p.length) (leftL p 0 (p.length + 1)) (pzSol p)[i].1 p (pzSol p)[i].2.1 (pzSol p)[i].2.2 ((pzSol p).length : Int) bst (ptN p).1 ((pzSol p).length : Int) (i : Int) = some true := by
      rw [w_FnStairsGuessed_u4, w_FnStairsGuessed_t4]
      exact e6
    rw [w_FnStairsGuessed_u5, w_FnStairsGuessed_t5, decide_eq_true (show (i : Int) < (pzSol p).length by omega), decide_eq_true (Int.natCast_nonneg i), rdk_get (k := kStairs) hi, k1, decide_eq_false (show ¬ ((pzSol p)[i].1 > 7) by omega)]
    simp only [cond_true, cond_false, Bool.not_true]
    rcases Nat.eq_zero_or_pos i with h0 | h0
    · subst h0
      exact e4
    · obtain ⟨j, rfl⟩ : ∃ j, i = j + 1 := ⟨i - 1, by omega⟩
      have hwp : IntKind.wrap .i64 (((j + 1 : Nat) : Int) - 1) = (j : Int) := by rw [wrapI (by omega) (by omega)]; omega
      have hup := sol_up hi
      have hj : j < (pzSol p).length := by omega
      rw [hwp, rdk_get (k := kStairs) hj, decide_eq_true (show ((j + 1 : Nat) : Int) > 0 by omega), decide_eq_true (Int.natCast_nonneg j), decide_eq_true (show (j : Int) < (pzSol p).length by omega), decide_eq_false (show ¬ ((pzSol p)[j].1 > (pzSol p)[j + 1].1) by omega)]
      exact e4
end
theorem IsPuzzle_s (p : List (Int × Int × Int)) : s_IsPuzzle p = s_pzGood_n p := rfl
theorem pure_FnStairsGuessed (code : List Int) (w0 : Wf kSuint8 code) (more : List Int) (w1 : Wf kSuint8 more) : F_w_FnStairsGuessed (code, more, ()) = some true := by
  show w_FnStairsGuessed code more = some true
  unfold w_FnStairsGuessed w_FnStairsGuessed_t0
  cases w_big code more
  · have ht := bytes_wf w1
    obtain ⟨p, hp, hpl⟩ := drawSol_ok (bytes_wf w0)
    rw [hp, Option.bind_some, cond_false]
    obtain ⟨f, fo, F⟩ := firstOf p
    obtain ⟨a, b, so, S⟩ := sureOf p
    obtain ⟨r, r1, r2, r3, r4⟩ := BestClue_full p
    rw [i_Solutions_eq, s_Solutions_eq, i_CountSolutions_eq, s_CountSolutions_eq, F.i, F.s, S.i, S.s, (IsSolved_two p).1, (IsSolved_two p).2, (NeedlessClues_eq p).1, (NeedlessClues_eq p).2, (LeftByClues_eq p).1, (LeftByClues_eq p).2, r1, r2, (PuzzleText_two p).1, (PuzzleText_two p).2, IsPuzzle_eq, IsPuzzle_s]
    unfold solN countN needN leftN ptN
    cases hg : s_pzGood_n p
    · have fo' : fo = false := by rw [F.okv, hg]; rfl
      have so' : so = false := by rw [S.okv, hg]; rfl
      have ro' : r.2 = false := by rw [r3, hg]; rfl
      have g1 : ∀ (r1 : List (Int × List Int × List Int)) (b2 : Int) (r3 r4 r5 r6 : List Int) (r7 : List (Int × Int × Int)) (r8 r9 : List Int) (c9 : Int) (b14 b23 : Bool) (b35 : Int) (t39 : ByteArray), w_FnStairsGuessed_L1 more r1 b2 r3 r4 r5 r6 r7 r8 r9 false c9 b14 b23 b35 t39 = some true := by
        intros
        rw [w_FnStairsGuessed_u1, w_FnStairsGuessed_t1, gu2 ht]; rfl
      have hL : w_wLists [] [] = some true := wLists_self (by simp) (fun s hs => absurd hs List.not_mem_nil)
      have hS : w_wSame [] [] = some true := wSame_self (by simp)
      simp only [Option.bind_some, cond_false, Bool.false_and, hL, hS, F.same, S.same.1, S.same.2, fo', so', ro', g1]
      simp
    · have hl := s_pzGood_len hg
      have hll := leftL_len p 0 (p.length + 1)
      have hL := sol_same p
      have hN := same_num (idle p) 0 p.length (by omega)
      have hF : w_wSame (leftL p 0 (p.length + 1)) (leftL p 0 (p.length + 1)) = some true := wSame_self (by omega)
      have fo' : fo = decide (((pzSol p).length : Int) > 0) := by rw [F.okv, hg]; rfl
      have so' : so = decide (((pzSol p).length : Int) > 0) := by rw [S.okv, hg]; rfl
      have ro' : r.2 = decide ((p.length : Int) > 0) := by rw [r3, hg]; rfl
      have g5 := gu5 hg ht (bst := r.1) (fun h => r4 (by rw [ro']; exact decide_eq_true (by omega))) S.have' S.lack S.le.1 S.le.2
      have g3 : w_FnStairsGuessed_L3 more (pzSol p) a b (numF (idle p) 0 p.length) (leftL p 0 (p.length + 1)) p ((pzSol p).length : Int) r.1 (ptN p).1 = some true := by
        rw [w_FnStairsGuessed_u3, w_FnStairsGuessed_t3]
        exact g5
      have z0 : rdk kint (leftL p 0 (p.length + 1)) 0 = 196 := by
        have := leftL_get p (p.length + 1) 0 (by omega)
        rw [List.take_zero, sol_none] at this
        exact this
      have zl : rdk kint (leftL p 0 (p.length + 1)) (p.length : Int) = ((pzSol p).length : Int) := by
        rw [leftL_get p (p.length + 1) p.length (by omega), List.take_length]
      have hw : IntKind.wrap .i64 ((p.length : Int) + 1) = ((p.length + 1 : Nat) : Int) := by rw [wrapI (by omega) (by omega)]; omega
      have hpt : (⟨(Lib.join (p.map cT) [44]).toArray⟩ : ByteArray) = (ptN p).1 := by unfold ptN; rw [hg]; rfl
      have g1 : w_FnStairsGuessed_L1 more (pzSol p) f.1 a b (numF (idle p) 0 p.length) (leftL p 0 (p.length + 1)) p f.2.1 f.2.2 true ((pzSol p).length : Int) fo (((pzSol p).length : Int) == 1) r.1 (ptN p).1 = some true := by
        rw [w_FnStairsGuessed_u1, w_FnStairsGuessed_t1, hll, z0, zl, hw, decide_eq_true (show (p.length : Int) < ((p.length + 1 : Nat) : Int) by omega), S.rise.1, S.rise.2, g3]
        cases hf : fo
        · simp
        · have h0 := F.at0 hf
          rw [h0, F.same]
          rw [hf] at fo'
          have := of_decide_eq_true fo'.symm
          rw [decide_eq_true (show (0 : Int) < ((pzSol p).length : Int) by omega)]
          simp
      simp only [Option.bind_some, cond_true, Bool.true_and, hL, hN, hF, F.same, S.same.1, S.same.2, hpt, g1]
      rw [fo', so', ro']
      simp
  · rfl
end Go.Proofs.YtoldoplpnkojdaaGreatDoor.V
