/- Functions of the program, as plain functions. No condition. -/
import Derived.Test.YtbemnabojjiikaaB12
import Derived.Test.YtbemnabojjiikaaB11h
set_option linter.unusedVariables false
set_option linter.unusedSimpArgs false
set_option maxRecDepth 100000
namespace Go.Proofs.Ytbemnabojjiikaa.V
open Go Go.Ev Go.Proofs
/-! ### what the laws of hidden stairs compare -/
theorem wPuzzle_eq {a b : List (Int × Int × Int)} (ha : a.length ≤ 1000) : w_wPuzzle a b = some (decide (a = b)) := by
  unfold w_wPuzzle w_wPuzzle_t0
  by_cases hl : a.length = b.length
  · have hm : a.length ≤ maxLen := by rw [maxLen_eq]; omega
    have e := loop_eq (L := fun i => w_wPuzzle_L1 a b a.length (i : Int)) hl (fun i h h' => by
        have hx : ((a[i].1 == b[i].1) && (a[i].2.1 == b[i].2.1 && a[i].2.2 == b[i].2.2)) = decide (a[i] = b[i]) := by
          rw [Bool.eq_iff_iff]
          simp only [Bool.and_eq_true, beq_iff_eq, decide_eq_true_eq, Prod.ext_iff]
        simp only [w_wPuzzle_u1 a b a.length i, w_wPuzzle_t1, rdk_get (k := kClue) h, rdk_get (k := kClue) h', wrapS h hm, hx]
        by_cases hxx : a[i] = b[i] <;> simp [h, h', hxx]) (by simp [w_wPuzzle_u1 a b a.length a.length, w_wPuzzle_t1])
    have hh : ((a.length : Int) != (b.length : Int)) = false := by rw [hl]; simp
    rw [hh]; exact e
  · have hab : a ≠ b := fun e => hl (by rw [e])
    have : ((a.length : Int) != (b.length : Int)) = true := by rw [bne_iff_ne]; omega
    rw [this]; simp [hab]
theorem wPuzzle_self {a : List (Int × Int × Int)} (ha : a.length ≤ 1000) : w_wPuzzle a a = some true := by rw [wPuzzle_eq ha]; simp
theorem wSame_self {a : List Int} (ha : a.length ≤ 1000000) : w_wSame a a = some true := by
  have hm : a.length ≤ maxLen := by rw [maxLen_eq]; omega
  have e := loop_eq (L := fun i => w_wSame_L1 a a a.length (i : Int)) (a := a) (b := a) rfl (fun i h h' => by
      simp only [w_wSame_u1 a a a.length i, w_wSame_t1, rdk_get (k := kint) h, wrapS h hm]
      simp [h]) (by simp [w_wSame_u1 a a a.length a.length, w_wSame_t1])
  unfold w_wSame w_wSame_t0
  have hh : ((a.length : Int) != (a.length : Int)) = false := by simp
  rw [hh]; simpa using e
theorem wLists_self {a : List (Int × List Int × List Int)} (ha : a.length ≤ 1000) (hs : ∀ s, s ∈ a → s.2.1.length ≤ 1000 ∧ s.2.2.length ≤ 1000) : w_wLists a a = some true := by
  have hm : a.length ≤ maxLen := by rw [maxLen_eq]; omega
  have e := loop_eq (L := fun i => w_wLists_L1 a a a.length (i : Int)) (a := a) (b := a) rfl (fun i h h' => by
      obtain ⟨g1, g2⟩ := hs _ (List.getElem_mem h)
      have e1 : w_wStairs a[i].1 a[i].2.1 a[i].2.2 a[i].1 a[i].2.1 a[i].2.2 = some true := by
        unfold w_wStairs
        rw [wSame_self (by omega), wSame_self (by omega)]; simp
      simp only [w_wLists_u1 a a a.length i, w_wLists_t1, rdk_get (k := kStairs) h, wrapS h hm, e1]
      simp [h]) (by simp [w_wLists_u1 a a a.length a.length, w_wLists_t1])
  unfold w_wLists w_wLists_t0
  have hh : ((a.length : Int) != (a.length : Int)) = false := by simp
  rw [hh]; simpa using e
/-! climbs of hidden stairs -/
noncomputable def hidOkB (s : Int × List Int × List Int) : Bool := match upC s.1 s.2.1 s.2.2, byC s.1 s.2.1 s.2.2 with
  | some (u :: _), some l => match mostI l (-1) (l.length : Int) 0 with
    | some (m, ok) => (decide (u > 0) == ok) && (decide (u > 0) == !(decide (slices_IndexFunc_int__i_FewestStrides_c1_n l < 0)))
    | _ => false
  | _, _ => false
theorem hidOk_all : hidAll.all hidOkB = true := by kernel_rfl
theorem climbs_hid {a : Int} {b c : List Int} (h : i_isHidden a b c = true) : ∃ u f m, hidV (a, b, c) = some (u, f, m) ∧ i_CountClimbs a b c = some (u, true) ∧ i_FewestStrides a b c = some (f, decide (u > 0)) ∧ i_MostStrides a b c = some (m, decide (u > 0)) := by
  obtain ⟨hm, hg⟩ := hidAll_mem h
  have hc := List.all_eq_true.1 hidOk_all _ hm
  obtain ⟨u, f, m, h1, -, h3⟩ := hid_mem hm
  refine ⟨u, f, m, h1, ?_⟩
  unfold hidOkB at hc
  unfold hidV at h1
  split at h1
  · rename_i u' us l hu hl
    simp only at hu hl
    rw [hu, hl] at hc
    split at h1
    · rename_i m' q hmo
      cases h1
      simp only [hmo, Bool.and_eq_true, beq_iff_eq] at hc
      obtain ⟨c1, c2⟩ := hc
      have r0 : rdk kint (u :: us) 0 = u := rfl
      refine ⟨?_, ?_, ?_⟩
      · unfold i_CountClimbs i_counted
        rw [i_AreStairs_eq, hg, upC_eq, hu]
        simp [r0, h3]
      · unfold i_FewestStrides
        rw [i_AreStairs_eq, hg, byC_eq, hl, c2]
        simp only [Bool.not_true, cond_false, Option.bind_some]
        cases decide (slices_IndexFunc_int__i_FewestStrides_c1_n l < 0) <;> rfl
      · unfold i_MostStrides i_MostStrides_t0
        rw [i_AreStairs_eq, hg, byC_eq, hl, mostI_eq, c1]
        simp [hmo]
    · cases h1
  · cases h1
/-- a clue that is right fits -/
theorem DoesFit_right {a : Int} {b c : List Int} (h : i_isHidden a b c = true) {k x v : Int} (hc : s_pzClue k x v = true) (hv : hidVal k x a b c = v) : i_DoesFit k x v a b c = some (true, true) := by
  unfold i_DoesFit
  rw [IsClue_eq, hc, h]
  simp only [Bool.not_true, cond_false]
  unfold i_fits
  rw [bOf_eq h k x (pzClue_kind hc), hv]
  simp
theorem DoesFit_both (k x v : Int) (a : Int) (b c : List Int) : ∃ r, s_DoesFit k x v a b c = some r ∧ i_DoesFit k x v a b c = some r ∧ (r.2 = true → s_pzClue k x v = true) := by
  unfold s_DoesFit i_DoesFit
  rw [hidden_eq' a b c, IsClue_eq]
  cases hh : i_isHidden a b c
  · cases s_pzClue k x v <;> simp
  · cases hc : s_pzClue k x v
    · simp
    · have hk : 0 ≤ k ∧ k ≤ 5 := pzClue_kind hc
      simp only [Option.bind_some, Bool.not_true, cond_false]
      unfold s_pzFits i_fits
      rw [pzValue_eq hh k x hk, bOf_eq hh k x hk]
      exact ⟨_, rfl, rfl, fun _ => by first | rfl | trivial⟩
theorem MakePuzzle_both' (a : Int) (b c : List Int) (n seed : Int) : s_MakePuzzle a b c n seed = some (makeN a b c n seed) ∧ i_MakePuzzle a b c n seed = some (makeN a b c n seed) := by
  by_cases hb : b.length ≤ 1048576
  · exact MakePuzzle_both a b c n seed hb
  · have hh : i_isHidden a b c = false := by
      cases hh : i_isHidden a b c
      · rfl
      · have := s_clGood_len (hidAll_mem hh).2; omega
    unfold s_MakePuzzle i_MakePuzzle s_MakePuzzle_t0 i_MakePuzzle_t0 makeN
    rw [hidden_eq' a b c, hh]; exact ⟨rfl, rfl⟩
structure Made (a : Int) (b c : List Int) (n : Int) (p : List (Int × Int × Int)) : Prop where
  hid : i_isHidden a b c = true
  len : (p.length : Int) = n
  n6 : n ≤ 6
  all : ∀ q, q ∈ p → s_pzClue q.1 q.2.1 q.2.2 = true ∧ fitC (a, b, c) q = true
theorem makeN_made {a : Int} {b c : List Int} {n seed : Int} (h : (makeN a b c n seed).2 = true) : Made a b c n (makeN a b c n seed).1 := by
  unfold makeN at h ⊢
  cases hh : i_isHidden a b c
  · rw [hh] at h; cases h
  · cases h1 : s_l1In n 0 6
    · rw [hh, h1] at h; cases h
    · cases h2 : s_l1In seed 0 9999
      · rw [hh, h1, h2] at h; cases h
      · have hn : 0 ≤ n ∧ n ≤ 6 := by unfold s_l1In at h1; simpa using h1
        have hs : 0 ≤ seed ∧ seed ≤ 9999 := by unfold s_l1In at h2; simpa using h2
        exact ⟨hh, by simp only [Bool.and_self, cond_true, mkL_len]; omega, hn.2, fun q hq => mkL_good (hidAll_mem hh).1 n.toNat hs.1 (by omega) q hq⟩
theorem good_of_all {p : List (Int × Int × Int)} (hl : p.length ≤ 6) (h : ∀ q, q ∈ p → s_pzClue q.1 q.2.1 q.2.2 = true) : s_pzGood_n p = true := by
  unfold s_pzGood_n
  have h1 : ¬ ((p.length : Int) > 6) := by omega
  have h2 : p.any (fun c => !s_pzClue c.1 c.2.1 c.2.2) = false := by
    rw [List.any_eq_false]; intro q hq; rw [h q hq]; simp
  rw [decide_eq_false h1, h2]; rfl
theorem good_clue {p : List (Int × Int × Int)} (h : s_pzGood_n p = true) : ∀ q, q ∈ p → s_pzClue q.1 q.2.1 q.2.2 = true := by
  intro q hq
  have hl := s_pzGood_len h
  unfold s_pzGood_n at h
  have h1 : ¬ ((p.length : Int) > 6) := by omega
  rw [decide_eq_false h1] at h
  cases h2 : p.any (fun c => !s_pzClue c.1 c.2.1 c.2.2)
  · have := List.any_eq_false.1 h2 q hq
    simpa using this
  · rw [h2] at h; cases h
/-- the clues that a made puzzle's stairs fit -/
theorem made_fits {a : Int} {b c : List Int} (h : i_isHidden a b c = true) : ∃ u f m, i_CountClimbs a b c = some (u, true) ∧ i_FewestStrides a b c = some (f, decide (u > 0)) ∧ i_MostStrides a b c = some (m, decide (u > 0)) ∧
    i_DoesFit 0 0 u a b c = some (true, true) ∧ i_DoesFit 1 0 f a b c = some (true, true) ∧ i_DoesFit 5 0 m a b c = some (true, true) ∧ i_DoesFit 4 0 a a b c = some (true, true) := by
  obtain ⟨u, f, m, h0, h1, h2, h3⟩ := climbs_hid h
  have hm := (hidAll_mem h).1
  have v0 : hidVal 0 0 a b c = u := by unfold hidVal; rw [h0]; rfl
  have v1 : hidVal 1 0 a b c = f := by unfold hidVal; rw [h0]; rfl
  have v5 : hidVal 5 0 a b c = m := by unfold hidVal; rw [h0]; rfl
  have v4 : hidVal 4 0 a b c = a := by unfold hidVal; rw [h0]; rfl
  have b0 := hidVal_bd hm 0 0
  have b1 := hidVal_bd hm 1 0
  have b5 := hidVal_bd hm 5 0
  have b4 := hidVal_bd hm 4 0
  simp only [v0, v1, v4, v5] at b0 b1 b5 b4
  have hc : ∀ k v : Int, (k = 0 ∨ k = 1 ∨ k = 4 ∨ k = 5) → 0 ≤ v → v ≤ 60 → s_pzClue k 0 v = true := by
    intro k v hk h0 h1
    have e : s_l1In v 0 60 = true := by unfold s_l1In; simp [h0, h1]
    unfold s_pzClue
    rw [e]
    rcases hk with rfl | rfl | rfl | rfl <;> rfl
  exact ⟨u, f, m, h1, h2, h3, DoesFit_right h (hc 0 u (by simp) b0.1 b0.2.1) v0, DoesFit_right h (hc 1 f (by simp) b1.1 b1.2.1) v1, DoesFit_right h (hc 5 m (by simp) b5.1 b5.2.1) v5, DoesFit_right h (hc 4 a (by simp) b4.1 b4.2.1) v4⟩
theorem Needless_none_loop {p : List (Int × Int × Int)} (hk : Kinds p) (hl : p.length ≤ 6) (hn : ∀ j, j < p.length → (pzSol (wo p j)).length ≠ (pzSol p).length) : ∀ (d k : Nat), k + d = p.length → i_NeedlessClues_L1 [] p p.length k = some ([], true)
  | 0, k, hd => by
    have h1 : ¬ ((k : Int) < p.length) := by omega
    rw [i_NeedlessClues_u1, i_NeedlessClues_t1, decide_eq_false h1]; rfl
  | d + 1, k, hd => by
    have c1 : decide ((k : Int) < p.length) = true := decide_eq_true (by omega)
    have hw : IntKind.wrap .i64 ((k : Int) + 1) = ((k + 1 : Nat) : Int) := by rw [wrapI (by omega) (by omega)]; omega
    have hk1 : Kinds (wo p k) := hk.sub fun c hc => wo_mem hc
    have hl1 := wo_len (p := p) (k := k) (by omega)
    have hne : (((pzSol (wo p k)).length : Int) == ((pzSol p).length : Int)) = false := by rw [beq_eq_false_iff_ne]; have := hn k (by omega); omega
    rw [i_NeedlessClues_u1, i_NeedlessClues_t1, c1, hw, i_without_eq p k (by omega) hl]
    simp only [cond_true, Option.bind_some]
    change ((i_solutions (wo p k)).bind fun r => (i_solutions p).bind fun r_1 => bif (r.length : Int) == (r_1.length : Int) then _ else _) = _
    rw [sol_eq hk1 (by omega), sol_eq hk (by omega)]
    simp only [Option.bind_some, hne, cond_false]
    exact Needless_none_loop hk hl hn d (k + 1) (by omega)
theorem Needless_none {p t : List (Int × Int × Int)} (h1 : (pzSol p).length = 1) (h : Hard p t) : i_NeedlessClues t = some ([], true) := by
  obtain ⟨hk, hl⟩ := good_kinds h.good
  unfold i_NeedlessClues i_NeedlessClues_t0
  rw [IsPuzzle_eq, h.good]
  exact Needless_none_loop hk hl (fun j hj => by have := h.need j hj; rw [h.sol, h1]; omega) t.length 0 (by omega)
end Go.Proofs.Ytbemnabojjiikaa.V
