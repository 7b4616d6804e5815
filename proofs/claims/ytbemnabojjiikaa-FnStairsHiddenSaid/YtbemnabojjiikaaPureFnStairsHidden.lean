/- The plain law of FnStairsHidden: the plain function answers true. No condition. -/
import Derived.Test.YtbemnabojjiikaaB13h
set_option linter.unusedVariables false
set_option linter.unusedSimpArgs false
set_option maxRecDepth 100000
namespace Go.Proofs.Ytbemnabojjiikaa.V
open Go Go.Ev Go.Proofs
theorem hs6 : w_FnStairsHidden_L6 = some true := by rw [w_FnStairsHidden_u6]; rfl
theorem drop_of {p : List (Int × Int × Int)} {k : Int} (h : (s_DropClue_n p k).2 = true) : s_pzGood_n p = true ∧ 0 ≤ k ∧ k < p.length ∧ s_DropClue_n p k = (p.take k.toNat ++ p.drop (k.toNat + 1), true) := by
  unfold s_DropClue_n at h ⊢
  cases h1 : s_pzGood_n p
  · rw [h1] at h; cases h
  · cases h2 : decide (0 ≤ k) && decide (k < (p.length : Int))
    · rw [h1, h2] at h; cases h
    · simp only [Bool.and_eq_true, decide_eq_true_eq] at h2
      exact ⟨rfl, h2.1, h2.2, rfl⟩
theorem hs5 (p : List (Int × Int × Int)) (k : Int) : w_FnStairsHidden_L5 p (s_DropClue_n p k).1 k (s_DropClue_n p k).2 = some true := by
  rw [w_FnStairsHidden_u5, w_FnStairsHidden_t5, hs6]
  cases h : (s_DropClue_n p k).2
  · rfl
  · obtain ⟨hg, k0, k1, he⟩ := drop_of h
    have hl := s_pzGood_len hg
    rw [he, wrapI (n := (p.length : Int) - 1) (by omega) (by omega)]
    simp only [cond_true]
    by_cases hk : k = (p.length : Int) - 1
    · obtain ⟨n, rfl⟩ : ∃ n : Nat, k = n := ⟨k.toNat, by omega⟩
      have hn : n < p.length := by omega
      have hb : ((n : Int) == (p.length : Int) - 1) = true := by rw [beq_iff_eq]; exact hk
      rw [hb, decide_eq_true k0, decide_eq_true k1, rdk_get (k := kClue) hn, Int.toNat_natCast]
      have hd : p.drop (n + 1) = [] := List.drop_eq_nil_of_le (by omega)
      rw [hd, List.append_nil]
      have hc := good_clue hg _ (List.getElem_mem hn)
      have hg2 : s_pzGood_n (p.take n) = true := good_wo hg (fun c hc => List.mem_of_mem_take hc) (by simp; omega)
      have h6 : decide ((p.take n).length = 6) = false := decide_eq_false (by simp; omega)
      have e : i_AddClue_n (p.take n) p[n].1 p[n].2.1 p[n].2.2 = (p, true) := by
        show s_AddClue_n _ _ _ _ = _
        unfold s_AddClue_n
        rw [hg2, hc, h6]
        have : p.take n ++ [p[n]] = p := by rw [List.take_append_getElem hn, List.take_of_length_le (by omega)]
        show (p.take n ++ [(p[n].1, p[n].2.1, p[n].2.2)], true) = _
        rw [this]
      rw [e]
      simp only [cond_true]
      rw [wPuzzle_self (by omega)]; rfl
    · have hb : (k == (p.length : Int) - 1) = false := by rw [beq_eq_false_iff_ne]; exact hk
      rw [hb]; rfl
theorem add_of {p : List (Int × Int × Int)} {a b c : Int} (h : (s_AddClue_n p a b c).2 = true) : s_pzGood_n p = true ∧ s_pzClue a b c = true ∧ p.length ≠ 6 ∧ s_AddClue_n p a b c = (p ++ [(a, b, c)], true) := by
  unfold s_AddClue_n at h ⊢
  cases h1 : s_pzGood_n p
  · rw [h1] at h; cases h
  · cases h2 : s_pzClue a b c
    · rw [h1, h2] at h; cases h
    · cases h3 : decide (p.length = 6)
      · exact ⟨rfl, rfl, of_decide_eq_false h3, rfl⟩
      · rw [h1, h2, h3] at h; cases h
theorem add_len (p : List (Int × Int × Int)) (a b c : Int) : (s_AddClue_n p a b c).1.length ≤ 6 := by
  cases h : (s_AddClue_n p a b c).2
  · unfold s_AddClue_n at h ⊢
    cases h1 : s_pzGood_n p && (s_pzClue a b c && !decide (p.length = 6))
    · simp
    · rw [h1] at h; cases h
  · obtain ⟨h1, h2, h3, h4⟩ := add_of h
    have := s_pzGood_len h1
    rw [h4]; simp; omega
theorem drop_len (p : List (Int × Int × Int)) (k : Int) : (s_DropClue_n p k).1.length ≤ 6 := by
  cases h : (s_DropClue_n p k).2
  · unfold s_DropClue_n at h ⊢
    cases h1 : s_pzGood_n p && (decide (0 ≤ k) && decide (k < (p.length : Int)))
    · simp
    · rw [h1] at h; cases h
  · obtain ⟨h1, h2, h3, h4⟩ := drop_of h
    have := s_pzGood_len h1
    rw [h4]; simp; omega
theorem hs4 (a b c : Int) (r p : List (Int × Int × Int)) (k : Int) : w_FnStairsHidden_L4 a b c r (s_AddClue_n r a b c).1 p (s_DropClue_n p k).1 (s_AddClue_n r a b c).2 k (s_DropClue_n p k).2 = some true := by
  rw [w_FnStairsHidden_u4, w_FnStairsHidden_t4, hs5]
  cases h : (s_AddClue_n r a b c).2
  · rfl
  · obtain ⟨hg, hc, h6, he⟩ := add_of h
    have hl := s_pzGood_len hg
    have hg2 : s_pzGood_n (r ++ [(a, b, c)]) = true := good_of_all (by simp; omega) (fun q hq => by
      rcases List.mem_append.1 hq with hq | hq
      · exact good_clue hg q hq
      · simp at hq; subst hq; exact hc)
    have e : i_DropClue_n (r ++ [(a, b, c)]) (r.length : Int) = (r, true) := by
      show s_DropClue_n _ _ = _
      unfold s_DropClue_n
      have c1 : (0 : Int) ≤ (r.length : Int) := by omega
      have c2 : (r.length : Int) < ((r ++ [(a, b, c)]).length : Int) := by rw [List.length_append]; simp; omega
      rw [hg2, decide_eq_true c1, decide_eq_true c2, Int.toNat_natCast]
      simp
    rw [he]
    simp only [cond_true, e]
    have hr : r.length < (r ++ [(a, b, c)]).length := by simp
    have c3 : (r.length : Int) < ((r ++ [(a, b, c)]).length : Int) := by omega
    rw [wPuzzle_self (by omega), decide_eq_true c3, rdk_get (k := kClue) hr]
    simp
theorem IsClue_s (a b c : Int) : s_IsClue a b c = s_pzClue a b c := rfl
theorem hs3 {m : List Int} (hb : Bytes m) : w_FnStairsHidden_L3 m = some true := by
  rw [w_FnStairsHidden_u3, w_FnStairsHidden_t3]
  obtain ⟨⟨r, c⟩, e1, -⟩ := drawAdd_ok hb
  obtain ⟨⟨p, k⟩, e2, -⟩ := drawDrop_ok hb
  obtain ⟨⟨d, x⟩, e3, -⟩ := drawFit_ok hb
  obtain ⟨e, e4, -⟩ := s_DrawIsClue_ok hb
  obtain ⟨v, h1, h2, h3⟩ := DoesFit_both d.1 d.2.1 d.2.2 x.1 x.2.1 x.2.2
  have f1 : i_AddClue_n r c.1 c.2.1 c.2.2 = s_AddClue_n r c.1 c.2.1 c.2.2 := rfl
  have f2 : i_DropClue_n p k = s_DropClue_n p k := rfl
  have := add_len r c.1 c.2.1 c.2.2
  have := drop_len p k
  have h4 := hs4 c.1 c.2.1 c.2.2 r p k
  rw [e1, e2, e3, e4]
  simp only [Option.bind_some]
  rw [h1, h2, f1, f2, IsClue_eq, IsClue_eq, IsClue_s, h4]
  simp only [Option.bind_some]
  rw [wPuzzle_self (by omega), wPuzzle_self (by omega)]
  cases hv : v.2
  · simp
  · rw [h3 hv]; simp
theorem hid_small' : hidAll.all (fun s => decide (s.2.1.length ≤ 1000) && decide (s.2.2.length ≤ 1000)) = true := by kernel_rfl
theorem hs2 {m : List Int} (hb : Bytes m) {q t : List (Int × Int × Int)} {one : Bool} (h : one = true → s_pzGood_n q = true ∧ (pzSol q).length = 1 ∧ Hard q t) :
    w_FnStairsHidden_L2 m q t one = some true := by
  rw [w_FnStairsHidden_u2, w_FnStairsHidden_t2, hs3 hb]
  cases one
  · rfl
  · obtain ⟨h1, h2, h3⟩ := h rfl
    have hl := h3.len
    rw [i_Solutions_eq, i_Solutions_eq, Needless_none h2 h3]
    unfold solN
    rw [h1, h3.good, h3.sol]
    simp only [cond_true, Option.bind_some, Bool.not_true, cond_false]
    rw [wLists_self (by have := pzSol_len q; omega) (fun s hs => by
      have := List.all_eq_true.1 hid_small' s (List.mem_filter.1 hs).1
      simpa using this)]
    have c1 : ¬ ((t.length : Int) > (q.length : Int)) := by omega
    rw [decide_eq_false c1]
    rfl
theorem IsSolved_eq (p : List (Int × Int × Int)) : i_IsSolved p = some (s_pzGood_n p && ((pzSol p).length : Int) == 1, s_pzGood_n p) := by
  unfold i_IsSolved
  rw [i_CountSolutions_eq]
  unfold countN
  cases s_pzGood_n p <;> rfl
theorem hs1 {m : List Int} (hb : Bytes m) : w_FnStairsHidden_L1 m = some true := by
  rw [w_FnStairsHidden_u1, w_FnStairsHidden_t1]
  obtain ⟨q, e0, -⟩ := drawHarder_ok hb
  obtain ⟨t, h1, h2, h3, h4, h5⟩ := HarderPuzzle_both q
  have hs := hs2 hb (q := q) (t := t.1) (one := t.2) (fun ht => ⟨(h4.1 ht).1, (h4.1 ht).2, h5 ht⟩)
  rw [e0]
  simp only [Option.bind_some]
  rw [h1, h2, IsSolved_eq]
  simp only [Option.bind_some]
  rw [wPuzzle_self (by omega), hs]
  cases ht : t.2
  · cases hg : s_pzGood_n q
    · simp
    · have : ¬ ((pzSol q).length = 1) := fun hh => by
        have := h4.2 ⟨hg, hh⟩; rw [ht] at this; cases this
      have hz : (((pzSol q).length : Int) == 1) = false := by rw [beq_eq_false_iff_ne]; omega
      simp [hz]
  · obtain ⟨g1, g2⟩ := h4.1 ht
    simp [g1, g2]
theorem hs7 {w : List Int} (hb : Bytes w) {s : Int × List Int × List Int} {m : List (Int × Int × Int)} {n : Int} (hm : Made s.1 s.2.1 s.2.2 n m) :
    w_FnStairsHidden_L7 w s.1 m s.2.1 s.2.2 m.length 0 = some true := by
  have hl : m.length ≤ maxLen := by rw [maxLen_eq]; have := hm.len; have := hm.n6; omega
  refine drop_ind m (fun i l => w_FnStairsHidden_L7 w s.1 m s.2.1 s.2.2 m.length (i : Int) = some true) ?_ (fun i hi ih => ?_)
  · have : ¬ ((m.length : Int) < m.length) := by omega
    rw [w_FnStairsHidden_u7, w_FnStairsHidden_t7, decide_eq_false this, cond_false]
    exact hs1 hb
  · obtain ⟨h1, h2⟩ := hm.all _ (List.getElem_mem hi)
    have c1 : decide ((i : Int) < m.length) = true := decide_eq_true (by omega)
    have hv : hidVal m[i].1 m[i].2.1 s.1 s.2.1 s.2.2 = m[i].2.2 := by unfold fitC at h2; exact beq_iff_eq.1 h2
    rw [w_FnStairsHidden_u7, w_FnStairsHidden_t7, c1, decide_eq_true (Int.natCast_nonneg i), rdk_get (k := kClue) hi, DoesFit_right hm.hid h1 hv, wrapS hi hl]
    simp only [cond_true, Option.bind_some, Bool.not_true, cond_false]
    exact ih
theorem pure_FnStairsHidden (code : List Int) (hc : Wf kSuint8 code) (more : List Int) (hm : Wf kSuint8 more) : F_w_FnStairsHidden (code, more, ()) = some true := by
  show w_FnStairsHidden code more = some true
  unfold w_FnStairsHidden w_FnStairsHidden_t0
  cases w_big code more
  · obtain ⟨⟨s, n, seed⟩, e0, -⟩ := drawMake_ok (bytes_wf hc)
    have hb := bytes_wf hm
    obtain ⟨h1, h2⟩ := MakePuzzle_both' s.1 s.2.1 s.2.2 n seed
    have hl := makeN_len s.1 s.2.1 s.2.2 n seed
    rw [e0]
    simp only [cond_false, Option.bind_some]
    rw [h1, h2, hs1 hb]
    simp only [Option.bind_some]
    rw [wPuzzle_self (by omega)]
    cases hm : (makeN s.1 s.2.1 s.2.2 n seed).2
    · simp
    · have hmm := makeN_made hm
      obtain ⟨u, f, m, g1, g2, g3, g4, g5, g6, g7⟩ := made_fits hmm.hid
      have hg : i_IsPuzzle (makeN s.1 s.2.1 s.2.2 n seed).1 = true := by rw [IsPuzzle_eq]; exact good_of_all hl (fun q hq => (hmm.all q hq).1)
      have hlen : (((makeN s.1 s.2.1 s.2.2 n seed).1.length : Int) != n) = false := by rw [hmm.len]; simp
      have h7 := hs7 hb hmm
      simp only [g1, g2, g3, g4, g5, g6, g7, hg, hlen, h7, Option.bind_some, Option.bind_some, cond_true, Bool.not_true, cond_false]
      simp
  · rfl
end Go.Proofs.Ytbemnabojjiikaa.V
