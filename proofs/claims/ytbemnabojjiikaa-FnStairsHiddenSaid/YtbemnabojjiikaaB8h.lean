/- Functions of the program, as plain functions. No condition. -/
import Derived.Test.YtbemnabojjiikaaB8
import Derived.Test.YtbemnabojjiikaaB6h
set_option linter.unusedVariables false
set_option linter.unusedSimpArgs false
set_option maxRecDepth 100000
namespace Go.Proofs.Ytbemnabojjiikaa.V
open Go Go.Ev Go.Proofs
/-! ### harder puzzles -/
def wo (p : List (Int × Int × Int)) (k : Nat) : List (Int × Int × Int) := p.take k ++ p.drop (k + 1)
theorem wo_mem {p : List (Int × Int × Int)} {k : Nat} {c : Int × Int × Int} (h : c ∈ wo p k) : c ∈ p := by
  rcases List.mem_append.1 h with h | h
  · exact List.mem_of_mem_take h
  · exact List.mem_of_mem_drop h
theorem wo_len {p : List (Int × Int × Int)} {k : Nat} (h : k < p.length) : (wo p k).length = p.length - 1 := by unfold wo; simp; omega
theorem wo_wo_mem {p : List (Int × Int × Int)} {j k : Nat} (hjk : j < k) (hk : k < p.length) {c : Int × Int × Int} (h : c ∈ wo (wo p k) j) : c ∈ wo p j := by
  have e1 : (wo p k).take j = p.take j := by
    unfold wo
    rw [List.take_append_of_le_length (by simp; omega), List.take_take, Nat.min_eq_left (by omega)]
  have e2 : (wo p k).drop (j + 1) = (p.take k).drop (j + 1) ++ p.drop (k + 1) := by
    unfold wo
    rw [List.drop_append_of_le_length (by simp; omega)]
  unfold wo at h ⊢
  change c ∈ (wo p k).take j ++ (wo p k).drop (j + 1) at h
  rw [e1, e2] at h
  rcases List.mem_append.1 h with h | h
  · exact List.mem_append_left _ h
  · refine List.mem_append_right _ ?_
    rcases List.mem_append.1 h with h | h
    · rw [List.drop_take] at h
      exact List.mem_of_mem_take h
    · have : p.drop (k + 1) = (p.drop (j + 1)).drop (k - j) := by rw [List.drop_drop]; congr 1; omega
      rw [this] at h
      exact List.mem_of_mem_drop h
theorem pzOk_mono {a b : List (Int × Int × Int)} (h : ∀ c, c ∈ a → c ∈ b) {s : Int × List Int × List Int} (hs : pzOk b s = true) : pzOk a s = true := by
  unfold pzOk at hs ⊢
  rw [List.all_eq_true] at hs ⊢
  exact fun c hc => hs c (h c hc)
theorem pzSol_sub {a b : List (Int × Int × Int)} (h : ∀ c, c ∈ a → c ∈ b) : (pzSol b).Sublist (pzSol a) := by
  unfold pzSol
  have : hidAll.filter (pzOk b) = (hidAll.filter (pzOk a)).filter (pzOk b) := by
    rw [List.filter_filter]
    refine List.filter_congr fun s _ => ?_
    cases hb : pzOk b s
    · rfl
    · rw [pzOk_mono h hb]; rfl
  rw [this]
  exact List.filter_sublist
theorem good_wo {p : List (Int × Int × Int)} (h : s_pzGood_n p = true) {q : List (Int × Int × Int)} (hq : ∀ c, c ∈ q → c ∈ p) (hl : q.length ≤ p.length) : s_pzGood_n q = true := by
  have hp := s_pzGood_len h
  unfold s_pzGood_n at h ⊢
  have h1 : ¬ ((p.length : Int) > 6) := by omega
  have h2 : ¬ ((q.length : Int) > 6) := by omega
  rw [decide_eq_false h1] at h
  rw [decide_eq_false h2]
  cases ha : p.any (fun c => !s_pzClue c.1 c.2.1 c.2.2)
  · have : q.any (fun c => !s_pzClue c.1 c.2.1 c.2.2) = false := by
      rw [List.any_eq_false] at ha ⊢
      exact fun c hc => ha c (hq c hc)
    rw [this]; rfl
  · rw [ha] at h; cases h
/-- what is left when no clue can go -/
structure Hard (p t : List (Int × Int × Int)) : Prop where
  good : s_pzGood_n t = true
  sol : pzSol t = pzSol p
  len : t.length ≤ p.length
  need : ∀ j, j < t.length → 2 ≤ (pzSol (wo t j)).length
theorem Harder_loop {p : List (Int × Int × Int)} (h1 : (pzSol p).length = 1) : ∀ (d k : Nat) (r : List (Int × Int × Int)), k + d = r.length → s_pzGood_n r = true → pzSol r = pzSol p → r.length ≤ p.length → (∀ j, j < k → 2 ≤ (pzSol (wo r j)).length) →
    ∃ t, s_HarderPuzzle_L1 r [] k = some (t, true) ∧ i_HarderPuzzle_L1 r [] k = some (t, true) ∧ Hard p t
  | 0, k, r, hd, hg, hs, hl, hn => by
    have c1 : ¬ ((k : Int) < r.length) := by omega
    rw [s_HarderPuzzle_u1, s_HarderPuzzle_t1, i_HarderPuzzle_u1, i_HarderPuzzle_t1, decide_eq_false c1]
    exact ⟨r, rfl, rfl, hg, hs, hl, fun j hj => hn j (by omega)⟩
  | d + 1, k, r, hd, hg, hs, hl, hn => by
    have hkr : k < r.length := by omega
    obtain ⟨hk, hlr⟩ := good_kinds hg
    have c1 : decide ((k : Int) < r.length) = true := decide_eq_true (by omega)
    have hw : IntKind.wrap .i64 ((k : Int) + 1) = ((k + 1 : Nat) : Int) := by rw [wrapI (by omega) (by omega)]; omega
    have hk1 : Kinds (wo r k) := hk.sub fun c hc => wo_mem hc
    have hl1 := wo_len hkr
    have hsub := pzSol_sub (a := wo r k) (b := r) (fun c hc => wo_mem hc)
    rw [s_HarderPuzzle_u1, s_HarderPuzzle_t1, i_HarderPuzzle_u1, i_HarderPuzzle_t1, c1, hw, s_pzWithout_eq r k hkr hlr, i_without_eq r k hkr hlr]
    simp only [cond_true, Option.bind_some]
    change ∃ t, ((s_pzSolved (wo r k)).bind fun r_1 => bif r_1 then s_HarderPuzzle_L1 (wo r k) [] k else s_HarderPuzzle_L1 r [] ((k + 1 : Nat) : Int)) = some (t, true) ∧
      ((i_solutions (wo r k)).bind fun r_1 => bif (r_1.length : Int) == 1 then i_HarderPuzzle_L1 (wo r k) [] k else i_HarderPuzzle_L1 r [] ((k + 1 : Nat) : Int)) = some (t, true) ∧ Hard p t
    rw [s_pzSolved_eq hk1 (by omega), sol_eq hk1 (by omega)]
    simp only [Option.bind_some]
    cases hc : ((pzSol (wo r k)).length : Int) == 1
    · have hne : ¬ ((pzSol (wo r k)).length : Int) = 1 := by simpa using hc
      refine Harder_loop h1 d (k + 1) r (by omega) hg hs hl fun j hj => ?_
      by_cases e : j = k
      · subst e
        have := hsub.length_le
        rw [hs, h1] at this
        omega
      · exact hn j (by omega)
    · have he : ((pzSol (wo r k)).length : Int) = 1 := by simpa using hc
      have hse : pzSol r = pzSol (wo r k) := hsub.eq_of_length (by rw [hs, h1]; omega)
      refine Harder_loop h1 d k (wo r k) (by omega) (good_wo hg (fun c hc => wo_mem hc) (by omega)) (by rw [← hse, hs]) (by omega) fun j hj => ?_
      have := hn j hj
      have := (pzSol_sub (a := wo (wo r k) j) (b := wo r j) (fun c hc => wo_wo_mem hj hkr hc)).length_le
      omega
theorem HarderPuzzle_both (p : List (Int × Int × Int)) : ∃ r, s_HarderPuzzle p = some r ∧ i_HarderPuzzle p = some r ∧ r.1.length ≤ 6 ∧ (r.2 = true ↔ s_pzGood_n p = true ∧ (pzSol p).length = 1) ∧ (r.2 = true → Hard p r.1) := by
  unfold s_HarderPuzzle i_HarderPuzzle s_HarderPuzzle_t0 i_HarderPuzzle_t0 i_IsSolved
  rw [i_CountSolutions_eq]
  unfold countN
  cases h : s_pzGood_n p
  · exact ⟨_, rfl, rfl, by simp, by simp, by simp⟩
  · obtain ⟨hk, hl⟩ := good_kinds h
    rw [s_pzSolved_eq hk (by omega)]
    simp only [cond_true, Option.bind_some, Bool.not_true, cond_false]
    cases hc : ((pzSol p).length : Int) == 1
    · have hne : ¬ ((pzSol p).length : Int) = 1 := by simpa using hc
      exact ⟨_, rfl, rfl, by simp, ⟨fun h => by (cases h), fun h => by omega⟩, fun h => by (cases h)⟩
    · have he : ((pzSol p).length : Int) = 1 := by simpa using hc
      have h1 : (pzSol p).length = 1 := by omega
      have hb : Nat.ble (0 + p.length) 4294967296 = true := by rw [ble_dec]; exact decide_eq_true (by omega)
      have hcl : slices_Clone_Clue_n p = some p := by
        unfold slices_Clone_Clue_n; rw [decide_eq_true (by omega)]; rfl
      rw [hb, hcl]
      obtain ⟨t, e1, e2, e3⟩ := Harder_loop h1 p.length 0 p (by omega) h rfl (Nat.le_refl _) (fun j hj => by omega)
      have := e3.len
      exact ⟨(t, true), e1, e2, by simp only; omega, ⟨fun _ => ⟨trivial, h1⟩, fun _ => rfl⟩, fun _ => e3⟩
end Go.Proofs.Ytbemnabojjiikaa.V
