/- The plain law of FnExactSureStrides: the plain function answers true. No condition. -/
import Derived.Test.YtbemnabojjiikaaB8h
set_option linter.unusedVariables false
set_option linter.unusedSimpArgs false
set_option maxRecDepth 100000
namespace Go.Proofs.Ytbemnabojjiikaa.V
open Go Go.Ev Go.Proofs
theorem hid_two {s : Int × List Int × List Int} (h : s ∈ hidAll) (x : Int) : s_pzValue 2 x s.1 s.2.1 s.2.2 = some (bif decide (x ∈ s.2.1) then 1 else 0) := by
  rw [pzValue_eq (mem_hidden h) 2 x (by omega)]
  obtain ⟨u, f, m, h1, -, -⟩ := hid_mem h
  unfold hidVal
  rw [h1]; rfl
def countIn (x : Int) (l : List (Int × List Int × List Int)) : Nat := (l.filter fun s => decide (x ∈ s.2.1)).length
theorem Sure2 {l : List (Int × List Int × List Int)} (hm : ∀ s, s ∈ l → s ∈ hidAll) (hl : l.length ≤ 1000) (a b : List Int) (x : Int) :
    s_SureStrides_L2 l a b x 0 l.length 0 = s_SureStrides_L2 l a b x (countIn x l) l.length l.length ∧ i_SureStrides_L2 l a b x 0 l.length 0 = i_SureStrides_L2 l a b x (countIn x l) l.length l.length := by
  have key := drop_ind l (fun i r => ∀ n : Nat, n ≤ i → s_SureStrides_L2 l a b x n l.length (i : Int) = s_SureStrides_L2 l a b x ((n + countIn x r : Nat) : Int) l.length l.length ∧ i_SureStrides_L2 l a b x n l.length (i : Int) = i_SureStrides_L2 l a b x ((n + countIn x r : Nat) : Int) l.length l.length)
    (fun n _ => ⟨rfl, rfl⟩)
    (fun i hi ih n hn => by
      have hml : l.length ≤ maxLen := by rw [maxLen_eq]; omega
      have hs := hm _ (List.getElem_mem hi)
      have hw : IntKind.wrap .i64 ((n : Int) + 1) = ((n + 1 : Nat) : Int) := by rw [wrapI (by omega) (by omega)]; omega
      have hw0 : IntKind.wrap .i64 ((n : Int) + 0) = ((n : Nat) : Int) := by rw [wrapI (by omega) (by omega)]; omega
      simp only [s_SureStrides_u2 l a b x n l.length i, s_SureStrides_t2, i_SureStrides_u2 l a b x n l.length i, i_SureStrides_t2, rdk_get (k := kStairs) hi, wrapS hi hml, hid_two hs, slices_Contains_int_eq]
      by_cases hx : x ∈ l[i].2.1
      · have := ih (n + 1) (by omega)
        simp only [hx, decide_true, cond_true, Option.bind_some, hw]
        unfold countIn at this ⊢
        simp only [List.filter_cons, hx, decide_true, if_true, List.length_cons]
        simpa [hi, Int.add_assoc, Int.add_comm (1 : Int)] using this
      · have := ih n (by omega)
        simp only [hx, decide_false, cond_false, Option.bind_some, hw0]
        unfold countIn at this ⊢
        simp only [List.filter_cons, hx, decide_false]
        simpa [hi] using this)
  have := key 0 (by omega)
  simpa using this
theorem Sure1 {l : List (Int × List Int × List Int)} (hm : ∀ s, s ∈ l → s ∈ hidAll) (hl : l.length ≤ 1000) : ∀ (d n : Nat) (a b : List Int), n + d = 4 → a.length + b.length ≤ n →
    ∃ r, s_SureStrides_L1 l a b n = some r ∧ i_SureStrides_L1 l a b n = some r ∧ r.1.length ≤ 1000 ∧ r.2.1.length ≤ 1000
  | 0, n, a, b, hd, ha => by
    have : ¬ ((n : Int) ≤ 3) := by omega
    rw [s_SureStrides_u1, s_SureStrides_t1, i_SureStrides_u1, i_SureStrides_t1, decide_eq_false this]
    exact ⟨_, rfl, rfl, by simp only; omega, by simp only; omega⟩
  | d + 1, n, a, b, hd, ha => by
    have : ((n : Int) ≤ 3) := by omega
    have hw : IntKind.wrap .i64 ((n : Int) + 1) = ((n + 1 : Nat) : Int) := by rw [wrapI (by omega) (by omega)]; omega
    have b1 : Nat.ble (a.length + 1) 4294967296 = true := by rw [ble_dec]; exact decide_eq_true (by omega)
    have b2 : Nat.ble (b.length + 1) 4294967296 = true := by rw [ble_dec]; exact decide_eq_true (by omega)
    have hn : decide ((l.length : Int) < l.length) = false := decide_eq_false (by omega)
    obtain ⟨e1, e2⟩ := Sure2 hm hl a b n
    rw [s_SureStrides_u1, s_SureStrides_t1, i_SureStrides_u1, i_SureStrides_t1, decide_eq_true this]
    simp only [cond_true]
    rw [e1, e2, s_SureStrides_u2, s_SureStrides_t2, i_SureStrides_u2, i_SureStrides_t2, hn, hw, b1, b2]
    simp only [cond_true, cond_false]
    cases ((countIn n l : Nat) : Int) == (l.length : Int)
    · cases ((countIn n l : Nat) : Int) == 0
      · exact Sure1 hm hl d (n + 1) _ _ (by omega) (by omega)
      · exact Sure1 hm hl d (n + 1) _ _ (by omega) (by simp; omega)
    · exact Sure1 hm hl d (n + 1) _ _ (by omega) (by simp; omega)
theorem SureStrides_both (p : List (Int × Int × Int)) : ∃ r, s_SureStrides p = some r ∧ i_SureStrides p = some r ∧ r.1.length ≤ 1000 ∧ r.2.1.length ≤ 1000 := by
  unfold s_SureStrides i_SureStrides s_SureStrides_t0 i_SureStrides_t0
  rw [i_Solutions_eq]
  unfold solN
  cases h : s_pzGood_n p
  · exact ⟨_, rfl, rfl, by simp, by simp⟩
  · obtain ⟨hk, hl⟩ := good_kinds h
    rw [pzAll_eq hk (by omega)]
    simp only [cond_true, Option.bind_some, Bool.not_true, cond_false]
    cases ((pzSol p).length : Int) == 0
    · exact Sure1 (fun s => pzSol_mem) (by have := pzSol_len p; omega) 3 1 [] [] rfl (by simp)
    · exact ⟨_, rfl, rfl, by simp, by simp⟩
theorem pure_FnExactSureStrides (y : List (Int × Int × Int)) (hw : Wf kwPuzzle y) : F_w_FnExactSureStrides (y, ()) = some true := by
  show w_FnExactSureStrides y = some true
  unfold w_FnExactSureStrides
  cases hs : decide (w_szPuzzle y 1048576 < 0)
  · have hl := szPuzzle_le hw.1 hs
    obtain ⟨r, h1, h2, h3, h4⟩ := SureStrides_both y
    have m1 := heldPuzzle_eq y (by omega)
    have m2 := heldInt_eq r.1 (by omega)
    have m3 := heldInt2_eq r.1 r.2.1 (by omega) (by omega)
    simp [toPuzzle_eq hl, h1, h2, eqPuzzle_eq, m1.1, m2.1, m2.2, m3.1, m3.2, w_eqIntS_n]
  · rfl
end Go.Proofs.Ytbemnabojjiikaa.V
