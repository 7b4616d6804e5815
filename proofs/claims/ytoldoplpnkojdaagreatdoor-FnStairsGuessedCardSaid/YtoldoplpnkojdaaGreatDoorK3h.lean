/- Functions of the program, as plain functions. No condition. -/
import Derived.Test.YtoldoplpnkojdaaGreatDoorK3
import Derived.Test.YtoldoplpnkojdaaGreatDoorK2h
set_option linter.unusedVariables false
set_option linter.unusedSimpArgs false
set_option maxRecDepth 100000
namespace Go.Proofs.YtoldoplpnkojdaaGreatDoor.V
open Go Go.Ev Go.Proofs
/-! ### the solutions of a puzzle -/
/-- whether hidden stairs fit a clue -/
noncomputable def fitC (s : Int × List Int × List Int) (c : Int × Int × Int) : Bool := hidVal c.1 c.2.1 s.1 s.2.1 s.2.2 == c.2.2
noncomputable def pzOk (cl : List (Int × Int × Int)) (s : Int × List Int × List Int) : Bool := cl.all (fitC s)
noncomputable def pzSol (cl : List (Int × Int × Int)) : List (Int × List Int × List Int) := hidAll.filter (pzOk cl)
def Kinds (cl : List (Int × Int × Int)) : Prop := ∀ c, c ∈ cl → 0 ≤ c.1 ∧ c.1 ≤ 5
theorem good_kinds {cl : List (Int × Int × Int)} (h : s_pzGood_n cl = true) : Kinds cl ∧ cl.length ≤ 6 := by
  refine ⟨fun c hc => ?_, s_pzGood_len h⟩
  unfold s_pzGood_n at h
  cases h1 : decide ((cl.length : Int) > 6)
  · rw [h1] at h
    cases h2 : cl.any (fun c => !s_pzClue c.1 c.2.1 c.2.2)
    · have := List.any_eq_false.1 h2 c hc
      exact pzClue_kind (k := c.1) (a := c.2.1) (b := c.2.2) (by simpa using this)
    · rw [h2] at h; cases h
  · rw [h1] at h; cases h
theorem hid_hidden : hidAll.all (fun s => i_isHidden s.1 s.2.1 s.2.2) = true := by kernel_rfl
theorem hid_len : hidAll.length = 196 := by kernel_rfl
theorem pzSol_len (cl : List (Int × Int × Int)) : (pzSol cl).length ≤ 196 := by
  have := List.length_filter_le (pzOk cl) hidAll
  rw [hid_len] at this; exact this
theorem mem_hidden {s : Int × List Int × List Int} (h : s ∈ hidAll) : i_isHidden s.1 s.2.1 s.2.2 = true := List.all_eq_true.1 hid_hidden s h
noncomputable def hiddenI := it3 i_hidden_t1 i_hidden_t2 i_hidden_t3 i_hidden_L1 i_hidden_L2 i_hidden_L3 400
theorem i_hidden_eq : i_hidden = some hidAll := by
  unfold i_hidden
  have e := it3_eq (t1 := i_hidden_t1) (t2 := i_hidden_t2) (t3 := i_hidden_t3) (L1 := i_hidden_L1) (L2 := i_hidden_L2) (L3 := i_hidden_L3) (by funext a b; exact i_hidden_u1 a b)
    (by funext a b c d e; exact i_hidden_u2 a b c d e) (by funext a b c d e f g; exact i_hidden_u3 a b c d e f g) 400
  have e1 : i_hidden_t0 hiddenI.1 hiddenI.2.1 hiddenI.2.2 = some hidAll := by kernel_rfl
  unfold hiddenI at e1
  rw [e] at e1
  exact e1
theorem fits_eq {s : Int × List Int × List Int} (h : s ∈ hidAll) (c : Int × Int × Int) (hk : 0 ≤ c.1 ∧ c.1 ≤ 5) : i_fits c.1 c.2.1 c.2.2 s.1 s.2.1 s.2.2 = some (fitC s c) := by
  unfold i_fits
  rw [bOf_eq (mem_hidden h) _ _ hk]; rfl
theorem pzFits_eq {s : Int × List Int × List Int} (h : s ∈ hidAll) (c : Int × Int × Int) (hk : 0 ≤ c.1 ∧ c.1 ≤ 5) : s_pzFits c.1 c.2.1 c.2.2 s.1 s.2.1 s.2.2 = some (fitC s c) := by
  unfold s_pzFits
  rw [pzValue_eq (mem_hidden h) _ _ hk]; rfl
theorem idxF_all (p : (Int × Int × Int) → Bool) (l : List (Int × Int × Int)) : decide (idxF (fun c => !p c) l 0 ≥ 0) = !l.all p := by
  rw [idxF_any, ← any_not]; cases l.any (fun x => !p x) <;> rfl
theorem sol_c1_eq {s : Int × List Int × List Int} (h : s ∈ hidAll) {cl : List (Int × Int × Int)} (hk : Kinds cl) (hl : cl.length ≤ 1000) : F_i_solutions_c1 (s, cl, ()) = some (!pzOk cl s) := by
  show i_solutions_c1 s.1 s.2.1 s.2.2 cl = _
  have e : slices_IndexFunc_Clue__i_solutions_c1_c1 cl s.1 s.2.1 s.2.2 = some (idxF (fun c => !fitC s c) cl 0) := by
    have hm : cl.length ≤ maxLen := by rw [maxLen_eq]; omega
    exact loop_idx (L := fun i => slices_IndexFunc_Clue__i_solutions_c1_c1_L1 cl [s] cl.length (i : Int)) (l := cl) (p := fun c => !fitC s c)
      (fun i hi => by
        have e0 : rdk kStairs [s] 0 = s := rfl
        have hc := hk _ (List.getElem_mem hi)
        have e1 : i_solutions_c1_c1 cl[i].1 cl[i].2.1 cl[i].2.2 s.1 s.2.1 s.2.2 = some (!fitC s cl[i]) := by
          unfold i_solutions_c1_c1; rw [fits_eq h _ hc]; rfl
        simp only [slices_IndexFunc_Clue__i_solutions_c1_c1_u1 cl [s] cl.length i, slices_IndexFunc_Clue__i_solutions_c1_c1_t1, rdk_get (k := kClue) hi, wrapS hi hm, e0, e1]
        simp [hi])
      (by simp [slices_IndexFunc_Clue__i_solutions_c1_c1_u1 cl [s] cl.length cl.length, slices_IndexFunc_Clue__i_solutions_c1_c1_t1])
  unfold i_solutions_c1 slices_ContainsFunc_Clue__i_solutions_c1_c1
  have e0 : rdk kSClue [cl] 0 = cl := rfl
  rw [e0, e]
  simp only [Option.bind_some, idxF_all]; rfl
theorem sol_eq {cl : List (Int × Int × Int)} (hk : Kinds cl) (hl : cl.length ≤ 1000) : i_solutions cl = some (pzSol cl) := by
  unfold i_solutions
  rw [i_hidden_eq]
  have e : slices_DeleteFunc_Stairs__i_solutions_c1 hidAll cl = some (pzSol cl) := by
    unfold slices_DeleteFunc_Stairs__i_solutions_c1
    have h1 : hidAll.all (fun y => (F_i_solutions_c1 (y, cl, ())).isSome) = true := by
      rw [List.all_eq_true]; intro s hs; rw [sol_c1_eq hs hk hl]; rfl
    have h2 : (hidAll.filter fun y => !(F_i_solutions_c1 (y, cl, ())).getD false) = pzSol cl := by
      unfold pzSol
      refine List.filter_congr fun s hs => ?_
      rw [sol_c1_eq hs hk hl]; simp
    rw [h1, h2]; rfl
  simp only [Option.bind_some, e]
/-! the reference's -/
def mkH (n : Nat) (st : List Int) (k : Nat) : Int × List Int × List Int := (n, st, bif decide ((k : Int) > 0) then [(k : Int)] else [])
def rowH (n : Nat) (st : List Int) (k d : Nat) : List (Int × List Int × List Int) := (List.range' k d).map (mkH n st)
theorem hidAll_rows : (List.range' 1 7).flatMap (fun n => hidS.flatMap fun st => rowH n st 0 n) = hidAll := by kernel_rfl
theorem rowH_mem {n : Nat} {st : List Int} {k d : Nat} (hn : 1 ≤ n ∧ n ≤ 7) (hs : st ∈ hidS) (hd : k + d ≤ n) {s : Int × List Int × List Int} (h : s ∈ rowH n st k d) : s ∈ hidAll := by
  rw [← hidAll_rows]
  refine List.mem_flatMap.2 ⟨n, List.mem_range'.2 ⟨n - 1, by omega, by omega⟩, List.mem_flatMap.2 ⟨st, hs, ?_⟩⟩
  unfold rowH at h ⊢
  obtain ⟨j, hj, rfl⟩ := List.mem_map.1 h
  refine List.mem_map.2 ⟨j, ?_, rfl⟩
  obtain ⟨i, hi, rfl⟩ := List.mem_range'.1 hj
  exact List.mem_range'.2 ⟨k + 1 * i, by omega, by omega⟩
theorem pz4 {cl : List (Int × Int × Int)} (hk : Kinds cl) (hl : cl.length ≤ 1000) (acc : List (Int × List Int × List Int)) (st : List Int) (rows : List (List Int)) (n k : Nat) (x y : Int) (hn : k < n ∧ n ≤ 7) {s : Int × List Int × List Int} (h : s ∈ hidAll) (ha : acc.length ≤ 2000) :
    s_pzAll_L4 cl acc st s.1 rows s.2.1 s.2.2 n k true x y cl.length 0 = s_pzAll_L3 cl (acc ++ [s].filter (pzOk cl)) st rows n ((k + 1 : Nat) : Int) x y := by
  have hm : cl.length ≤ maxLen := by rw [maxLen_eq]; omega
  have hb : Nat.ble (acc.length + 1) 4294967296 = true := by rw [ble_dec]; exact decide_eq_true (by omega)
  have hw : IntKind.wrap .i64 ((k : Int) + 1) = ((k + 1 : Nat) : Int) := by rw [wrapI (by omega) (by omega)]; omega
  have key := drop_ind cl (fun i r => ∀ b, s_pzAll_L4 cl acc st s.1 rows s.2.1 s.2.2 n k b x y cl.length (i : Int) = s_pzAll_L3 cl (acc ++ bif b && r.all (fitC s) then [s] else []) st rows n ((k + 1 : Nat) : Int) x y)
    (fun b => by
      simp only [s_pzAll_u4 cl acc st s.1 rows s.2.1 s.2.2 n k b x y cl.length cl.length, s_pzAll_t4, hb, hw]
      cases b <;> simp)
    (fun i hi ih b => by
      have hc := hk _ (List.getElem_mem hi)
      simp only [s_pzAll_u4 cl acc st s.1 rows s.2.1 s.2.2 n k b x y cl.length i, s_pzAll_t4, rdk_get (k := kClue) hi, wrapS hi hm, pzFits_eq h _ hc, List.all_cons]
      cases b
      · simp only [hi, cond_false, Bool.false_and]; rw [ih false]; simp [hi]
      · simp only [cond_true, Option.bind_some, Bool.true_and]; rw [ih (fitC s cl[i])]; simp [hi])
  have := key true
  rw [Int.natCast_zero] at this
  rw [this]
  congr 2
theorem pz3 {cl : List (Int × Int × Int)} (hk : Kinds cl) (hl : cl.length ≤ 1000) (st : List Int) (hst : st ∈ hidS) (rows : List (List Int)) (n : Nat) (x y : Int) (hn : 1 ≤ n ∧ n ≤ 7) : ∀ (d k : Nat) (acc : List (Int × List Int × List Int)), k + d = n → acc.length ≤ 1000 + k →
    s_pzAll_L3 cl acc st rows n k x y = s_pzAll_L2 cl (acc ++ (rowH n st k d).filter (pzOk cl)) rows n x (IntKind.wrap .i64 (y + 1))
  | 0, k, acc, hd, ha => by
    have : ¬ ((k : Int) < n) := by omega
    rw [s_pzAll_u3, s_pzAll_t3, decide_eq_false this]
    simp [rowH]
  | d + 1, k, acc, hd, ha => by
    have : (k : Int) < n := by omega
    have hls : st.length ≤ 4294967296 := by
      have : ∀ l, l ∈ hidS → l.length ≤ 3 := by decide
      have := this st hst; omega
    have e1 : s_pzStairs n st k = some (mkH n st k) := by
      unfold s_pzStairs s_l1Own_n mkH
      rw [decide_eq_true hls]
      cases decide ((k : Int) > 0) <;> rfl
    have hmem : mkH n st k ∈ hidAll := rowH_mem (k := k) (d := 1) hn hst (by omega) (by simp [rowH])
    rw [s_pzAll_u3, s_pzAll_t3, decide_eq_true this, e1]
    simp only [cond_true, Option.bind_some]
    rw [pz4 hk hl acc st rows n k x y ⟨by omega, hn.2⟩ hmem (by omega), pz3 hk hl st hst rows n x y hn d (k + 1) _ (by omega) (by
      have := List.length_filter_le (pzOk cl) [mkH n st k]
      simp only [List.length_append, List.length_cons, List.length_nil] at this ⊢; omega)]
    congr 1
    rw [List.append_assoc]
    congr 1
    unfold rowH
    rw [List.range'_succ, List.map_cons, ← List.filter_append]
    rfl
theorem rowH_len (n : Nat) (st : List Int) (k d : Nat) (p) : ((rowH n st k d).filter p).length ≤ d := by
  have := List.length_filter_le p (rowH n st k d)
  unfold rowH at this ⊢; simp at this; exact this
theorem pz2 {cl : List (Int × Int × Int)} (hk : Kinds cl) (hl : cl.length ≤ 1000) (n : Nat) (hn : 1 ≤ n ∧ n ≤ 7) : ∀ (d y : Nat) (acc : List (Int × List Int × List Int)), y + d = 7 → acc.length ≤ 500 + 8 * y →
    s_pzAll_L2 cl acc hidS n 7 y = s_pzAll_L1 cl (acc ++ ((hidS.drop y).flatMap fun st => rowH n st 0 n).filter (pzOk cl)) ((n + 1 : Nat) : Int)
  | 0, y, acc, hd, ha => by
    have : y = 7 := by omega
    subst this
    have hw : IntKind.wrap .i64 ((n : Int) + 1) = ((n + 1 : Nat) : Int) := by rw [wrapI (by omega) (by omega)]; omega
    rw [s_pzAll_u2, s_pzAll_t2, hw]
    simp [hidS]
  | d + 1, y, acc, hd, ha => by
    have hy : y < hidS.length := by show y < 7; omega
    have hw : IntKind.wrap .i64 ((y : Int) + 1) = ((y + 1 : Nat) : Int) := by rw [wrapI (by omega) (by omega)]; omega
    have c1 : decide ((y : Int) < 7) = true := decide_eq_true (by omega)
    have c2 : decide ((y : Int) < (hidS.length : Int)) = true := decide_eq_true (by omega)
    rw [s_pzAll_u2, s_pzAll_t2, c1, c2, decide_eq_true (Int.natCast_nonneg y), rdk_get (k := kSint) hy]
    simp only [cond_true]
    have e3 := pz3 hk hl hidS[y] (List.getElem_mem hy) hidS n 7 y hn n 0 acc (by omega) (by omega)
    rw [Int.natCast_zero] at e3
    rw [e3, hw, pz2 hk hl n hn d (y + 1) _ (by omega) (by
      have := rowH_len n hidS[y] 0 n (pzOk cl)
      rw [List.length_append]; omega)]
    congr 1
    rw [List.drop_eq_getElem_cons hy, List.flatMap_cons, List.filter_append, List.append_assoc]
theorem flat_len (n : Nat) (p) : ((hidS.flatMap fun st => rowH n st 0 n).filter p).length ≤ 7 * n := by
  have := List.length_filter_le p (hidS.flatMap fun st => rowH n st 0 n)
  have h : (hidS.flatMap fun st => rowH n st 0 n).length = 7 * n := by
    simp [hidS, rowH]; omega
  omega
theorem pz1 {cl : List (Int × Int × Int)} (hk : Kinds cl) (hl : cl.length ≤ 1000) : ∀ (d n : Nat) (acc : List (Int × List Int × List Int)), n + d = 8 → 1 ≤ n → acc.length ≤ 50 * n →
    s_pzAll_L1 cl acc n = some (acc ++ ((List.range' n d).flatMap fun n => hidS.flatMap fun st => rowH n st 0 n).filter (pzOk cl))
  | 0, n, acc, hd, h1, ha => by
    have : ¬ ((n : Int) ≤ 7) := by omega
    rw [s_pzAll_u1, s_pzAll_t1, decide_eq_false this]
    simp
  | d + 1, n, acc, hd, h1, ha => by
    have : (n : Int) ≤ 7 := by omega
    rw [s_pzAll_u1, s_pzAll_t1, decide_eq_true this]
    have e2 := pz2 hk hl n (by omega) 7 0 acc rfl (by omega)
    rw [Int.natCast_zero] at e2
    show s_pzAll_L2 cl acc hidS n 7 0 = _
    rw [e2, pz1 hk hl d (n + 1) _ (by omega) (by omega) (by
      have := flat_len n (pzOk cl)
      rw [List.drop_zero, List.length_append]; omega)]
    rw [List.range'_succ, List.flatMap_cons, List.filter_append, List.append_assoc, List.drop_zero]
theorem pzAll_eq {cl : List (Int × Int × Int)} (hk : Kinds cl) (hl : cl.length ≤ 1000) : s_pzAll cl = some (pzSol cl) := by
  show s_pzAll_L1 cl [] ((1 : Nat) : Int) = _
  rw [pz1 hk hl 7 1 [] rfl (by omega) (by simp), hidAll_rows]
  rfl
end Go.Proofs.YtoldoplpnkojdaaGreatDoor.V
