/- Functions of the program, as plain functions. No condition. -/
import Derived.Test.YtoldoplpnkojdaaGreatDoorK4t
import Derived.Test.YtoldoplpnkojdaaGreatDoorK3h
set_option linter.unusedVariables false
set_option linter.unusedSimpArgs false
set_option maxRecDepth 100000
namespace Go.Proofs.YtoldoplpnkojdaaGreatDoor.V
open Go Go.Ev Go.Proofs
/-! ### what is told of puzzles -/
noncomputable def solN (p : List (Int × Int × Int)) : List (Int × List Int × List Int) × Bool := bif s_pzGood_n p then (pzSol p, true) else ([], false)
theorem s_Solutions_eq (p : List (Int × Int × Int)) : s_Solutions p = some (solN p) := by
  unfold s_Solutions solN
  cases h : s_pzGood_n p
  · rfl
  · obtain ⟨h1, h2⟩ := good_kinds h
    rw [pzAll_eq h1 (by omega)]; rfl
theorem i_Solutions_eq (p : List (Int × Int × Int)) : i_Solutions p = some (solN p) := by
  unfold i_Solutions solN
  rw [IsPuzzle_eq]
  cases h : s_pzGood_n p
  · rfl
  · obtain ⟨h1, h2⟩ := good_kinds h
    rw [sol_eq h1 (by omega)]; rfl
theorem Kinds.sub {a b : List (Int × Int × Int)} (h : Kinds b) (hs : ∀ c, c ∈ a → c ∈ b) : Kinds a := fun c hc => h c (hs c hc)
theorem pzSol_mem {cl : List (Int × Int × Int)} {s : Int × List Int × List Int} (h : s ∈ pzSol cl) : s ∈ hidAll := (List.mem_filter.1 h).1
noncomputable def countN (p : List (Int × Int × Int)) : Int × Bool := bif s_pzGood_n p then (((pzSol p).length : Int), true) else (0, false)
theorem s_CountSolutions_eq (p : List (Int × Int × Int)) : s_CountSolutions p = some (countN p) := by
  unfold s_CountSolutions countN
  cases h : s_pzGood_n p
  · rfl
  · obtain ⟨h1, h2⟩ := good_kinds h
    rw [pzAll_eq h1 (by omega)]; rfl
theorem i_CountSolutions_eq (p : List (Int × Int × Int)) : i_CountSolutions p = some (countN p) := by
  unfold i_CountSolutions countN
  rw [i_Solutions_eq]
  unfold solN
  cases h : s_pzGood_n p <;> rfl
theorem s_pzSolved_eq {cl : List (Int × Int × Int)} (h1 : Kinds cl) (h2 : cl.length ≤ 1000) : s_pzSolved cl = some (((pzSol cl).length : Int) == 1) := by
  unfold s_pzSolved; rw [pzAll_eq h1 h2]; rfl
theorem IsSolved_both (p : List (Int × Int × Int)) : ∃ r, s_IsSolved p = some r ∧ i_IsSolved p = some r := by
  unfold s_IsSolved i_IsSolved
  rw [i_CountSolutions_eq]
  unfold countN
  cases h : s_pzGood_n p
  · exact ⟨_, rfl, rfl⟩
  · obtain ⟨h1, h2⟩ := good_kinds h
    rw [s_pzSolved_eq h1 (by omega)]
    exact ⟨_, rfl, rfl⟩
/-! ### numbers of which something holds -/
def numF (f : Nat → Bool) (n d : Nat) : List Int := ((List.range' n d).filter f).map (fun k : Nat => (k : Int))
theorem numF_zero (f : Nat → Bool) (n : Nat) : numF f n 0 = [] := rfl
theorem numF_succ (f : Nat → Bool) (n d : Nat) : numF f n (d + 1) = (bif f n then [(n : Int)] else []) ++ numF f (n + 1) d := by
  unfold numF
  rw [List.range'_succ, List.filter_cons]
  cases h : f n
  · simp
  · simp
theorem numF_mem {f : Nat → Bool} {n d : Nat} {x : Int} : x ∈ numF f n d ↔ ∃ k : Nat, (n ≤ k ∧ k < n + d) ∧ f k = true ∧ x = k := by
  unfold numF
  rw [List.mem_map]
  constructor
  · rintro ⟨k, hk, rfl⟩
    obtain ⟨h1, h2⟩ := List.mem_filter.1 hk
    exact ⟨k, List.mem_range'_1.1 h1, h2, rfl⟩
  · rintro ⟨k, h1, h2, rfl⟩
    exact ⟨k, List.mem_filter.2 ⟨List.mem_range'_1.2 h1, h2⟩, rfl⟩
theorem numF_nat {f : Nat → Bool} {n d k : Nat} : (k : Int) ∈ numF f n d ↔ (n ≤ k ∧ k < n + d) ∧ f k = true := by
  rw [numF_mem]
  constructor
  · rintro ⟨j, h1, h2, h3⟩
    rw [show k = j from by omega]; exact ⟨h1, h2⟩
  · rintro ⟨h1, h2⟩
    exact ⟨k, h1, h2, rfl⟩
theorem numF_len (f : Nat → Bool) (n d : Nat) : (numF f n d).length ≤ d := by
  unfold numF
  rw [List.length_map]
  refine Nat.le_trans (List.length_filter_le _ _) ?_
  rw [List.length_range']; exact Nat.le_refl _
theorem numF_pw (f : Nat → Bool) (n d : Nat) : (numF f n d).Pairwise (· < ·) := by
  unfold numF
  rw [List.pairwise_map]
  exact (List.Pairwise.filter _ List.pairwise_lt_range').imp fun {a b} h => by omega
theorem numF_congr {f g : Nat → Bool} {n d : Nat} (h : ∀ k, n ≤ k → k < n + d → f k = g k) : numF f n d = numF g n d := by
  unfold numF
  congr 1
  exact List.filter_congr fun k hk => by have := List.mem_range'_1.1 hk; exact h k this.1 this.2
/-- two lists that rise and have the same members are the same -/
theorem pw_ext : ∀ {l m : List Int}, l.Pairwise (· < ·) → m.Pairwise (· < ·) → (∀ x, x ∈ l ↔ x ∈ m) → l = m
  | [], [], _, _, _ => rfl
  | [], y :: m, _, _, h => absurd ((h y).2 (by simp)) (by simp)
  | x :: l, [], _, _, h => absurd ((h x).1 (by simp)) (by simp)
  | x :: l, y :: m, hl, hm, h => by
    obtain ⟨l1, l2⟩ := List.pairwise_cons.1 hl
    obtain ⟨m1, m2⟩ := List.pairwise_cons.1 hm
    have e : x = y := by
      have a := (h x).1 (by simp)
      have b := (h y).2 (by simp)
      rcases List.mem_cons.1 a with a | a
      · exact a
      · rcases List.mem_cons.1 b with b | b
        · exact b.symm
        · have := m1 x a; have := l1 y b; omega
    subst e
    rw [pw_ext l2 m2 (fun z => ?_)]
    constructor
    · intro hz
      rcases List.mem_cons.1 ((h z).1 (List.mem_cons_of_mem _ hz)) with e | e
      · have := l1 z hz; omega
      · exact e
    · intro hz
      rcases List.mem_cons.1 ((h z).2 (List.mem_cons_of_mem _ hz)) with e | e
      · have := m1 z hz; omega
      · exact e
/-- a row that goes up changes no more often than it rises -/
theorem joins_cnt (g : Nat → Int) : ∀ d : Nat, (∀ i, i < d → g i ≤ g (i + 1)) → (((List.range' 1 d).filter (fun i => !(g i == g (i - 1)))).length : Int) ≤ g d - g 0
  | 0, _ => by simp
  | d + 1, h => by
    have ih := joins_cnt g d (fun i hi => h i (by omega))
    have hd := h d (by omega)
    rw [List.range'_1_concat, List.filter_append, List.length_append]
    rw [show 1 + d = d + 1 from by omega]
    by_cases c : g (d + 1) = g d
    · have : [d + 1].filter (fun i => !(g i == g (i - 1))) = [] := by simp [c]
      rw [this, List.length_nil]; omega
    · have : ([d + 1].filter (fun i => !(g i == g (i - 1)))).length ≤ 1 := List.length_filter_le _ _
      omega
/-! ### puzzles guessed: what is told, in closed form -/
noncomputable def firstN (p : List (Int × Int × Int)) : (Int × List Int × List Int) × Bool :=
  bif s_pzGood_n p then (match pzSol p with | [] => ((0, [], []), false) | s :: _ => (s, true)) else ((0, [], []), false)
theorem FirstSolution_eq (p : List (Int × Int × Int)) : s_FirstSolution p = some (firstN p) ∧ i_FirstSolution p = some (firstN p) := by
  unfold s_FirstSolution i_FirstSolution firstN
  rw [i_Solutions_eq]
  unfold solN
  cases h : s_pzGood_n p
  · exact ⟨rfl, rfl⟩
  · obtain ⟨hk, hl⟩ := good_kinds h
    rw [pzAll_eq hk (by omega)]
    simp only [cond_true, Option.bind_some, Bool.not_true, cond_false]
    cases hp : pzSol p with
    | nil => exact ⟨rfl, rfl⟩
    | cons s r =>
      have e : rdk kStairs (s :: r) 0 = s := rfl
      have h0 : (((s :: r).length : Int) == 0) = false := by rw [beq_eq_false_iff_ne, List.length_cons]; omega
      have h1 : decide ((0 : Int) < ((s :: r).length : Int)) = true := decide_eq_true (by rw [List.length_cons]; omega)
      simp only [h0, h1, e, cond_false, cond_true]
      refine ⟨?_, ?_⟩ <;> first | trivial | rfl
theorem hid_two {s : Int × List Int × List Int} (h : s ∈ hidAll) (x : Int) : s_pzValue 2 x s.1 s.2.1 s.2.2 = some (bif decide (x ∈ s.2.1) then 1 else 0) := by
  rw [pzValue_eq (mem_hidden h) 2 x (by omega)]
  obtain ⟨u, f, m, h1, -, -⟩ := hid_mem h
  unfold hidVal
  rw [h1]; rfl
def countIn (x : Int) (l : List (Int × List Int × List Int)) : Nat := (l.filter fun s => decide (x ∈ s.2.1)).length
theorem Sure2 {l : List (Int × List Int × List Int)} (hm : ∀ s, s ∈ l → s ∈ hidAll) (hl : l.length ≤ 1000) (a b : List Int) (x : Int) :
    s_SureStrides_L2 l a b x 0 l.length 0 = s_SureStrides_L2 l a b x (countIn x l) l.length l.length ∧ i_SureStrides_L2 l a b x 0 l.length 0 = i_SureStrides_L2 l a b x (countIn x l) l.length l.length := by
  have key := drop_ind l (fun i r => ∀ n : Nat, n ≤ i → s_SureStrides_L2 l a b x n l.length (i : Int) = s_SureStrides_L2 l a b x ((n + countIn x r : Nat) : Int) l.length l.length ∧ i_SureStrides_L2 l a b x n l.length (i : Int) = i_SureStrides_L2 l a b x ((n + countIn x r : Nat) : Int) l.length l.length)
    (fun n _ => ⟨rfl, rfl⟩)
    (fun i hi ih n hn => by
      have hml : l.length ≤ maxLen := by rw [maxLen_eq]; omega
      have hs := hm _ (List.getElem_mem hi)
      have hw : IntKind.wrap .i64 ((n : Int) + 1) = ((n + 1 : Nat) : Int) := by rw [wrapI (by omega) (by omega)]; omega
      have hw0 : IntKind.wrap .i64 ((n : Int) + 0) = ((n : Nat) : Int) := by rw [wrapI (by omega) (by omega)]; omega
      simp only [s_SureStrides_u2 l a b x n l.length i, s_SureStrides_t2, i_SureStrides_u2 l a b x n l.length i, i_SureStrides_t2, rdk_get (k := kStairs) hi, wrapS hi hml, hid_two hs, slices_Contains_int_eq]
      by_cases hx : x ∈ l[i].2.1
      · have := ih (n + 1) (by omega)
        simp only [hx, decide_true, cond_true, Option.bind_some, hw]
        unfold countIn at this ⊢
        simp only [List.filter_cons, hx, decide_true, if_true, List.length_cons]
        simpa [hi, Int.add_assoc, Int.add_comm (1 : Int)] using this
      · have := ih n (by omega)
        simp only [hx, decide_false, cond_false, Option.bind_some, hw0]
        unfold countIn at this ⊢
        simp only [List.filter_cons, hx, decide_false]
        simpa [hi] using this)
  have := key 0 (by omega)
  simpa using this
def allHave (l : List (Int × List Int × List Int)) (n : Nat) : Bool := countIn n l == l.length
def noneHas (l : List (Int × List Int × List Int)) (n : Nat) : Bool := !(countIn n l == l.length) && countIn n l == 0
theorem Sure1 {l : List (Int × List Int × List Int)} (hm : ∀ s, s ∈ l → s ∈ hidAll) (hl : l.length ≤ 1000) : ∀ (d n : Nat) (a b : List Int), n + d = 4 → a.length + b.length ≤ n →
    s_SureStrides_L1 l a b n = some (a ++ numF (allHave l) n d, b ++ numF (noneHas l) n d, true) ∧ i_SureStrides_L1 l a b n = some (a ++ numF (allHave l) n d, b ++ numF (noneHas l) n d, true)
  | 0, n, a, b, hd, ha => by
    have : ¬ ((n : Int) ≤ 3) := by omega
    rw [s_SureStrides_u1, s_SureStrides_t1, i_SureStrides_u1, i_SureStrides_t1, decide_eq_false this, numF_zero, numF_zero, List.append_nil, List.append_nil]
    exact ⟨rfl, rfl⟩
  | d + 1, n, a, b, hd, ha => by
    have : ((n : Int) ≤ 3) := by omega
    have hw : IntKind.wrap .i64 ((n : Int) + 1) = ((n + 1 : Nat) : Int) := by rw [wrapI (by omega) (by omega)]; omega
    have b1 : Nat.ble (a.length + 1) 4294967296 = true := by rw [ble_dec]; exact decide_eq_true (by omega)
    have b2 : Nat.ble (b.length + 1) 4294967296 = true := by rw [ble_dec]; exact decide_eq_true (by omega)
    have hn : decide ((l.length : Int) < l.length) = false := decide_eq_false (by omega)
    obtain ⟨e1, e2⟩ := Sure2 hm hl a b n
    have c1 : (((countIn n l : Nat) : Int) == (l.length : Int)) = allHave l n := by
      unfold allHave
      rw [Bool.eq_iff_iff, beq_iff_eq, beq_iff_eq]; omega
    have c2 : (((countIn n l : Nat) : Int) == 0) = (countIn n l == 0) := by
      rw [Bool.eq_iff_iff, beq_iff_eq, beq_iff_eq]; omega
    have ih := Sure1 hm hl d (n + 1)
    rw [s_SureStrides_u1, s_SureStrides_t1, i_SureStrides_u1, i_SureStrides_t1, decide_eq_true this, numF_succ, numF_succ]
    simp only [cond_true]
    rw [e1, e2, s_SureStrides_u2, s_SureStrides_t2, i_SureStrides_u2, i_SureStrides_t2, hn, hw, b1, b2, c1, c2]
    simp only [cond_true, cond_false]
    have ce : allHave l n = (countIn n l == l.length) := rfl
    have ne : noneHas l n = (!allHave l n && countIn n l == 0) := rfl
    rw [ne]
    cases h1 : allHave l n
    · cases h2 : (countIn n l == 0)
      · simpa using ih a b (by omega) (by omega)
      · simpa using ih a (b ++ [(n : Int)]) (by omega) (by simp; omega)
    · simpa using ih (a ++ [(n : Int)]) b (by omega) (by simp; omega)
noncomputable def sureN (p : List (Int × Int × Int)) : List Int × List Int × Bool :=
  bif s_pzGood_n p && !((pzSol p).length == 0) then (numF (allHave (pzSol p)) 1 3, numF (noneHas (pzSol p)) 1 3, true) else ([], [], false)
theorem SureStrides_eq (p : List (Int × Int × Int)) : s_SureStrides p = some (sureN p) ∧ i_SureStrides p = some (sureN p) := by
  unfold s_SureStrides i_SureStrides s_SureStrides_t0 i_SureStrides_t0 sureN
  rw [i_Solutions_eq]
  unfold solN
  cases h : s_pzGood_n p
  · exact ⟨rfl, rfl⟩
  · obtain ⟨hk, hl⟩ := good_kinds h
    have ce : (((pzSol p).length : Int) == 0) = ((pzSol p).length == 0) := by
      rw [Bool.eq_iff_iff, beq_iff_eq, beq_iff_eq]; omega
    rw [pzAll_eq hk (by omega)]
    simp only [cond_true, Option.bind_some, Bool.not_true, cond_false, ce]
    cases h0 : (pzSol p).length == 0
    · exact Sure1 (fun s => pzSol_mem) (by have := pzSol_len p; omega) 3 1 [] [] rfl (by simp)
    · exact ⟨rfl, rfl⟩
def woP (p : List (Int × Int × Int)) (k : Nat) : List (Int × Int × Int) := p.take k ++ p.drop (k + 1)
noncomputable def idle (p : List (Int × Int × Int)) (k : Nat) : Bool := (pzSol (woP p k)).length == (pzSol p).length
theorem Needless_loop {p : List (Int × Int × Int)} (hk : Kinds p) (hl : p.length ≤ 6) : ∀ (d k : Nat) (acc : List Int), k + d = p.length → acc.length ≤ k →
    s_NeedlessClues_L1 acc p (pzSol p).length p.length k = some (acc ++ numF (idle p) k d, true) ∧ i_NeedlessClues_L1 acc p p.length k = some (acc ++ numF (idle p) k d, true)
  | 0, k, acc, hd, ha => by
    have h1 : ¬ ((k : Int) < p.length) := by omega
    rw [s_NeedlessClues_u1, s_NeedlessClues_t1, i_NeedlessClues_u1, i_NeedlessClues_t1, decide_eq_false h1, numF_zero, List.append_nil]
    exact ⟨rfl, rfl⟩
  | d + 1, k, acc, hd, ha => by
    have c1 : decide ((k : Int) < p.length) = true := decide_eq_true (by omega)
    have hw : IntKind.wrap .i64 ((k : Int) + 1) = ((k + 1 : Nat) : Int) := by rw [wrapI (by omega) (by omega)]; omega
    have hb : Nat.ble (acc.length + 1) 4294967296 = true := by rw [ble_dec]; exact decide_eq_true (by omega)
    have hk1 : Kinds (p.take k ++ p.drop (k + 1)) := hk.sub fun c hc => by
      rcases List.mem_append.1 hc with h | h
      · exact List.mem_of_mem_take h
      · exact List.mem_of_mem_drop h
    have hl1 : (p.take k ++ p.drop (k + 1)).length ≤ 1000 := by simp; omega
    have ce : (((pzSol (p.take k ++ p.drop (k + 1))).length : Int) == ((pzSol p).length : Int)) = idle p k := by
      show _ = ((pzSol (p.take k ++ p.drop (k + 1))).length == (pzSol p).length)
      rw [Bool.eq_iff_iff, beq_iff_eq, beq_iff_eq]; omega
    rw [s_NeedlessClues_u1, s_NeedlessClues_t1, i_NeedlessClues_u1, i_NeedlessClues_t1, c1, hw, s_pzWithout_eq p k (by omega) hl, i_without_eq p k (by omega) hl, numF_succ]
    simp only [cond_true, Option.bind_some]
    rw [pzAll_eq hk1 hl1, sol_eq hk1 hl1, sol_eq hk (by omega), hb]
    simp only [cond_true, Option.bind_some, ce]
    cases idle p k
    · simpa using Needless_loop hk hl d (k + 1) acc (by omega) (by omega)
    · simpa using Needless_loop hk hl d (k + 1) (acc ++ [(k : Int)]) (by omega) (by simp; omega)
noncomputable def needN (p : List (Int × Int × Int)) : List Int × Bool := bif s_pzGood_n p then (numF (idle p) 0 p.length, true) else ([], false)
theorem NeedlessClues_eq (p : List (Int × Int × Int)) : s_NeedlessClues p = some (needN p) ∧ i_NeedlessClues p = some (needN p) := by
  unfold s_NeedlessClues i_NeedlessClues s_NeedlessClues_t0 i_NeedlessClues_t0 needN
  rw [IsPuzzle_eq]
  cases h : s_pzGood_n p
  · exact ⟨rfl, rfl⟩
  · obtain ⟨hk, hl⟩ := good_kinds h
    rw [pzAll_eq hk (by omega)]
    exact Needless_loop hk hl p.length 0 [] (by omega) (by simp)
noncomputable def leftL (p : List (Int × Int × Int)) (k d : Nat) : List Int := (List.range' k d).map (fun k => ((pzSol (p.take k)).length : Int))
theorem LeftByClues_loop {p : List (Int × Int × Int)} (hk : Kinds p) (hl : p.length ≤ 6) : ∀ (d k : Nat) (acc : List Int), k + d = p.length + 1 → acc.length ≤ k →
    s_LeftByClues_L1 acc p k = some (acc ++ leftL p k d, true) ∧ i_LeftByClues_L1 acc p ((p.length + 1 : Nat) : Int) k = some (acc ++ leftL p k d, true)
  | 0, k, acc, hd, ha => by
    have h1 : ¬ ((k : Int) ≤ p.length) := by omega
    have h2 : ¬ ((k : Int) < ((p.length + 1 : Nat) : Int)) := by omega
    rw [s_LeftByClues_u1, s_LeftByClues_t1, i_LeftByClues_u1, i_LeftByClues_t1, decide_eq_false h1, decide_eq_false h2]
    simp [leftL]
  | d + 1, k, acc, hd, ha => by
    have c1 : decide ((k : Int) ≤ p.length) = true := decide_eq_true (by omega)
    have c2 : decide ((k : Int) < ((p.length + 1 : Nat) : Int)) = true := decide_eq_true (by omega)
    have hw : IntKind.wrap .i64 ((k : Int) + 1) = ((k + 1 : Nat) : Int) := by rw [wrapI (by omega) (by omega)]; omega
    have hb : Nat.ble (acc.length + 1) 4294967296 = true := by rw [ble_dec]; exact decide_eq_true (by omega)
    have t2 : Int.toNat (0 : Int) = 0 := rfl
    have hk1 : Kinds (p.take k) := hk.sub fun c hc => List.mem_of_mem_take hc
    have hl1 : (p.take k).length ≤ 1000 := by simp; omega
    have el : leftL p k (d + 1) = ((pzSol (p.take k)).length : Int) :: leftL p (k + 1) d := by unfold leftL; rw [List.range'_succ, List.map_cons]
    rw [s_LeftByClues_u1, s_LeftByClues_t1, i_LeftByClues_u1, i_LeftByClues_t1, c1, c2, hw, t2, List.drop_zero, Nat.sub_zero, Int.toNat_natCast, pzAll_eq hk1 hl1, sol_eq hk1 hl1, hb, decide_eq_true (Int.natCast_nonneg k), el]
    simp only [cond_true, Option.bind_some]
    simpa using LeftByClues_loop hk hl d (k + 1) (acc ++ [((pzSol (p.take k)).length : Int)]) (by omega) (by simp; omega)
noncomputable def leftN (p : List (Int × Int × Int)) : List Int × Bool := bif s_pzGood_n p then (leftL p 0 (p.length + 1), true) else ([], false)
theorem LeftByClues_eq (p : List (Int × Int × Int)) : s_LeftByClues p = some (leftN p) ∧ i_LeftByClues p = some (leftN p) := by
  unfold s_LeftByClues i_LeftByClues s_LeftByClues_t0 i_LeftByClues_t0 leftN
  rw [IsPuzzle_eq]
  cases h : s_pzGood_n p
  · exact ⟨rfl, rfl⟩
  · obtain ⟨hk, hl⟩ := good_kinds h
    have hw : IntKind.wrap .i64 ((p.length : Int) + 1) = ((p.length + 1 : Nat) : Int) := by rw [wrapI (by omega) (by omega)]; omega
    rw [hw]
    exact LeftByClues_loop hk hl (p.length + 1) 0 [] (by omega) (by simp)
theorem BestClue_loop {p : List (Int × Int × Int)} (hk : Kinds p) (hl : p.length ≤ 6) : ∀ (d k : Nat) (best least : Int), k + d = p.length → 1 ≤ k → 0 ≤ least → (0 ≤ best ∧ best < p.length) →
    ∃ r, s_BestClue_L1 p best least p.length k = some r ∧ i_BestClue_L1 p best least p.length k = some r ∧ r.2 = true ∧ 0 ≤ r.1 ∧ r.1 < p.length
  | 0, k, best, least, hd, h1, h0, hb => by
    have : ¬ ((k : Int) < p.length) := by omega
    rw [s_BestClue_u1, s_BestClue_t1, i_BestClue_u1, i_BestClue_t1, decide_eq_false this]
    exact ⟨_, rfl, rfl, rfl, hb.1, hb.2⟩
  | d + 1, k, best, least, hd, h1, h0, hb => by
    have hkl : k < p.length := by omega
    have hw : IntKind.wrap .i64 ((k : Int) + 1) = ((k + 1 : Nat) : Int) := by rw [wrapI (by omega) (by omega)]; omega
    have e1 : (p.drop k).take (k + 1 - k) = [p[k]] := by
      rw [List.drop_eq_getElem_cons hkl, Nat.add_sub_cancel_left]; rfl
    have hk1 : Kinds [p[k]] := hk.sub (fun c hc => by rw [List.mem_singleton] at hc; subst hc; exact List.getElem_mem hkl)
    have hn : ¬ (least < 0) := by omega
    have hz : ((k : Int) == 0) = false := by rw [beq_eq_false_iff_ne]; omega
    have c1 : decide ((k : Int) < p.length) = true := decide_eq_true (by omega)
    have c2 : decide ((0 : Int) ≤ ((k + 1 : Nat) : Int)) = true := decide_eq_true (by omega)
    have c3 : decide (((k + 1 : Nat) : Int) ≤ (p.length : Int)) = true := decide_eq_true (by omega)
    have c4 : decide ((k : Int) ≤ ((k + 1 : Nat) : Int)) = true := decide_eq_true (by omega)
    rw [s_BestClue_u1, s_BestClue_t1, i_BestClue_u1, i_BestClue_t1, hw, rdk_get (k := kClue) hkl, c1, c2, c3, c4, decide_eq_true (Int.natCast_nonneg k), Int.toNat_natCast, Int.toNat_natCast, e1, hz, decide_eq_false hn]
    simp only [cond_true, cond_false]
    rw [pzAll_eq hk1 (by simp)]
    have e2 : i_solutions [(p[k].1, p[k].2.1, p[k].2.2)] = some (pzSol [p[k]]) := sol_eq hk1 (by simp)
    rw [e2]
    simp only [Option.bind_some]
    cases decide (((pzSol [p[k]]).length : Int) < least)
    · exact BestClue_loop hk hl d (k + 1) _ _ (by omega) (by omega) h0 hb
    · exact BestClue_loop hk hl d (k + 1) _ _ (by omega) (by omega) (by omega) (by omega)
theorem BestClue_full (p : List (Int × Int × Int)) : ∃ r, s_BestClue p = some r ∧ i_BestClue p = some r ∧ (r.2 = (s_pzGood_n p && decide ((p.length : Int) > 0))) ∧ (r.2 = true → 0 ≤ r.1 ∧ r.1 < p.length) := by
  unfold s_BestClue i_BestClue s_BestClue_t0 i_BestClue_t0
  rw [IsPuzzle_eq]
  cases h : s_pzGood_n p
  · exact ⟨_, rfl, rfl, rfl, fun h => by cases h⟩
  · obtain ⟨hk, hl⟩ := good_kinds h
    cases h0 : (p.length : Int) == 0
    · have hp : ¬ ((p.length : Int) = 0) := by simpa using h0
      have hkl : 0 < p.length := by omega
      have hw : IntKind.wrap .i64 ((0 : Int) + 1) = ((1 : Nat) : Int) := rfl
      have e1 : (p.drop 0).take (1 - 0) = [p[0]] := by rw [List.drop_eq_getElem_cons hkl]; rfl
      have hk1 : Kinds [p[0]] := hk.sub (fun c hc => by rw [List.mem_singleton] at hc; subst hc; exact List.getElem_mem hkl)
      have e2 : i_solutions [(p[0].1, p[0].2.1, p[0].2.2)] = some (pzSol [p[0]]) := sol_eq hk1 (by simp)
      have c3 : decide (((1 : Nat) : Int) ≤ (p.length : Int)) = true := decide_eq_true (by omega)
      have c1 : decide ((0 : Int) < p.length) = true := decide_eq_true (by omega)
      have r0 : rdk kClue p 0 = p[0] := rdk_get (k := kClue) hkl
      have t1 : Int.toNat ((1 : Nat) : Int) - Int.toNat 0 = 1 - 0 := rfl
      simp only [Bool.not_true, cond_false]
      rw [s_BestClue_u1, s_BestClue_t1, i_BestClue_u1, i_BestClue_t1, hw, c1, c3, r0, t1]
      have t2 : Int.toNat (0 : Int) = 0 := rfl
      rw [t2, e1, pzAll_eq hk1 (by simp), e2]
      obtain ⟨r, r1, r2, r3, r4⟩ := BestClue_loop hk hl (p.length - 1) 1 0 (pzSol [p[0]]).length (by omega) (by omega) (by omega) (by omega)
      exact ⟨r, r1, r2, by rw [r3]; first | rfl | (rw [decide_eq_true (show (p.length : Int) > 0 by omega)]; rfl), fun _ => r4⟩
    · have hp : (p.length : Int) = 0 := by simpa using h0
      exact ⟨_, rfl, rfl, by rw [decide_eq_false (show ¬ (p.length : Int) > 0 by omega)]; rfl, fun h => by cases h⟩
/-! ### what the laws of guessed puzzles compare -/
theorem wPuzzle_eq {a b : List (Int × Int × Int)} (ha : a.length ≤ 1000) : w_wPuzzle a b = some (decide (a = b)) := by
  unfold w_wPuzzle w_wPuzzle_t0
  by_cases hl : a.length = b.length
  · have hm : a.length ≤ maxLen := by rw [maxLen_eq]; omega
    have e := loop_eq (L := fun i => w_wPuzzle_L1 a b a.length (i : Int)) hl (fun i h h' => by
        have hx : ((a[i].1 == b[i].1) && (a[i].2.1 == b[i].2.1 && a[i].2.2 == b[i].2.2)) = decide (a[i] = b[i]) := by
          rw [Bool.eq_iff_iff]
          simp only [Bool.and_eq_true, beq_iff_eq, decide_eq_true_eq, Prod.ext_iff]
        simp only [w_wPuzzle_u1 a b a.length i, w_wPuzzle_t1, rdk_get (k := kClue) h, rdk_get (k := kClue) h', wrapS h hm, hx]
        by_cases hxx : a[i] = b[i] <;> simp [h, h', hxx]) (by simp [w_wPuzzle_u1 a b a.length a.length, w_wPuzzle_t1])
    have hh : ((a.length : Int) != (b.length : Int)) = false := by rw [hl]; simp
    rw [hh]; exact e
  · have hab : a ≠ b := fun e => hl (by rw [e])
    have : ((a.length : Int) != (b.length : Int)) = true := by rw [bne_iff_ne]; omega
    rw [this]; simp [hab]
theorem wPuzzle_self {a : List (Int × Int × Int)} (ha : a.length ≤ 1000) : w_wPuzzle a a = some true := by rw [wPuzzle_eq ha]; simp
theorem wSame_self {a : List Int} (ha : a.length ≤ 1000000) : w_wSame a a = some true := by
  have hm : a.length ≤ maxLen := by rw [maxLen_eq]; omega
  have e := loop_eq (L := fun i => w_wSame_L1 a a a.length (i : Int)) (a := a) (b := a) rfl (fun i h h' => by
      simp only [w_wSame_u1 a a a.length i, w_wSame_t1, rdk_get (k := kint) h, wrapS h hm]
      simp [h]) (by simp [w_wSame_u1 a a a.length a.length, w_wSame_t1])
  unfold w_wSame w_wSame_t0
  have hh : ((a.length : Int) != (a.length : Int)) = false := by simp
  rw [hh]; simpa using e
theorem wLists_self {a : List (Int × List Int × List Int)} (ha : a.length ≤ 1000) (hs : ∀ s, s ∈ a → s.2.1.length ≤ 1000 ∧ s.2.2.length ≤ 1000) : w_wLists a a = some true := by
  have hm : a.length ≤ maxLen := by rw [maxLen_eq]; omega
  have e := loop_eq (L := fun i => w_wLists_L1 a a a.length (i : Int)) (a := a) (b := a) rfl (fun i h h' => by
      obtain ⟨g1, g2⟩ := hs _ (List.getElem_mem h)
      have e1 : w_wStairs a[i].1 a[i].2.1 a[i].2.2 a[i].1 a[i].2.1 a[i].2.2 = some true := by
        unfold w_wStairs
        rw [wSame_self (by omega), wSame_self (by omega)]; simp
      simp only [w_wLists_u1 a a a.length i, w_wLists_t1, rdk_get (k := kStairs) h, wrapS h hm, e1]
      simp [h]) (by simp [w_wLists_u1 a a a.length a.length, w_wLists_t1])
  unfold w_wLists w_wLists_t0
  have hh : ((a.length : Int) != (a.length : Int)) = false := by simp
  rw [hh]; simpa using e
theorem DoesFit_right {a : Int} {b c : List Int} (h : i_isHidden a b c = true) {k x v : Int} (hc : s_pzClue k x v = true) (hv : hidVal k x a b c = v) : i_DoesFit k x v a b c = some (true, true) := by
  unfold i_DoesFit
  rw [IsClue_eq, hc, h]
  simp only [Bool.not_true, cond_false]
  unfold i_fits
  rw [bOf_eq h k x (pzClue_kind hc), hv]
  simp
theorem good_of_all {p : List (Int × Int × Int)} (hl : p.length ≤ 6) (h : ∀ q, q ∈ p → s_pzClue q.1 q.2.1 q.2.2 = true) : s_pzGood_n p = true := by
  unfold s_pzGood_n
  have h1 : ¬ ((p.length : Int) > 6) := by omega
  have h2 : p.any (fun c => !s_pzClue c.1 c.2.1 c.2.2) = false := by
    rw [List.any_eq_false]; intro q hq; rw [h q hq]; simp
  rw [decide_eq_false h1, h2]; rfl
theorem good_clue {p : List (Int × Int × Int)} (h : s_pzGood_n p = true) : ∀ q, q ∈ p → s_pzClue q.1 q.2.1 q.2.2 = true := by
  intro q hq
  have hl := s_pzGood_len h
  unfold s_pzGood_n at h
  have h1 : ¬ ((p.length : Int) > 6) := by omega
  rw [decide_eq_false h1] at h
  cases h2 : p.any (fun c => !s_pzClue c.1 c.2.1 c.2.2)
  · have := List.any_eq_false.1 h2 q hq
    simpa using this
  · rw [h2] at h; cases h
theorem hid_small' : hidAll.all (fun s => decide (s.2.1.length ≤ 1000) && decide (s.2.2.length ≤ 1000)) = true := by kernel_rfl
theorem IsSolved_eq (p : List (Int × Int × Int)) : i_IsSolved p = some (s_pzGood_n p && ((pzSol p).length : Int) == 1, s_pzGood_n p) := by
  unfold i_IsSolved
  rw [i_CountSolutions_eq]
  unfold countN
  cases s_pzGood_n p <;> rfl
/-! ### lists that are compared -/
theorem wRises_ok {a : List Int} (ha : a.length ≤ 100000) (h : ∀ i (hi : i + 1 < a.length), a[i] < a[i + 1]) : w_wRises a = some true := by
  unfold w_wRises w_wRises_t0
  have go : ∀ (d k : Nat), k + d = a.length → 1 ≤ k → w_wRises_L1 a (k : Int) = some true := by
    intro d
    induction d with
    | zero =>
      intro k hk _
      have : ¬ ((k : Int) < a.length) := by omega
      rw [w_wRises_u1, w_wRises_t1, decide_eq_false this]; rfl
    | succ d ih =>
      intro k hk h1
      obtain ⟨j, rfl⟩ : ∃ j, k = j + 1 := ⟨k - 1, by omega⟩
      have c1 : ((j + 1 : Nat) : Int) < a.length := by omega
      have c2 : (j : Int) < a.length := by omega
      have hw : IntKind.wrap .i64 (((j + 1 : Nat) : Int) - 1) = (j : Int) := by rw [wrapI (by omega) (by omega)]; omega
      have hw2 : IntKind.wrap .i64 (((j + 1 : Nat) : Int) + 1) = ((j + 1 + 1 : Nat) : Int) := by rw [wrapI (by omega) (by omega)]; omega
      have hlt := h j (by omega)
      have c3 : ¬ (a[j] ≥ a[j + 1]) := by omega
      rw [w_wRises_u1, w_wRises_t1, hw, hw2, decide_eq_true c1, decide_eq_true c2, decide_eq_true (Int.natCast_nonneg _), decide_eq_true (Int.natCast_nonneg _), rdk_get (k := kint) (by omega : j < a.length), rdk_get (k := kint) (by omega : j + 1 < a.length), decide_eq_false c3]
      exact ih (j + 1 + 1) (by omega) (by omega)
  by_cases h0 : 1 ≤ a.length
  · exact go (a.length - 1) 1 (by omega) (by omega)
  · have : ¬ ((1 : Int) < a.length) := by omega
    rw [w_wRises_u1, w_wRises_t1, decide_eq_false this]; rfl
theorem wHas_eq {a : List Int} (ha : a.length ≤ 100000) (n : Int) : w_wHas a n = some (decide (n ∈ a)) := by
  unfold w_wHas w_wHas_t0
  refine drop_ind a (fun i l => w_wHas_L1 a n (a.length : Int) (i : Int) = some (decide (n ∈ l))) ?_ (fun i hi ih => ?_)
  · have : ¬ ((a.length : Int) < a.length) := by omega
    rw [w_wHas_u1, w_wHas_t1, decide_eq_false this]; simp
  · have c1 : (i : Int) < a.length := by omega
    rw [w_wHas_u1, w_wHas_t1, decide_eq_true c1, decide_eq_true (Int.natCast_nonneg i), rdk_get (k := kint) hi, wrapI (n := (i : Int) + 1) (by omega) (by omega)]
    simp only [cond_true]
    by_cases h : a[i] = n
    · rw [show (a[i] == n) = true from beq_iff_eq.2 h, decide_eq_true (show n ∈ a[i] :: a.drop (i + 1) from by rw [h]; exact List.mem_cons_self)]; rfl
    · rw [show (a[i] == n) = false from beq_eq_false_iff_ne.2 h, cond_false]
      have e : decide (n ∈ a[i] :: a.drop (i + 1)) = decide (n ∈ a.drop (i + 1)) := decide_eq_decide.2 ⟨fun m => (List.mem_cons.1 m).resolve_left (fun e => h e.symm), fun m => List.mem_cons_of_mem _ m⟩
      rw [e]
      exact ih
/-! ### puzzles guessed: what holds of what is told -/
theorem IsSolved_two (p : List (Int × Int × Int)) : s_IsSolved p = some (s_pzGood_n p && ((pzSol p).length : Int) == 1, s_pzGood_n p) ∧ i_IsSolved p = some (s_pzGood_n p && ((pzSol p).length : Int) == 1, s_pzGood_n p) := by
  refine ⟨?_, IsSolved_eq p⟩
  unfold s_IsSolved
  cases h : s_pzGood_n p
  · rfl
  · obtain ⟨h1, h2⟩ := good_kinds h
    rw [s_pzSolved_eq h1 (by omega)]
    rfl
noncomputable def ptN (p : List (Int × Int × Int)) : ByteArray × Bool := bif s_pzGood_n p then (⟨(Lib.join (p.map cT) [44]).toArray⟩, true) else (⟨#[]⟩, false)
theorem PuzzleText_two (p : List (Int × Int × Int)) : s_PuzzleText p = some (ptN p) ∧ i_PuzzleText p = some (ptN p) := by
  unfold i_PuzzleText i_PuzzleText_t0 s_PuzzleText ptN
  rw [IsPuzzle_eq]
  cases hg : s_pzGood_n p
  · exact ⟨rfl, rfl⟩
  · have g := puzzle_good hg
    simp only [Bool.not_true, cond_false]
    rw [puzzle_i g, puzzle_s g]
    exact ⟨rfl, rfl⟩
theorem ptN_back {p : List (Int × Int × Int)} (h : s_pzGood_n p = true) : Lib.join (p.map cT) [44] = bL (ptN p).1 := by
  unfold ptN
  rw [h]; rfl
theorem ptN_of {p : List (Int × Int × Int)} {t : ByteArray} (h : s_pzGood_n p = true) (e : Lib.join (p.map cT) [44] = bL t) : ptN p = (t, true) := by
  unfold ptN
  rw [h, e]
  show (_, true) = _
  congr 1
theorem pz_bd60 {p : List (Int × Int × Int)} (h : s_pzGood_n p = true) : (ptN p).1.size ≤ 1000 := by
  have hb : (ptN p).1.size = (Lib.join (p.map cT) [44]).length := by
    rw [ptN_back h, bL_len]
  rw [hb]
  have hl := s_pzGood_len h
  have h1 := join_len [44] (p.map cT)
  have h2 := lens_le (c := 6) (xs := p.map cT) (fun x hx => by
    obtain ⟨n, hn, rfl⟩ := List.mem_map.1 hx
    exact clue_small (good_clue h n hn))
  rw [List.length_map] at h1 h2
  simp only [List.length_singleton, Nat.one_mul] at h1
  omega
theorem pz_bd6 {p : List (Int × Int × Int)} (h : s_pzGood_n p = true) : (ptN p).1.size ≤ 2000000 := by have := pz_bd60 h; omega
theorem pzSol_anti {p q : List (Int × Int × Int)} (h : ∀ c, c ∈ p → c ∈ q) : (pzSol q).length ≤ (pzSol p).length := by
  unfold pzSol
  rw [← List.countP_eq_length_filter, ← List.countP_eq_length_filter]
  refine List.countP_mono_left (fun s _ hs => ?_)
  unfold pzOk at hs ⊢
  rw [List.all_eq_true] at hs ⊢
  exact fun c hc => hs c (h c hc)
def upB : List (Int × List Int × List Int) → Bool
  | a :: b :: l => decide (a.1 ≤ b.1) && upB (b :: l)
  | _ => true
theorem upB_pw : ∀ {l : List (Int × List Int × List Int)}, upB l = true → l.Pairwise (fun a b => a.1 ≤ b.1)
  | [], _ => List.Pairwise.nil
  | [a], _ => List.pairwise_singleton _ _
  | a :: b :: l, h => by
    unfold upB at h
    rw [Bool.and_eq_true, decide_eq_true_eq] at h
    have ih := upB_pw h.2
    refine List.pairwise_cons.2 ⟨fun x hx => ?_, ih⟩
    rcases List.mem_cons.1 hx with e | e
    · subst e; exact h.1
    · have := (List.pairwise_cons.1 ih).1 x e; omega
theorem hid_up : hidAll.Pairwise (fun a b => a.1 ≤ b.1) := upB_pw (by kernel_rfl)
theorem sol_up {p : List (Int × Int × Int)} {i : Nat} (h : i + 1 < (pzSol p).length) : (pzSol p)[i].1 ≤ (pzSol p)[i + 1].1 := by
  have hp : (pzSol p).Pairwise (fun a b => a.1 ≤ b.1) := List.Pairwise.filter _ hid_up
  exact List.pairwise_iff_getElem.1 hp i (i + 1) (by omega) h (by omega)
theorem hid_small7 : hidAll.all (fun s => decide (s.1 ≤ 7) && decide (s.2.1.length ≤ 1000)) = true := by kernel_rfl
theorem sol_ok {p : List (Int × Int × Int)} {s : Int × List Int × List Int} (h : s ∈ pzSol p) : i_AreStairs s.1 s.2.1 s.2.2 = true ∧ s.1 ≤ 7 ∧ s.2.1.length ≤ 1000 := by
  have hm := pzSol_mem h
  have h7 := List.all_eq_true.1 hid_small7 _ hm
  rw [Bool.and_eq_true, decide_eq_true_eq, decide_eq_true_eq] at h7
  refine ⟨?_, h7⟩
  rw [i_AreStairs_eq]
  exact (hidAll_mem (mem_hidden hm)).2
theorem sol_fits {p : List (Int × Int × Int)} (hg : s_pzGood_n p = true) {s : Int × List Int × List Int} (h : s ∈ pzSol p) {c : Int × Int × Int} (hc : c ∈ p) : i_DoesFit c.1 c.2.1 c.2.2 s.1 s.2.1 s.2.2 = some (true, true) := by
  have hm := List.mem_filter.1 h
  have hf := hm.2
  unfold pzOk at hf
  have hv := List.all_eq_true.1 hf c hc
  unfold fitC at hv
  exact DoesFit_right (mem_hidden hm.1) (good_clue hg c hc) (beq_iff_eq.1 hv)
theorem sure_have {l : List (Int × List Int × List Int)} {x : Int} (h : x ∈ numF (allHave l) 1 3) {s : Int × List Int × List Int} (hs : s ∈ l) : x ∈ s.2.1 := by
  obtain ⟨k, hk, hf, rfl⟩ := numF_mem.1 h
  unfold allHave countIn at hf
  have := List.length_filter_eq_length_iff.1 (beq_iff_eq.1 hf) s hs
  simpa using this
theorem sure_lack {l : List (Int × List Int × List Int)} {x : Int} (h : x ∈ numF (noneHas l) 1 3) {s : Int × List Int × List Int} (hs : s ∈ l) : x ∉ s.2.1 := by
  obtain ⟨k, hk, hf, rfl⟩ := numF_mem.1 h
  unfold noneHas countIn at hf
  rw [Bool.and_eq_true] at hf
  have := List.filter_eq_nil_iff.1 (List.length_eq_zero_iff.1 (beq_iff_eq.1 hf.2)) s hs
  simpa using this
theorem rises_num (f : Nat → Bool) (n d : Nat) (hd : d ≤ 1000) : w_wRises (numF f n d) = some true :=
  wRises_ok (by have := numF_len f n d; omega) (fun i hi => List.pairwise_iff_getElem.1 (numF_pw f n d) i (i + 1) (by omega) hi (by omega))
theorem same_num (f : Nat → Bool) (n d : Nat) (hd : d ≤ 1000) : w_wSame (numF f n d) (numF f n d) = some true :=
  wSame_self (by have := numF_len f n d; omega)
theorem leftL_len (p : List (Int × Int × Int)) (k d : Nat) : (leftL p k d).length = d := by unfold leftL; simp
theorem leftL_get (p : List (Int × Int × Int)) (d k : Nat) (h : k < d) : rdk kint (leftL p 0 d) (k : Int) = ((pzSol (p.take k)).length : Int) := by
  rw [rdk_get (k := kint) (show k < (leftL p 0 d).length by rw [leftL_len]; exact h)]
  simp [leftL]
theorem sol_none : (pzSol []).length = 196 := by
  rw [← hid_len]
  unfold pzSol
  rw [List.filter_eq_self.2 (fun s _ => (rfl : pzOk [] s = true))]
theorem DropClue_wo {p : List (Int × Int × Int)} (hg : s_pzGood_n p = true) {k : Nat} (hk : k < p.length) : i_DropClue_n p (k : Int) = (woP p k, true) := by
  unfold i_DropClue_n woP
  rw [hg, decide_eq_true (Int.natCast_nonneg k), decide_eq_true (show (k : Int) < p.length by omega), Int.toNat_natCast]
  rfl
theorem woP_good {p : List (Int × Int × Int)} (hg : s_pzGood_n p = true) (k : Nat) : s_pzGood_n (woP p k) = true :=
  good_of_all (by have := s_pzGood_len hg; unfold woP; simp; omega) (fun c hc => good_clue hg c (by
    unfold woP at hc
    rcases List.mem_append.1 hc with h | h
    · exact List.mem_of_mem_take h
    · exact List.mem_of_mem_drop h))
/-! ### what is told of a puzzle, at once -/
theorem wStairs_self {a : Int} {b c : List Int} (hb : b.length ≤ 1000) (hc : c.length ≤ 1000) : w_wStairs a b c a b c = some true := by
  unfold w_wStairs
  rw [wSame_self (by omega), wSame_self (by omega)]; simp
theorem hid_lens {s : Int × List Int × List Int} (h : s ∈ hidAll) : s.2.1.length ≤ 1000 ∧ s.2.2.length ≤ 1000 := by
  have := List.all_eq_true.1 hid_small' s h
  simpa using this
theorem sol_same (p : List (Int × Int × Int)) : w_wLists (pzSol p) (pzSol p) = some true :=
  wLists_self (by have := pzSol_len p; omega) (fun s hs => hid_lens (pzSol_mem hs))
structure FirstOf (p : List (Int × Int × Int)) (f : Int × List Int × List Int) (ok : Bool) : Prop where
  i : i_FirstSolution p = some (f, ok)
  s : s_FirstSolution p = some (f, ok)
  same : w_wStairs f.1 f.2.1 f.2.2 f.1 f.2.1 f.2.2 = some true
  okv : ok = (s_pzGood_n p && decide (((pzSol p).length : Int) > 0))
  at0 : ok = true → rdk kStairs (pzSol p) 0 = f
theorem firstOf (p : List (Int × Int × Int)) : ∃ f ok, FirstOf p f ok := by
  obtain ⟨h1, h2⟩ := FirstSolution_eq p
  refine ⟨(firstN p).1, (firstN p).2, h2, h1, ?_, ?_, ?_⟩
  · unfold firstN
    cases hg : s_pzGood_n p
    · exact wStairs_self (by simp) (by simp)
    · cases hp : pzSol p with
      | nil => exact wStairs_self (by simp) (by simp)
      | cons s r =>
        have hm : s ∈ pzSol p := by rw [hp]; exact List.mem_cons_self
        obtain ⟨g1, g2⟩ := hid_lens (pzSol_mem hm)
        exact wStairs_self g1 g2
  · unfold firstN
    cases hg : s_pzGood_n p
    · rfl
    · cases hp : pzSol p with
      | nil => rfl
      | cons s r =>
        rw [List.length_cons, decide_eq_true (by omega)]; rfl
  · unfold firstN
    cases hg : s_pzGood_n p
    · intro h; cases h
    · cases hp : pzSol p with
      | nil => intro h; cases h
      | cons s r => intro _; rfl
structure SureOf (p : List (Int × Int × Int)) (a b : List Int) (ok : Bool) : Prop where
  i : i_SureStrides p = some (a, b, ok)
  s : s_SureStrides p = some (a, b, ok)
  okv : ok = (s_pzGood_n p && decide (((pzSol p).length : Int) > 0))
  same : w_wSame a a = some true ∧ w_wSame b b = some true
  rise : w_wRises a = some true ∧ w_wRises b = some true
  le : a.length ≤ 3 ∧ b.length ≤ 3
  have' : ∀ x, x ∈ a → ∀ s, s ∈ pzSol p → x ∈ s.2.1
  lack : ∀ x, x ∈ b → ∀ s, s ∈ pzSol p → x ∉ s.2.1
theorem sureOf (p : List (Int × Int × Int)) : ∃ a b ok, SureOf p a b ok := by
  obtain ⟨h1, h2⟩ := SureStrides_eq p
  unfold sureN at h1 h2
  have hr : w_wRises [] = some true := rises_num (fun _ => false) 0 0 (by omega)
  cases hc : s_pzGood_n p && !((pzSol p).length == 0)
  · rw [hc] at h1 h2
    refine ⟨[], [], false, h2, h1, ?_, ⟨wSame_self (by simp), wSame_self (by simp)⟩, ⟨hr, hr⟩, by simp, fun x hx => absurd hx List.not_mem_nil, fun x hx => absurd hx List.not_mem_nil⟩
    cases hg : s_pzGood_n p
    · rfl
    · rw [hg] at hc
      have h0 : (pzSol p).length = 0 := by simpa using hc
      rw [h0]; rfl
  · rw [hc] at h1 h2
    have hl1 := numF_len (allHave (pzSol p)) 1 3
    have hl2 := numF_len (noneHas (pzSol p)) 1 3
    refine ⟨_, _, true, h2, h1, ?_, ⟨same_num _ _ _ (by omega), same_num _ _ _ (by omega)⟩, ⟨rises_num _ _ _ (by omega), rises_num _ _ _ (by omega)⟩, ⟨hl1, hl2⟩, fun x hx s hs => sure_have hx hs, fun x hx s hs => sure_lack hx hs⟩
    rw [Bool.and_eq_true] at hc
    have h0 : (pzSol p).length ≠ 0 := by simpa using hc.2
    rw [hc.1, decide_eq_true (by omega)]; rfl
end Go.Proofs.YtoldoplpnkojdaaGreatDoor.V
