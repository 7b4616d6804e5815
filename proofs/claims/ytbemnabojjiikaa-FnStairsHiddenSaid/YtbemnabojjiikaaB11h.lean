/- Functions of the program, as plain functions. No condition. -/
import Derived.Test.YtbemnabojjiikaaB11
import Derived.Test.YtbemnabojjiikaaB9h
set_option linter.unusedVariables false
set_option linter.unusedSimpArgs false
set_option maxRecDepth 100000
namespace Go.Proofs.Ytbemnabojjiikaa.V
open Go Go.Ev Go.Proofs
/-! ### puzzles that are made -/
theorem hidVal_chk : hidAll.all (fun s => match hidV s with | some (u, f, m) => decide (0 ≤ u) && (decide (u ≤ 60) && (decide (0 ≤ f) && (decide (f ≤ 60) && (decide (0 ≤ m) && (decide (m ≤ 60) && (decide (0 ≤ s.1) && decide (s.1 ≤ 60))))))) | none => false) = true := by kernel_rfl
theorem hidVal_bd {s : Int × List Int × List Int} (h : s ∈ hidAll) (k x : Int) : 0 ≤ hidVal k x s.1 s.2.1 s.2.2 ∧ hidVal k x s.1 s.2.1 s.2.2 ≤ 60 ∧ (k = 2 ∨ k = 3 → hidVal k x s.1 s.2.1 s.2.2 ≤ 1) := by
  have hc := List.all_eq_true.1 hidVal_chk s h
  obtain ⟨u, f, m, h1, -, -⟩ := hid_mem h
  unfold hidVal
  rw [h1] at hc
  have e : hidV (s.1, s.2.1, s.2.2) = some (u, f, m) := h1
  rw [e]
  simp only [Bool.and_eq_true, decide_eq_true_eq] at hc
  simp only [Bool.cond_eq_ite, beq_iff_eq, decide_eq_true_eq]
  refine ⟨?_, ?_, ?_⟩
  · repeat' split
    all_goals omega
  · repeat' split
    all_goals omega
  · intro hk
    repeat' split
    all_goals omega
def zN (z : Int) : Int := Int.tmod (IntKind.wrap IntKind.i64 (IntKind.wrap IntKind.i64 (293 * z) + 907)) 10007
theorem zN_bd {z : Int} (h0 : 0 ≤ z) (h1 : z ≤ 10006) : 0 ≤ zN z ∧ zN z ≤ 10006 := by
  unfold zN
  rw [wrapI (n := 293 * z) (by omega) (by omega), wrapI (by omega) (by omega), Int.tmod_eq_emod_of_nonneg (by omega)]
  omega
theorem tmod_bd {a b : Int} (h : 0 ≤ a) (hb : 0 < b) : 0 ≤ Int.tmod a b ∧ Int.tmod a b < b := by
  rw [Int.tmod_eq_emod_of_nonneg h]
  exact ⟨Int.emod_nonneg a (by omega), Int.emod_lt_of_pos a hb⟩
/-- the clue that is drawn -/
noncomputable def mkA (z : Int) : Int := bif Int.tmod (zN z) 6 == 2 then Int.tmod (zN (zN z)) 3 + 1 else bif Int.tmod (zN z) 6 == 3 then Int.tmod (zN (zN z)) 7 + 1 else 0
noncomputable def mkC (s : Int × List Int × List Int) (z : Int) : Int × Int × Int := (Int.tmod (zN z) 6, mkA z, hidVal (Int.tmod (zN z) 6) (mkA z) s.1 s.2.1 s.2.2)
noncomputable def mkL (s : Int × List Int × List Int) : Nat → Int → List (Int × Int × Int)
  | 0, _ => []
  | n + 1, z => mkC s z :: mkL s n (zN (zN z))
theorem mkL_len (s : Int × List Int × List Int) : ∀ (n : Nat) (z : Int), (mkL s n z).length = n
  | 0, _ => rfl
  | n + 1, z => by rw [mkL, List.length_cons, mkL_len s n]
theorem mkC_good {s : Int × List Int × List Int} (h : s ∈ hidAll) {z : Int} (h0 : 0 ≤ z) (h1 : z ≤ 10006) : s_pzClue (mkC s z).1 (mkC s z).2.1 (mkC s z).2.2 = true ∧ fitC s (mkC s z) = true := by
  refine ⟨?_, by unfold fitC mkC; simp⟩
  obtain ⟨a1, a2⟩ := zN_bd h0 h1
  obtain ⟨b1, b2⟩ := zN_bd a1 a2
  obtain ⟨k1, k2⟩ := tmod_bd (b := 6) a1 (by omega)
  obtain ⟨x1, x2⟩ := tmod_bd (b := 3) b1 (by omega)
  obtain ⟨y1, y2⟩ := tmod_bd (b := 7) b1 (by omega)
  obtain ⟨v1, v2, v3⟩ := hidVal_bd h (Int.tmod (zN z) 6) (mkA z)
  unfold mkC s_pzClue s_l1In
  show (bif _ then _ else _) = true
  generalize hv : hidVal (Int.tmod (zN z) 6) (mkA z) s.1 s.2.1 s.2.2 = v at v1 v2 v3 ⊢
  unfold mkA
  generalize hk : Int.tmod (zN z) 6 = k at k1 k2 v3 ⊢
  simp only [Bool.cond_eq_ite]
  have : k = 0 ∨ k = 1 ∨ k = 2 ∨ k = 3 ∨ k = 4 ∨ k = 5 := by omega
  rcases this with rfl | rfl | rfl | rfl | rfl | rfl <;> simp <;> omega
theorem mkL_good {s : Int × List Int × List Int} (h : s ∈ hidAll) : ∀ (n : Nat) {z : Int}, 0 ≤ z → z ≤ 10006 → ∀ c, c ∈ mkL s n z → s_pzClue c.1 c.2.1 c.2.2 = true ∧ fitC s c = true
  | 0, _, _, _, c, hc => by cases hc
  | n + 1, z, h0, h1, c, hc => by
    rcases List.mem_cons.1 hc with rfl | hc
    · exact mkC_good h h0 h1
    · obtain ⟨a1, a2⟩ := zN_bd h0 h1
      obtain ⟨b1, b2⟩ := zN_bd a1 a2
      exact mkL_good h n b1 b2 c hc
theorem pzOf_eq {s : Int × List Int × List Int} (h : s ∈ hidAll) {z : Int} (h0 : 0 ≤ z) (h1 : z ≤ 10006) : s_pzOf (Int.tmod (s_pzNext z) 6) (s_pzNext (s_pzNext z)) s.1 s.2.1 s.2.2 = some (mkC s z) := by
  obtain ⟨a1, a2⟩ := zN_bd h0 h1
  obtain ⟨b1, b2⟩ := zN_bd a1 a2
  obtain ⟨k1, k2⟩ := tmod_bd (b := 6) a1 (by omega)
  obtain ⟨x1, x2⟩ := tmod_bd (b := 3) b1 (by omega)
  obtain ⟨y1, y2⟩ := tmod_bd (b := 7) b1 (by omega)
  show s_pzOf (Int.tmod (zN z) 6) (zN (zN z)) s.1 s.2.1 s.2.2 = _
  unfold s_pzOf mkC mkA
  have hk : 0 ≤ Int.tmod (zN z) 6 ∧ Int.tmod (zN z) 6 ≤ 5 := by omega
  rw [wrapI (n := Int.tmod (zN (zN z)) 3 + 1) (by omega) (by omega), wrapI (n := Int.tmod (zN (zN z)) 7 + 1) (by omega) (by omega), pzValue_eq (mem_hidden h) _ _ hk, pzValue_eq (mem_hidden h) _ _ hk, pzValue_eq (mem_hidden h) _ _ hk]
  cases Int.tmod (zN z) 6 == 2 <;> cases Int.tmod (zN z) 6 == 3 <;> rfl
theorem s_make_loop {s : Int × List Int × List Int} (h : s ∈ hidAll) : ∀ (d : Nat) (z : Int) (acc : List (Int × Int × Int)), 0 ≤ z → z ≤ 10006 → d ≤ 6 → acc.length + d ≤ 1000 →
    s_MakePuzzle_L1 s.1 s.2.1 s.2.2 [] acc d z = some (acc ++ mkL s d z, true)
  | 0, z, acc, h0, h1, hd, ha => by rw [s_MakePuzzle_u1, s_MakePuzzle_t1]; simp [mkL]
  | d + 1, z, acc, h0, h1, hd, ha => by
    obtain ⟨a1, a2⟩ := zN_bd h0 h1
    obtain ⟨b1, b2⟩ := zN_bd a1 a2
    have hw : IntKind.wrap .i64 (((d + 1 : Nat) : Int) - 1) = (d : Int) := by rw [wrapI (by omega) (by omega)]; omega
    have hb : Nat.ble (acc.length + 1) 4294967296 = true := by rw [ble_dec]; exact decide_eq_true (by omega)
    have c1 : decide (((d + 1 : Nat) : Int) > 0) = true := decide_eq_true (by omega)
    rw [s_MakePuzzle_u1, s_MakePuzzle_t1, c1, pzOf_eq h h0 h1, hb, hw]
    simp only [cond_true, Option.bind_some]
    have := s_make_loop h d (zN (zN z)) (acc ++ [mkC s z]) b1 b2 (by omega) (by simp; omega)
    refine Eq.trans this ?_
    rw [mkL, List.append_assoc]; rfl
theorem i_zN (z : Int) : Int.tmod (IntKind.wrap IntKind.i64 (IntKind.wrap IntKind.i64 (z * 293) + 907)) 10007 = zN z := by unfold zN; rw [Int.mul_comm z]
theorem i_make_loop {s : Int × List Int × List Int} (h : s ∈ hidAll) (n : Nat) (hn : n ≤ 6) : ∀ (d k : Nat) (z : Int) (acc : List (Int × Int × Int)), k + d = n → 0 ≤ z → z ≤ 10006 → acc.length + d ≤ 1000 →
    i_MakePuzzle_L1 s.1 z s.2.1 s.2.2 [] acc n k = some (acc ++ mkL s d z, true)
  | 0, k, z, acc, hd, h0, h1, ha => by
    have : ¬ ((k : Int) < n) := by omega
    rw [i_MakePuzzle_u1, i_MakePuzzle_t1, decide_eq_false this]; simp [mkL]
  | d + 1, k, z, acc, hd, h0, h1, ha => by
    obtain ⟨a1, a2⟩ := zN_bd h0 h1
    obtain ⟨b1, b2⟩ := zN_bd a1 a2
    obtain ⟨k1, k2⟩ := tmod_bd (b := 6) a1 (by omega)
    obtain ⟨x1, x2⟩ := tmod_bd (b := 3) b1 (by omega)
    obtain ⟨y1, y2⟩ := tmod_bd (b := 7) b1 (by omega)
    have hk : 0 ≤ Int.tmod (zN z) 6 ∧ Int.tmod (zN z) 6 ≤ 5 := by omega
    have hw : IntKind.wrap .i64 ((k : Int) + 1) = ((k + 1 : Nat) : Int) := by rw [wrapI (by omega) (by omega)]; omega
    have hb : Nat.ble (acc.length + 1) 4294967296 = true := by rw [ble_dec]; exact decide_eq_true (by omega)
    have c1 : decide ((k : Int) < n) = true := decide_eq_true (by omega)
    have ih := i_make_loop h n hn d (k + 1) (zN (zN z)) (acc ++ [mkC s z]) (by omega) b1 b2 (by simp; omega)
    have e : acc ++ [mkC s z] ++ mkL s d (zN (zN z)) = acc ++ mkL s (d + 1) z := by rw [mkL, List.append_assoc]; rfl
    rw [i_MakePuzzle_u1, i_MakePuzzle_t1, c1]
    simp only [i_zN, hb, hw, cond_true]
    rw [wrapI (n := Int.tmod (zN (zN z)) 3 + 1) (by omega) (by omega), wrapI (n := Int.tmod (zN (zN z)) 7 + 1) (by omega) (by omega), bOf_eq (mem_hidden h) _ _ hk, bOf_eq (mem_hidden h) _ _ hk, bOf_eq (mem_hidden h) _ _ hk]
    rw [← e, ← ih]
    unfold mkC mkA
    cases Int.tmod (zN z) 6 == 2 <;> cases Int.tmod (zN z) 6 == 3 <;> rfl
noncomputable def makeN (a : Int) (b c : List Int) (n seed : Int) : List (Int × Int × Int) × Bool :=
  bif i_isHidden a b c && (s_l1In n 0 6 && s_l1In seed 0 9999) then (mkL (a, b, c) n.toNat seed, true) else ([], false)
theorem MakePuzzle_both (a : Int) (b c : List Int) (n seed : Int) (hb : b.length ≤ 1048576) : s_MakePuzzle a b c n seed = some (makeN a b c n seed) ∧ i_MakePuzzle a b c n seed = some (makeN a b c n seed) := by
  unfold s_MakePuzzle i_MakePuzzle s_MakePuzzle_t0 i_MakePuzzle_t0 makeN
  rw [hidden_eq a b c hb]
  have hi : ∀ x lo hi, i_within x lo hi = s_l1In x lo hi := fun x lo hi => by unfold i_within s_l1In; simp
  rw [hi, hi]
  cases hh : i_isHidden a b c
  · exact ⟨rfl, rfl⟩
  · obtain ⟨hm, -⟩ := hidAll_mem hh
    cases h1 : s_l1In n 0 6
    · exact ⟨rfl, rfl⟩
    · cases h2 : s_l1In seed 0 9999
      · exact ⟨rfl, rfl⟩
      · have hn : 0 ≤ n ∧ n ≤ 6 := by unfold s_l1In at h1; simpa using h1
        have hs : 0 ≤ seed ∧ seed ≤ 9999 := by unfold s_l1In at h2; simpa using h2
        obtain ⟨m, rfl⟩ : ∃ m : Nat, n = m := ⟨n.toNat, by omega⟩
        exact ⟨s_make_loop hm m seed [] (by omega) (by omega) (by omega) (by simp; omega), i_make_loop hm m (by omega) m 0 seed [] (by omega) (by omega) (by omega) (by simp; omega)⟩
theorem makeN_len (a : Int) (b c : List Int) (n seed : Int) : (makeN a b c n seed).1.length ≤ 6 := by
  unfold makeN
  cases i_isHidden a b c
  · exact Nat.zero_le _
  · cases h1 : s_l1In n 0 6
    · exact Nat.zero_le _
    · cases h2 : s_l1In seed 0 9999
      · exact Nat.zero_le _
      · have hn : 0 ≤ n ∧ n ≤ 6 := by unfold s_l1In at h1; simpa using h1
        simp only [Bool.and_true, cond_true, mkL_len]
        omega
end Go.Proofs.Ytbemnabojjiikaa.V
