/- Functions of the program, as plain functions. No condition. -/
import Derived.Test.YtgflffacaobkoaaGreatDoorL2
import Derived.Test.YtgflffacaobkoaaGreatDoorL1h
set_option linter.unusedVariables false
set_option linter.unusedSimpArgs false
set_option maxRecDepth 100000
namespace Go.Proofs.YtgflffacaobkoaaGreatDoor.V
open Go Go.Ev Go.Proofs
/-! ### how long a list can be that goes up -/
theorem rise_len : ∀ (l : List Int) (lo hi : Int), l.Pairwise (· < ·) → (∀ x, x ∈ l → lo ≤ x ∧ x ≤ hi) → lo ≤ hi + 1 → (l.length : Int) ≤ hi + 1 - lo
  | [], lo, hi, _, _, h => by simp; omega
  | x :: l, lo, hi, hp, hb, h => by
    obtain ⟨h1, h2⟩ := List.pairwise_cons.1 hp
    have hx := hb x (by simp)
    have ih := rise_len l (x + 1) hi h2 (fun y hy => by have := h1 y hy; have := hb y (List.mem_cons_of_mem _ hy); omega) (by omega)
    rw [List.length_cons]; push_cast; omega
/-! ### a step put -/
theorem sort_put {B : List Int} {x : Int} (hB : B.Pairwise (· < ·)) (hx : x ∉ B) : (B ++ [x]).mergeSort (fun a b => decide (a ≤ b)) = B.takeWhile (fun y => decide (y < x)) ++ [x] ++ B.dropWhile (fun y => decide (y < x)) := by
  have htw : ∀ y, y ∈ B.takeWhile (fun y => decide (y < x)) → y < x := fun y hy => by
    have := List.all_takeWhile (p := fun y => decide (y < x)) (l := B)
    exact of_decide_eq_true (List.all_eq_true.1 this y hy)
  have hdw : ∀ y, y ∈ B.dropWhile (fun y => decide (y < x)) → x < y := by
    have : ∀ l : List Int, l.Pairwise (· < ·) → x ∉ l → ∀ y, y ∈ l.dropWhile (fun y => decide (y < x)) → x < y := by
      intro l
      induction l with
      | nil => intro _ _ y hy; exact absurd hy List.not_mem_nil
      | cons a l ih =>
        intro hp hn y hy
        obtain ⟨g1, g2⟩ := List.pairwise_cons.1 hp
        have hxa : x ≠ a := fun e => hn (by rw [e]; exact List.mem_cons_self)
        rw [List.dropWhile_cons] at hy
        by_cases c : a < x
        · rw [if_pos (decide_eq_true c)] at hy
          exact ih g2 (fun h => hn (List.mem_cons_of_mem _ h)) y hy
        · rw [if_neg (by simpa using c)] at hy
          rcases List.mem_cons.1 hy with rfl | hy
          · omega
          · have := g1 y hy; omega
    exact this B hB hx
  have hsub1 : (B.takeWhile (fun y => decide (y < x))).Pairwise (· < ·) := hB.sublist (List.takeWhile_sublist _)
  have hsub2 : (B.dropWhile (fun y => decide (y < x))).Pairwise (· < ·) := hB.sublist (List.dropWhile_sublist _)
  refine List.Perm.eq_of_pairwise (le := fun a b : Int => a ≤ b) (fun a b _ _ h1 h2 => Int.le_antisymm h1 h2) ?_ ?_ ?_
  · refine (List.pairwise_mergeSort (le := fun a b : Int => decide (a ≤ b)) (fun a b c h1 h2 => ?_) (fun a b => ?_) _).imp (fun h => of_decide_eq_true h)
    · exact decide_eq_true (Int.le_trans (of_decide_eq_true h1) (of_decide_eq_true h2))
    · rcases Int.le_total a b with h | h
      · rw [decide_eq_true h]; rfl
      · rw [decide_eq_true h, Bool.or_true]
  · rw [List.pairwise_append, List.pairwise_append]
    refine ⟨⟨hsub1.imp (fun h => by omega), List.pairwise_singleton _ _, fun a ha b hb => ?_⟩, hsub2.imp (fun h => by omega), fun a ha b hb => ?_⟩
    · have := htw a ha; rw [List.mem_singleton] at hb; omega
    · have h2 := hdw b hb
      rcases List.mem_append.1 ha with h | h
      · have := htw a h; omega
      · rw [List.mem_singleton] at h; omega
  · refine (List.mergeSort_perm _ _).trans ?_
    have e : B ++ [x] = B.takeWhile (fun y => decide (y < x)) ++ (B.dropWhile (fun y => decide (y < x)) ++ [x]) := by
      rw [← List.append_assoc, List.takeWhile_append_dropWhile]
    rw [e, List.append_assoc]
    exact List.Perm.append_left _ List.perm_append_comm
theorem put_eq {l : List Int} {x : Int} (hl : l.length ≤ 100) (hx : x ∉ l) : s_l1Put l x = some (l.takeWhile (fun y => decide (y < x)) ++ [x] ++ l.dropWhile (fun y => decide (y < x))) := by
  unfold s_l1Put s_l1Put_t0
  have hble : ∀ n : Nat, n ≤ 1000 → Nat.ble n 4294967296 = true := fun n h => by rw [Nat.ble_eq]; omega
  have fin : ∀ k : Nat, k ≤ l.length →
      (bif Nat.ble (0 + List.length (List.take (k - Int.toNat 0) (List.drop (Int.toNat 0) l))) 4294967296 then
        bif Nat.ble (List.length ([] ++ List.take (k - Int.toNat 0) (List.drop (Int.toNat 0) l)) + 1) 4294967296 then
          bif true then
            bif true then
              bif Nat.ble (List.length ([] ++ List.take (k - Int.toNat 0) (List.drop (Int.toNat 0) l) ++ [x]) + List.length (List.take (Int.toNat (l.length : Int) - k) (List.drop k l))) 4294967296 then
                some ([] ++ List.take (k - Int.toNat 0) (List.drop (Int.toNat 0) l) ++ [x] ++ List.take (Int.toNat (l.length : Int) - k) (List.drop k l))
              else none
            else none
          else none
        else none
      else none) = some (l.take k ++ [x] ++ l.drop k) := fun k hk => by
    rw [show Int.toNat 0 = 0 from rfl, List.drop_zero, Nat.sub_zero, Int.toNat_natCast, List.nil_append, show List.take (l.length - k) (List.drop k l) = l.drop k from List.take_of_length_le (by rw [List.length_drop]; omega),
      hble _ (by rw [List.length_take]; omega), hble _ (by rw [List.length_take]; omega), hble _ (by simp; omega)]
    rfl
  have key := drop_ind l (fun i r => s_l1Put_L1 l x (i : Int) = some (l.take (i + (r.takeWhile (fun y => decide (y < x))).length) ++ [x] ++ l.drop (i + (r.takeWhile (fun y => decide (y < x))).length))) ?_ (fun i hi ih => ?_)
  · refine key.trans ?_
    rw [Nat.zero_add]
    have h1 : l.take (l.takeWhile (fun y => decide (y < x))).length = l.takeWhile (fun y => decide (y < x)) := by
      have := List.take_left' (l₁ := l.takeWhile (fun y => decide (y < x))) (l₂ := l.dropWhile (fun y => decide (y < x))) rfl
      rw [List.takeWhile_append_dropWhile] at this
      exact this
    have h2 : l.drop (l.takeWhile (fun y => decide (y < x))).length = l.dropWhile (fun y => decide (y < x)) := by
      have := List.drop_left' (l₁ := l.takeWhile (fun y => decide (y < x))) (l₂ := l.dropWhile (fun y => decide (y < x))) rfl
      rw [List.takeWhile_append_dropWhile] at this
      exact this
    rw [h1, h2]
  · rw [s_l1Put_u1, s_l1Put_t1, decide_eq_false (show ¬ ((l.length : Int) < l.length) by omega), decide_eq_true (Int.natCast_nonneg l.length), decide_eq_true (show (l.length : Int) ≤ l.length by omega), Int.toNat_natCast]
    rw [List.takeWhile_nil, List.length_nil, Nat.add_zero]
    have := fin l.length (Nat.le_refl _)
    rw [Int.toNat_natCast] at this
    exact this
  · have hne : l[i] ≠ x := fun e => hx (by rw [← e]; exact List.getElem_mem hi)
    rw [s_l1Put_u1, s_l1Put_t1, decide_eq_true (show (i : Int) < l.length by omega), decide_eq_true (Int.natCast_nonneg i), rdk_get (k := kint) hi, wrapI (n := (i : Int) + 1) (by omega) (by omega), List.takeWhile_cons]
    by_cases c : l[i] < x
    · rw [decide_eq_true c]
      rw [show ((i : Int) + 1) = ((i + 1 : Nat) : Int) from by omega]
      refine ih.trans ?_
      rw [if_pos rfl, List.length_cons, show i + 1 + (List.takeWhile (fun y => decide (y < x)) (l.drop (i + 1))).length = i + ((List.takeWhile (fun y => decide (y < x)) (l.drop (i + 1))).length + 1) from by omega]
    · rw [decide_eq_false c, show (l[i] == x) = false from (by rw [beq_eq_false_iff_ne]; exact hne), decide_eq_true (show (i : Int) ≤ l.length by omega), Int.toNat_natCast, if_neg (by simp), List.length_nil, Nat.add_zero]
      exact fin i (by omega)
theorem own_eq {b : List Int} (h : b.length ≤ 1000) : s_l1Own_n b = some b := by
  unfold s_l1Own_n
  rw [decide_eq_true (by omega : b.length ≤ 4294967296)]; rfl
theorem clBreak_eq (a : Int) {b c : List Int} {k : Int} (hb : b.length ≤ 100) (hc : c.length ≤ 100) (hk : k ∉ c) : s_clBreak a b c k = some (a, b, brkL c k) := by
  unfold s_clBreak
  rw [own_eq (by omega), put_eq hc hk]
  rfl
/-! ### steps reached, stuck, needed; climbs through; the worst: in closed form -/
theorem numF_snoc (f : Nat → Bool) (n d : Nat) : numF f n (d + 1) = numF f n d ++ (bif f (n + d) then [((n + d : Nat) : Int)] else []) := by
  unfold numF
  rw [List.range'_concat, List.filter_append, List.map_append]
  congr 1
  rw [Nat.one_mul, List.filter_cons]
  cases f (n + d) <;> rfl
theorem ble32 {n : Nat} (h : n ≤ 1000) : Nat.ble n 4294967296 = true := by rw [Nat.ble_eq]; omega
theorem sat_eq0 {x : Int} (h : 0 ≤ x) : (sat x == 0) = (x == 0) := by
  rw [Bool.eq_iff_iff, beq_iff_eq, beq_iff_eq]
  have := sat_bd h
  have h2 := sat_pos (x := x)
  constructor
  · intro h3
    rw [h3] at h2
    have : ¬ 0 < x := fun hx => by have := h2.2 hx; omega
    omega
  · rintro rfl; rfl
section
variable {N : Nat} {D B : List Int}
theorem c_r {k : Nat} (hk : k ≤ N) : i_ReachedSteps_c1 (k : Int) (ar (Dn N D B) (N + 1)) = some (rchB N D B k) := by
  unfold i_ReachedSteps_c1
  have e : rdk kSint [ar (Dn N D B) (N + 1)] 0 = ar (Dn N D B) (N + 1) := rfl
  rw [e, ar_len, ar_rdk (show k < N + 1 by omega), decide_eq_true (Int.natCast_nonneg k), decide_eq_true (show (k : Int) < ((N + 1 : Nat) : Int) by omega)]
  rfl
theorem those_r (hN : N ≤ 60) : ∀ (d n : Nat) (acc : List Int), n + d = N + 1 → acc.length ≤ n →
    i_Stairs_those__i_ReachedSteps_c1_L1 [ar (Dn N D B) (N + 1)] (N : Int) acc D B (n : Int) = some (acc ++ numF (rchB N D B) n d)
  | 0, n, acc, h, ha => by
    rw [i_Stairs_those__i_ReachedSteps_c1_u1, i_Stairs_those__i_ReachedSteps_c1_t1, decide_eq_false (show ¬ ((n : Int) ≤ N) by omega), numF_zero, List.append_nil]; rfl
  | d + 1, n, acc, h, ha => by
    have e : rdk kSint [ar (Dn N D B) (N + 1)] 0 = ar (Dn N D B) (N + 1) := rfl
    have hw : IntKind.wrap .i64 ((n : Int) + 1) = ((n + 1 : Nat) : Int) := by rw [wrapI (by omega) (by omega)]; omega
    rw [i_Stairs_those__i_ReachedSteps_c1_u1, i_Stairs_those__i_ReachedSteps_c1_t1, decide_eq_true (show (n : Int) ≤ N by omega), e, c_r (by omega), ble32 (by omega), hw, numF_succ]
    simp only [cond_true, Option.bind_some]
    cases rchB N D B n
    · simpa using those_r hN d (n + 1) acc (by omega) (by omega)
    · simpa using those_r hN d (n + 1) (acc ++ [(n : Int)]) (by omega) (by simp; omega)
theorem reach_i (G : GoodS N D B) : i_ReachedSteps (N : Int) D B = some (rchL N D B, true) := by
  unfold i_ReachedSteps
  rw [i_AreStairs_eq, good_of G, down_eq G]
  have := those_r (N := N) (D := D) (B := B) G.n2 N 1 [] (by omega) (by simp)
  unfold i_Stairs_those__i_ReachedSteps_c1 i_Stairs_those__i_ReachedSteps_c1_t0
  simp only [Bool.not_true, cond_false, Option.bind_some]
  refine (congrArg (fun o => Option.bind o fun r => some (r, true)) this).trans ?_
  rw [List.nil_append]; rfl
theorem reach_loop (hN : N ≤ 60) : ∀ (d n : Nat) (acc : List Int), n + d = N + 1 → acc.length ≤ n →
    s_ReachedSteps_L1 acc (arb (rchB N D B) (N + 1)) ((N + 1 : Nat) : Int) (n : Int) = some (acc ++ numF (fun k => rchB N D B k && decide (0 < k)) n d, true)
  | 0, n, acc, h, ha => by
    rw [s_ReachedSteps_u1, s_ReachedSteps_t1, decide_eq_false (show ¬ ((n : Int) < ((N + 1 : Nat) : Int)) by omega), numF_zero, List.append_nil]; rfl
  | d + 1, n, acc, h, ha => by
    have hw : IntKind.wrap .i64 ((n : Int) + 1) = ((n + 1 : Nat) : Int) := by rw [wrapI (by omega) (by omega)]; omega
    have hz : decide ((n : Int) > 0) = decide (0 < n) := by rw [decide_eq_decide]; omega
    rw [s_ReachedSteps_u1, s_ReachedSteps_t1, arb_len, decide_eq_true (show (n : Int) < ((N + 1 : Nat) : Int) by omega), decide_eq_true (Int.natCast_nonneg n), arb_rdk (show n < N + 1 by omega), ble32 (by omega), hw, hz, numF_succ]
    simp only [cond_true]
    cases rchB N D B n
    · simpa using reach_loop hN d (n + 1) acc (by omega) (by omega)
    · cases decide (0 < n)
      · simpa using reach_loop hN d (n + 1) acc (by omega) (by omega)
      · simpa using reach_loop hN d (n + 1) (acc ++ [(n : Int)]) (by omega) (by simp; omega)
theorem reach_s (G : GoodS N D B) : s_ReachedSteps (N : Int) D B = some (rchL N D B, true) := by
  unfold s_ReachedSteps s_ReachedSteps_t0
  rw [good_of G, reached_eq G]
  simp only [Bool.not_true, cond_false, Option.bind_some, arb_len]
  refine (reach_loop (N := N) (D := D) (B := B) G.n2 (N + 1) 0 [] (by omega) (by simp)).trans ?_
  rw [numF_succ]
  have e : (rchB N D B 0 && decide (0 < 0)) = false := by simp
  rw [e, List.nil_append]
  show some (numF _ 1 N, true) = _
  rw [numF_congr (g := rchB N D B) (fun k h1 h2 => by rw [decide_eq_true (show 0 < k by omega), Bool.and_true])]; rfl
theorem c_st (G : GoodS N D B) {k : Nat} (hk : k ≤ N) : i_StuckSteps_c1 (k : Int) (ar (Dn N D B) (N + 1)) (ar (U N D B) (N + 1)) = some (stkB N D B k) := by
  unfold i_StuckSteps_c1 stkB
  have e : rdk kSint [ar (Dn N D B) (N + 1)] 0 = ar (Dn N D B) (N + 1) := rfl
  have e2 : rdk kSint [ar (U N D B) (N + 1)] 0 = ar (U N D B) (N + 1) := rfl
  rw [e, e2, ar_len, ar_len, ar_rdk (show k < N + 1 by omega), ar_rdk (show k < N + 1 by omega), decide_eq_true (Int.natCast_nonneg k), decide_eq_true (show (k : Int) < ((N + 1 : Nat) : Int) by omega)]
  have : decide (Dn N D B k > 0) = decide (0 < Dn N D B k) := rfl
  rw [this]
  cases decide (0 < Dn N D B k) <;> rfl
theorem those_s (G : GoodS N D B) : ∀ (d n : Nat) (acc : List Int), n + d = N + 1 → acc.length ≤ n →
    i_Stairs_those__i_StuckSteps_c1_L1 [ar (Dn N D B) (N + 1)] [ar (U N D B) (N + 1)] (N : Int) acc D B (n : Int) = some (acc ++ numF (stkB N D B) n d)
  | 0, n, acc, h, ha => by
    rw [i_Stairs_those__i_StuckSteps_c1_u1, i_Stairs_those__i_StuckSteps_c1_t1, decide_eq_false (show ¬ ((n : Int) ≤ N) by omega), numF_zero, List.append_nil]; rfl
  | d + 1, n, acc, h, ha => by
    have hN := G.n2
    have e : rdk kSint [ar (Dn N D B) (N + 1)] 0 = ar (Dn N D B) (N + 1) := rfl
    have e2 : rdk kSint [ar (U N D B) (N + 1)] 0 = ar (U N D B) (N + 1) := rfl
    have hw : IntKind.wrap .i64 ((n : Int) + 1) = ((n + 1 : Nat) : Int) := by rw [wrapI (by omega) (by omega)]; omega
    rw [i_Stairs_those__i_StuckSteps_c1_u1, i_Stairs_those__i_StuckSteps_c1_t1, decide_eq_true (show (n : Int) ≤ N by omega), e, e2, c_st G (by omega), ble32 (by omega), hw, numF_succ]
    simp only [cond_true, Option.bind_some]
    cases stkB N D B n
    · simpa using those_s G d (n + 1) acc (by omega) (by omega)
    · simpa using those_s G d (n + 1) (acc ++ [(n : Int)]) (by omega) (by simp; omega)
theorem stuck_i (G : GoodS N D B) : i_StuckSteps (N : Int) D B = some (stkL N D B, true) := by
  unfold i_StuckSteps
  rw [i_AreStairs_eq, good_of G, down_eq G, up_eq G]
  have := those_s G N 1 [] (by omega) (by simp)
  unfold i_Stairs_those__i_StuckSteps_c1 i_Stairs_those__i_StuckSteps_c1_t0
  simp only [Bool.not_true, cond_false, Option.bind_some]
  refine (congrArg (fun o => Option.bind o fun r => some (r, true)) this).trans ?_
  rw [List.nil_append]; rfl
theorem stuck_loop (G : GoodS N D B) : ∀ (d n : Nat) (acc : List Int), n + d = N + 1 → acc.length ≤ n →
    s_StuckSteps_L1 (ar (fun j => sat (U N D B j)) (N + 1)) acc (arb (rchB N D B) (N + 1)) ((N + 1 : Nat) : Int) (n : Int) = some (acc ++ numF (fun k => stkB N D B k && decide (0 < k)) n d, true)
  | 0, n, acc, h, ha => by
    rw [s_StuckSteps_u1, s_StuckSteps_t1, decide_eq_false (show ¬ ((n : Int) < ((N + 1 : Nat) : Int)) by omega), numF_zero, List.append_nil]; rfl
  | d + 1, n, acc, h, ha => by
    have hN := G.n2
    have hw : IntKind.wrap .i64 ((n : Int) + 1) = ((n + 1 : Nat) : Int) := by rw [wrapI (by omega) (by omega)]; omega
    have hz : decide ((n : Int) > 0) = decide (0 < n) := by rw [decide_eq_decide]; omega
    have hs : stkB N D B n = (rchB N D B n && U N D B n == 0) := rfl
    rw [s_StuckSteps_u1, s_StuckSteps_t1, arb_len, ar_len, decide_eq_true (show (n : Int) < ((N + 1 : Nat) : Int) by omega), decide_eq_true (Int.natCast_nonneg n), arb_rdk (show n < N + 1 by omega), ar_rdk (show n < N + 1 by omega), sat_eq0 (U_nn G (show n ≤ N by omega)), ble32 (by omega), hw, hz, numF_succ, hs]
    simp only [cond_true]
    cases rchB N D B n
    · simpa using stuck_loop G d (n + 1) acc (by omega) (by omega)
    · cases decide (0 < n)
      · simpa using stuck_loop G d (n + 1) acc (by omega) (by omega)
      · cases U N D B n == 0
        · simpa using stuck_loop G d (n + 1) acc (by omega) (by omega)
        · simpa using stuck_loop G d (n + 1) (acc ++ [(n : Int)]) (by omega) (by simp; omega)
theorem stuck_s (G : GoodS N D B) : s_StuckSteps (N : Int) D B = some (stkL N D B, true) := by
  unfold s_StuckSteps s_StuckSteps_t0
  rw [good_of G, reached_eq G, ways_eq G]
  simp only [Bool.not_true, cond_false, Option.bind_some, arb_len]
  refine (stuck_loop G (N + 1) 0 [] (by omega) (by simp)).trans ?_
  rw [numF_succ]
  have e : (stkB N D B 0 && decide (0 < 0)) = false := by simp
  rw [e, List.nil_append]
  show some (numF _ 1 N, true) = _
  rw [numF_congr (g := stkB N D B) (fun k h1 h2 => by rw [decide_eq_true (show 0 < k by omega), Bool.and_true])]; rfl
theorem thr_wrap (G : GoodS N D B) {k : Nat} (h1 : 1 ≤ k) (h2 : k ≤ N) : IntKind.wrap .i64 (Dn N D B k * U N D B k) = thr N D B k := by
  have h := thr_bd G h1 h2
  have hu := U_le G (Nat.zero_le N)
  have e : Dn N D B k * U N D B k = thr N D B k := rfl
  rw [e]
  exact wrapI (by omega) (by omega)
theorem c_nd (G : GoodS N D B) {k : Nat} (h1 : 1 ≤ k) (hk : k ≤ N) : i_NeededSteps_c1 (k : Int) (ar (Dn N D B) (N + 1)) (ar (U N D B) (N + 1)) = some (ndB N D B k) := by
  unfold i_NeededSteps_c1 ndB
  have e : rdk kSint [ar (Dn N D B) (N + 1)] 0 = ar (Dn N D B) (N + 1) := rfl
  have e2 : rdk kSint [ar (U N D B) (N + 1)] 0 = ar (U N D B) (N + 1) := rfl
  have r0 : rdk kint (ar (U N D B) (N + 1)) 0 = U N D B 0 := ar_rdk (i := 0) (by omega)
  rw [e, e2, ar_len, ar_len, r0, ar_rdk (show k < N + 1 by omega), ar_rdk (show k < N + 1 by omega), thr_wrap G h1 hk, decide_eq_true (Int.natCast_nonneg k), decide_eq_true (show (k : Int) < ((N + 1 : Nat) : Int) by omega), decide_eq_true (show (0 : Int) < ((N + 1 : Nat) : Int) by omega)]
  rfl
theorem those_n (G : GoodS N D B) : ∀ (d n : Nat) (acc : List Int), n + d = N + 1 → 1 ≤ n → acc.length ≤ n →
    i_Stairs_those__i_NeededSteps_c1_L1 [ar (Dn N D B) (N + 1)] [ar (U N D B) (N + 1)] (N : Int) acc D B (n : Int) = some (acc ++ numF (ndB N D B) n d)
  | 0, n, acc, h, h1, ha => by
    rw [i_Stairs_those__i_NeededSteps_c1_u1, i_Stairs_those__i_NeededSteps_c1_t1, decide_eq_false (show ¬ ((n : Int) ≤ N) by omega), numF_zero, List.append_nil]; rfl
  | d + 1, n, acc, h, h1, ha => by
    have hN := G.n2
    have e : rdk kSint [ar (Dn N D B) (N + 1)] 0 = ar (Dn N D B) (N + 1) := rfl
    have e2 : rdk kSint [ar (U N D B) (N + 1)] 0 = ar (U N D B) (N + 1) := rfl
    have hw : IntKind.wrap .i64 ((n : Int) + 1) = ((n + 1 : Nat) : Int) := by rw [wrapI (by omega) (by omega)]; omega
    rw [i_Stairs_those__i_NeededSteps_c1_u1, i_Stairs_those__i_NeededSteps_c1_t1, decide_eq_true (show (n : Int) ≤ N by omega), e, e2, c_nd G h1 (by omega), ble32 (by omega), hw, numF_succ]
    simp only [cond_true, Option.bind_some]
    cases ndB N D B n
    · simpa using those_n G d (n + 1) acc (by omega) (by omega) (by omega)
    · simpa using those_n G d (n + 1) (acc ++ [(n : Int)]) (by omega) (by omega) (by simp; omega)
noncomputable def needL (N : Nat) (D B : List Int) : List Int × Bool := bif U N D B 0 == 0 then ([], false) else (ndL N D B, true)
theorem need_i (G : GoodS N D B) : i_NeededSteps (N : Int) D B = some (needL N D B) := by
  unfold i_NeededSteps needL
  have r0 : rdk kint (ar (U N D B) (N + 1)) 0 = U N D B 0 := ar_rdk (i := 0) (by omega)
  rw [i_AreStairs_eq, good_of G, down_eq G, up_eq G]
  have := those_n G N 1 [] (by omega) (by omega) (by simp)
  unfold i_Stairs_those__i_NeededSteps_c1 i_Stairs_those__i_NeededSteps_c1_t0
  simp only [Bool.not_true, cond_false, Option.bind_some]
  rw [ar_len, r0, decide_eq_true (show (0 : Int) < ((N + 1 : Nat) : Int) by omega)]
  cases U N D B 0 == 0
  · simp only [cond_true, cond_false]
    refine (congrArg (fun o => Option.bind o fun r => some (r, true)) this).trans ?_
    rw [List.nil_append]; rfl
  · rfl
theorem brk_len (G : GoodS N D B) : B.length ≤ 100 := by
  have hb := rise_len B 1 ((N : Int) - 1) G.bp G.bb (by have := G.n1; omega)
  have := G.n2
  omega
theorem ways_broken (G : GoodS N D B) {k : Nat} (h1 : 1 ≤ k) (h2 : k < N) (hb : ¬ brk B k) : s_clBreak (N : Int) D B (k : Int) = some ((N : Int), D, brkL B k) ∧ s_clWays (N : Int) D (brkL B k) = some (ar (fun j => sat (U N D (brkL B k) j)) (N + 1)) := by
  have := G.d2
  exact ⟨clBreak_eq _ (by omega) (brk_len G) hb, ways_eq (brkL_good G h1 h2 hb).1⟩
theorem need_loop (G : GoodS N D B) (h0 : U N D B 0 ≠ 0) : ∀ (d n : Nat) (acc : List Int), n + d = N → 1 ≤ n → acc.length ≤ n →
    s_NeededSteps_L1 (N : Int) acc D B (n : Int) = some (acc ++ numF (ndB N D B) n d ++ [(N : Int)], true)
  | 0, n, acc, h, h1, ha => by
    have hN := G.n2
    rw [s_NeededSteps_u1, s_NeededSteps_t1, decide_eq_false (show ¬ ((n : Int) < N) by omega), ble32 (by omega), numF_zero, List.append_nil]; rfl
  | d + 1, n, acc, h, h1, ha => by
    have hN := G.n2
    have hw : IntKind.wrap .i64 ((n : Int) + 1) = ((n + 1 : Nat) : Int) := by rw [wrapI (by omega) (by omega)]; omega
    have hl := nd_low G h1 (show n < N by omega) h0
    rw [s_NeededSteps_u1, s_NeededSteps_t1, decide_eq_true (show (n : Int) < N by omega), stands D B (show n ≤ N by omega), ble32 (by omega), hw, numF_succ]
    simp only [cond_true]
    by_cases hb : brk B n
    · rw [hl, decide_eq_true hb]
      simpa using need_loop G h0 d (n + 1) acc (by omega) (by omega) (by omega)
    · obtain ⟨w1, w2⟩ := ways_broken G h1 (show n < N by omega) hb
      have r0 : rdk kint (ar (fun j => sat (U N D (brkL B n) j)) (N + 1)) 0 = sat (U N D (brkL B n) 0) := ar_rdk (i := 0) (by omega)
      rw [hl, decide_eq_false hb, w1, Option.bind_some, w2]
      simp only [Bool.not_false, cond_true, Option.bind_some, Bool.true_and]
      rw [ar_len, r0, sat_eq0 (U_nn (brkL_good G h1 (show n < N by omega) hb).1 (Nat.zero_le N)), decide_eq_true (show (0 : Int) < ((N + 1 : Nat) : Int) by omega)]
      cases U N D (brkL B n) 0 == 0
      · simpa using need_loop G h0 d (n + 1) acc (by omega) (by omega) (by omega)
      · simpa using need_loop G h0 d (n + 1) (acc ++ [(n : Int)]) (by omega) (by omega) (by simp; omega)
theorem need_s (G : GoodS N D B) : s_NeededSteps (N : Int) D B = some (needL N D B) := by
  have h1 := G.n1
  unfold s_NeededSteps s_NeededSteps_t0 needL
  have r0 : rdk kint (ar (fun j => sat (U N D B j)) (N + 1)) 0 = sat (U N D B 0) := ar_rdk (i := 0) (by omega)
  rw [good_of G, ways_eq G]
  simp only [Bool.not_true, cond_false, Option.bind_some]
  rw [ar_len, r0, sat_eq0 (U_nn G (Nat.zero_le N)), decide_eq_true (show (0 : Int) < ((N + 1 : Nat) : Int) by omega)]
  cases h0 : U N D B 0 == 0
  · obtain ⟨m, rfl⟩ : ∃ m, N = m + 1 := ⟨N - 1, by omega⟩
    simp only [cond_true, cond_false]
    refine (need_loop G (beq_eq_false_iff_ne.1 h0) m 1 [] (by omega) (by omega) (by simp)).trans ?_
    have ht : ndB (m + 1) D B (1 + m) = true := by
      unfold ndB
      rw [show 1 + m = m + 1 from by omega, thr_top G, beq_self_eq_true]
    have : ndL (m + 1) D B = numF (ndB (m + 1) D B) 1 m ++ [((m + 1 : Nat) : Int)] := by
      unfold ndL
      rw [numF_snoc, ht, cond_true, show 1 + m = m + 1 from by omega]
    rw [this, List.nil_append]
  · rfl
theorem through_s (G : GoodS N D B) (hc : cntB N D B = true) {k : Nat} (h1 : 1 ≤ k) (h2 : k ≤ N) : s_clThrough (N : Int) D B (k : Int) = some (thr N D B k) := by
  have hN := G.n2
  have hu := of_decide_eq_true hc
  have h0 := U_nn G (Nat.zero_le N)
  have r0 : rdk kint (ar (fun j => sat (U N D B j)) (N + 1)) 0 = sat (U N D B 0) := ar_rdk (i := 0) (by omega)
  unfold s_clThrough
  rw [ways_eq G]
  simp only [Option.bind_some]
  rw [ar_len, r0, sat_id hu, decide_eq_true (show (0 : Int) < ((N + 1 : Nat) : Int) by omega)]
  by_cases e : k = N
  · subst e
    rw [beq_self_eq_true, thr_top G]; rfl
  · have e' : ((k : Int) == (N : Int)) = false := by rw [beq_eq_false_iff_ne]; omega
    rw [e', stands D B h2]
    by_cases hb : brk B k
    · rw [decide_eq_true hb, thr_brk G h2 hb]; rfl
    · have hk : k < N := by omega
      obtain ⟨w1, w2⟩ := ways_broken G h1 hk hb
      have r1 : rdk kint (ar (fun j => sat (U N D (brkL B k) j)) (N + 1)) 0 = sat (U N D (brkL B k) 0) := ar_rdk (i := 0) (by omega)
      have ht := thr_brkL G h1 hk hb
      have hbd := thr_bd G h1 h2
      have h0' := U_nn (brkL_good G h1 hk hb).1 (Nat.zero_le N)
      rw [decide_eq_false hb, w1]
      simp only [Bool.not_false, Bool.not_true, cond_true, cond_false, Option.bind_some]
      rw [w2, Option.bind_some, ar_len, r1, sat_id (x := U N D (brkL B k) 0) (by omega), decide_eq_true (show (0 : Int) < ((N + 1 : Nat) : Int) by omega), cond_true, wrapI (by omega) (by omega)]
      congr 1; omega
noncomputable def thrL (N : Nat) (D B : List Int) (k : Int) : Int × Bool := bif cntB N D B && s_l1In k 1 N then (thr N D B k.toNat, true) else (0, false)
theorem through_both (G : GoodS N D B) (k : Int) : i_ClimbsThrough (N : Int) D B k = some (thrL N D B k) ∧ s_ClimbsThrough (N : Int) D B k = some (thrL N D B k) := by
  have hN := G.n2
  unfold i_ClimbsThrough s_ClimbsThrough thrL
  have e1 : i_within k 1 N = s_l1In k 1 N := by rw [i_within_inB, s_l1In_inB]
  rw [counted_eq G, clCounted_eq G, e1]
  simp only [Option.bind_some]
  cases hc : cntB N D B
  · (refine ⟨?_, ?_⟩ <;> first | trivial | rfl)
  · cases hk : s_l1In k 1 N
    · (refine ⟨?_, ?_⟩ <;> first | trivial | rfl)
    · rw [l1In_inS, Bool.and_eq_true, decide_eq_true_eq, decide_eq_true_eq] at hk
      obtain ⟨m, rfl⟩ : ∃ m : Nat, k = m := ⟨k.toNat, by omega⟩
      simp only [Bool.not_true, cond_false, Bool.and_self, cond_true, Int.toNat_natCast]
      rw [down_eq G, through_s G hc (show 1 ≤ m by omega) (by omega)]
      simp only [Option.bind_some]
      rw [ar_len, ar_len, ar_rdk (show m < N + 1 by omega), ar_rdk (show m < N + 1 by omega), thr_wrap G (show 1 ≤ m by omega) (by omega), decide_eq_true (Int.natCast_nonneg m), decide_eq_true (show (m : Int) < ((N + 1 : Nat) : Int) by omega)]
      (refine ⟨?_, ?_⟩ <;> first | trivial | rfl)
theorem worst_i (G : GoodS N D B) : ∀ (d n : Nat) (b m : Int), n + d = N → 1 ≤ n → i_WorstToBreak_L1 (N : Int) (ar (U N D B) (N + 1)) (ar (Dn N D B) (N + 1)) D B b m (n : Int) = some ((wstF (thr N D B) n d (b, m)).1, (wstF (thr N D B) n d (b, m)).2, true)
  | 0, n, b, m, h, h1 => by
    rw [i_WorstToBreak_u1, i_WorstToBreak_t1, decide_eq_false (show ¬ ((n : Int) < N) by omega)]; rfl
  | d + 1, n, b, m, h, h1 => by
    have hN := G.n2
    have hw : IntKind.wrap .i64 ((n : Int) + 1) = ((n + 1 : Nat) : Int) := by rw [wrapI (by omega) (by omega)]; omega
    rw [i_WorstToBreak_u1, i_WorstToBreak_t1, decide_eq_true (show (n : Int) < N by omega), ar_len, ar_len, ar_rdk (show n < N + 1 by omega), ar_rdk (show n < N + 1 by omega), thr_wrap G h1 (by omega), decide_eq_true (Int.natCast_nonneg n), decide_eq_true (show (n : Int) < ((N + 1 : Nat) : Int) by omega), hw, wstF_succ]
    simp only [cond_true]
    by_cases c : thr N D B n > m
    · rw [decide_eq_true c, if_pos c]
      exact worst_i G d (n + 1) _ _ (by omega) (by omega)
    · rw [decide_eq_false c, if_neg c]
      exact worst_i G d (n + 1) _ _ (by omega) (by omega)
theorem worst_s (G : GoodS N D B) (hc : cntB N D B = true) : ∀ (d n : Nat) (b m : Int), n + d = N → 1 ≤ n → s_WorstToBreak_L1 (N : Int) D B b m (n : Int) = some ((wstF (thr N D B) n d (b, m)).1, (wstF (thr N D B) n d (b, m)).2, true)
  | 0, n, b, m, h, h1 => by
    rw [s_WorstToBreak_u1, s_WorstToBreak_t1, decide_eq_false (show ¬ ((n : Int) < N) by omega)]; rfl
  | d + 1, n, b, m, h, h1 => by
    have hN := G.n2
    have hw : IntKind.wrap .i64 ((n : Int) + 1) = ((n + 1 : Nat) : Int) := by rw [wrapI (by omega) (by omega)]; omega
    rw [s_WorstToBreak_u1, s_WorstToBreak_t1, decide_eq_true (show (n : Int) < N by omega), through_s G hc h1 (by omega), hw, wstF_succ]
    simp only [cond_true, Option.bind_some]
    by_cases c : thr N D B n > m
    · rw [decide_eq_true c, if_pos c]
      exact worst_s G hc d (n + 1) _ _ (by omega) (by omega)
    · rw [decide_eq_false c, if_neg c]
      exact worst_s G hc d (n + 1) _ _ (by omega) (by omega)
noncomputable def wst (N : Nat) (D B : List Int) : Int × Int := wstF (thr N D B) 1 (N - 1) (0, -1)
noncomputable def wstL (N : Nat) (D B : List Int) : Int × Int × Bool := bif cntB N D B && (!(U N D B 0 == 0) && !((N : Int) == 1)) then ((wst N D B).1, (wst N D B).2, true) else (0, 0, false)
theorem worst_both (G : GoodS N D B) : i_WorstToBreak (N : Int) D B = some (wstL N D B) ∧ s_WorstToBreak (N : Int) D B = some (wstL N D B) := by
  have hn := G.n1
  have r0 : rdk kint (ar (U N D B) (N + 1)) 0 = U N D B 0 := ar_rdk (i := 0) (by omega)
  have r1 : rdk kint (ar (fun j => sat (U N D B j)) (N + 1)) 0 = sat (U N D B 0) := ar_rdk (i := 0) (by omega)
  unfold i_WorstToBreak i_WorstToBreak_t0 s_WorstToBreak s_WorstToBreak_t0 wstL wst
  rw [counted_eq G, clCounted_eq G, ways_eq G, down_eq G]
  simp only [Option.bind_some]
  rw [ar_len, ar_len, r0, r1, sat_eq0 (U_nn G (Nat.zero_le N)), decide_eq_true (show (0 : Int) < ((N + 1 : Nat) : Int) by omega)]
  cases hc : cntB N D B
  · (refine ⟨?_, ?_⟩ <;> first | trivial | rfl)
  · cases U N D B 0 == 0
    · cases (N : Int) == 1
      · simp only [Bool.not_true, Bool.not_false, Bool.and_self, cond_true, cond_false]
        exact ⟨worst_i G (N - 1) 1 0 (-1) (by omega) (by omega), worst_s G hc (N - 1) 1 0 (-1) (by omega) (by omega)⟩
      · (refine ⟨?_, ?_⟩ <;> first | trivial | rfl)
    · (refine ⟨?_, ?_⟩ <;> first | trivial | rfl)
end
end Go.Proofs.YtgflffacaobkoaaGreatDoor.V
