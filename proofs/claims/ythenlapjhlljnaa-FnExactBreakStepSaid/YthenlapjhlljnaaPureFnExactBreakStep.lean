/- The plain law of FnExactBreakStep: the plain function answers true. No condition. -/
import Derived.Test.YthenlapjhlljnaaF1
set_option linter.unusedVariables false
set_option linter.unusedSimpArgs false
set_option maxRecDepth 100000
namespace Go.Proofs.Ythenlapjhlljnaa.V
open Go Go.Ev Go.Proofs
theorem sort_put {B : List Int} {x : Int} (hB : B.Pairwise (· < ·)) (hx : x ∉ B) : (B ++ [x]).mergeSort (fun a b => decide (a ≤ b)) = B.takeWhile (fun y => decide (y < x)) ++ [x] ++ B.dropWhile (fun y => decide (y < x)) := by
  have htw : ∀ y, y ∈ B.takeWhile (fun y => decide (y < x)) → y < x := fun y hy => by
    have := List.all_takeWhile (p := fun y => decide (y < x)) (l := B)
    exact of_decide_eq_true (List.all_eq_true.1 this y hy)
  have hdw : ∀ y, y ∈ B.dropWhile (fun y => decide (y < x)) → x < y := by
    have : ∀ l : List Int, l.Pairwise (· < ·) → x ∉ l → ∀ y, y ∈ l.dropWhile (fun y => decide (y < x)) → x < y := by
      intro l
      induction l with
      | nil => intro _ _ y hy; exact absurd hy List.not_mem_nil
      | cons a l ih =>
        intro hp hn y hy
        obtain ⟨g1, g2⟩ := List.pairwise_cons.1 hp
        have hxa : x ≠ a := fun e => hn (by rw [e]; exact List.mem_cons_self)
        rw [List.dropWhile_cons] at hy
        by_cases c : a < x
        · rw [if_pos (decide_eq_true c)] at hy
          exact ih g2 (fun h => hn (List.mem_cons_of_mem _ h)) y hy
        · rw [if_neg (by simpa using c)] at hy
          rcases List.mem_cons.1 hy with rfl | hy
          · omega
          · have := g1 y hy; omega
    exact this B hB hx
  have hsub1 : (B.takeWhile (fun y => decide (y < x))).Pairwise (· < ·) := hB.sublist (List.takeWhile_sublist _)
  have hsub2 : (B.dropWhile (fun y => decide (y < x))).Pairwise (· < ·) := hB.sublist (List.dropWhile_sublist _)
  refine List.Perm.eq_of_pairwise (le := fun a b : Int => a ≤ b) (fun a b _ _ h1 h2 => Int.le_antisymm h1 h2) ?_ ?_ ?_
  · refine (List.pairwise_mergeSort (le := fun a b : Int => decide (a ≤ b)) (fun a b c h1 h2 => ?_) (fun a b => ?_) _).imp (fun h => of_decide_eq_true h)
    · exact decide_eq_true (Int.le_trans (of_decide_eq_true h1) (of_decide_eq_true h2))
    · rcases Int.le_total a b with h | h
      · rw [decide_eq_true h]; rfl
      · rw [decide_eq_true h, Bool.or_true]
  · rw [List.pairwise_append, List.pairwise_append]
    refine ⟨⟨hsub1.imp (fun h => by omega), List.pairwise_singleton _ _, fun a ha b hb => ?_⟩, hsub2.imp (fun h => by omega), fun a ha b hb => ?_⟩
    · have := htw a ha; rw [List.mem_singleton] at hb; omega
    · have h2 := hdw b hb
      rcases List.mem_append.1 ha with h | h
      · have := htw a h; omega
      · rw [List.mem_singleton] at h; omega
  · refine (List.mergeSort_perm _ _).trans ?_
    have e : B ++ [x] = B.takeWhile (fun y => decide (y < x)) ++ (B.dropWhile (fun y => decide (y < x)) ++ [x]) := by
      rw [← List.append_assoc, List.takeWhile_append_dropWhile]
    rw [e, List.append_assoc]
    exact List.Perm.append_left _ List.perm_append_comm
theorem put_eq {l : List Int} {x : Int} (hl : l.length ≤ 100) (hx : x ∉ l) : s_l1Put l x = some (l.takeWhile (fun y => decide (y < x)) ++ [x] ++ l.dropWhile (fun y => decide (y < x))) := by
  unfold s_l1Put s_l1Put_t0
  have hble : ∀ n : Nat, n ≤ 1000 → Nat.ble n 4294967296 = true := fun n h => by rw [Nat.ble_eq]; omega
  have fin : ∀ k : Nat, k ≤ l.length →
      (bif Nat.ble (0 + List.length (List.take (k - Int.toNat 0) (List.drop (Int.toNat 0) l))) 4294967296 then
        bif Nat.ble (List.length ([] ++ List.take (k - Int.toNat 0) (List.drop (Int.toNat 0) l)) + 1) 4294967296 then
          bif true then
            bif true then
              bif Nat.ble (List.length ([] ++ List.take (k - Int.toNat 0) (List.drop (Int.toNat 0) l) ++ [x]) + List.length (List.take (Int.toNat (l.length : Int) - k) (List.drop k l))) 4294967296 then
                some ([] ++ List.take (k - Int.toNat 0) (List.drop (Int.toNat 0) l) ++ [x] ++ List.take (Int.toNat (l.length : Int) - k) (List.drop k l))
              else none
            else none
          else none
        else none
      else none) = some (l.take k ++ [x] ++ l.drop k) := fun k hk => by
    rw [show Int.toNat 0 = 0 from rfl, List.drop_zero, Nat.sub_zero, Int.toNat_natCast, List.nil_append, show List.take (l.length - k) (List.drop k l) = l.drop k from List.take_of_length_le (by rw [List.length_drop]; omega),
      hble _ (by rw [List.length_take]; omega), hble _ (by rw [List.length_take]; omega), hble _ (by simp; omega)]
    rfl
  have key := drop_ind l (fun i r => s_l1Put_L1 l x (i : Int) = some (l.take (i + (r.takeWhile (fun y => decide (y < x))).length) ++ [x] ++ l.drop (i + (r.takeWhile (fun y => decide (y < x))).length))) ?_ (fun i hi ih => ?_)
  · refine key.trans ?_
    rw [Nat.zero_add]
    have h1 : l.take (l.takeWhile (fun y => decide (y < x))).length = l.takeWhile (fun y => decide (y < x)) := by
      have := List.take_left' (l₁ := l.takeWhile (fun y => decide (y < x))) (l₂ := l.dropWhile (fun y => decide (y < x))) rfl
      rw [List.takeWhile_append_dropWhile] at this
      exact this
    have h2 : l.drop (l.takeWhile (fun y => decide (y < x))).length = l.dropWhile (fun y => decide (y < x)) := by
      have := List.drop_left' (l₁ := l.takeWhile (fun y => decide (y < x))) (l₂ := l.dropWhile (fun y => decide (y < x))) rfl
      rw [List.takeWhile_append_dropWhile] at this
      exact this
    rw [h1, h2]
  · rw [s_l1Put_u1, s_l1Put_t1, decide_eq_false (show ¬ ((l.length : Int) < l.length) by omega), decide_eq_true (Int.natCast_nonneg l.length), decide_eq_true (show (l.length : Int) ≤ l.length by omega), Int.toNat_natCast]
    rw [List.takeWhile_nil, List.length_nil, Nat.add_zero]
    have := fin l.length (Nat.le_refl _)
    rw [Int.toNat_natCast] at this
    exact this
  · have hne : l[i] ≠ x := fun e => hx (by rw [← e]; exact List.getElem_mem hi)
    rw [s_l1Put_u1, s_l1Put_t1, decide_eq_true (show (i : Int) < l.length by omega), decide_eq_true (Int.natCast_nonneg i), rdk_get (k := kint) hi, wrapI (n := (i : Int) + 1) (by omega) (by omega), List.takeWhile_cons]
    by_cases c : l[i] < x
    · rw [decide_eq_true c]
      rw [show ((i : Int) + 1) = ((i + 1 : Nat) : Int) from by omega]
      refine ih.trans ?_
      rw [if_pos rfl, List.length_cons, show i + 1 + (List.takeWhile (fun y => decide (y < x)) (l.drop (i + 1))).length = i + ((List.takeWhile (fun y => decide (y < x)) (l.drop (i + 1))).length + 1) from by omega]
    · rw [decide_eq_false c, show (l[i] == x) = false from (by rw [beq_eq_false_iff_ne]; exact hne), decide_eq_true (show (i : Int) ≤ l.length by omega), Int.toNat_natCast, if_neg (by simp), List.length_nil, Nat.add_zero]
      exact fin i (by omega)
theorem break_both (a : Int) (b c : List Int) (k : Int) : ∃ r, i_BreakStep a b c k = some r ∧ s_BreakStep a b c k = some r ∧ r.1.2.1.length + r.1.2.2.length ≤ 1000 := by
  unfold i_BreakStep s_BreakStep
  rw [i_AreStairs_eq]
  cases hg : s_clGood a b c
  · exact ⟨((0, [], []), false), rfl, rfl, by simp⟩
  · have hl := s_clGood_len hg
    obtain ⟨h1, h2, h3, h4⟩ := s_clGood_iff.1 hg
    have hw : IntKind.wrap .i64 (a - 1) = a - 1 := wrapI (by omega) (by omega)
    rw [hw]
    have e1 : i_within k 1 (a - 1) = s_l1In k 1 (a - 1) := by rw [i_within_inB, s_l1In_inB]
    rw [e1]
    cases hi : s_l1In k 1 (a - 1)
    · exact ⟨((0, [], []), false), rfl, rfl, by simp⟩
    · unfold i_Stairs_isBroken s_l1Has_n
      rw [slices_Contains_int_eq]
      by_cases hk : k ∈ c
      · rw [decide_eq_true hk]; exact ⟨((0, [], []), false), rfl, rfl, by simp⟩
      · have hcp : i_Stairs_copied a b c = some (a, b, c) := by
          unfold i_Stairs_copied slices_Clone_int_n
          rw [decide_eq_true (by omega : b.length ≤ 4294967296), decide_eq_true (by omega : c.length ≤ 4294967296)]
          rfl
        have ho : s_l1Own_n b = some b := by
          unfold s_l1Own_n
          rw [decide_eq_true (by omega : b.length ≤ 4294967296)]; rfl
        have hs : slices_Sort_int (c ++ [k]) = some (c.takeWhile (fun y => decide (y < k)) ++ [k] ++ c.dropWhile (fun y => decide (y < k))) := by
          unfold slices_Sort_int sortIF
          rw [if_pos ⟨by rw [List.length_append]; simp; omega, by simp⟩, sort_put (rising_iff.1 h4).1 hk]
        unfold s_clBreak
        rw [decide_eq_false hk, hcp, ho, put_eq (by omega) hk]
        simp only [Bool.not_true, cond_false, Option.bind_some]
        rw [hs, show Nat.ble (c.length + 1) 4294967296 = true from (by rw [Nat.ble_eq]; omega)]
        refine ⟨_, rfl, rfl, ?_⟩
        show b.length + (c.takeWhile (fun y => decide (y < k)) ++ [k] ++ c.dropWhile (fun y => decide (y < k))).length ≤ 1000
        have e : (c.takeWhile (fun y => decide (y < k))).length + (c.dropWhile (fun y => decide (y < k))).length = c.length := by rw [← List.length_append, List.takeWhile_append_dropWhile]
        rw [List.length_append, List.length_append, List.length_singleton]
        omega
theorem pure_FnExactBreakStep (y : Int × List Int × List Int) (hw : Wf kwStairs y) (k : Int) (hk : Wf kint k) : F_w_FnExactBreakStep (y, k, ()) = some true := by
  obtain ⟨a, b, c⟩ := y
  show w_FnExactBreakStep a b c k = some true
  unfold w_FnExactBreakStep
  cases hs : decide (w_szStairs a b c 1048576 < 0)
  · obtain ⟨hb, hc⟩ : b.length ≤ 1048576 ∧ c.length ≤ 1048576 := szStairs_le (a := a) hw.2.1.1 hw.2.2.1 hs
    have m1 := heldStairs_eq a b c (by omega)
    obtain ⟨r, e1, e2, hsz⟩ := break_both a b c k
    have m2 := heldStairs_eq r.1.1 r.1.2.1 r.1.2.2 (by omega)
    simp only [cond_false, toStairs_eq hb hc, Option.bind_some, e1, e2, eqStairs_eq, m1.1, m2.1, m2.2]
    simp
  · rfl
end Go.Proofs.Ythenlapjhlljnaa.V
