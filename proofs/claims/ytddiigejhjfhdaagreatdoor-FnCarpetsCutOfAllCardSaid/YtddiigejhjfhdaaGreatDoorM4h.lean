/- Functions of the program, as plain functions. No condition. -/
import Derived.Test.YtddiigejhjfhdaaGreatDoorM4
import Derived.Test.YtddiigejhjfhdaaGreatDoorM3h
import Derived.Test.YtddiigejhjfhdaaGreatDoorM2h
set_option linter.unusedVariables false
set_option linter.unusedSimpArgs false
set_option maxRecDepth 100000
namespace Go.Proofs.YtddiigejhjfhdaaGreatDoor.V
open Go Go.Ev Go.Proofs
/-! ### lists that are compared -/
theorem wSame_self {a : List Int} (ha : a.length ≤ 100000) : w_wSame a a = some true := by
  unfold w_wSame w_wSame_t0
  rw [bne_self_eq_false, cond_false]
  refine drop_ind a (fun i l => w_wSame_L1 a a (a.length : Int) (i : Int) = some true) ?_ (fun i hi ih => ?_)
  · have : ¬ ((a.length : Int) < a.length) := by omega
    rw [w_wSame_u1, w_wSame_t1, decide_eq_false this]; rfl
  · have c1 : (i : Int) < a.length := by omega
    rw [w_wSame_u1, w_wSame_t1, decide_eq_true c1, decide_eq_true (Int.natCast_nonneg i), rdk_get (k := kint) hi, bne_self_eq_false, wrapI (n := (i : Int) + 1) (by omega) (by omega)]
    exact ih
theorem wRises_ok {a : List Int} (ha : a.length ≤ 100000) (h : ∀ i (hi : i + 1 < a.length), a[i] < a[i + 1]) : w_wRises a = some true := by
  unfold w_wRises w_wRises_t0
  have go : ∀ (d k : Nat), k + d = a.length → 1 ≤ k → w_wRises_L1 a (k : Int) = some true := by
    intro d
    induction d with
    | zero =>
      intro k hk _
      have : ¬ ((k : Int) < a.length) := by omega
      rw [w_wRises_u1, w_wRises_t1, decide_eq_false this]; rfl
    | succ d ih =>
      intro k hk h1
      obtain ⟨j, rfl⟩ : ∃ j, k = j + 1 := ⟨k - 1, by omega⟩
      have c1 : ((j + 1 : Nat) : Int) < a.length := by omega
      have c2 : (j : Int) < a.length := by omega
      have hw : IntKind.wrap .i64 (((j + 1 : Nat) : Int) - 1) = (j : Int) := by rw [wrapI (by omega) (by omega)]; omega
      have hw2 : IntKind.wrap .i64 (((j + 1 : Nat) : Int) + 1) = ((j + 1 + 1 : Nat) : Int) := by rw [wrapI (by omega) (by omega)]; omega
      have hlt := h j (by omega)
      have c3 : ¬ (a[j] ≥ a[j + 1]) := by omega
      rw [w_wRises_u1, w_wRises_t1, hw, hw2, decide_eq_true c1, decide_eq_true c2, decide_eq_true (Int.natCast_nonneg _), decide_eq_true (Int.natCast_nonneg _), rdk_get (k := kint) (by omega : j < a.length), rdk_get (k := kint) (by omega : j + 1 < a.length), decide_eq_false c3]
      exact ih (j + 1 + 1) (by omega) (by omega)
  by_cases h0 : 1 ≤ a.length
  · exact go (a.length - 1) 1 (by omega) (by omega)
  · have : ¬ ((1 : Int) < a.length) := by omega
    rw [w_wRises_u1, w_wRises_t1, decide_eq_false this]; rfl
theorem wHas_eq {a : List Int} (ha : a.length ≤ 100000) (n : Int) : w_wHas a n = some (decide (n ∈ a)) := by
  unfold w_wHas w_wHas_t0
  refine drop_ind a (fun i l => w_wHas_L1 a n (a.length : Int) (i : Int) = some (decide (n ∈ l))) ?_ (fun i hi ih => ?_)
  · have : ¬ ((a.length : Int) < a.length) := by omega
    rw [w_wHas_u1, w_wHas_t1, decide_eq_false this]; simp
  · have c1 : (i : Int) < a.length := by omega
    rw [w_wHas_u1, w_wHas_t1, decide_eq_true c1, decide_eq_true (Int.natCast_nonneg i), rdk_get (k := kint) hi, wrapI (n := (i : Int) + 1) (by omega) (by omega)]
    simp only [cond_true]
    by_cases h : a[i] = n
    · rw [show (a[i] == n) = true from beq_iff_eq.2 h, decide_eq_true (show n ∈ a[i] :: a.drop (i + 1) from by rw [h]; exact List.mem_cons_self)]; rfl
    · rw [show (a[i] == n) = false from beq_eq_false_iff_ne.2 h, cond_false]
      have e : decide (n ∈ a[i] :: a.drop (i + 1)) = decide (n ∈ a.drop (i + 1)) := decide_eq_decide.2 ⟨fun m => (List.mem_cons.1 m).resolve_left (fun e => h e.symm), fun m => List.mem_cons_of_mem _ m⟩
      rw [e]
      exact ih
end Go.Proofs.YtddiigejhjfhdaaGreatDoor.V
