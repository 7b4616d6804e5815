/- Functions of the program, as plain functions. No condition. -/
import Derived.Test.YtoldoplpnkojdaaGreatDoorK2
set_option linter.unusedVariables false
set_option linter.unusedSimpArgs false
set_option maxRecDepth 100000
namespace Go.Proofs.YtoldoplpnkojdaaGreatDoor.V
open Go Go.Ev Go.Proofs
def it1 {A : Type} (t1 : A → A) (L1 : A) : Nat → A
  | 0 => L1
  | n + 1 => t1 (it1 t1 L1 n)
theorem it1_eq {A : Type} {t1 : A → A} {L1 : A} (h1 : L1 = t1 L1) : ∀ n, it1 t1 L1 n = L1
  | 0 => rfl
  | n + 1 => by rw [it1, it1_eq h1 n, ← h1]
def it2 {A B : Type} (t1 : A → B → A) (t2 : A → B → B) (L1 : A) (L2 : B) : Nat → A × B
  | 0 => (L1, L2)
  | n + 1 => (t1 (it2 t1 t2 L1 L2 n).1 (it2 t1 t2 L1 L2 n).2, t2 (it2 t1 t2 L1 L2 n).1 (it2 t1 t2 L1 L2 n).2)
theorem it2_eq {A B : Type} {t1 : A → B → A} {t2 : A → B → B} {L1 : A} {L2 : B} (h1 : L1 = t1 L1 L2) (h2 : L2 = t2 L1 L2) : ∀ n, it2 t1 t2 L1 L2 n = (L1, L2)
  | 0 => rfl
  | n + 1 => by rw [it2, it2_eq h1 h2 n, ← h1, ← h2]
def it3 {A B C : Type} (t1 : A → B → C → A) (t2 : A → B → C → B) (t3 : A → B → C → C) (L1 : A) (L2 : B) (L3 : C) : Nat → A × B × C
  | 0 => (L1, L2, L3)
  | n + 1 => (t1 (it3 t1 t2 t3 L1 L2 L3 n).1 (it3 t1 t2 t3 L1 L2 L3 n).2.1 (it3 t1 t2 t3 L1 L2 L3 n).2.2, t2 (it3 t1 t2 t3 L1 L2 L3 n).1 (it3 t1 t2 t3 L1 L2 L3 n).2.1 (it3 t1 t2 t3 L1 L2 L3 n).2.2,
      t3 (it3 t1 t2 t3 L1 L2 L3 n).1 (it3 t1 t2 t3 L1 L2 L3 n).2.1 (it3 t1 t2 t3 L1 L2 L3 n).2.2)
theorem it3_eq {A B C : Type} {t1 : A → B → C → A} {t2 : A → B → C → B} {t3 : A → B → C → C} {L1 : A} {L2 : B} {L3 : C} (h1 : L1 = t1 L1 L2 L3) (h2 : L2 = t2 L1 L2 L3) (h3 : L3 = t3 L1 L2 L3) : ∀ n, it3 t1 t2 t3 L1 L2 L3 n = (L1, L2, L3)
  | 0 => rfl
  | n + 1 => by rw [it3, it3_eq h1 h2 h3 n, ← h1, ← h2, ← h3]

/-! ### the functions, so many rounds told one by one -/
noncomputable def upI := it2 i_Stairs_up_t1 i_Stairs_up_t2 i_Stairs_up_L1 i_Stairs_up_L2 64
noncomputable def upC (a : Int) (b c : List Int) : Option (List Int) := i_Stairs_up_t0 upI.1 upI.2 a b c
theorem upC_eq (a : Int) (b c : List Int) : i_Stairs_up a b c = upC a b c := by
  unfold upC upI i_Stairs_up
  rw [it2_eq (by funext b0 r1 r2 r3 k; exact i_Stairs_up_u1 b0 r1 r2 r3 k) (by funext b0 r1 r2 r3 k s t; exact i_Stairs_up_u2 b0 r1 r2 r3 k s t)]
noncomputable def byI := it3 i_Stairs_byStrides_t1 i_Stairs_byStrides_t2 i_Stairs_byStrides_t3 i_Stairs_byStrides_L1 i_Stairs_byStrides_L2 i_Stairs_byStrides_L3 512
noncomputable def byC (a : Int) (b c : List Int) : Option (List Int) := i_Stairs_byStrides_t0 byI.1 byI.2.1 byI.2.2 a b c
theorem byC_eq (a : Int) (b c : List Int) : i_Stairs_byStrides a b c = byC a b c := by
  unfold byC byI i_Stairs_byStrides
  rw [it3_eq (by funext b0 r1 r2 r3 r4 s t; exact i_Stairs_byStrides_u1 b0 r1 r2 r3 r4 s t) (by funext b0 r1 r2 r3 r4 r5 s t u v; exact i_Stairs_byStrides_u2 b0 r1 r2 r3 r4 r5 s t u v)
    (by funext b0 r1 r2 r3 r4 r5 a b s t u v x y; exact i_Stairs_byStrides_u3 b0 r1 r2 r3 r4 r5 a b s t u v x y)]
noncomputable def waysI := it2 s_clWays_t1 s_clWays_t2 s_clWays_L1 s_clWays_L2 64
noncomputable def waysC (a : Int) (b c : List Int) : Option (List Int) := s_clWays_t0 waysI.1 waysI.2 a b c
theorem waysC_eq (a : Int) (b c : List Int) : s_clWays a b c = waysC a b c := by
  unfold waysC waysI s_clWays
  rw [it2_eq (by funext b0 r1 r2 r3 k; exact s_clWays_u1 b0 r1 r2 r3 k) (by funext b0 r1 r2 r3 k s t; exact s_clWays_u2 b0 r1 r2 r3 k s t)]
noncomputable def leftI := it2 s_clLeft_t1 s_clLeft_t2 s_clLeft_L1 s_clLeft_L2 64
noncomputable def leftC (a : Int) (b c : List Int) (m : Bool) : Option (List Int) := s_clLeft_t0 leftI.1 leftI.2 a b c m
theorem leftC_eq (a : Int) (b c : List Int) (m : Bool) : s_clLeft a b c m = leftC a b c m := by
  unfold leftC leftI s_clLeft
  rw [it2_eq (by funext b0 r1 r2 r3 m k; exact s_clLeft_u1 b0 r1 r2 r3 m k) (by funext b0 r1 r2 r3 m k s t; exact s_clLeft_u2 b0 r1 r2 r3 m k s t)]
noncomputable def mostI := it1 i_MostStrides_t1 i_MostStrides_L1 16
theorem mostI_eq : i_MostStrides_L1 = mostI := by
  unfold mostI
  rw [it1_eq (by funext r b s t; exact i_MostStrides_u1 r b s t)]

def hidS : List (List Int) := [[1], [1, 2], [1, 2, 3], [1, 3], [2], [2, 3], [3]]
def hidB : Nat → List (List Int)
  | 0 => [[]]
  | n + 1 => hidB n ++ [[((n + 1 : Nat) : Int)]]
/-- all hidden stairs, in order -/
def hidAll : List (Int × List Int × List Int) := [1, 2, 3, 4, 5, 6, 7].flatMap fun n => hidS.flatMap fun b => (hidB (n - 1)).map fun c => ((n : Int), b, c)
/-- ways, fewest and most strides -/
noncomputable def hidV (s : Int × List Int × List Int) : Option (Int × Int × Int) :=
  match upC s.1 s.2.1 s.2.2, byC s.1 s.2.1 s.2.2 with
  | some (u :: _), some l => match mostI l (-1) (l.length : Int) 0 with
    | some (m, _) => some (u, (bif decide (slices_IndexFunc_int__i_FewestStrides_c1_n l < 0) then 0 else slices_IndexFunc_int__i_FewestStrides_c1_n l), m)
    | _ => none
  | _, _ => none
noncomputable def hidW (s : Int × List Int × List Int) : Option (Int × Int × Int) :=
  match waysC s.1 s.2.1 s.2.2, leftC s.1 s.2.1 s.2.2 false, leftC s.1 s.2.1 s.2.2 true with
  | some (u :: _), some (f :: _), some (m :: _) => some (u, (bif decide (f < 0) then 0 else f), (bif decide (m < 0) then 0 else m))
  | _, _, _ => none
noncomputable def hidChk (s : Int × List Int × List Int) : Bool := match hidV s, hidW s with
  | some (a, b, c), some (a', b', c') => a == a' && (b == b' && (c == c' && decide (a ≤ 1000000000000000)))
  | _, _ => false
theorem hid_ok : hidAll.all hidChk = true := by kernel_rfl
theorem pzClue_kind {k a b : Int} (h : s_pzClue k a b = true) : 0 ≤ k ∧ k ≤ 5 := by
  unfold s_pzClue at h
  by_cases h0 : k = 0
  · omega
  by_cases h1 : k = 1
  · omega
  by_cases h2 : k = 2
  · omega
  by_cases h3 : k = 3
  · omega
  by_cases h4 : k = 4
  · omega
  by_cases h5 : k = 5
  · omega
  simp [h0, h1, h2, h3, h4, h5] at h
theorem hid_mem {s : Int × List Int × List Int} (h : s ∈ hidAll) : ∃ u f m, hidV s = some (u, f, m) ∧ hidW s = some (u, f, m) ∧ u ≤ 1000000000000000 := by
  have hk := List.all_eq_true.1 hid_ok s h
  unfold hidChk at hk
  split at hk
  · rename_i a b c a' b' c' h1 h2
    simp only [Bool.and_eq_true, beq_iff_eq, decide_eq_true_eq] at hk
    obtain ⟨rfl, rfl, rfl, h3⟩ := hk
    exact ⟨_, _, _, h1, h2, h3⟩
  · cases hk
theorem hidS_mem {b : List Int} (h0 : b ≠ []) (h1 : b.Pairwise (· < ·)) (h2 : ∀ x, x ∈ b → 1 ≤ x ∧ x ≤ 3) : b ∈ hidS := by
  unfold hidS
  rcases b with _ | ⟨x, _ | ⟨y, _ | ⟨z, _ | ⟨v, l⟩⟩⟩⟩
  · exact absurd rfl h0
  · have := h2 x (by simp)
    have : x = 1 ∨ x = 2 ∨ x = 3 := by omega
    rcases this with rfl | rfl | rfl <;> simp
  · have := h2 x (by simp); have := h2 y (by simp)
    simp only [List.pairwise_cons] at h1
    have := h1.1 y (by simp)
    have : (x = 1 ∧ y = 2) ∨ (x = 1 ∧ y = 3) ∨ (x = 2 ∧ y = 3) := by omega
    rcases this with ⟨rfl, rfl⟩ | ⟨rfl, rfl⟩ | ⟨rfl, rfl⟩ <;> simp
  · have := h2 x (by simp); have := h2 y (by simp); have := h2 z (by simp)
    simp only [List.pairwise_cons] at h1
    have := h1.1 y (by simp); have := h1.2.1 z (by simp)
    have : x = 1 ∧ y = 2 ∧ z = 3 := by omega
    obtain ⟨rfl, rfl, rfl⟩ := this
    simp
  · have := h2 x (by simp); have := h2 v (by simp)
    simp only [List.pairwise_cons] at h1
    have := h1.1 y (by simp); have := h1.2.1 z (by simp); have := h1.2.2.1 v (by simp)
    omega
theorem hidB_nil : ∀ n, [] ∈ hidB n
  | 0 => by simp [hidB]
  | n + 1 => by rw [hidB]; exact List.mem_append_left _ (hidB_nil n)
theorem hidB_one : ∀ (n k : Nat), k < n → [((k + 1 : Nat) : Int)] ∈ hidB n
  | 0, k, h => by omega
  | n + 1, k, h => by
    rw [hidB]
    by_cases e : k = n
    · subst e; simp
    · exact List.mem_append_left _ (hidB_one n k (by omega))
theorem hidB_mem {n : Nat} {c : List Int} (hl : c.length ≤ 1) (h : ∀ x, x ∈ c → 1 ≤ x ∧ x ≤ (n : Int)) : c ∈ hidB n := by
  rcases c with _ | ⟨x, _ | ⟨y, l⟩⟩
  · exact hidB_nil n
  · have := h x (by simp)
    obtain ⟨k, rfl⟩ : ∃ k : Nat, x = ((k + 1 : Nat) : Int) := ⟨(x - 1).toNat, by omega⟩
    exact hidB_one n k (by omega)
  · simp at hl
theorem hidAll_mem {a : Int} {b c : List Int} (h : i_isHidden a b c = true) : (a, b, c) ∈ hidAll ∧ s_clGood a b c = true := by
  unfold i_isHidden at h
  rw [i_AreStairs_eq] at h
  cases hg : s_clGood a b c
  · rw [hg] at h; cases h
  rw [hg] at h
  obtain ⟨h1, h2, h3, h4⟩ := s_clGood_iff.1 hg
  cases h7 : decide (a ≤ 7)
  · rw [h7] at h; cases h
  rw [h7] at h
  have h7 := of_decide_eq_true h7
  cases hr : i_rise_n b 1 3
  · rw [hr] at h; cases h
  rw [hr] at h
  have hc := of_decide_eq_true h
  obtain ⟨r1, r2⟩ := rising_iff.1 hr
  obtain ⟨c1, c2⟩ := rising_iff.1 h4
  refine ⟨?_, rfl⟩
  obtain ⟨n, rfl⟩ : ∃ n : Nat, a = n := ⟨a.toNat, by omega⟩
  unfold hidAll
  refine List.mem_flatMap.2 ⟨n, ?_, List.mem_flatMap.2 ⟨b, hidS_mem (fun e => by subst e; simp at h2) r1 r2, List.mem_map.2 ⟨c, hidB_mem (by omega) (fun x hx => by have := c2 x hx; omega), rfl⟩⟩⟩
  have : n = 1 ∨ n = 2 ∨ n = 3 ∨ n = 4 ∨ n = 5 ∨ n = 6 ∨ n = 7 := by omega
  rcases this with rfl | rfl | rfl | rfl | rfl | rfl | rfl <;> simp
theorem hidden_eq' (a : Int) (b c : List Int) : s_pzHidden a b c = some (i_isHidden a b c) := by
  unfold s_pzHidden i_isHidden
  rw [i_AreStairs_eq]
  cases hg : s_clGood a b c
  · rfl
  obtain ⟨h1, h2, h3, h4⟩ := s_clGood_iff.1 hg
  obtain ⟨r1, r2⟩ := rising_iff.1 h3
  cases h7 : decide (a ≤ 7)
  · rfl
  have hw : IntKind.wrap .i64 ((b.length : Int) - 1) = ((b.length - 1 : Nat) : Int) := by rw [wrapI (by omega) (by omega)]; omega
  have hi : b.length - 1 < b.length := by omega
  rw [hw, rdk_get (k := kint) hi]
  have e1 : ((b.length - 1 : Nat) : Int) < (b.length : Int) := by omega
  rw [decide_eq_true (by omega : (0 : Int) ≤ ((b.length - 1 : Nat) : Int)), decide_eq_true e1]
  have e2 : i_rise_n b 1 3 = decide (b[b.length - 1] ≤ 3) := by
    rw [Bool.eq_iff_iff, decide_eq_true_eq]
    show rising 1 3 b = true ↔ _
    rw [rising_iff]
    constructor
    · intro h; exact (h.2 _ (List.getElem_mem hi)).2
    · intro h
      refine ⟨r1, fun x hx => ⟨(r2 x hx).1, ?_⟩⟩
      obtain ⟨i, hi', rfl⟩ := List.getElem_of_mem hx
      by_cases e : i = b.length - 1
      · subst e; exact h
      · have := List.pairwise_iff_getElem.1 r1 i (b.length - 1) hi' hi (by omega)
        omega
  rw [e2]
  have e3 : decide ((c.length : Int) < 2) = decide ((c.length : Int) ≤ 1) := by
    rw [Bool.eq_iff_iff, decide_eq_true_eq, decide_eq_true_eq]; omega
  cases decide (b[b.length - 1] ≤ 3) <;> simp [e3]
theorem hidden_eq (a : Int) (b c : List Int) (hb : b.length ≤ 1048576) : s_pzHidden a b c = some (i_isHidden a b c) := hidden_eq' a b c
/-- what a kind of clue tells of stairs -/
noncomputable def hidVal (kind x : Int) (a : Int) (b c : List Int) : Int :=
  match hidV (a, b, c) with
  | some (u, f, m) => bif kind == 0 then u else bif kind == 1 then f else bif kind == 2 then (bif decide (x ∈ b) then 1 else 0) else bif kind == 3 then (bif decide (x ∈ c) then 1 else 0) else bif kind == 4 then a else m
  | none => 0
theorem bOf_eq {a : Int} {b c : List Int} (h : i_isHidden a b c = true) (kind x : Int) (hk : 0 ≤ kind ∧ kind ≤ 5) : i_bOf a b c kind x = some (hidVal kind x a b c) := by
  obtain ⟨hm, hg⟩ := hidAll_mem h
  obtain ⟨u, f, m, h1, -, h3⟩ := hid_mem hm
  unfold hidVal
  rw [h1]
  unfold hidV at h1
  split at h1
  · rename_i u' us l hu hl
    split at h1
    · rename_i m' q hmo
      cases h1
      simp only at hu hl
      unfold i_bOf i_CountClimbs i_counted i_FewestStrides i_MostStrides i_MostStrides_t0 i_Stairs_isBroken
      rw [i_AreStairs_eq, hg, upC_eq, hu, byC_eq, hl, mostI_eq]
      have : kind = 0 ∨ kind = 1 ∨ kind = 2 ∨ kind = 3 ∨ kind = 4 ∨ kind = 5 := by omega
      have r0 : rdk kint (u :: us) 0 = u := rfl
      rcases this with rfl | rfl | rfl | rfl | rfl | rfl
      · simp [r0, h3]
      · simp only [show ((1 : Int) == 0) = false from rfl, show ((1 : Int) == 1) = true from rfl, cond_true, cond_false, Bool.not_true, Option.bind_some]
        by_cases hd : slices_IndexFunc_int__i_FewestStrides_c1_n l < 0 <;> simp only [hd, decide_true, decide_false, cond_true, cond_false, Option.bind_some]
      · simp [slices_Contains_int_eq, i_bOf_c1]
      · simp [slices_Contains_int_eq, i_bOf_c1]
      · simp
      · simp [hmo]
    · cases h1
  · cases h1
theorem pzValue_eq {a : Int} {b c : List Int} (h : i_isHidden a b c = true) (kind x : Int) (hk : 0 ≤ kind ∧ kind ≤ 5) : s_pzValue kind x a b c = some (hidVal kind x a b c) := by
  obtain ⟨hm, hg⟩ := hidAll_mem h
  obtain ⟨u, f, m, h1, h2, -⟩ := hid_mem hm
  unfold hidVal
  rw [h1]
  unfold hidW at h2
  split at h2
  · rename_i u' us f' fs m' ms hu hf hmo
    cases h2
    simp only at hu hf hmo
    unfold s_pzValue s_FewestStrides s_MostStrides s_l1Has_n
    rw [hg, waysC_eq, hu, leftC_eq, hf, leftC_eq, hmo]
    have : kind = 0 ∨ kind = 1 ∨ kind = 2 ∨ kind = 3 ∨ kind = 4 ∨ kind = 5 := by omega
    have r0 : ∀ (u : Int) us, rdk kint (u :: us) 0 = u := fun _ _ => rfl
    rcases this with rfl | rfl | rfl | rfl | rfl | rfl
    · simp [r0]
    · simp [r0, -Int.not_lt]
      by_cases hd : f' < 0 <;> simp only [hd, decide_true, decide_false, cond_true, cond_false, Option.bind_some]
    · by_cases hx : x ∈ b <;> simp [hx]
    · by_cases hx : x ∈ c <;> simp [hx]
    · simp
    · simp [r0, -Int.not_lt]
      by_cases hd : m' < 0 <;> simp only [hd, decide_true, decide_false, cond_true, cond_false, Option.bind_some]
  · cases h2
end Go.Proofs.YtoldoplpnkojdaaGreatDoor.V
