/- Functions of the program, as plain functions. No condition. -/
import Derived.Test.YtlffgllmjjkfdaaDoorH1
set_option linter.unusedVariables false
set_option linter.unusedSimpArgs false
set_option maxRecDepth 100000
namespace Go.Proofs.YtlffgllmjjkfdaaDoor.V
open Go Go.Ev Go.Proofs
/-! ### numbers joined -/
def itoaB (n : Int) : ByteArray := ⟨(Lib.itoa n).toArray⟩
theorem num_ok {n : Int} (h : 0 ≤ n) (h' : n ≤ 4000000000000000000) : s_l1Num_n n = some (itoaB n) := by
  unfold s_l1Num_n
  rw [decide_eq_true h, decide_eq_true h']; rfl
theorem itoa_ok {n : Int} (h : 0 ≤ n) (h' : n ≤ 4000000000000000000) : strconv_Itoa n = some (itoaB n) := by
  unfold strconv_Itoa itoaF
  rw [if_pos (by omega)]; rfl
theorem itoa_len {n : Int} (h : 0 ≤ n) (h' : n ≤ 1000000) : (Lib.itoa n).length ≤ 1000001 := by
  obtain ⟨m, rfl⟩ := Int.eq_ofNat_of_zero_le h
  rw [itoa_nat]
  have := dec_len m; omega
theorem join_snoc (sep : List UInt8) : ∀ (xs : List (List UInt8)) (y : List UInt8), Lib.join (xs ++ [y]) sep = if xs = [] then y else Lib.join xs sep ++ sep ++ y
  | [], y => by rw [if_pos rfl, List.nil_append, Lib.join_one]
  | x :: r, y => by
    rw [if_neg (by simp), List.cons_append, Lib.join_cons, Lib.join_cons]
    unfold Lib.joinTail
    simp [List.append_assoc]
theorem join_len (sep : List UInt8) (xs : List (List UInt8)) : (Lib.join xs sep).length ≤ sep.length * xs.length + Lib.lens xs := by
  cases xs with
  | nil => simp [Lib.join_nil]
  | cons x r =>
    rw [Lib.join_cons, List.length_append, Lib.joinTail_length]
    have : Lib.lens (x :: r) = x.length + Lib.lens r := by simp [Lib.lens]
    rw [this, List.length_cons, Nat.mul_succ]; omega
theorem lens_le {c : Nat} : ∀ {xs : List (List UInt8)}, (∀ x, x ∈ xs → x.length ≤ c) → Lib.lens xs ≤ c * xs.length
  | [], _ => by simp [Lib.lens]
  | x :: r, h => by
    have h1 := h x (by simp)
    have h2 := lens_le (xs := r) (fun y hy => h y (List.mem_cons_of_mem _ hy))
    have : Lib.lens (x :: r) = x.length + Lib.lens r := by simp [Lib.lens]
    rw [this, List.length_cons, Nat.mul_succ]; omega
/-- small numbers -/
structure SmallL (l : List Int) : Prop where
  len : l.length ≤ 10000
  bd : ∀ x, x ∈ l → 0 ≤ x ∧ x ≤ 1000000
theorem join_bd {l : List Int} (h : SmallL l) (sep : List UInt8) (hs : sep.length ≤ 100) : (Lib.join (l.map Lib.itoa) sep).length ≤ 140737488355328 := by
  have h1 := join_len sep (l.map Lib.itoa)
  have h2 := lens_le (c := 1000001) (xs := l.map Lib.itoa) (fun x hx => by
    obtain ⟨n, hn, rfl⟩ := List.mem_map.1 hx
    have := h.bd n hn
    exact itoa_len this.1 this.2)
  rw [List.length_map] at h1 h2
  have h3 : sep.length * l.length ≤ 100 * 10000 := Nat.mul_le_mul hs h.len
  have h4 : 1000001 * l.length ≤ 1000001 * 10000 := Nat.mul_le_mul_left _ h.len
  omega
theorem SmallL.take {l : List Int} (h : SmallL l) (i : Nat) : SmallL (l.take i) := ⟨by rw [List.length_take]; have := h.len; omega, fun x hx => h.bd x (List.mem_of_mem_take hx)⟩
theorem joined_ok {l : List Int} (h : SmallL l) (sep : ByteArray) (hs : sep.data.toList.length ≤ 100) : i_joined l sep = some ⟨(Lib.join (l.map Lib.itoa) sep.data.toList).toArray⟩ := by
  unfold i_joined i_joined_t0
  have hlen := h.len
  have main : ∀ (d i : Nat), i + d = l.length → i_joined_L1 ((l.take i).map itoaB) l sep (l.length : Int) (i : Int) = some ⟨(Lib.join (l.map Lib.itoa) sep.data.toList).toArray⟩ := by
    intro d
    induction d with
    | zero =>
      intro i hi
      have hi : i = l.length := by omega
      subst hi
      rw [i_joined_u1, i_joined_t1, decide_eq_false (by omega), cond_false, List.take_length]
      unfold strings_Join joinF
      have em : (l.map itoaB).map (·.data.toList) = l.map Lib.itoa := by
        rw [List.map_map]; rfl
      rw [em, if_pos ⟨by rw [List.length_map]; omega, join_bd h _ hs⟩]; rfl
    | succ d ih =>
      intro i hi
      have hil : i < l.length := by omega
      have hb := h.bd l[i] (List.getElem_mem hil)
      rw [i_joined_u1, i_joined_t1, decide_eq_true (show (i : Int) < l.length by omega), decide_eq_true (Int.natCast_nonneg i), rdk_get (k := kint) hil, itoa_ok hb.1 (by omega), wrapS hil (by rw [maxLen_eq]; omega), ble_dec, decide_eq_true (by rw [List.length_map, List.length_take]; omega)]
      simp only [cond_true, Option.bind_some]
      have := ih (i + 1) (by omega)
      rw [List.take_add_one, List.getElem?_eq_getElem hil, List.map_append] at this
      exact this
  exact main l.length 0 (by omega)
/-- the reference's joining, with a rest of each round -/
theorem cpText_ok {l : List Int} (h : SmallL l) : s_cpText l = some ⟨(Lib.join (l.map Lib.itoa) [43]).toArray⟩ := by
  unfold s_cpText s_cpText_t0
  have hlen := h.len
  have e43 : ({ data := #[43] } : ByteArray) = ⟨([43] : List UInt8).toArray⟩ := rfl
  have main : ∀ (d i : Nat), i + d = l.length → s_cpText_L1 l ⟨(Lib.join ((l.take i).map Lib.itoa) [43]).toArray⟩ (l.length : Int) (i : Int) = some ⟨(Lib.join (l.map Lib.itoa) [43]).toArray⟩ := by
    intro d
    induction d with
    | zero =>
      intro i hi
      have hi : i = l.length := by omega
      subst hi
      rw [s_cpText_u1, s_cpText_t1, decide_eq_false (by omega), cond_false, List.take_length]
    | succ d ih =>
      intro i hi
      have hil : i < l.length := by omega
      have hb := h.bd l[i] (List.getElem_mem hil)
      have hj := join_bd (h.take i) [43] (by simp)
      have hn := itoa_len hb.1 hb.2
      have hh := ih (i + 1) (by omega)
      rw [List.take_add_one, List.getElem?_eq_getElem hil, List.map_append] at hh
      replace hh : s_cpText_L1 l ⟨(Lib.join ((l.take i).map Lib.itoa ++ [Lib.itoa l[i]]) [43]).toArray⟩ (l.length : Int) ((i + 1 : Nat) : Int) = _ := hh
      rw [join_snoc] at hh
      rw [s_cpText_u1, s_cpText_t1, decide_eq_true (show (i : Int) < l.length by omega), decide_eq_true (Int.natCast_nonneg i), rdk_get (k := kint) hil, num_ok hb.1 (by omega), wrapS hil (by rw [maxLen_eq]; omega), e43]
      simp only [cond_true, Option.bind_some]
      by_cases h0 : i = 0
      · subst h0
        rw [decide_eq_false (show ¬ ((0 : Nat) : Int) > 0 by omega), cond_false, ble_dec, decide_eq_true, cond_true]
        · unfold itoaB
          rw [bytes_app]
          rw [if_pos (by simp)] at hh
          exact hh
        · show (Lib.join ((l.take 0).map Lib.itoa) [43]).toArray.size + (Lib.itoa l[0]).toArray.size ≤ _
          simp only [List.size_toArray, List.length_append, List.length_singleton]; omega
      · rw [decide_eq_true (show (i : Int) > 0 by omega), cond_true, bytes_app, ble_dec, decide_eq_true, cond_true, ble_dec, decide_eq_true, cond_true]
        · unfold itoaB
          rw [bytes_app]
          rw [if_neg (by intro e; have := congrArg List.length e; simp only [List.length_map, List.length_take, List.length_nil] at this; omega)] at hh
          exact hh
        · show (Lib.join ((l.take i).map Lib.itoa) [43] ++ [43]).toArray.size + (Lib.itoa l[i]).toArray.size ≤ _
          simp only [List.size_toArray, List.length_append, List.length_singleton]; omega
        · show (Lib.join ((l.take i).map Lib.itoa) [43]).toArray.size + ([43] : List UInt8).toArray.size ≤ _
          simp only [List.size_toArray, List.length_append, List.length_singleton]; omega
  exact main l.length 0 (by omega)
/-! ### rolls are small -/
theorem within_l1T (x lo hi : Int) : i_within x lo hi = s_l1In x lo hi := by unfold i_within s_l1In; simp
theorem l1In_iffT {x lo hi : Int} : s_l1In x lo hi = true ↔ lo ≤ x ∧ x ≤ hi := by
  unfold s_l1In
  by_cases h1 : lo ≤ x <;> by_cases h2 : x ≤ hi <;> simp [h1, h2]
theorem not_anyT {α : Type} (p : α → Bool) : ∀ l : List α, (!l.any fun n => !p n) = l.all p
  | [] => rfl
  | x :: l => by rw [List.any_cons, List.all_cons, ← not_anyT p l]; cases p x <;> simp
theorem areRolls_eqT (R : List Int) : i_AreRolls R = s_cpRolls R := by
  unfold i_AreRolls s_cpRolls s_l1All_n slices_ContainsFunc_int__i_AreRolls_c1 slices_IndexFunc_int__i_AreRolls_c1_n
  rw [within_l1T, idxF_any]
  have e : (fun x => i_AreRolls_c1 x) = fun n => !inB 1 2000 n := by
    funext n
    unfold i_AreRolls_c1 i_isRoll
    rw [within_l1T, s_l1In_inB2]
  rw [e, not_anyT]
theorem rolls_small {R : List Int} (h : s_cpRolls R = true) : SmallL R := by
  unfold s_cpRolls at h
  cases h1 : s_l1In (R.length : Int) 1 8
  · rw [h1] at h; cases h
  · rw [h1, cond_true] at h
    have g := l1In_iffT.1 h1
    refine ⟨by omega, fun x hx => ?_⟩
    unfold s_l1All_n at h
    have := List.all_eq_true.1 h x hx
    unfold inB at this
    simp at this
    omega
end Go.Proofs.YtlffgllmjjkfdaaDoor.V
