/- Functions of the program, as plain functions. No condition. -/
import Derived.Test.YtddiigejhjfhdaaGreatDoorM3
set_option linter.unusedVariables false
set_option linter.unusedSimpArgs false
set_option maxRecDepth 100000
namespace Go.Proofs.YtddiigejhjfhdaaGreatDoor.V
open Go Go.Ev Go.Proofs
/-! ### numbers joined -/
def itoaB (n : Int) : ByteArray := ⟨(Lib.itoa n).toArray⟩
theorem num_ok {n : Int} (h : 0 ≤ n) (h' : n ≤ 4000000000000000000) : s_l1Num_n n = some (itoaB n) := by
  unfold s_l1Num_n
  rw [decide_eq_true h, decide_eq_true h']; rfl
theorem itoa_ok {n : Int} (h : 0 ≤ n) (h' : n ≤ 4000000000000000000) : strconv_Itoa n = some (itoaB n) := by
  unfold strconv_Itoa itoaF
  rw [if_pos (by omega)]; rfl
theorem itoa_len {n : Int} (h : 0 ≤ n) (h' : n ≤ 1000000) : (Lib.itoa n).length ≤ 1000001 := by
  obtain ⟨m, rfl⟩ := Int.eq_ofNat_of_zero_le h
  rw [itoa_nat]
  have := dec_len m; omega
theorem join_snoc (sep : List UInt8) : ∀ (xs : List (List UInt8)) (y : List UInt8), Lib.join (xs ++ [y]) sep = if xs = [] then y else Lib.join xs sep ++ sep ++ y
  | [], y => by rw [if_pos rfl, List.nil_append, Lib.join_one]
  | x :: r, y => by
    rw [if_neg (by simp), List.cons_append, Lib.join_cons, Lib.join_cons]
    unfold Lib.joinTail
    simp [List.append_assoc]
theorem join_len (sep : List UInt8) (xs : List (List UInt8)) : (Lib.join xs sep).length ≤ sep.length * xs.length + Lib.lens xs := by
  cases xs with
  | nil => simp [Lib.join_nil]
  | cons x r =>
    rw [Lib.join_cons, List.length_append, Lib.joinTail_length]
    have : Lib.lens (x :: r) = x.length + Lib.lens r := by simp [Lib.lens]
    rw [this, List.length_cons, Nat.mul_succ]; omega
theorem lens_le {c : Nat} : ∀ {xs : List (List UInt8)}, (∀ x, x ∈ xs → x.length ≤ c) → Lib.lens xs ≤ c * xs.length
  | [], _ => by simp [Lib.lens]
  | x :: r, h => by
    have h1 := h x (by simp)
    have h2 := lens_le (xs := r) (fun y hy => h y (List.mem_cons_of_mem _ hy))
    have : Lib.lens (x :: r) = x.length + Lib.lens r := by simp [Lib.lens]
    rw [this, List.length_cons, Nat.mul_succ]; omega
/-- small numbers -/
structure SmallL (l : List Int) : Prop where
  len : l.length ≤ 10000
  bd : ∀ x, x ∈ l → 0 ≤ x ∧ x ≤ 1000000
theorem join_bd {l : List Int} (h : SmallL l) (sep : List UInt8) (hs : sep.length ≤ 100) : (Lib.join (l.map Lib.itoa) sep).length ≤ 140737488355328 := by
  have h1 := join_len sep (l.map Lib.itoa)
  have h2 := lens_le (c := 1000001) (xs := l.map Lib.itoa) (fun x hx => by
    obtain ⟨n, hn, rfl⟩ := List.mem_map.1 hx
    have := h.bd n hn
    exact itoa_len this.1 this.2)
  rw [List.length_map] at h1 h2
  have h3 : sep.length * l.length ≤ 100 * 10000 := Nat.mul_le_mul hs h.len
  have h4 : 1000001 * l.length ≤ 1000001 * 10000 := Nat.mul_le_mul_left _ h.len
  omega
theorem SmallL.take {l : List Int} (h : SmallL l) (i : Nat) : SmallL (l.take i) := ⟨by rw [List.length_take]; have := h.len; omega, fun x hx => h.bd x (List.mem_of_mem_take hx)⟩
/-! ### rolls joined -/
/-- the reference's joining, with a rest of each round -/
theorem cpText_ok {l : List Int} (h : SmallL l) : s_cpText l = some ⟨(Lib.join (l.map Lib.itoa) [43]).toArray⟩ := by
  unfold s_cpText s_cpText_t0
  have hlen := h.len
  have e43 : ({ data := #[43] } : ByteArray) = ⟨([43] : List UInt8).toArray⟩ := rfl
  have main : ∀ (d i : Nat), i + d = l.length → s_cpText_L1 l ⟨(Lib.join ((l.take i).map Lib.itoa) [43]).toArray⟩ (l.length : Int) (i : Int) = some ⟨(Lib.join (l.map Lib.itoa) [43]).toArray⟩ := by
    intro d
    induction d with
    | zero =>
      intro i hi
      have hi : i = l.length := by omega
      subst hi
      rw [s_cpText_u1, s_cpText_t1, decide_eq_false (by omega), cond_false, List.take_length]
    | succ d ih =>
      intro i hi
      have hil : i < l.length := by omega
      have hb := h.bd l[i] (List.getElem_mem hil)
      have hj := join_bd (h.take i) [43] (by simp)
      have hn := itoa_len hb.1 hb.2
      have hh := ih (i + 1) (by omega)
      rw [List.take_add_one, List.getElem?_eq_getElem hil, List.map_append] at hh
      replace hh : s_cpText_L1 l ⟨(Lib.join ((l.take i).map Lib.itoa ++ [Lib.itoa l[i]]) [43]).toArray⟩ (l.length : Int) ((i + 1 : Nat) : Int) = _ := hh
      rw [join_snoc] at hh
      rw [s_cpText_u1, s_cpText_t1, decide_eq_true (show (i : Int) < l.length by omega), decide_eq_true (Int.natCast_nonneg i), rdk_get (k := kint) hil, num_ok hb.1 (by omega), wrapS hil (by rw [maxLen_eq]; omega), e43]
      simp only [cond_true, Option.bind_some]
      by_cases h0 : i = 0
      · subst h0
        rw [decide_eq_false (show ¬ ((0 : Nat) : Int) > 0 by omega), cond_false, ble_dec, decide_eq_true, cond_true]
        · unfold itoaB
          rw [bytes_app]
          rw [if_pos (by simp)] at hh
          exact hh
        · show (Lib.join ((l.take 0).map Lib.itoa) [43]).toArray.size + (Lib.itoa l[0]).toArray.size ≤ _
          simp only [List.size_toArray, List.length_append, List.length_singleton]; omega
      · rw [decide_eq_true (show (i : Int) > 0 by omega), cond_true, bytes_app, ble_dec, decide_eq_true, cond_true, ble_dec, decide_eq_true, cond_true]
        · unfold itoaB
          rw [bytes_app]
          rw [if_neg (by intro e; have := congrArg List.length e; simp only [List.length_map, List.length_take, List.length_nil] at this; omega)] at hh
          exact hh
        · show (Lib.join ((l.take i).map Lib.itoa) [43] ++ [43]).toArray.size + (Lib.itoa l[i]).toArray.size ≤ _
          simp only [List.size_toArray, List.length_append, List.length_singleton]; omega
        · show (Lib.join ((l.take i).map Lib.itoa) [43]).toArray.size + ([43] : List UInt8).toArray.size ≤ _
          simp only [List.size_toArray, List.length_append, List.length_singleton]; omega
  exact main l.length 0 (by omega)
/-! ### numbers joined by the program -/
theorem joined_ok {l : List Int} (h : SmallL l) (sep : ByteArray) (hs : sep.data.toList.length ≤ 100) : i_joined l sep = some ⟨(Lib.join (l.map Lib.itoa) sep.data.toList).toArray⟩ := by
  unfold i_joined i_joined_t0
  have hlen := h.len
  have main : ∀ (d i : Nat), i + d = l.length → i_joined_L1 ((l.take i).map itoaB) l sep (l.length : Int) (i : Int) = some ⟨(Lib.join (l.map Lib.itoa) sep.data.toList).toArray⟩ := by
    intro d
    induction d with
    | zero =>
      intro i hi
      have hi : i = l.length := by omega
      subst hi
      rw [i_joined_u1, i_joined_t1, decide_eq_false (by omega), cond_false, List.take_length]
      unfold strings_Join joinF
      have em : (l.map itoaB).map (·.data.toList) = l.map Lib.itoa := by
        rw [List.map_map]; rfl
      rw [em, if_pos ⟨by rw [List.length_map]; omega, join_bd h _ hs⟩]; rfl
    | succ d ih =>
      intro i hi
      have hil : i < l.length := by omega
      have hb := h.bd l[i] (List.getElem_mem hil)
      rw [i_joined_u1, i_joined_t1, decide_eq_true (show (i : Int) < l.length by omega), decide_eq_true (Int.natCast_nonneg i), rdk_get (k := kint) hil, itoa_ok hb.1 (by omega), wrapS hil (by rw [maxLen_eq]; omega), ble_dec, decide_eq_true (by rw [List.length_map, List.length_take]; omega)]
      simp only [cond_true, Option.bind_some]
      have := ih (i + 1) (by omega)
      rw [List.take_add_one, List.getElem?_eq_getElem hil, List.map_append] at this
      exact this
  exact main l.length 0 (by omega)
/-! ### rolls are small -/
theorem within_l1T (x lo hi : Int) : i_within x lo hi = s_l1In x lo hi := by unfold i_within s_l1In; simp
theorem l1In_iffT {x lo hi : Int} : s_l1In x lo hi = true ↔ lo ≤ x ∧ x ≤ hi := by
  unfold s_l1In
  by_cases h1 : lo ≤ x <;> by_cases h2 : x ≤ hi <;> simp [h1, h2]
theorem not_anyT {α : Type} (p : α → Bool) : ∀ l : List α, (!l.any fun n => !p n) = l.all p
  | [] => rfl
  | x :: l => by rw [List.any_cons, List.all_cons, ← not_anyT p l]; cases p x <;> simp
theorem areRolls_eqT (R : List Int) : i_AreRolls R = s_cpRolls R := by
  unfold i_AreRolls s_cpRolls s_l1All_n slices_ContainsFunc_int__i_AreRolls_c1 slices_IndexFunc_int__i_AreRolls_c1_n
  rw [within_l1T, idxF_any]
  have e : (fun x => i_AreRolls_c1 x) = fun n => !inB 1 2000 n := by
    funext n
    unfold i_AreRolls_c1 i_isRoll
    rw [within_l1T, s_l1In_inB2]
  rw [e, not_anyT]
theorem rolls_small {R : List Int} (h : s_cpRolls R = true) : SmallL R := by
  unfold s_cpRolls at h
  cases h1 : s_l1In (R.length : Int) 1 8
  · rw [h1] at h; cases h
  · rw [h1, cond_true] at h
    have g := l1In_iffT.1 h1
    refine ⟨by omega, fun x hx => ?_⟩
    unfold s_l1All_n at h
    have := List.all_eq_true.1 h x hx
    unfold inB at this
    simp at this
    omega
/-! ### numerals -/
theorem decFrom_snoc : ∀ (l : List UInt8) (acc : Nat) (b : UInt8), Lib.decFrom acc (l ++ [b]) = (Lib.decFrom acc l).bind fun m => (Lib.digitVal b).map fun d => m * 10 + d
  | [], acc, b => by
    simp only [List.nil_append, Lib.decFrom, Option.bind_some]
    cases Lib.digitVal b <;> rfl
  | c :: l, acc, b => by
    simp only [List.cons_append, Lib.decFrom]
    cases Lib.digitVal c
    · rfl
    · exact decFrom_snoc l _ b
theorem digit_of {m : Nat} (h : m < 10) : Lib.digitVal (UInt8.ofNat (48 + m)) = some m := by
  unfold Lib.digitVal
  have e : (UInt8.ofNat (48 + m)).toNat = 48 + m := by
    rw [UInt8.toNat_ofNat']; omega
  rw [e, if_pos (by omega)]
  congr 1; omega
theorem digit_inv {b : UInt8} {d : Nat} (h : Lib.digitVal b = some d) : b = UInt8.ofNat (48 + d) ∧ d < 10 := by
  unfold Lib.digitVal at h
  split at h
  · rename_i hb
    cases h
    have e : 48 + (b.toNat - 48) = b.toNat := by omega
    rw [e]
    exact ⟨by simp, by omega⟩
  · cases h
/-- a numeral spells its number -/
theorem dec_spell : ∀ u : Nat, Lib.decFrom 0 (Lib.decDigits u) = some u := by
  intro u
  induction u using Nat.strongRecOn with
  | ind u ih =>
    rw [Lib.decDigits]
    by_cases h : u < 10
    · rw [dif_pos h]
      simp only [Lib.decFrom, digit_of h]
      congr 1; omega
    · rw [dif_neg h, decFrom_snoc, ih (u / 10) (by omega), Option.bind_some, digit_of (Nat.mod_lt u (by omega))]
      simp only [Option.map_some]
      congr 1; omega
theorem dec_ne (u : Nat) : Lib.decDigits u ≠ [] := by
  rw [Lib.decDigits]
  by_cases h : u < 10
  · rw [dif_pos h]; simp
  · rw [dif_neg h]; simp
theorem dec_head : ∀ u : Nat, 0 < u → (Lib.decDigits u).head? ≠ some 48 := by
  intro u
  induction u using Nat.strongRecOn with
  | ind u ih =>
    intro h0
    rw [Lib.decDigits]
    by_cases h : u < 10
    · rw [dif_pos h]
      simp only [List.head?_cons]
      intro e
      have e := Option.some.inj e
      have := congrArg UInt8.toNat e
      rw [UInt8.toNat_ofNat'] at this
      have e48 : (48 : UInt8).toNat = 48 := rfl
      omega
    · rw [dif_neg h, List.head?_append]
      have := ih (u / 10) (by omega) (by omega)
      cases hd : (Lib.decDigits (u / 10)).head? with
      | none => exact absurd (List.head?_eq_none_iff.1 hd) (dec_ne _)
      | some x => rw [hd] at this; simpa using this
theorem dec_len6 (k : Nat) : ∀ u : Nat, u < 10 ^ (k + 1) → (Lib.decDigits u).length ≤ k + 1 := by
  induction k with
  | zero =>
    intro u h
    rw [Lib.decDigits, dif_pos (by simpa using h)]; simp
  | succ k ih =>
    intro u h
    rw [Lib.decDigits]
    by_cases h1 : u < 10
    · rw [dif_pos h1]; simp
    · rw [dif_neg h1, List.length_append, List.length_singleton]
      have := ih (u / 10) (by rw [Nat.pow_succ] at h; omega)
      omega
/-- digits without a zero ahead are their number's numeral -/
theorem dec_of : ∀ (l : List UInt8) (n : Nat), l ≠ [] → (l.head? = some 48 → l.length = 1) → Lib.decFrom 0 l = some n → Lib.decDigits n = l := by
  intro l
  induction hk : l.length using Nat.strongRecOn generalizing l with
  | ind k ih =>
    intro n hne hz hd
    obtain ⟨b, l', rfl⟩ : ∃ b l', l = l' ++ [b] := ⟨l.getLast hne, l.dropLast, (List.dropLast_concat_getLast hne).symm⟩
    rw [decFrom_snoc] at hd
    cases hm : Lib.decFrom 0 l' with
    | none => rw [hm] at hd; cases hd
    | some m =>
      rw [hm, Option.bind_some] at hd
      cases hb : Lib.digitVal b with
      | none => rw [hb] at hd; cases hd
      | some d =>
        rw [hb, Option.map_some] at hd
        have hd := Option.some.inj hd
        obtain ⟨rfl, hd9⟩ := digit_inv hb
        by_cases h0 : l' = []
        · subst h0
          have hm : some 0 = some m := hm
          have hm := Option.some.inj hm
          have : n = d := by omega
          subst this
          rw [Lib.decDigits, dif_pos hd9]; rfl
        · have hz' : l'.head? ≠ some 48 := fun e => by
            have h1 := hz (by rw [List.head?_append, e]; rfl)
            have h2 : l'.length + 1 = k := by rw [← hk]; simp
            have h3 : l'.length ≠ 0 := fun e => h0 (List.eq_nil_of_length_eq_zero e)
            omega
          have e := ih l'.length (by rw [← hk]; simp) l' rfl m h0 (fun e => absurd e hz') hm
          have hm0 : 0 < m := by
            rcases Nat.eq_zero_or_pos m with q | q
            · subst q
              rw [← e] at hz'
              exact absurd (by rw [Lib.decDigits, dif_pos (by omega)]; rfl) hz'
            · exact q
          have e1 : n / 10 = m := by omega
          have e2 : n % 10 = d := by omega
          rw [Lib.decDigits, dif_neg (by omega), e1, e2, e]
theorem decFrom_lt : ∀ (l : List UInt8) (acc n : Nat), Lib.decFrom acc l = some n → n < (acc + 1) * 10 ^ l.length
  | [], acc, n, h => by simp only [Lib.decFrom] at h; have := Option.some.inj h; simp; omega
  | b :: l, acc, n, h => by
    simp only [Lib.decFrom] at h
    cases hb : Lib.digitVal b with
    | none => rw [hb] at h; cases h
    | some d =>
      rw [hb] at h
      have h9 := (digit_inv hb).2
      have := decFrom_lt l _ n h
      have h2 : (acc * 10 + d + 1) * 10 ^ l.length ≤ ((acc + 1) * 10) * 10 ^ l.length := Nat.mul_le_mul_right _ (by omega)
      rw [List.length_cons, Nat.pow_succ, Nat.mul_comm (10 ^ l.length) 10, ← Nat.mul_assoc]
      omega
/-- what the reference reads -/
def rdL (l : List UInt8) : Int :=
  if 1 ≤ l.length ∧ l.length ≤ 6 ∧ (l.head? = some 48 → l.length = 1) then (match Lib.decFrom 0 l with | some n => (n : Int) | none => -1) else -1
theorem rdL_of {l : List UInt8} {v : Nat} (hv : v ≤ 999999) (h : Lib.decDigits v = l) : rdL l = v := by
  subst h
  unfold rdL
  have h1 := dec_len6 5 v (by omega)
  have h2 : 1 ≤ (Lib.decDigits v).length := Nat.pos_of_ne_zero (fun e => dec_ne v (List.eq_nil_of_length_eq_zero e))
  have h3 : (Lib.decDigits v).head? = some 48 → (Lib.decDigits v).length = 1 := fun e => by
    rcases Nat.eq_zero_or_pos v with q | q
    · subst q; rw [Lib.decDigits, dif_pos (by omega)]; rfl
    · exact absurd e (dec_head v q)
  rw [if_pos ⟨h2, h1, h3⟩, dec_spell]
theorem rdL_inv {l : List UInt8} (h : rdL l ≠ -1) : ∃ v : Nat, v ≤ 999999 ∧ Lib.decDigits v = l ∧ rdL l = v := by
  unfold rdL at h ⊢
  split at h
  · rename_i hc
    rw [if_pos hc]
    cases hd : Lib.decFrom 0 l with
    | none => rw [hd] at h; exact absurd rfl h
    | some n =>
      have hlt := decFrom_lt l 0 n hd
      have hp : 10 ^ l.length ≤ 10 ^ 6 := Nat.pow_le_pow_right (by omega) hc.2.1
      refine ⟨n, by omega, dec_of l n (fun e => by rw [e] at hc; simp at hc) hc.2.2 hd, rfl⟩
  · exact absurd rfl h
/-- what the program reads -/
def numL (l : List UInt8) : Int := match Lib.atoiAll l with | .ok v => if 0 ≤ v ∧ v ≤ 999999 ∧ Lib.itoa v = l then v else -1 | _ => -1
theorem atoi_dec {v : Nat} (hv : v ≤ 999999) : Lib.atoiAll (Lib.decDigits v) = .ok (v : Int) := by
  have h1 := dec_len6 5 v (by omega)
  rw [Lib.atoiAll_short _ (by omega)]
  have hs := dec_spell v
  have hne := dec_ne v
  cases hl : Lib.decDigits v with
  | nil => exact absurd hl hne
  | cons b r =>
    rw [hl] at hs
    have hb : ∃ d, Lib.digitVal b = some d := by
      simp only [Lib.decFrom] at hs
      cases hd : Lib.digitVal b with
      | none => rw [hd] at hs; cases hs
      | some d => exact ⟨d, rfl⟩
    obtain ⟨d, hd⟩ := hb
    obtain ⟨rfl, h9⟩ := digit_inv hd
    have e : (UInt8.ofNat (48 + d)).toNat = 48 + d := by rw [UInt8.toNat_ofNat']; omega
    have n1 : (UInt8.ofNat (48 + d) == 45) = false := by
      rw [beq_eq_false_iff_ne]; intro k; have := congrArg UInt8.toNat k; rw [e] at this; have e45 : (45 : UInt8).toNat = 45 := rfl; omega
    have n2 : (UInt8.ofNat (48 + d) == 43) = false := by
      rw [beq_eq_false_iff_ne]; intro k; have := congrArg UInt8.toNat k; rw [e] at this; have e43 : (43 : UInt8).toNat = 43 := rfl; omega
    unfold Lib.atoi
    simp only [n1, n2, Bool.false_eq_true, if_false]
    unfold Lib.decNat
    simp only [List.isEmpty_cons, Bool.false_eq_true, if_false]
    rw [hs]; rfl
theorem numL_eq (l : List UInt8) : numL l = rdL l := by
  by_cases h : rdL l = -1
  · rw [h]
    unfold numL
    cases ha : Lib.atoiAll l with
    | ok v =>
      simp only
      by_cases hc : 0 ≤ v ∧ v ≤ 999999 ∧ Lib.itoa v = l
      · obtain ⟨n, rfl⟩ := Int.eq_ofNat_of_zero_le hc.1
        have := rdL_of (l := l) (v := n) (by omega) (by rw [← hc.2.2, itoa_nat])
        omega
      · rw [if_neg hc]
    | _ => rfl
  · obtain ⟨v, h1, h2, h3⟩ := rdL_inv h
    rw [h3]
    unfold numL
    rw [← h2, atoi_dec h1]
    simp only
    rw [if_pos ⟨by omega, by omega, itoa_nat v⟩]
/-! ### numbers read -/
abbrev bL (s : ByteArray) : List UInt8 := s.data.toList
theorem bL_len (s : ByteArray) : (bL s).length = s.size := by
  show s.data.toList.length = s.data.size
  rw [Array.length_toList]
theorem bt_get {s : ByteArray} {i : Nat} (h : i < (bL s).length) : bt s (i : Int) = ((bL s)[i].toNat : Int) := by
  unfold bt
  rw [Int.toNat_natCast, List.getD_eq_getElem?_getD, List.getElem?_eq_getElem h]; rfl
theorem bL_inj {a b : ByteArray} (h : bL a = bL b) : a = b := by
  obtain ⟨⟨x⟩⟩ := a
  obtain ⟨⟨y⟩⟩ := b
  have h : x = y := h
  rw [h]
def ofDec : Option Nat → Int | some n => (n : Int) | none => -1
theorem read_loop (s : ByteArray) (hs : s.size ≤ 6) : ∀ (d i n : Nat), i + d = (bL s).length → n < 10 ^ i → s_l1Read_L1 s (n : Int) (i : Int) = some (ofDec (Lib.decFrom n ((bL s).drop i)))
  | 0, i, n, h, hn => by
    have hl := bL_len s
    rw [s_l1Read_u1, s_l1Read_t1, decide_eq_false (by omega), cond_false, List.drop_of_length_le (by omega)]; rfl
  | d + 1, i, n, h, hn => by
    have hl := bL_len s
    have hi : i < (bL s).length := by omega
    have hp : 10 ^ i ≤ 10 ^ 6 := Nat.pow_le_pow_right (by omega) (by omega)
    rw [s_l1Read_u1, s_l1Read_t1, decide_eq_true (show (i : Int) < (s.size : Int) by omega), decide_eq_true (Int.natCast_nonneg i), bt_get hi, List.drop_eq_getElem_cons hi]
    simp only [cond_true, Lib.decFrom]
    unfold Lib.digitVal
    by_cases h1 : ((bL s)[i].toNat : Int) < 48
    · rw [decide_eq_true h1, if_neg (by omega)]; rfl
    · by_cases h2 : ((bL s)[i].toNat : Int) > 57
      · rw [decide_eq_false h1, decide_eq_true h2, if_neg (by omega)]; rfl
      · rw [decide_eq_false h1, decide_eq_false h2, if_pos (by omega)]
        simp only [cond_false]
        rw [wrapU8 (n := ((bL s)[i].toNat : Int) - 48) (by omega) (by omega), wrapI (n := ((bL s)[i].toNat : Int) - 48) (by omega) (by omega), wrapI (n := 10 * (n : Int)) (by omega) (by omega), wrapI (n := 10 * (n : Int) + _) (by omega) (by omega), wrapI (n := (i : Int) + 1) (by omega) (by omega)]
        have e1 : 10 * (n : Int) + (((bL s)[i].toNat : Int) - 48) = ((n * 10 + ((bL s)[i].toNat - 48) : Nat) : Int) := by omega
        rw [e1, show (i : Int) + 1 = ((i + 1 : Nat) : Int) by omega]
        exact read_loop s hs d (i + 1) _ (by omega) (by rw [Nat.pow_succ]; omega)
theorem read_ok (s : ByteArray) : s_l1Read s = some (rdL (bL s)) := by
  have hl := bL_len s
  unfold s_l1Read s_l1Read_t0 rdL
  by_cases h : 1 ≤ s.size ∧ s.size ≤ 6
  · have h1 : s_l1In (s.size : Int) 1 6 = true := by
      unfold s_l1In
      rw [decide_eq_true (by omega), decide_eq_true (by omega)]; rfl
    have h0 : 0 < (bL s).length := by omega
    have hh : (bL s).head? = some (bL s)[0] := by rw [List.head?_eq_getElem?, List.getElem?_eq_getElem h0]
    have hb : bt s 0 = ((bL s)[0].toNat : Int) := bt_get (i := 0) h0
    have lp := read_loop s h.2 (bL s).length 0 0 (by omega) (by simp)
    have lp : s_l1Read_L1 s 0 0 = some (ofDec (Lib.decFrom 0 (bL s))) := lp
    rw [h1, decide_eq_true (show (0 : Int) < (s.size : Int) by omega), hb, hh, lp]
    simp only [Bool.not_true, cond_false, cond_true]
    by_cases hz : (bL s)[0] = 48
    · rw [hz]
      have e48 : (((48 : UInt8).toNat : Int) == 48) = true := rfl
      rw [e48, cond_true]
      by_cases h2 : s.size = 1
      · rw [decide_eq_false (show ¬ (s.size : Int) > 1 by omega), cond_false, if_pos ⟨by omega, by omega, fun _ => by omega⟩]
        unfold ofDec; rfl
      · rw [decide_eq_true (show (s.size : Int) > 1 by omega), cond_true, if_neg]
        intro hc
        have := hc.2.2 rfl
        omega
    · have e48 : (((bL s)[0].toNat : Int) == 48) = false := by
        rw [beq_eq_false_iff_ne]
        intro e
        apply hz
        apply UInt8.toNat_inj.1
        have : (48 : UInt8).toNat = 48 := rfl
        omega
      rw [e48, cond_false, if_pos ⟨by omega, by omega, fun e => absurd (Option.some.inj e) hz⟩]
      unfold ofDec; rfl
  · have h1 : s_l1In (s.size : Int) 1 6 = false := by
      unfold s_l1In
      by_cases h2 : (s.size : Int) ≥ 1
      · rw [decide_eq_true h2, cond_true, decide_eq_false (by omega)]
      · rw [decide_eq_false h2]; rfl
    rw [h1, if_neg (by omega)]; rfl
theorem num_eq {s : ByteArray} (hs : s.size ≤ 281474976710656) : i_num s = some (numL (bL s)) := by
  unfold i_num strconv_Atoi atoiF
  rw [if_pos hs, Option.bind_some]
  unfold atoiV numL
  cases ha : Lib.atoiAll (bL s) with
  | ok v =>
    simp only [Bool.not_true, cond_false]
    by_cases h1 : v < 0
    · rw [decide_eq_true h1, cond_true, if_neg (by omega)]
    · by_cases h2 : v > 999999
      · rw [decide_eq_false h1, decide_eq_true h2, cond_false, cond_true, if_neg (by omega)]
      · rw [decide_eq_false h1, decide_eq_false h2, cond_false, cond_false]
        unfold strconv_Itoa itoaF
        rw [if_pos (by omega), Option.bind_some]
        have e1 : ByteArray.toList (⟨(Lib.itoa v).toArray⟩ : ByteArray) = Lib.itoa v := by rw [ByteArray.toList_eq]
        have e2 : ByteArray.toList s = bL s := ByteArray.toList_eq s
        rw [e1, e2]
        by_cases h3 : Lib.itoa v = bL s
        · rw [if_pos ⟨by omega, by omega, h3⟩, h3, beq_self_eq_true]; rfl
        · rw [if_neg (fun c => h3 c.2.2), show (Lib.itoa v == bL s) = false from beq_eq_false_iff_ne.2 h3]; rfl
  | _ => rfl
/-! ### texts split -/
def spl (c : UInt8) : List UInt8 → List (List UInt8)
  | [] => [[]]
  | b :: r => if b = c then [] :: spl c r else match spl c r with | h :: t => (b :: h) :: t | [] => [[b]]
theorem spl_ne (c : UInt8) : ∀ l : List UInt8, spl c l ≠ []
  | [] => by simp [spl]
  | b :: r => by
    unfold spl
    split
    · simp
    · split <;> simp
theorem spl_join (c : UInt8) : ∀ l : List UInt8, Lib.join (spl c l) [c] = l
  | [] => rfl
  | b :: r => by
    have ih := spl_join c r
    unfold spl
    by_cases h : b = c
    · rw [if_pos h, h]
      cases hs : spl c r with
      | nil => exact absurd hs (spl_ne c r)
      | cons x t =>
        rw [hs, Lib.join_cons] at ih
        rw [Lib.join_cons]
        simp [Lib.joinTail] at ih ⊢
        exact ih
    · rw [if_neg h]
      cases hs : spl c r with
      | nil => exact absurd hs (spl_ne c r)
      | cons x t =>
        rw [hs, Lib.join_cons] at ih
        simp only
        rw [Lib.join_cons, List.cons_append, ih]
/-- a piece without the byte, then the byte -/
theorem spl_piece (c : UInt8) : ∀ (p r : List UInt8), c ∉ p → spl c (p ++ c :: r) = p :: spl c r
  | [], r, _ => by simp [spl]
  | b :: p, r, h => by
    have hb : ¬ b = c := fun e => h (by rw [e]; exact List.mem_cons_self)
    have ih := spl_piece c p r (fun m => h (List.mem_cons_of_mem _ m))
    rw [List.cons_append]
    conv => lhs; unfold spl
    rw [if_neg hb, ih]
theorem spl_last (c : UInt8) : ∀ p : List UInt8, c ∉ p → spl c p = [p]
  | [], _ => rfl
  | b :: p, h => by
    have hb : ¬ b = c := fun e => h (by rw [e]; exact List.mem_cons_self)
    have ih := spl_last c p (fun m => h (List.mem_cons_of_mem _ m))
    unfold spl
    rw [if_neg hb, ih]
theorem split_spl (c : UInt8) : ∀ l : List UInt8, Lib.splitK [c] 0 (Lib.count l [c]) l = spl c l
  | [] => by
    have h : Lib.count [] [c] = 0 := by rw [Lib.count_one]; rfl
    rw [h]; rfl
  | b :: r => by
    have ih := split_spl c r
    by_cases h : b = c
    · subst h
      have hix : Lib.index (b :: r) [b] = 0 := by rw [Lib.index]; simp [List.isPrefixOf]
      rw [Lib.count_cons_eq, Nat.add_comm, Lib.splitK, hix]
      unfold spl
      rw [if_pos rfl, ← ih]
      simp
    · rw [Lib.count_cons_ne b c r h]
      unfold spl
      rw [if_neg h, ← ih]
      have hp : ([c] : List UInt8).isPrefixOf (b :: r) = false := by simp [List.isPrefixOf, Ne.symm h]
      have hix : Lib.index (b :: r) [c] = if Lib.index r [c] == -1 then -1 else Lib.index r [c] + 1 := by rw [Lib.index, hp]; simp
      cases hk : Lib.count r [c] with
      | zero => rfl
      | succ k =>
        by_cases hm : Lib.index r [c] = -1
        · have := Lib.count_miss hm
          omega
        · have hge := Lib.index_ge r [c]
          obtain ⟨j, hj⟩ : ∃ j : Nat, Lib.index r [c] = j := ⟨(Lib.index r [c]).toNat, by omega⟩
          have hne : (Lib.index r [c] == -1) = false := beq_eq_false_iff_ne.2 hm
          have hne2 : (((j : Int) + 1) == -1) = false := beq_eq_false_iff_ne.2 (by omega)
          have hne3 : ((j : Int) == -1) = false := beq_eq_false_iff_ne.2 (by omega)
          rw [Lib.splitK, Lib.splitK, hix, hne]
          simp only [Bool.false_eq_true, if_false, hj, hne2, hne3]
          have e1 : ((j : Int) + 1).toNat = j + 1 := by omega
          rw [e1, Int.toNat_natCast]
          simp [Nat.add_comm]
          rw [Nat.add_comm 1 (j + 1)]
          rfl
theorem split_ok {s : ByteArray} (hs : s.size < 4294967281) (c : UInt8) : ∃ ps : List ByteArray, strings_Split s ⟨#[c]⟩ = some ps ∧ ps.map bL = spl c (bL s) := by
  unfold strings_Split splitF
  have h1 : (⟨#[c]⟩ : ByteArray).size = 1 := rfl
  rw [if_pos ⟨hs, by omega⟩]
  exact ⟨_, rfl, (Lib.splitB_data _ _ _ _).trans (split_spl c (bL s))⟩
theorem bt_eq {s : ByteArray} {i : Nat} (h : i < (bL s).length) (c : UInt8) : (bt s (i : Int) == ((c.toNat : Nat) : Int)) = decide ((bL s)[i] = c) := by
  rw [bt_get h]
  by_cases e : (bL s)[i] = c
  · rw [e, decide_eq_true rfl, beq_self_eq_true]
  · rw [decide_eq_false e, beq_eq_false_iff_ne]
    intro k
    exact e (UInt8.toNat_inj.1 (by omega))
theorem ext_bL (s : ByteArray) (a b : Nat) : bL (s.extract a b) = ((bL s).drop a).take (b - a) := Lib.extract_data s a b
/-- the reference's splitting -/
theorem l1Split_loop (s : ByteArray) (hs : s.size ≤ 2000000) (c : UInt8) : ∀ (d i f : Nat) (r : List ByteArray), i + d = (bL s).length → f ≤ i → c ∉ ((bL s).drop f).take (i - f) → r.length ≤ i →
    ∃ ps : List ByteArray, s_l1Split_L1 r s ((c.toNat : Nat) : Int) (f : Int) (i : Int) = some (r ++ ps) ∧ ps.map bL = spl c ((bL s).drop f)
  | 0, i, f, r, h, hf, hc, hr => by
    have hl := bL_len s
    refine ⟨[s.extract f s.size], ?_, ?_⟩
    · rw [s_l1Split_u1, s_l1Split_t1, decide_eq_false (by omega), cond_false, decide_eq_true (Int.natCast_nonneg f), decide_eq_true (show (f : Int) ≤ (s.size : Int) by omega), ble_dec, decide_eq_true (by omega), Int.toNat_natCast, Int.toNat_natCast]
      rfl
    · have e : ((bL s).drop f).take (i - f) = (bL s).drop f := List.take_of_length_le (by rw [List.length_drop]; omega)
      rw [e] at hc
      rw [spl_last c _ hc, List.map_cons, List.map_nil, ext_bL]
      congr 1
      exact List.take_of_length_le (by rw [List.length_drop]; omega)
  | d + 1, i, f, r, h, hf, hc, hr => by
    have hl := bL_len s
    have hi : i < (bL s).length := by omega
    have hsplit : (bL s).drop f = ((bL s).drop f).take (i - f) ++ (bL s)[i] :: (bL s).drop (i + 1) := by
      have e := List.take_append_drop (i - f) ((bL s).drop f)
      rw [List.drop_drop, show f + (i - f) = i by omega, List.drop_eq_getElem_cons hi] at e
      exact e.symm
    rw [s_l1Split_u1, s_l1Split_t1, decide_eq_true (show (i : Int) < (s.size : Int) by omega), decide_eq_true (Int.natCast_nonneg i), bt_eq hi, decide_eq_true (show (i : Int) ≤ (s.size : Int) by omega), decide_eq_true (Int.natCast_nonneg f), decide_eq_true (show (f : Int) ≤ (i : Int) by omega), ble_dec, decide_eq_true (show r.length + 1 ≤ 4294967296 by omega), wrapI (n := (i : Int) + 1) (by omega) (by omega), Int.toNat_natCast, Int.toNat_natCast, show (i : Int) + 1 = ((i + 1 : Nat) : Int) by omega]
    simp only [cond_true]
    by_cases e : (bL s)[i] = c
    · rw [decide_eq_true e, cond_true]
      obtain ⟨ps, h1, h2⟩ := l1Split_loop s hs c d (i + 1) (i + 1) (r ++ [s.extract f i]) (by omega) (Nat.le_refl _) (by simp) (by simp; omega)
      refine ⟨s.extract f i :: ps, ?_, ?_⟩
      · rw [h1, List.append_assoc]; rfl
      · rw [List.map_cons, h2, ext_bL, hsplit, e, spl_piece c _ _ hc]
        congr 1
        rw [← e, ← hsplit]
    · rw [decide_eq_false e, cond_false]
      refine l1Split_loop s hs c d (i + 1) f r (by omega) (by omega) ?_ (by omega)
      rw [hsplit, show i + 1 - f = (i - f) + 1 by omega]
      intro m
      rw [List.take_append, List.mem_append] at m
      rcases m with m | m
      · exact hc (List.mem_of_mem_take m)
      · have hlen : (((bL s).drop f).take (i - f)).length = i - f := by rw [List.length_take, List.length_drop]; omega
        rw [hlen, show i - f + 1 - (i - f) = 1 by omega] at m
        simp at m
        exact e m.symm
theorem l1Split_ok {s : ByteArray} (hs : s.size ≤ 2000000) (c : UInt8) : ∃ ps : List ByteArray, s_l1Split s ((c.toNat : Nat) : Int) = some ps ∧ ps.map bL = spl c (bL s) := by
  unfold s_l1Split s_l1Split_t0
  obtain ⟨ps, h1, h2⟩ := l1Split_loop s hs c (bL s).length 0 0 [] (by omega) (Nat.le_refl _) (by simp) (Nat.le_refl _)
  exact ⟨ps, h1, h2⟩
/-! ### numbers between -/
theorem spl_len (c : UInt8) : ∀ (l : List UInt8), (∀ x, x ∈ spl c l → x.length ≤ l.length) ∧ (spl c l).length ≤ l.length + 1
  | [] => by simp [spl]
  | b :: r => by
    obtain ⟨h1, h2⟩ := spl_len c r
    unfold spl
    by_cases h : b = c
    · rw [if_pos h]
      refine ⟨fun x hx => ?_, by simp only [List.length_cons]; omega⟩
      rcases List.mem_cons.1 hx with e | e
      · subst e; simp
      · have := h1 x e; simp only [List.length_cons]; omega
    · rw [if_neg h]
      cases hs : spl c r with
      | nil => exact absurd hs (spl_ne c r)
      | cons y t =>
        rw [hs] at h1 h2
        simp only
        refine ⟨fun x hx => ?_, by simp only [List.length_cons] at h2 ⊢; omega⟩
        rcases List.mem_cons.1 hx with e | e
        · subst e; have := h1 y (by simp); simp only [List.length_cons]; omega
        · have := h1 x (List.mem_cons_of_mem _ e); simp only [List.length_cons]; omega
theorem pieces_bd {s : ByteArray} {c : UInt8} {ps : List ByteArray} (h : ps.map bL = spl c (bL s)) : (∀ p, p ∈ ps → p.size ≤ s.size) ∧ ps.length ≤ s.size + 1 := by
  obtain ⟨h1, h2⟩ := spl_len c (bL s)
  have e : ps.length = (spl c (bL s)).length := by rw [← h, List.length_map]
  rw [bL_len] at h1 h2
  refine ⟨fun p hp => ?_, by omega⟩
  have := h1 (bL p) (by rw [← h]; exact List.mem_map_of_mem hp)
  rw [bL_len] at this; exact this
abbrev rd (p : ByteArray) : Int := rdL (bL p)
abbrev okP (p : ByteArray) : Bool := decide (0 ≤ rd p)
theorem rdL_bd (l : List UInt8) : -1 ≤ rdL l ∧ rdL l ≤ 999999 := by
  by_cases h : rdL l = -1
  · omega
  · obtain ⟨v, h1, _, h3⟩ := rdL_inv h; omega
theorem rd_text {p : ByteArray} (h : 0 ≤ rd p) : Lib.itoa (rd p) = bL p := by
  obtain ⟨v, h1, h2, h3⟩ := rdL_inv (l := bL p) (by unfold rd at h; omega)
  unfold rd
  rw [h3, itoa_nat, h2]
theorem nums_ok {s : ByteArray} (hs : s.size ≤ 2000000) (c : UInt8) : ∃ ps : List ByteArray, ps.map bL = spl c (bL s) ∧ i_nums s ⟨#[c]⟩ = some (bif ps.all okP then (ps.map rd, true) else ([], false)) := by
  obtain ⟨ps, h1, h2⟩ := split_ok (s := s) (by omega) c
  obtain ⟨b1, b2⟩ := pieces_bd h2
  refine ⟨ps, h2, ?_⟩
  unfold i_nums i_nums_t0
  rw [h1, Option.bind_some]
  have main : ∀ (d i : Nat), i + d = ps.length → i_nums_L1 ((ps.take i).map rd) ps (ps.length : Int) (i : Int) = some (bif (ps.drop i).all okP then (ps.map rd, true) else ([], false)) := by
    intro d
    induction d with
    | zero =>
      intro i hi
      have hi : i = ps.length := by omega
      subst hi
      rw [i_nums_u1, i_nums_t1, decide_eq_false (by omega), cond_false, List.take_length, List.drop_length]; rfl
    | succ d ih =>
      intro i hi
      have hil : i < ps.length := by omega
      have hb := b1 ps[i] (List.getElem_mem hil)
      have hh := ih (i + 1) (by omega)
      rw [List.take_add_one, List.getElem?_eq_getElem hil, List.map_append] at hh
      rw [i_nums_u1, i_nums_t1, decide_eq_true (show (i : Int) < ps.length by omega), decide_eq_true (Int.natCast_nonneg i), rdk_get (k := kstring) hil, num_eq (by omega), numL_eq, wrapS hil (by rw [maxLen_eq]; omega), ble_dec, decide_eq_true (by rw [List.length_map, List.length_take]; omega), List.drop_eq_getElem_cons hil, List.all_cons]
      simp only [cond_true, Option.bind_some]
      by_cases hn : rd ps[i] < 0
      · rw [decide_eq_true hn, show okP ps[i] = false from decide_eq_false (by omega)]; rfl
      · rw [decide_eq_false hn, show okP ps[i] = true from decide_eq_true (by omega)]
        exact hh
  exact main ps.length 0 (by omega)
/-! ### rolls read back -/
theorem rolls_bd {R : List Int} (h : s_cpRolls R = true) : R.length ≤ 8 ∧ ∀ x, x ∈ R → 1 ≤ x ∧ x ≤ 2000 := by
  unfold s_cpRolls at h
  cases h1 : s_l1In (R.length : Int) 1 8
  · rw [h1] at h; cases h
  · rw [h1, cond_true] at h
    have g := l1In_iffT.1 h1
    refine ⟨by omega, fun x hx => ?_⟩
    unfold s_l1All_n at h
    have := List.all_eq_true.1 h x hx
    unfold inB at this
    simp at this
    omega
theorem text_back {ps : List ByteArray} {c : UInt8} {l : List UInt8} (h : ps.map bL = spl c l) (ho : ∀ p, p ∈ ps → 0 ≤ rd p) : Lib.join ((ps.map rd).map Lib.itoa) [c] = l := by
  have e : (ps.map rd).map Lib.itoa = ps.map bL := by
    rw [List.map_map]
    exact List.map_congr_left fun p hp => rd_text (ho p hp)
  rw [e, h, spl_join]
theorem itoa4 {n : Int} (h0 : 0 ≤ n) (h1 : n ≤ 9999) : (Lib.itoa n).length ≤ 4 := by
  obtain ⟨m, rfl⟩ := Int.eq_ofNat_of_zero_le h0
  rw [itoa_nat]
  exact dec_len6 3 m (by omega)
theorem ParseRolls_both {s : ByteArray} (hs : s.size ≤ 2000000) : ∃ l f, i_ParseRolls s = some (l, f) ∧ s_ParseRolls s = some (l, f) ∧ l.length ≤ 100 := by
  obtain ⟨ps, h1, h2⟩ := nums_ok hs 43
  have e43 : (⟨#[43]⟩ : ByteArray) = { data := #[43] } := rfl
  rw [e43] at h2
  -- what the program finds
  have hi : i_ParseRolls s = some (bif ps.all okP && s_cpRolls (ps.map rd) then (ps.map rd, true) else ([], false)) := by
    unfold i_ParseRolls
    rw [h2, Option.bind_some]
    cases ps.all okP
    · rfl
    · simp only [cond_true, Bool.not_true, cond_false, Bool.true_and]
      rw [areRolls_eqT]
      cases s_cpRolls (ps.map rd) <;> rfl
  have good : s_cpRolls (ps.map rd) = true → (∀ p, p ∈ ps → 0 ≤ rd p) ∧ (Lib.join ((ps.map rd).map Lib.itoa) [43] = bL s) ∧ s.size ≤ 40 ∧ (ps.map rd).length ≤ 8 := fun hc => by
    obtain ⟨g1, g2⟩ := rolls_bd hc
    have ho : ∀ p, p ∈ ps → 0 ≤ rd p := fun p hp => by
      have := g2 (rd p) (List.mem_map_of_mem hp); omega
    have hj := text_back h1 ho
    have l1 := join_len [43] ((ps.map rd).map Lib.itoa)
    have l2 := lens_le (c := 4) (xs := (ps.map rd).map Lib.itoa) (fun x hx => by
      obtain ⟨n, hn, rfl⟩ := List.mem_map.1 hx
      have := g2 n hn
      exact itoa4 (by omega) (by omega))
    rw [hj, bL_len] at l1
    rw [List.length_map] at l1 l2
    have l3 : ([43] : List UInt8).length * (ps.map rd).length ≤ 1 * 8 := Nat.mul_le_mul (by simp) g1
    have l4 : 4 * (ps.map rd).length ≤ 4 * 8 := Nat.mul_le_mul_left _ g1
    exact ⟨ho, hj, by omega, g1⟩
  have hspec : s_ParseRolls s = some (bif s_cpRolls (ps.map rd) then (ps.map rd, true) else ([], false)) := by
    unfold s_ParseRolls s_ParseRolls_t0
    by_cases hz : s.size > 40
    · rw [decide_eq_true (show (s.size : Int) > 40 by omega), cond_true]
      cases hc : s_cpRolls (ps.map rd)
      · rfl
      · have := (good hc).2.2.1; omega
    · rw [decide_eq_false (show ¬ (s.size : Int) > 40 by omega), cond_false]
      obtain ⟨qs, q1, q2⟩ := l1Split_ok (s := s) (by omega) 43
      have e : ((43 : UInt8).toNat : Int) = 43 := rfl
      rw [e] at q1
      obtain ⟨b1, b2⟩ := pieces_bd q2
      have hqp : qs = ps := by
        have : qs.map bL = ps.map bL := by rw [q2, h1]
        exact (List.map_inj_right (f := bL) (fun a b h => bL_inj h)).1 this
      subst hqp
      rw [q1, Option.bind_some]
      have main : ∀ (d i : Nat), i + d = qs.length → s_ParseRolls_L1 ((qs.take i).map rd) qs s (qs.length : Int) (i : Int) = some (bif s_cpRolls (qs.map rd) then (qs.map rd, true) else ([], false)) := by
        intro d
        induction d with
        | zero =>
          intro i hi
          have hi : i = qs.length := by omega
          subst hi
          rw [s_ParseRolls_u1, s_ParseRolls_t1, decide_eq_false (by omega), cond_false, List.take_length]
          cases hc : s_cpRolls (qs.map rd)
          · rfl
          · obtain ⟨_, hj, _, _⟩ := good hc
            rw [cpText_ok (rolls_small hc), hj]
            have e1 : ByteArray.toList (⟨(bL s).toArray⟩ : ByteArray) = bL s := ByteArray.toList_eq _
            have e2 : ByteArray.toList s = bL s := ByteArray.toList_eq s
            simp only [Bool.not_true, cond_false, Option.bind_some, e1, e2, beq_self_eq_true, cond_true]
        | succ d ih =>
          intro i hi
          have hil : i < qs.length := by omega
          have hh := ih (i + 1) (by omega)
          rw [List.take_add_one, List.getElem?_eq_getElem hil, List.map_append] at hh
          rw [s_ParseRolls_u1, s_ParseRolls_t1, decide_eq_true (show (i : Int) < qs.length by omega), decide_eq_true (Int.natCast_nonneg i), rdk_get (k := kstring) hil, read_ok, wrapS hil (by rw [maxLen_eq]; omega), ble_dec, decide_eq_true (by rw [List.length_map, List.length_take]; omega)]
          simp only [cond_true, Option.bind_some]
          exact hh
      exact main qs.length 0 (by omega)
  have both : (ps.all okP && s_cpRolls (ps.map rd)) = s_cpRolls (ps.map rd) := by
    cases hc : s_cpRolls (ps.map rd)
    · simp
    · have := (good hc).1
      rw [Bool.and_true, List.all_eq_true]
      exact fun p hp => decide_eq_true (this p hp)
  rw [both] at hi
  cases hc : s_cpRolls (ps.map rd)
  · rw [hc] at hi hspec; exact ⟨_, _, hi, hspec, by simp⟩
  · rw [hc] at hi hspec
    have := (good hc).2.2.2
    exact ⟨_, _, hi, hspec, by omega⟩
/-! ### numerals and pieces, put together and read back -/
theorem dec_mem : ∀ (u : Nat) (b : UInt8), b ∈ Lib.decDigits u → ∃ m, m < 10 ∧ b = UInt8.ofNat (48 + m) := by
  intro u
  induction u using Nat.strongRecOn with
  | _ u ih =>
    intro b h
    rw [Lib.decDigits] at h
    by_cases h1 : u < 10
    · rw [dif_pos h1, List.mem_singleton] at h
      exact ⟨u, h1, h⟩
    · rw [dif_neg h1, List.mem_append, List.mem_singleton] at h
      rcases h with h | h
      · exact ih (u / 10) (by omega) b h
      · exact ⟨u % 10, by omega, h⟩
theorem itoa_no {n : Int} (h0 : 0 ≤ n) {c : UInt8} (hc : ∀ m, m < 10 → c ≠ UInt8.ofNat (48 + m)) : c ∉ Lib.itoa n := by
  obtain ⟨m, rfl⟩ := Int.eq_ofNat_of_zero_le h0
  rw [itoa_nat]
  intro hm
  obtain ⟨d, h1, h2⟩ := dec_mem m c hm
  exact hc d h1 h2
theorem no46 : ∀ m, m < 10 → (46 : UInt8) ≠ UInt8.ofNat (48 + m) := by decide
theorem no44 : ∀ m, m < 10 → (44 : UInt8) ≠ UInt8.ofNat (48 + m) := by decide
theorem rdL_itoa {n : Int} (h0 : 0 ≤ n) (h1 : n ≤ 999999) : rdL (Lib.itoa n) = n := by
  obtain ⟨m, rfl⟩ := Int.eq_ofNat_of_zero_le h0
  rw [itoa_nat]
  exact rdL_of (by omega) rfl
theorem itoa_ne {n : Int} (h0 : 0 ≤ n) : Lib.itoa n ≠ [] := by
  obtain ⟨m, rfl⟩ := Int.eq_ofNat_of_zero_le h0
  rw [itoa_nat]
  exact dec_ne m
theorem spl_of_join (c : UInt8) : ∀ (p : List UInt8) (ps : List (List UInt8)), (∀ q, q ∈ p :: ps → c ∉ q) → spl c (Lib.join (p :: ps) [c]) = p :: ps
  | p, [], h => by rw [Lib.join_one]; exact spl_last c p (h p (by simp))
  | p, q :: r, h => by
    have ih := spl_of_join c q r (fun x hx => h x (List.mem_cons_of_mem _ hx))
    have e : Lib.join (p :: q :: r) [c] = p ++ c :: Lib.join (q :: r) [c] := by
      rw [Lib.join_cons, Lib.join_cons]; simp [Lib.joinTail]
    rw [e, spl_piece c p _ (h p (by simp)), ih]
/-! ### texts cut at a byte -/
theorem cut_spl (c : UInt8) : ∀ l : List UInt8, Lib.cut l [c] = match spl c l with | [] => (l, [], false) | [_] => (l, [], false) | a :: r => (a, Lib.join r [c], true)
  | [] => rfl
  | b :: r => by
    have ih := cut_spl c r
    unfold spl
    by_cases h : b = c
    · subst h
      have hix : Lib.index (b :: r) [b] = 0 := by rw [Lib.index]; simp [List.isPrefixOf]
      rw [if_pos rfl]
      have hj := spl_join b r
      cases hs : spl b r with
      | nil => exact absurd hs (spl_ne b r)
      | cons x t =>
        rw [hs] at hj
        unfold Lib.cut
        rw [hix]
        simp [hj]
    · rw [if_neg h]
      have hp : ([c] : List UInt8).isPrefixOf (b :: r) = false := by simp [List.isPrefixOf, Ne.symm h]
      have hix : Lib.index (b :: r) [c] = if Lib.index r [c] == -1 then -1 else Lib.index r [c] + 1 := by rw [Lib.index, hp]; simp
      have hge := Lib.index_ge r [c]
      unfold Lib.cut at ih ⊢
      rw [hix]
      by_cases hm : Lib.index r [c] = -1
      · rw [hm] at ih ⊢
        simp only [beq_self_eq_true, if_true] at ih ⊢
        rw [if_neg (by omega)] at ih ⊢
        cases hs : spl c r with
        | nil => exact absurd hs (spl_ne c r)
        | cons x t =>
          rw [hs] at ih
          cases t with
          | nil => rfl
          | cons y t => simp at ih
      · obtain ⟨j, hj⟩ : ∃ j : Nat, Lib.index r [c] = j := ⟨(Lib.index r [c]).toNat, by omega⟩
        rw [hj] at ih ⊢
        have hne : (((j : Nat) : Int) == -1) = false := beq_eq_false_iff_ne.2 (by omega)
        rw [hne]
        simp only [Bool.false_eq_true, if_false]
        rw [if_pos (by omega)] at ih ⊢
        rw [show ((j : Int) + 1).toNat = j + 1 from by omega]
        rw [Int.toNat_natCast] at ih
        cases hs : spl c r with
        | nil => exact absurd hs (spl_ne c r)
        | cons x t =>
          rw [hs] at ih
          cases t with
          | nil => simp at ih
          | cons y t =>
            simp only [Prod.mk.injEq, and_true] at ih
            simp only [List.take_succ_cons]
            rw [ih.1]
            refine Prod.ext rfl (Prod.ext ?_ rfl)
            simp only
            rw [← ih.2, show j + 1 + ([c] : List UInt8).length = (j + ([c] : List UInt8).length) + 1 from by omega, List.drop_succ_cons]
theorem cut_none {c : UInt8} {l : List UInt8} (h : c ∉ l) : Lib.cut l [c] = (l, [], false) := by
  rw [cut_spl, spl_last c l h]
theorem cut_at {c : UInt8} {a r : List UInt8} (h : c ∉ a) : Lib.cut (a ++ c :: r) [c] = (a, r, true) := by
  have hj := spl_join c r
  rw [cut_spl, spl_piece c a r h]
  cases hs : spl c r with
  | nil => exact absurd hs (spl_ne c r)
  | cons x t => rw [hs] at hj; simp only; rw [hj]
/-- what a text cut tells -/
theorem cut_inv {c : UInt8} {l a r : List UInt8} {f : Bool} (h : Lib.cut l [c] = (a, r, f)) : (f = true ∧ l = a ++ c :: r ∧ c ∉ a) ∨ (f = false ∧ a = l ∧ r = [] ∧ c ∉ l) := by
  by_cases hc : c ∈ l
  · left
    obtain ⟨s, t, rfl⟩ := List.append_of_mem hc
    have : ∀ (s t : List UInt8), ∃ s' t', s ++ c :: t = s' ++ c :: t' ∧ c ∉ s' := by
      intro s
      induction s with
      | nil => intro t; exact ⟨[], t, rfl, by simp⟩
      | cons x s ih =>
        intro t
        by_cases hx : x = c
        · subst hx; exact ⟨[], s ++ x :: t, rfl, by simp⟩
        · obtain ⟨s', t', h1, h2⟩ := ih t
          exact ⟨x :: s', t', by rw [List.cons_append, h1]; rfl, by simp only [List.mem_cons, not_or]; exact ⟨fun e => hx e.symm, h2⟩⟩
    obtain ⟨s', t', h1, h2⟩ := this s t
    rw [h1, cut_at h2] at h
    cases h
    exact ⟨rfl, h1, h2⟩
  · right
    rw [cut_none hc] at h
    cases h
    exact ⟨rfl, rfl, rfl, hc⟩
/-! ### stairs' texts -/
def numsT (l : List Int) : List UInt8 := Lib.join (l.map Lib.itoa) [44]
def tS (N : Int) (D B : List Int) : List UInt8 := Lib.itoa N ++ 115 :: (numsT D ++ if B = [] then [] else 120 :: numsT B)
theorem join_two (p q : List UInt8) (r : List (List UInt8)) (c : UInt8) : Lib.join (p :: q :: r) [c] = p ++ c :: Lib.join (q :: r) [c] := by
  rw [Lib.join_cons, Lib.join_cons]; simp [Lib.joinTail]
theorem numsT_no {c : UInt8} (hc : ∀ m, m < 10 → c ≠ UInt8.ofNat (48 + m)) (h44 : c ≠ 44) : ∀ {l : List Int}, (∀ x, x ∈ l → 0 ≤ x) → c ∉ numsT l
  | [], _ => by unfold numsT; simp [Lib.join]
  | [x], h => by
    unfold numsT
    rw [List.map_cons, List.map_nil, Lib.join_one]
    exact itoa_no (h x (by simp)) hc
  | x :: y :: l, h => by
    have ih := numsT_no hc h44 (l := y :: l) (fun z hz => h z (List.mem_cons_of_mem _ hz))
    have h1 := itoa_no (h x (by simp)) hc
    unfold numsT at ih ⊢
    rw [List.map_cons, List.map_cons, join_two]
    simp only [List.mem_append, List.mem_cons, not_or]
    rw [List.map_cons] at ih
    exact ⟨h1, h44, ih⟩
theorem numsT_spl {l : List Int} (hl : l ≠ []) (h : ∀ x, x ∈ l → 0 ≤ x) : spl 44 (numsT l) = l.map Lib.itoa := by
  cases l with
  | nil => exact absurd rfl hl
  | cons x l =>
    unfold numsT
    rw [List.map_cons]
    refine spl_of_join 44 _ _ (fun q hq => ?_)
    rw [← List.map_cons] at hq
    obtain ⟨z, hz, rfl⟩ := List.mem_map.1 hq
    exact itoa_no (h z hz) no44
theorem rdL_map {l : List Int} (h : ∀ x, x ∈ l → 0 ≤ x ∧ x ≤ 999999) : (l.map Lib.itoa).map rdL = l := by
  rw [List.map_map]
  have : l.map (rdL ∘ Lib.itoa) = l.map id := List.map_congr_left fun x hx => rdL_itoa (h x hx).1 (h x hx).2
  rw [this, List.map_id]
theorem rdL_inv' {x : List UInt8} (h : 0 ≤ rdL x) : Lib.itoa (rdL x) = x := by
  obtain ⟨v, h1, h2, h3⟩ := rdL_inv (l := x) (by omega)
  rw [h3, itoa_nat, h2]
/-- numbers read are the text's -/
theorem nums_back {x : List UInt8} (h : ∀ q, q ∈ spl 44 x → 0 ≤ rdL q) : numsT ((spl 44 x).map rdL) = x := by
  have e : ((spl 44 x).map rdL).map Lib.itoa = spl 44 x := by
    rw [List.map_map]
    have : (spl 44 x).map (Lib.itoa ∘ rdL) = (spl 44 x).map id := List.map_congr_left fun q hq => rdL_inv' (h q hq)
    rw [this, List.map_id]
  unfold numsT
  rw [e, spl_join]
theorem no115 : ∀ m, m < 10 → (115 : UInt8) ≠ UInt8.ofNat (48 + m) := by decide
theorem no120 : ∀ m, m < 10 → (120 : UInt8) ≠ UInt8.ofNat (48 + m) := by decide
/-- the numbers that a text stands for, if it has -/
def stR (a d b : List UInt8) (has : Bool) : Int × List Int × List Int := (rdL a, (spl 44 d).map rdL, bif has then (spl 44 b).map rdL else [])
theorem spl_map_ne (x : List UInt8) : (spl 44 x).map rdL ≠ [] := fun e => spl_ne 44 x (List.map_eq_nil_iff.1 e)
/-- parts whose numbers are none below nought are the text of their numbers -/
theorem st_text {a d b : List UInt8} {has : Bool} (ha : 0 ≤ rdL a) (hd : ∀ q, q ∈ spl 44 d → 0 ≤ rdL q) (hb : has = true → ∀ q, q ∈ spl 44 b → 0 ≤ rdL q) :
    tS (stR a d b has).1 (stR a d b has).2.1 (stR a d b has).2.2 = a ++ 115 :: (d ++ bif has then 120 :: b else []) := by
  unfold tS stR
  simp only
  rw [rdL_inv' ha, nums_back hd]
  cases has
  · simp
  · simp only [cond_true]
    rw [if_neg (spl_map_ne b), nums_back (hb rfl)]
/-! ### rolls read back, told whole -/
theorem no43 : ∀ m, m < 10 → (43 : UInt8) ≠ UInt8.ofNat (48 + m) := by decide
theorem ParseRolls_full {s : ByteArray} (hs : s.size ≤ 2000000) : ∃ l f, i_ParseRolls s = some (l, f) ∧ s_ParseRolls s = some (l, f) ∧ l.length ≤ 100 ∧ (f = true → s_cpRolls l = true ∧ Lib.join (l.map Lib.itoa) [43] = bL s) ∧ (∀ m, s_cpRolls m = true → Lib.join (m.map Lib.itoa) [43] = bL s → l = m ∧ f = true) := by
  obtain ⟨ps, h1, h2⟩ := nums_ok hs 43
  have e43 : (⟨#[43]⟩ : ByteArray) = { data := #[43] } := rfl
  rw [e43] at h2
  -- what the program finds
  have hi : i_ParseRolls s = some (bif ps.all okP && s_cpRolls (ps.map rd) then (ps.map rd, true) else ([], false)) := by
    unfold i_ParseRolls
    rw [h2, Option.bind_some]
    cases ps.all okP
    · rfl
    · simp only [cond_true, Bool.not_true, cond_false, Bool.true_and]
      rw [areRolls_eqT]
      cases s_cpRolls (ps.map rd) <;> rfl
  have good : s_cpRolls (ps.map rd) = true → (∀ p, p ∈ ps → 0 ≤ rd p) ∧ (Lib.join ((ps.map rd).map Lib.itoa) [43] = bL s) ∧ s.size ≤ 40 ∧ (ps.map rd).length ≤ 8 := fun hc => by
    obtain ⟨g1, g2⟩ := rolls_bd hc
    have ho : ∀ p, p ∈ ps → 0 ≤ rd p := fun p hp => by
      have := g2 (rd p) (List.mem_map_of_mem hp); omega
    have hj := text_back h1 ho
    have l1 := join_len [43] ((ps.map rd).map Lib.itoa)
    have l2 := lens_le (c := 4) (xs := (ps.map rd).map Lib.itoa) (fun x hx => by
      obtain ⟨n, hn, rfl⟩ := List.mem_map.1 hx
      have := g2 n hn
      exact itoa4 (by omega) (by omega))
    rw [hj, bL_len] at l1
    rw [List.length_map] at l1 l2
    have l3 : ([43] : List UInt8).length * (ps.map rd).length ≤ 1 * 8 := Nat.mul_le_mul (by simp) g1
    have l4 : 4 * (ps.map rd).length ≤ 4 * 8 := Nat.mul_le_mul_left _ g1
    exact ⟨ho, hj, by omega, g1⟩
  have hspec : s_ParseRolls s = some (bif s_cpRolls (ps.map rd) then (ps.map rd, true) else ([], false)) := by
    unfold s_ParseRolls s_ParseRolls_t0
    by_cases hz : s.size > 40
    · rw [decide_eq_true (show (s.size : Int) > 40 by omega), cond_true]
      cases hc : s_cpRolls (ps.map rd)
      · rfl
      · have := (good hc).2.2.1; omega
    · rw [decide_eq_false (show ¬ (s.size : Int) > 40 by omega), cond_false]
      obtain ⟨qs, q1, q2⟩ := l1Split_ok (s := s) (by omega) 43
      have e : ((43 : UInt8).toNat : Int) = 43 := rfl
      rw [e] at q1
      obtain ⟨b1, b2⟩ := pieces_bd q2
      have hqp : qs = ps := by
        have : qs.map bL = ps.map bL := by rw [q2, h1]
        exact (List.map_inj_right (f := bL) (fun a b h => bL_inj h)).1 this
      subst hqp
      rw [q1, Option.bind_some]
      have main : ∀ (d i : Nat), i + d = qs.length → s_ParseRolls_L1 ((qs.take i).map rd) qs s (qs.length : Int) (i : Int) = some (bif s_cpRolls (qs.map rd) then (qs.map rd, true) else ([], false)) := by
        intro d
        induction d with
        | zero =>
          intro i hi
          have hi : i = qs.length := by omega
          subst hi
          rw [s_ParseRolls_u1, s_ParseRolls_t1, decide_eq_false (by omega), cond_false, List.take_length]
          cases hc : s_cpRolls (qs.map rd)
          · rfl
          · obtain ⟨_, hj, _, _⟩ := good hc
            rw [cpText_ok (rolls_small hc), hj]
            have e1 : ByteArray.toList (⟨(bL s).toArray⟩ : ByteArray) = bL s := ByteArray.toList_eq _
            have e2 : ByteArray.toList s = bL s := ByteArray.toList_eq s
            simp only [Bool.not_true, cond_false, Option.bind_some, e1, e2, beq_self_eq_true, cond_true]
        | succ d ih =>
          intro i hi
          have hil : i < qs.length := by omega
          have hh := ih (i + 1) (by omega)
          rw [List.take_add_one, List.getElem?_eq_getElem hil, List.map_append] at hh
          rw [s_ParseRolls_u1, s_ParseRolls_t1, decide_eq_true (show (i : Int) < qs.length by omega), decide_eq_true (Int.natCast_nonneg i), rdk_get (k := kstring) hil, read_ok, wrapS hil (by rw [maxLen_eq]; omega), ble_dec, decide_eq_true (by rw [List.length_map, List.length_take]; omega)]
          simp only [cond_true, Option.bind_some]
          exact hh
      exact main qs.length 0 (by omega)
  have both : (ps.all okP && s_cpRolls (ps.map rd)) = s_cpRolls (ps.map rd) := by
    cases hc : s_cpRolls (ps.map rd)
    · simp
    · have := (good hc).1
      rw [Bool.and_true, List.all_eq_true]
      exact fun p hp => decide_eq_true (this p hp)
  rw [both] at hi
  have only : ∀ m, s_cpRolls m = true → Lib.join (m.map Lib.itoa) [43] = bL s → ps.map rd = m := fun m hm e => by
    obtain ⟨g1, g2⟩ := rolls_bd hm
    have hne : m ≠ [] := fun h0 => by rw [h0] at hm; revert hm; decide
    have e2 : spl 43 (bL s) = m.map Lib.itoa := by
      rw [← e]
      cases m with
      | nil => exact absurd rfl hne
      | cons x m =>
        rw [List.map_cons]
        refine spl_of_join 43 _ _ (fun q hq => ?_)
        rw [← List.map_cons] at hq
        obtain ⟨z, hz, rfl⟩ := List.mem_map.1 hq
        exact itoa_no (by have := g2 z hz; omega) no43
    have e3 : ps.map rd = (ps.map bL).map rdL := by rw [List.map_map]; rfl
    rw [e3, h1, e2, rdL_map (fun x hx => by have := g2 x hx; omega)]
  cases hc : s_cpRolls (ps.map rd)
  · rw [hc] at hi hspec
    exact ⟨_, _, hi, hspec, by simp, (by intro h; cases h), fun m hm e => by rw [only m hm e, hm] at hc; cases hc⟩
  · rw [hc] at hi hspec
    have := (good hc).2.2.2
    exact ⟨_, _, hi, hspec, by omega, fun _ => ⟨hc, (good hc).2.1⟩, fun m hm e => ⟨only m hm e, rfl⟩⟩
end Go.Proofs.YtddiigejhjfhdaaGreatDoor.V
