/- Functions of the program, as plain functions. No condition. -/
import Derived.Test.YtgflffacaobkoaaGreatDoorL3
import Derived.Test.YtgflffacaobkoaaGreatDoorL2h
set_option linter.unusedVariables false
set_option linter.unusedSimpArgs false
set_option maxRecDepth 100000
namespace Go.Proofs.YtgflffacaobkoaaGreatDoor.V
open Go Go.Ev Go.Proofs
/-! ### numbers joined -/
def itoaB (n : Int) : ByteArray := ⟨(Lib.itoa n).toArray⟩
theorem num_ok {n : Int} (h : 0 ≤ n) (h' : n ≤ 4000000000000000000) : s_l1Num_n n = some (itoaB n) := by
  unfold s_l1Num_n
  rw [decide_eq_true h, decide_eq_true h']; rfl
theorem itoa_ok {n : Int} (h : 0 ≤ n) (h' : n ≤ 4000000000000000000) : strconv_Itoa n = some (itoaB n) := by
  unfold strconv_Itoa itoaF
  rw [if_pos (by omega)]; rfl
theorem itoa_len {n : Int} (h : 0 ≤ n) (h' : n ≤ 1000000) : (Lib.itoa n).length ≤ 1000001 := by
  obtain ⟨m, rfl⟩ := Int.eq_ofNat_of_zero_le h
  rw [itoa_nat]
  have := dec_len m; omega
theorem join_snoc (sep : List UInt8) : ∀ (xs : List (List UInt8)) (y : List UInt8), Lib.join (xs ++ [y]) sep = if xs = [] then y else Lib.join xs sep ++ sep ++ y
  | [], y => by rw [if_pos rfl, List.nil_append, Lib.join_one]
  | x :: r, y => by
    rw [if_neg (by simp), List.cons_append, Lib.join_cons, Lib.join_cons]
    unfold Lib.joinTail
    simp [List.append_assoc]
theorem join_len (sep : List UInt8) (xs : List (List UInt8)) : (Lib.join xs sep).length ≤ sep.length * xs.length + Lib.lens xs := by
  cases xs with
  | nil => simp [Lib.join_nil]
  | cons x r =>
    rw [Lib.join_cons, List.length_append, Lib.joinTail_length]
    have : Lib.lens (x :: r) = x.length + Lib.lens r := by simp [Lib.lens]
    rw [this, List.length_cons, Nat.mul_succ]; omega
theorem lens_le {c : Nat} : ∀ {xs : List (List UInt8)}, (∀ x, x ∈ xs → x.length ≤ c) → Lib.lens xs ≤ c * xs.length
  | [], _ => by simp [Lib.lens]
  | x :: r, h => by
    have h1 := h x (by simp)
    have h2 := lens_le (xs := r) (fun y hy => h y (List.mem_cons_of_mem _ hy))
    have : Lib.lens (x :: r) = x.length + Lib.lens r := by simp [Lib.lens]
    rw [this, List.length_cons, Nat.mul_succ]; omega
/-- small numbers -/
structure SmallL (l : List Int) : Prop where
  len : l.length ≤ 10000
  bd : ∀ x, x ∈ l → 0 ≤ x ∧ x ≤ 1000000
theorem join_bd {l : List Int} (h : SmallL l) (sep : List UInt8) (hs : sep.length ≤ 100) : (Lib.join (l.map Lib.itoa) sep).length ≤ 140737488355328 := by
  have h1 := join_len sep (l.map Lib.itoa)
  have h2 := lens_le (c := 1000001) (xs := l.map Lib.itoa) (fun x hx => by
    obtain ⟨n, hn, rfl⟩ := List.mem_map.1 hx
    have := h.bd n hn
    exact itoa_len this.1 this.2)
  rw [List.length_map] at h1 h2
  have h3 : sep.length * l.length ≤ 100 * 10000 := Nat.mul_le_mul hs h.len
  have h4 : 1000001 * l.length ≤ 1000001 * 10000 := Nat.mul_le_mul_left _ h.len
  omega
theorem SmallL.take {l : List Int} (h : SmallL l) (i : Nat) : SmallL (l.take i) := ⟨by rw [List.length_take]; have := h.len; omega, fun x hx => h.bd x (List.mem_of_mem_take hx)⟩
/-! ### numbers joined by the program -/
theorem joined_ok {l : List Int} (h : SmallL l) (sep : ByteArray) (hs : sep.data.toList.length ≤ 100) : i_joined l sep = some ⟨(Lib.join (l.map Lib.itoa) sep.data.toList).toArray⟩ := by
  unfold i_joined i_joined_t0
  have hlen := h.len
  have main : ∀ (d i : Nat), i + d = l.length → i_joined_L1 ((l.take i).map itoaB) l sep (l.length : Int) (i : Int) = some ⟨(Lib.join (l.map Lib.itoa) sep.data.toList).toArray⟩ := by
    intro d
    induction d with
    | zero =>
      intro i hi
      have hi : i = l.length := by omega
      subst hi
      rw [i_joined_u1, i_joined_t1, decide_eq_false (by omega), cond_false, List.take_length]
      unfold strings_Join joinF
      have em : (l.map itoaB).map (·.data.toList) = l.map Lib.itoa := by
        rw [List.map_map]; rfl
      rw [em, if_pos ⟨by rw [List.length_map]; omega, join_bd h _ hs⟩]; rfl
    | succ d ih =>
      intro i hi
      have hil : i < l.length := by omega
      have hb := h.bd l[i] (List.getElem_mem hil)
      rw [i_joined_u1, i_joined_t1, decide_eq_true (show (i : Int) < l.length by omega), decide_eq_true (Int.natCast_nonneg i), rdk_get (k := kint) hil, itoa_ok hb.1 (by omega), wrapS hil (by rw [maxLen_eq]; omega), ble_dec, decide_eq_true (by rw [List.length_map, List.length_take]; omega)]
      simp only [cond_true, Option.bind_some]
      have := ih (i + 1) (by omega)
      rw [List.take_add_one, List.getElem?_eq_getElem hil, List.map_append] at this
      exact this
  exact main l.length 0 (by omega)
/-! ### lists of numbers, the reference -/
/-- the reference's joining, with a rest of each round -/
theorem clList_ok {l : List Int} (h : SmallL l) : s_clList l = some ⟨(Lib.join (l.map Lib.itoa) [44]).toArray⟩ := by
  unfold s_clList s_clList_t0
  have hlen := h.len
  have e44 : ({ data := #[44] } : ByteArray) = ⟨([44] : List UInt8).toArray⟩ := rfl
  have main : ∀ (d i : Nat), i + d = l.length → s_clList_L1 l ⟨(Lib.join ((l.take i).map Lib.itoa) [44]).toArray⟩ (l.length : Int) (i : Int) = some ⟨(Lib.join (l.map Lib.itoa) [44]).toArray⟩ := by
    intro d
    induction d with
    | zero =>
      intro i hi
      have hi : i = l.length := by omega
      subst hi
      rw [s_clList_u1, s_clList_t1, decide_eq_false (by omega), cond_false, List.take_length]
    | succ d ih =>
      intro i hi
      have hil : i < l.length := by omega
      have hb := h.bd l[i] (List.getElem_mem hil)
      have hj := join_bd (h.take i) [44] (by simp)
      have hn := itoa_len hb.1 hb.2
      have hh := ih (i + 1) (by omega)
      rw [List.take_add_one, List.getElem?_eq_getElem hil, List.map_append] at hh
      replace hh : s_clList_L1 l ⟨(Lib.join ((l.take i).map Lib.itoa ++ [Lib.itoa l[i]]) [44]).toArray⟩ (l.length : Int) ((i + 1 : Nat) : Int) = _ := hh
      rw [join_snoc] at hh
      rw [s_clList_u1, s_clList_t1, decide_eq_true (show (i : Int) < l.length by omega), decide_eq_true (Int.natCast_nonneg i), rdk_get (k := kint) hil, num_ok hb.1 (by omega), wrapS hil (by rw [maxLen_eq]; omega), e44]
      simp only [cond_true, Option.bind_some]
      by_cases h0 : i = 0
      · subst h0
        rw [decide_eq_false (show ¬ ((0 : Nat) : Int) > 0 by omega), cond_false, ble_dec, decide_eq_true, cond_true]
        · unfold itoaB
          rw [bytes_app]
          rw [if_pos (by simp)] at hh
          exact hh
        · show (Lib.join ((l.take 0).map Lib.itoa) [44]).toArray.size + (Lib.itoa l[0]).toArray.size ≤ _
          simp only [List.size_toArray, List.length_append, List.length_singleton]; omega
      · rw [decide_eq_true (show (i : Int) > 0 by omega), cond_true, bytes_app, ble_dec, decide_eq_true, cond_true, ble_dec, decide_eq_true, cond_true]
        · unfold itoaB
          rw [bytes_app]
          rw [if_neg (by intro e; have := congrArg List.length e; simp only [List.length_map, List.length_take, List.length_nil] at this; omega)] at hh
          exact hh
        · show (Lib.join ((l.take i).map Lib.itoa) [44] ++ [44]).toArray.size + (Lib.itoa l[i]).toArray.size ≤ _
          simp only [List.size_toArray, List.length_append, List.length_singleton]; omega
        · show (Lib.join ((l.take i).map Lib.itoa) [44]).toArray.size + ([44] : List UInt8).toArray.size ≤ _
          simp only [List.size_toArray, List.length_append, List.length_singleton]; omega
  exact main l.length 0 (by omega)
/-! ### numerals -/
theorem decFrom_snoc : ∀ (l : List UInt8) (acc : Nat) (b : UInt8), Lib.decFrom acc (l ++ [b]) = (Lib.decFrom acc l).bind fun m => (Lib.digitVal b).map fun d => m * 10 + d
  | [], acc, b => by
    simp only [List.nil_append, Lib.decFrom, Option.bind_some]
    cases Lib.digitVal b <;> rfl
  | c :: l, acc, b => by
    simp only [List.cons_append, Lib.decFrom]
    cases Lib.digitVal c
    · rfl
    · exact decFrom_snoc l _ b
theorem digit_of {m : Nat} (h : m < 10) : Lib.digitVal (UInt8.ofNat (48 + m)) = some m := by
  unfold Lib.digitVal
  have e : (UInt8.ofNat (48 + m)).toNat = 48 + m := by
    rw [UInt8.toNat_ofNat']; omega
  rw [e, if_pos (by omega)]
  congr 1; omega
theorem digit_inv {b : UInt8} {d : Nat} (h : Lib.digitVal b = some d) : b = UInt8.ofNat (48 + d) ∧ d < 10 := by
  unfold Lib.digitVal at h
  split at h
  · rename_i hb
    cases h
    have e : 48 + (b.toNat - 48) = b.toNat := by omega
    rw [e]
    exact ⟨by simp, by omega⟩
  · cases h
/-- a numeral spells its number -/
theorem dec_spell : ∀ u : Nat, Lib.decFrom 0 (Lib.decDigits u) = some u := by
  intro u
  induction u using Nat.strongRecOn with
  | ind u ih =>
    rw [Lib.decDigits]
    by_cases h : u < 10
    · rw [dif_pos h]
      simp only [Lib.decFrom, digit_of h]
      congr 1; omega
    · rw [dif_neg h, decFrom_snoc, ih (u / 10) (by omega), Option.bind_some, digit_of (Nat.mod_lt u (by omega))]
      simp only [Option.map_some]
      congr 1; omega
theorem dec_ne (u : Nat) : Lib.decDigits u ≠ [] := by
  rw [Lib.decDigits]
  by_cases h : u < 10
  · rw [dif_pos h]; simp
  · rw [dif_neg h]; simp
theorem dec_head : ∀ u : Nat, 0 < u → (Lib.decDigits u).head? ≠ some 48 := by
  intro u
  induction u using Nat.strongRecOn with
  | ind u ih =>
    intro h0
    rw [Lib.decDigits]
    by_cases h : u < 10
    · rw [dif_pos h]
      simp only [List.head?_cons]
      intro e
      have e := Option.some.inj e
      have := congrArg UInt8.toNat e
      rw [UInt8.toNat_ofNat'] at this
      have e48 : (48 : UInt8).toNat = 48 := rfl
      omega
    · rw [dif_neg h, List.head?_append]
      have := ih (u / 10) (by omega) (by omega)
      cases hd : (Lib.decDigits (u / 10)).head? with
      | none => exact absurd (List.head?_eq_none_iff.1 hd) (dec_ne _)
      | some x => rw [hd] at this; simpa using this
theorem dec_len6 (k : Nat) : ∀ u : Nat, u < 10 ^ (k + 1) → (Lib.decDigits u).length ≤ k + 1 := by
  induction k with
  | zero =>
    intro u h
    rw [Lib.decDigits, dif_pos (by simpa using h)]; simp
  | succ k ih =>
    intro u h
    rw [Lib.decDigits]
    by_cases h1 : u < 10
    · rw [dif_pos h1]; simp
    · rw [dif_neg h1, List.length_append, List.length_singleton]
      have := ih (u / 10) (by rw [Nat.pow_succ] at h; omega)
      omega
/-- digits without a zero ahead are their number's numeral -/
theorem dec_of : ∀ (l : List UInt8) (n : Nat), l ≠ [] → (l.head? = some 48 → l.length = 1) → Lib.decFrom 0 l = some n → Lib.decDigits n = l := by
  intro l
  induction hk : l.length using Nat.strongRecOn generalizing l with
  | ind k ih =>
    intro n hne hz hd
    obtain ⟨b, l', rfl⟩ : ∃ b l', l = l' ++ [b] := ⟨l.getLast hne, l.dropLast, (List.dropLast_concat_getLast hne).symm⟩
    rw [decFrom_snoc] at hd
    cases hm : Lib.decFrom 0 l' with
    | none => rw [hm] at hd; cases hd
    | some m =>
      rw [hm, Option.bind_some] at hd
      cases hb : Lib.digitVal b with
      | none => rw [hb] at hd; cases hd
      | some d =>
        rw [hb, Option.map_some] at hd
        have hd := Option.some.inj hd
        obtain ⟨rfl, hd9⟩ := digit_inv hb
        by_cases h0 : l' = []
        · subst h0
          have hm : some 0 = some m := hm
          have hm := Option.some.inj hm
          have : n = d := by omega
          subst this
          rw [Lib.decDigits, dif_pos hd9]; rfl
        · have hz' : l'.head? ≠ some 48 := fun e => by
            have h1 := hz (by rw [List.head?_append, e]; rfl)
            have h2 : l'.length + 1 = k := by rw [← hk]; simp
            have h3 : l'.length ≠ 0 := fun e => h0 (List.eq_nil_of_length_eq_zero e)
            omega
          have e := ih l'.length (by rw [← hk]; simp) l' rfl m h0 (fun e => absurd e hz') hm
          have hm0 : 0 < m := by
            rcases Nat.eq_zero_or_pos m with q | q
            · subst q
              rw [← e] at hz'
              exact absurd (by rw [Lib.decDigits, dif_pos (by omega)]; rfl) hz'
            · exact q
          have e1 : n / 10 = m := by omega
          have e2 : n % 10 = d := by omega
          rw [Lib.decDigits, dif_neg (by omega), e1, e2, e]
theorem decFrom_lt : ∀ (l : List UInt8) (acc n : Nat), Lib.decFrom acc l = some n → n < (acc + 1) * 10 ^ l.length
  | [], acc, n, h => by simp only [Lib.decFrom] at h; have := Option.some.inj h; simp; omega
  | b :: l, acc, n, h => by
    simp only [Lib.decFrom] at h
    cases hb : Lib.digitVal b with
    | none => rw [hb] at h; cases h
    | some d =>
      rw [hb] at h
      have h9 := (digit_inv hb).2
      have := decFrom_lt l _ n h
      have h2 : (acc * 10 + d + 1) * 10 ^ l.length ≤ ((acc + 1) * 10) * 10 ^ l.length := Nat.mul_le_mul_right _ (by omega)
      rw [List.length_cons, Nat.pow_succ, Nat.mul_comm (10 ^ l.length) 10, ← Nat.mul_assoc]
      omega
/-- what the reference reads -/
def rdL (l : List UInt8) : Int :=
  if 1 ≤ l.length ∧ l.length ≤ 6 ∧ (l.head? = some 48 → l.length = 1) then (match Lib.decFrom 0 l with | some n => (n : Int) | none => -1) else -1
theorem rdL_of {l : List UInt8} {v : Nat} (hv : v ≤ 999999) (h : Lib.decDigits v = l) : rdL l = v := by
  subst h
  unfold rdL
  have h1 := dec_len6 5 v (by omega)
  have h2 : 1 ≤ (Lib.decDigits v).length := Nat.pos_of_ne_zero (fun e => dec_ne v (List.eq_nil_of_length_eq_zero e))
  have h3 : (Lib.decDigits v).head? = some 48 → (Lib.decDigits v).length = 1 := fun e => by
    rcases Nat.eq_zero_or_pos v with q | q
    · subst q; rw [Lib.decDigits, dif_pos (by omega)]; rfl
    · exact absurd e (dec_head v q)
  rw [if_pos ⟨h2, h1, h3⟩, dec_spell]
theorem rdL_inv {l : List UInt8} (h : rdL l ≠ -1) : ∃ v : Nat, v ≤ 999999 ∧ Lib.decDigits v = l ∧ rdL l = v := by
  unfold rdL at h ⊢
  split at h
  · rename_i hc
    rw [if_pos hc]
    cases hd : Lib.decFrom 0 l with
    | none => rw [hd] at h; exact absurd rfl h
    | some n =>
      have hlt := decFrom_lt l 0 n hd
      have hp : 10 ^ l.length ≤ 10 ^ 6 := Nat.pow_le_pow_right (by omega) hc.2.1
      refine ⟨n, by omega, dec_of l n (fun e => by rw [e] at hc; simp at hc) hc.2.2 hd, rfl⟩
  · exact absurd rfl h
/-- what the program reads -/
def numL (l : List UInt8) : Int := match Lib.atoiAll l with | .ok v => if 0 ≤ v ∧ v ≤ 999999 ∧ Lib.itoa v = l then v else -1 | _ => -1
theorem atoi_dec {v : Nat} (hv : v ≤ 999999) : Lib.atoiAll (Lib.decDigits v) = .ok (v : Int) := by
  have h1 := dec_len6 5 v (by omega)
  rw [Lib.atoiAll_short _ (by omega)]
  have hs := dec_spell v
  have hne := dec_ne v
  cases hl : Lib.decDigits v with
  | nil => exact absurd hl hne
  | cons b r =>
    rw [hl] at hs
    have hb : ∃ d, Lib.digitVal b = some d := by
      simp only [Lib.decFrom] at hs
      cases hd : Lib.digitVal b with
      | none => rw [hd] at hs; cases hs
      | some d => exact ⟨d, rfl⟩
    obtain ⟨d, hd⟩ := hb
    obtain ⟨rfl, h9⟩ := digit_inv hd
    have e : (UInt8.ofNat (48 + d)).toNat = 48 + d := by rw [UInt8.toNat_ofNat']; omega
    have n1 : (UInt8.ofNat (48 + d) == 45) = false := by
      rw [beq_eq_false_iff_ne]; intro k; have := congrArg UInt8.toNat k; rw [e] at this; have e45 : (45 : UInt8).toNat = 45 := rfl; omega
    have n2 : (UInt8.ofNat (48 + d) == 43) = false := by
      rw [beq_eq_false_iff_ne]; intro k; have := congrArg UInt8.toNat k; rw [e] at this; have e43 : (43 : UInt8).toNat = 43 := rfl; omega
    unfold Lib.atoi
    simp only [n1, n2, Bool.false_eq_true, if_false]
    unfold Lib.decNat
    simp only [List.isEmpty_cons, Bool.false_eq_true, if_false]
    rw [hs]; rfl
theorem numL_eq (l : List UInt8) : numL l = rdL l := by
  by_cases h : rdL l = -1
  · rw [h]
    unfold numL
    cases ha : Lib.atoiAll l with
    | ok v =>
      simp only
      by_cases hc : 0 ≤ v ∧ v ≤ 999999 ∧ Lib.itoa v = l
      · obtain ⟨n, rfl⟩ := Int.eq_ofNat_of_zero_le hc.1
        have := rdL_of (l := l) (v := n) (by omega) (by rw [← hc.2.2, itoa_nat])
        omega
      · rw [if_neg hc]
    | _ => rfl
  · obtain ⟨v, h1, h2, h3⟩ := rdL_inv h
    rw [h3]
    unfold numL
    rw [← h2, atoi_dec h1]
    simp only
    rw [if_pos ⟨by omega, by omega, itoa_nat v⟩]
/-! ### numbers read -/
abbrev bL (s : ByteArray) : List UInt8 := s.data.toList
theorem bL_len (s : ByteArray) : (bL s).length = s.size := by
  show s.data.toList.length = s.data.size
  rw [Array.length_toList]
theorem bt_get {s : ByteArray} {i : Nat} (h : i < (bL s).length) : bt s (i : Int) = ((bL s)[i].toNat : Int) := by
  unfold bt
  rw [Int.toNat_natCast, List.getD_eq_getElem?_getD, List.getElem?_eq_getElem h]; rfl
theorem bL_inj {a b : ByteArray} (h : bL a = bL b) : a = b := by
  obtain ⟨⟨x⟩⟩ := a
  obtain ⟨⟨y⟩⟩ := b
  have h : x = y := h
  rw [h]
def ofDec : Option Nat → Int | some n => (n : Int) | none => -1
theorem read_loop (s : ByteArray) (hs : s.size ≤ 6) : ∀ (d i n : Nat), i + d = (bL s).length → n < 10 ^ i → s_l1Read_L1 s (n : Int) (i : Int) = some (ofDec (Lib.decFrom n ((bL s).drop i)))
  | 0, i, n, h, hn => by
    have hl := bL_len s
    rw [s_l1Read_u1, s_l1Read_t1, decide_eq_false (by omega), cond_false, List.drop_of_length_le (by omega)]; rfl
  | d + 1, i, n, h, hn => by
    have hl := bL_len s
    have hi : i < (bL s).length := by omega
    have hp : 10 ^ i ≤ 10 ^ 6 := Nat.pow_le_pow_right (by omega) (by omega)
    rw [s_l1Read_u1, s_l1Read_t1, decide_eq_true (show (i : Int) < (s.size : Int) by omega), decide_eq_true (Int.natCast_nonneg i), bt_get hi, List.drop_eq_getElem_cons hi]
    simp only [cond_true, Lib.decFrom]
    unfold Lib.digitVal
    by_cases h1 : ((bL s)[i].toNat : Int) < 48
    · rw [decide_eq_true h1, if_neg (by omega)]; rfl
    · by_cases h2 : ((bL s)[i].toNat : Int) > 57
      · rw [decide_eq_false h1, decide_eq_true h2, if_neg (by omega)]; rfl
      · rw [decide_eq_false h1, decide_eq_false h2, if_pos (by omega)]
        simp only [cond_false]
        rw [wrapU8 (n := ((bL s)[i].toNat : Int) - 48) (by omega) (by omega), wrapI (n := ((bL s)[i].toNat : Int) - 48) (by omega) (by omega), wrapI (n := 10 * (n : Int)) (by omega) (by omega), wrapI (n := 10 * (n : Int) + _) (by omega) (by omega), wrapI (n := (i : Int) + 1) (by omega) (by omega)]
        have e1 : 10 * (n : Int) + (((bL s)[i].toNat : Int) - 48) = ((n * 10 + ((bL s)[i].toNat - 48) : Nat) : Int) := by omega
        rw [e1, show (i : Int) + 1 = ((i + 1 : Nat) : Int) by omega]
        exact read_loop s hs d (i + 1) _ (by omega) (by rw [Nat.pow_succ]; omega)
theorem read_ok (s : ByteArray) : s_l1Read s = some (rdL (bL s)) := by
  have hl := bL_len s
  unfold s_l1Read s_l1Read_t0 rdL
  by_cases h : 1 ≤ s.size ∧ s.size ≤ 6
  · have h1 : s_l1In (s.size : Int) 1 6 = true := by
      unfold s_l1In
      rw [decide_eq_true (by omega), decide_eq_true (by omega)]; rfl
    have h0 : 0 < (bL s).length := by omega
    have hh : (bL s).head? = some (bL s)[0] := by rw [List.head?_eq_getElem?, List.getElem?_eq_getElem h0]
    have hb : bt s 0 = ((bL s)[0].toNat : Int) := bt_get (i := 0) h0
    have lp := read_loop s h.2 (bL s).length 0 0 (by omega) (by simp)
    have lp : s_l1Read_L1 s 0 0 = some (ofDec (Lib.decFrom 0 (bL s))) := lp
    rw [h1, decide_eq_true (show (0 : Int) < (s.size : Int) by omega), hb, hh, lp]
    simp only [Bool.not_true, cond_false, cond_true]
    by_cases hz : (bL s)[0] = 48
    · rw [hz]
      have e48 : (((48 : UInt8).toNat : Int) == 48) = true := rfl
      rw [e48, cond_true]
      by_cases h2 : s.size = 1
      · rw [decide_eq_false (show ¬ (s.size : Int) > 1 by omega), cond_false, if_pos ⟨by omega, by omega, fun _ => by omega⟩]
        unfold ofDec; rfl
      · rw [decide_eq_true (show (s.size : Int) > 1 by omega), cond_true, if_neg]
        intro hc
        have := hc.2.2 rfl
        omega
    · have e48 : (((bL s)[0].toNat : Int) == 48) = false := by
        rw [beq_eq_false_iff_ne]
        intro e
        apply hz
        apply UInt8.toNat_inj.1
        have : (48 : UInt8).toNat = 48 := rfl
        omega
      rw [e48, cond_false, if_pos ⟨by omega, by omega, fun e => absurd (Option.some.inj e) hz⟩]
      unfold ofDec; rfl
  · have h1 : s_l1In (s.size : Int) 1 6 = false := by
      unfold s_l1In
      by_cases h2 : (s.size : Int) ≥ 1
      · rw [decide_eq_true h2, cond_true, decide_eq_false (by omega)]
      · rw [decide_eq_false h2]; rfl
    rw [h1, if_neg (by omega)]; rfl
theorem num_eq {s : ByteArray} (hs : s.size ≤ 281474976710656) : i_num s = some (numL (bL s)) := by
  unfold i_num strconv_Atoi atoiF
  rw [if_pos hs, Option.bind_some]
  unfold atoiV numL
  cases ha : Lib.atoiAll (bL s) with
  | ok v =>
    simp only [Bool.not_true, cond_false]
    by_cases h1 : v < 0
    · rw [decide_eq_true h1, cond_true, if_neg (by omega)]
    · by_cases h2 : v > 999999
      · rw [decide_eq_false h1, decide_eq_true h2, cond_false, cond_true, if_neg (by omega)]
      · rw [decide_eq_false h1, decide_eq_false h2, cond_false, cond_false]
        unfold strconv_Itoa itoaF
        rw [if_pos (by omega), Option.bind_some]
        have e1 : ByteArray.toList (⟨(Lib.itoa v).toArray⟩ : ByteArray) = Lib.itoa v := by rw [ByteArray.toList_eq]
        have e2 : ByteArray.toList s = bL s := ByteArray.toList_eq s
        rw [e1, e2]
        by_cases h3 : Lib.itoa v = bL s
        · rw [if_pos ⟨by omega, by omega, h3⟩, h3, beq_self_eq_true]; rfl
        · rw [if_neg (fun c => h3 c.2.2), show (Lib.itoa v == bL s) = false from beq_eq_false_iff_ne.2 h3]; rfl
  | _ => rfl
/-! ### texts split -/
def spl (c : UInt8) : List UInt8 → List (List UInt8)
  | [] => [[]]
  | b :: r => if b = c then [] :: spl c r else match spl c r with | h :: t => (b :: h) :: t | [] => [[b]]
theorem spl_ne (c : UInt8) : ∀ l : List UInt8, spl c l ≠ []
  | [] => by simp [spl]
  | b :: r => by
    unfold spl
    split
    · simp
    · split <;> simp
theorem spl_join (c : UInt8) : ∀ l : List UInt8, Lib.join (spl c l) [c] = l
  | [] => rfl
  | b :: r => by
    have ih := spl_join c r
    unfold spl
    by_cases h : b = c
    · rw [if_pos h, h]
      cases hs : spl c r with
      | nil => exact absurd hs (spl_ne c r)
      | cons x t =>
        rw [hs, Lib.join_cons] at ih
        rw [Lib.join_cons]
        simp [Lib.joinTail] at ih ⊢
        exact ih
    · rw [if_neg h]
      cases hs : spl c r with
      | nil => exact absurd hs (spl_ne c r)
      | cons x t =>
        rw [hs, Lib.join_cons] at ih
        simp only
        rw [Lib.join_cons, List.cons_append, ih]
/-- a piece without the byte, then the byte -/
theorem spl_piece (c : UInt8) : ∀ (p r : List UInt8), c ∉ p → spl c (p ++ c :: r) = p :: spl c r
  | [], r, _ => by simp [spl]
  | b :: p, r, h => by
    have hb : ¬ b = c := fun e => h (by rw [e]; exact List.mem_cons_self)
    have ih := spl_piece c p r (fun m => h (List.mem_cons_of_mem _ m))
    rw [List.cons_append]
    conv => lhs; unfold spl
    rw [if_neg hb, ih]
theorem spl_last (c : UInt8) : ∀ p : List UInt8, c ∉ p → spl c p = [p]
  | [], _ => rfl
  | b :: p, h => by
    have hb : ¬ b = c := fun e => h (by rw [e]; exact List.mem_cons_self)
    have ih := spl_last c p (fun m => h (List.mem_cons_of_mem _ m))
    unfold spl
    rw [if_neg hb, ih]
theorem split_spl (c : UInt8) : ∀ l : List UInt8, Lib.splitK [c] 0 (Lib.count l [c]) l = spl c l
  | [] => by
    have h : Lib.count [] [c] = 0 := by rw [Lib.count_one]; rfl
    rw [h]; rfl
  | b :: r => by
    have ih := split_spl c r
    by_cases h : b = c
    · subst h
      have hix : Lib.index (b :: r) [b] = 0 := by rw [Lib.index]; simp [List.isPrefixOf]
      rw [Lib.count_cons_eq, Nat.add_comm, Lib.splitK, hix]
      unfold spl
      rw [if_pos rfl, ← ih]
      simp
    · rw [Lib.count_cons_ne b c r h]
      unfold spl
      rw [if_neg h, ← ih]
      have hp : ([c] : List UInt8).isPrefixOf (b :: r) = false := by simp [List.isPrefixOf, Ne.symm h]
      have hix : Lib.index (b :: r) [c] = if Lib.index r [c] == -1 then -1 else Lib.index r [c] + 1 := by rw [Lib.index, hp]; simp
      cases hk : Lib.count r [c] with
      | zero => rfl
      | succ k =>
        by_cases hm : Lib.index r [c] = -1
        · have := Lib.count_miss hm
          omega
        · have hge := Lib.index_ge r [c]
          obtain ⟨j, hj⟩ : ∃ j : Nat, Lib.index r [c] = j := ⟨(Lib.index r [c]).toNat, by omega⟩
          have hne : (Lib.index r [c] == -1) = false := beq_eq_false_iff_ne.2 hm
          have hne2 : (((j : Int) + 1) == -1) = false := beq_eq_false_iff_ne.2 (by omega)
          have hne3 : ((j : Int) == -1) = false := beq_eq_false_iff_ne.2 (by omega)
          rw [Lib.splitK, Lib.splitK, hix, hne]
          simp only [Bool.false_eq_true, if_false, hj, hne2, hne3]
          have e1 : ((j : Int) + 1).toNat = j + 1 := by omega
          rw [e1, Int.toNat_natCast]
          simp [Nat.add_comm]
          rw [Nat.add_comm 1 (j + 1)]
          rfl
theorem split_ok {s : ByteArray} (hs : s.size < 4294967281) (c : UInt8) : ∃ ps : List ByteArray, strings_Split s ⟨#[c]⟩ = some ps ∧ ps.map bL = spl c (bL s) := by
  unfold strings_Split splitF
  have h1 : (⟨#[c]⟩ : ByteArray).size = 1 := rfl
  rw [if_pos ⟨hs, by omega⟩]
  exact ⟨_, rfl, (Lib.splitB_data _ _ _ _).trans (split_spl c (bL s))⟩
theorem bt_eq {s : ByteArray} {i : Nat} (h : i < (bL s).length) (c : UInt8) : (bt s (i : Int) == ((c.toNat : Nat) : Int)) = decide ((bL s)[i] = c) := by
  rw [bt_get h]
  by_cases e : (bL s)[i] = c
  · rw [e, decide_eq_true rfl, beq_self_eq_true]
  · rw [decide_eq_false e, beq_eq_false_iff_ne]
    intro k
    exact e (UInt8.toNat_inj.1 (by omega))
theorem ext_bL (s : ByteArray) (a b : Nat) : bL (s.extract a b) = ((bL s).drop a).take (b - a) := Lib.extract_data s a b
/-- the reference's splitting -/
theorem l1Split_loop (s : ByteArray) (hs : s.size ≤ 2000000) (c : UInt8) : ∀ (d i f : Nat) (r : List ByteArray), i + d = (bL s).length → f ≤ i → c ∉ ((bL s).drop f).take (i - f) → r.length ≤ i →
    ∃ ps : List ByteArray, s_l1Split_L1 r s ((c.toNat : Nat) : Int) (f : Int) (i : Int) = some (r ++ ps) ∧ ps.map bL = spl c ((bL s).drop f)
  | 0, i, f, r, h, hf, hc, hr => by
    have hl := bL_len s
    refine ⟨[s.extract f s.size], ?_, ?_⟩
    · rw [s_l1Split_u1, s_l1Split_t1, decide_eq_false (by omega), cond_false, decide_eq_true (Int.natCast_nonneg f), decide_eq_true (show (f : Int) ≤ (s.size : Int) by omega), ble_dec, decide_eq_true (by omega), Int.toNat_natCast, Int.toNat_natCast]
      rfl
    · have e : ((bL s).drop f).take (i - f) = (bL s).drop f := List.take_of_length_le (by rw [List.length_drop]; omega)
      rw [e] at hc
      rw [spl_last c _ hc, List.map_cons, List.map_nil, ext_bL]
      congr 1
      exact List.take_of_length_le (by rw [List.length_drop]; omega)
  | d + 1, i, f, r, h, hf, hc, hr => by
    have hl := bL_len s
    have hi : i < (bL s).length := by omega
    have hsplit : (bL s).drop f = ((bL s).drop f).take (i - f) ++ (bL s)[i] :: (bL s).drop (i + 1) := by
      have e := List.take_append_drop (i - f) ((bL s).drop f)
      rw [List.drop_drop, show f + (i - f) = i by omega, List.drop_eq_getElem_cons hi] at e
      exact e.symm
    rw [s_l1Split_u1, s_l1Split_t1, decide_eq_true (show (i : Int) < (s.size : Int) by omega), decide_eq_true (Int.natCast_nonneg i), bt_eq hi, decide_eq_true (show (i : Int) ≤ (s.size : Int) by omega), decide_eq_true (Int.natCast_nonneg f), decide_eq_true (show (f : Int) ≤ (i : Int) by omega), ble_dec, decide_eq_true (show r.length + 1 ≤ 4294967296 by omega), wrapI (n := (i : Int) + 1) (by omega) (by omega), Int.toNat_natCast, Int.toNat_natCast, show (i : Int) + 1 = ((i + 1 : Nat) : Int) by omega]
    simp only [cond_true]
    by_cases e : (bL s)[i] = c
    · rw [decide_eq_true e, cond_true]
      obtain ⟨ps, h1, h2⟩ := l1Split_loop s hs c d (i + 1) (i + 1) (r ++ [s.extract f i]) (by omega) (Nat.le_refl _) (by simp) (by simp; omega)
      refine ⟨s.extract f i :: ps, ?_, ?_⟩
      · rw [h1, List.append_assoc]; rfl
      · rw [List.map_cons, h2, ext_bL, hsplit, e, spl_piece c _ _ hc]
        congr 1
        rw [← e, ← hsplit]
    · rw [decide_eq_false e, cond_false]
      refine l1Split_loop s hs c d (i + 1) f r (by omega) (by omega) ?_ (by omega)
      rw [hsplit, show i + 1 - f = (i - f) + 1 by omega]
      intro m
      rw [List.take_append, List.mem_append] at m
      rcases m with m | m
      · exact hc (List.mem_of_mem_take m)
      · have hlen : (((bL s).drop f).take (i - f)).length = i - f := by rw [List.length_take, List.length_drop]; omega
        rw [hlen, show i - f + 1 - (i - f) = 1 by omega] at m
        simp at m
        exact e m.symm
theorem l1Split_ok {s : ByteArray} (hs : s.size ≤ 2000000) (c : UInt8) : ∃ ps : List ByteArray, s_l1Split s ((c.toNat : Nat) : Int) = some ps ∧ ps.map bL = spl c (bL s) := by
  unfold s_l1Split s_l1Split_t0
  obtain ⟨ps, h1, h2⟩ := l1Split_loop s hs c (bL s).length 0 0 [] (by omega) (Nat.le_refl _) (by simp) (Nat.le_refl _)
  exact ⟨ps, h1, h2⟩
/-! ### numbers between -/
theorem spl_len (c : UInt8) : ∀ (l : List UInt8), (∀ x, x ∈ spl c l → x.length ≤ l.length) ∧ (spl c l).length ≤ l.length + 1
  | [] => by simp [spl]
  | b :: r => by
    obtain ⟨h1, h2⟩ := spl_len c r
    unfold spl
    by_cases h : b = c
    · rw [if_pos h]
      refine ⟨fun x hx => ?_, by simp only [List.length_cons]; omega⟩
      rcases List.mem_cons.1 hx with e | e
      · subst e; simp
      · have := h1 x e; simp only [List.length_cons]; omega
    · rw [if_neg h]
      cases hs : spl c r with
      | nil => exact absurd hs (spl_ne c r)
      | cons y t =>
        rw [hs] at h1 h2
        simp only
        refine ⟨fun x hx => ?_, by simp only [List.length_cons] at h2 ⊢; omega⟩
        rcases List.mem_cons.1 hx with e | e
        · subst e; have := h1 y (by simp); simp only [List.length_cons]; omega
        · have := h1 x (List.mem_cons_of_mem _ e); simp only [List.length_cons]; omega
theorem pieces_bd {s : ByteArray} {c : UInt8} {ps : List ByteArray} (h : ps.map bL = spl c (bL s)) : (∀ p, p ∈ ps → p.size ≤ s.size) ∧ ps.length ≤ s.size + 1 := by
  obtain ⟨h1, h2⟩ := spl_len c (bL s)
  have e : ps.length = (spl c (bL s)).length := by rw [← h, List.length_map]
  rw [bL_len] at h1 h2
  refine ⟨fun p hp => ?_, by omega⟩
  have := h1 (bL p) (by rw [← h]; exact List.mem_map_of_mem hp)
  rw [bL_len] at this; exact this
abbrev rd (p : ByteArray) : Int := rdL (bL p)
abbrev okP (p : ByteArray) : Bool := decide (0 ≤ rd p)
theorem rdL_bd (l : List UInt8) : -1 ≤ rdL l ∧ rdL l ≤ 999999 := by
  by_cases h : rdL l = -1
  · omega
  · obtain ⟨v, h1, _, h3⟩ := rdL_inv h; omega
theorem rd_text {p : ByteArray} (h : 0 ≤ rd p) : Lib.itoa (rd p) = bL p := by
  obtain ⟨v, h1, h2, h3⟩ := rdL_inv (l := bL p) (by unfold rd at h; omega)
  unfold rd
  rw [h3, itoa_nat, h2]
theorem nums_ok {s : ByteArray} (hs : s.size ≤ 2000000) (c : UInt8) : ∃ ps : List ByteArray, ps.map bL = spl c (bL s) ∧ i_nums s ⟨#[c]⟩ = some (bif ps.all okP then (ps.map rd, true) else ([], false)) := by
  obtain ⟨ps, h1, h2⟩ := split_ok (s := s) (by omega) c
  obtain ⟨b1, b2⟩ := pieces_bd h2
  refine ⟨ps, h2, ?_⟩
  unfold i_nums i_nums_t0
  rw [h1, Option.bind_some]
  have main : ∀ (d i : Nat), i + d = ps.length → i_nums_L1 ((ps.take i).map rd) ps (ps.length : Int) (i : Int) = some (bif (ps.drop i).all okP then (ps.map rd, true) else ([], false)) := by
    intro d
    induction d with
    | zero =>
      intro i hi
      have hi : i = ps.length := by omega
      subst hi
      rw [i_nums_u1, i_nums_t1, decide_eq_false (by omega), cond_false, List.take_length, List.drop_length]; rfl
    | succ d ih =>
      intro i hi
      have hil : i < ps.length := by omega
      have hb := b1 ps[i] (List.getElem_mem hil)
      have hh := ih (i + 1) (by omega)
      rw [List.take_add_one, List.getElem?_eq_getElem hil, List.map_append] at hh
      rw [i_nums_u1, i_nums_t1, decide_eq_true (show (i : Int) < ps.length by omega), decide_eq_true (Int.natCast_nonneg i), rdk_get (k := kstring) hil, num_eq (by omega), numL_eq, wrapS hil (by rw [maxLen_eq]; omega), ble_dec, decide_eq_true (by rw [List.length_map, List.length_take]; omega), List.drop_eq_getElem_cons hil, List.all_cons]
      simp only [cond_true, Option.bind_some]
      by_cases hn : rd ps[i] < 0
      · rw [decide_eq_true hn, show okP ps[i] = false from decide_eq_false (by omega)]; rfl
      · rw [decide_eq_false hn, show okP ps[i] = true from decide_eq_true (by omega)]
        exact hh
  exact main ps.length 0 (by omega)
/-! ### numerals and pieces, put together and read back -/
theorem dec_mem : ∀ (u : Nat) (b : UInt8), b ∈ Lib.decDigits u → ∃ m, m < 10 ∧ b = UInt8.ofNat (48 + m) := by
  intro u
  induction u using Nat.strongRecOn with
  | _ u ih =>
    intro b h
    rw [Lib.decDigits] at h
    by_cases h1 : u < 10
    · rw [dif_pos h1, List.mem_singleton] at h
      exact ⟨u, h1, h⟩
    · rw [dif_neg h1, List.mem_append, List.mem_singleton] at h
      rcases h with h | h
      · exact ih (u / 10) (by omega) b h
      · exact ⟨u % 10, by omega, h⟩
theorem itoa_no {n : Int} (h0 : 0 ≤ n) {c : UInt8} (hc : ∀ m, m < 10 → c ≠ UInt8.ofNat (48 + m)) : c ∉ Lib.itoa n := by
  obtain ⟨m, rfl⟩ := Int.eq_ofNat_of_zero_le h0
  rw [itoa_nat]
  intro hm
  obtain ⟨d, h1, h2⟩ := dec_mem m c hm
  exact hc d h1 h2
theorem no46 : ∀ m, m < 10 → (46 : UInt8) ≠ UInt8.ofNat (48 + m) := by decide
theorem no44 : ∀ m, m < 10 → (44 : UInt8) ≠ UInt8.ofNat (48 + m) := by decide
theorem rdL_itoa {n : Int} (h0 : 0 ≤ n) (h1 : n ≤ 999999) : rdL (Lib.itoa n) = n := by
  obtain ⟨m, rfl⟩ := Int.eq_ofNat_of_zero_le h0
  rw [itoa_nat]
  exact rdL_of (by omega) rfl
theorem itoa_ne {n : Int} (h0 : 0 ≤ n) : Lib.itoa n ≠ [] := by
  obtain ⟨m, rfl⟩ := Int.eq_ofNat_of_zero_le h0
  rw [itoa_nat]
  exact dec_ne m
theorem spl_of_join (c : UInt8) : ∀ (p : List UInt8) (ps : List (List UInt8)), (∀ q, q ∈ p :: ps → c ∉ q) → spl c (Lib.join (p :: ps) [c]) = p :: ps
  | p, [], h => by rw [Lib.join_one]; exact spl_last c p (h p (by simp))
  | p, q :: r, h => by
    have ih := spl_of_join c q r (fun x hx => h x (List.mem_cons_of_mem _ hx))
    have e : Lib.join (p :: q :: r) [c] = p ++ c :: Lib.join (q :: r) [c] := by
      rw [Lib.join_cons, Lib.join_cons]; simp [Lib.joinTail]
    rw [e, spl_piece c p _ (h p (by simp)), ih]
/-! ### texts cut at a byte -/
theorem cut_spl (c : UInt8) : ∀ l : List UInt8, Lib.cut l [c] = match spl c l with | [] => (l, [], false) | [_] => (l, [], false) | a :: r => (a, Lib.join r [c], true)
  | [] => rfl
  | b :: r => by
    have ih := cut_spl c r
    unfold spl
    by_cases h : b = c
    · subst h
      have hix : Lib.index (b :: r) [b] = 0 := by rw [Lib.index]; simp [List.isPrefixOf]
      rw [if_pos rfl]
      have hj := spl_join b r
      cases hs : spl b r with
      | nil => exact absurd hs (spl_ne b r)
      | cons x t =>
        rw [hs] at hj
        unfold Lib.cut
        rw [hix]
        simp [hj]
    · rw [if_neg h]
      have hp : ([c] : List UInt8).isPrefixOf (b :: r) = false := by simp [List.isPrefixOf, Ne.symm h]
      have hix : Lib.index (b :: r) [c] = if Lib.index r [c] == -1 then -1 else Lib.index r [c] + 1 := by rw [Lib.index, hp]; simp
      have hge := Lib.index_ge r [c]
      unfold Lib.cut at ih ⊢
      rw [hix]
      by_cases hm : Lib.index r [c] = -1
      · rw [hm] at ih ⊢
        simp only [beq_self_eq_true, if_true] at ih ⊢
        rw [if_neg (by omega)] at ih ⊢
        cases hs : spl c r with
        | nil => exact absurd hs (spl_ne c r)
        | cons x t =>
          rw [hs] at ih
          cases t with
          | nil => rfl
          | cons y t => simp at ih
      · obtain ⟨j, hj⟩ : ∃ j : Nat, Lib.index r [c] = j := ⟨(Lib.index r [c]).toNat, by omega⟩
        rw [hj] at ih ⊢
        have hne : (((j : Nat) : Int) == -1) = false := beq_eq_false_iff_ne.2 (by omega)
        rw [hne]
        simp only [Bool.false_eq_true, if_false]
        rw [if_pos (by omega)] at ih ⊢
        rw [show ((j : Int) + 1).toNat = j + 1 from by omega]
        rw [Int.toNat_natCast] at ih
        cases hs : spl c r with
        | nil => exact absurd hs (spl_ne c r)
        | cons x t =>
          rw [hs] at ih
          cases t with
          | nil => simp at ih
          | cons y t =>
            simp only [Prod.mk.injEq, and_true] at ih
            simp only [List.take_succ_cons]
            rw [ih.1]
            refine Prod.ext rfl (Prod.ext ?_ rfl)
            simp only
            rw [← ih.2, show j + 1 + ([c] : List UInt8).length = (j + ([c] : List UInt8).length) + 1 from by omega, List.drop_succ_cons]
theorem cut_none {c : UInt8} {l : List UInt8} (h : c ∉ l) : Lib.cut l [c] = (l, [], false) := by
  rw [cut_spl, spl_last c l h]
theorem cut_at {c : UInt8} {a r : List UInt8} (h : c ∉ a) : Lib.cut (a ++ c :: r) [c] = (a, r, true) := by
  have hj := spl_join c r
  rw [cut_spl, spl_piece c a r h]
  cases hs : spl c r with
  | nil => exact absurd hs (spl_ne c r)
  | cons x t => rw [hs] at hj; simp only; rw [hj]
/-- what a text cut tells -/
theorem cut_inv {c : UInt8} {l a r : List UInt8} {f : Bool} (h : Lib.cut l [c] = (a, r, f)) : (f = true ∧ l = a ++ c :: r ∧ c ∉ a) ∨ (f = false ∧ a = l ∧ r = [] ∧ c ∉ l) := by
  by_cases hc : c ∈ l
  · left
    obtain ⟨s, t, rfl⟩ := List.append_of_mem hc
    have : ∀ (s t : List UInt8), ∃ s' t', s ++ c :: t = s' ++ c :: t' ∧ c ∉ s' := by
      intro s
      induction s with
      | nil => intro t; exact ⟨[], t, rfl, by simp⟩
      | cons x s ih =>
        intro t
        by_cases hx : x = c
        · subst hx; exact ⟨[], s ++ x :: t, rfl, by simp⟩
        · obtain ⟨s', t', h1, h2⟩ := ih t
          exact ⟨x :: s', t', by rw [List.cons_append, h1]; rfl, by simp only [List.mem_cons, not_or]; exact ⟨fun e => hx e.symm, h2⟩⟩
    obtain ⟨s', t', h1, h2⟩ := this s t
    rw [h1, cut_at h2] at h
    cases h
    exact ⟨rfl, h1, h2⟩
  · right
    rw [cut_none hc] at h
    cases h
    exact ⟨rfl, rfl, rfl, hc⟩
/-! ### stairs' texts -/
def numsT (l : List Int) : List UInt8 := Lib.join (l.map Lib.itoa) [44]
def tS (N : Int) (D B : List Int) : List UInt8 := Lib.itoa N ++ 115 :: (numsT D ++ if B = [] then [] else 120 :: numsT B)
theorem join_two (p q : List UInt8) (r : List (List UInt8)) (c : UInt8) : Lib.join (p :: q :: r) [c] = p ++ c :: Lib.join (q :: r) [c] := by
  rw [Lib.join_cons, Lib.join_cons]; simp [Lib.joinTail]
theorem numsT_no {c : UInt8} (hc : ∀ m, m < 10 → c ≠ UInt8.ofNat (48 + m)) (h44 : c ≠ 44) : ∀ {l : List Int}, (∀ x, x ∈ l → 0 ≤ x) → c ∉ numsT l
  | [], _ => by unfold numsT; simp [Lib.join]
  | [x], h => by
    unfold numsT
    rw [List.map_cons, List.map_nil, Lib.join_one]
    exact itoa_no (h x (by simp)) hc
  | x :: y :: l, h => by
    have ih := numsT_no hc h44 (l := y :: l) (fun z hz => h z (List.mem_cons_of_mem _ hz))
    have h1 := itoa_no (h x (by simp)) hc
    unfold numsT at ih ⊢
    rw [List.map_cons, List.map_cons, join_two]
    simp only [List.mem_append, List.mem_cons, not_or]
    rw [List.map_cons] at ih
    exact ⟨h1, h44, ih⟩
theorem numsT_spl {l : List Int} (hl : l ≠ []) (h : ∀ x, x ∈ l → 0 ≤ x) : spl 44 (numsT l) = l.map Lib.itoa := by
  cases l with
  | nil => exact absurd rfl hl
  | cons x l =>
    unfold numsT
    rw [List.map_cons]
    refine spl_of_join 44 _ _ (fun q hq => ?_)
    rw [← List.map_cons] at hq
    obtain ⟨z, hz, rfl⟩ := List.mem_map.1 hq
    exact itoa_no (h z hz) no44
theorem rdL_map {l : List Int} (h : ∀ x, x ∈ l → 0 ≤ x ∧ x ≤ 999999) : (l.map Lib.itoa).map rdL = l := by
  rw [List.map_map]
  have : l.map (rdL ∘ Lib.itoa) = l.map id := List.map_congr_left fun x hx => rdL_itoa (h x hx).1 (h x hx).2
  rw [this, List.map_id]
theorem rdL_inv' {x : List UInt8} (h : 0 ≤ rdL x) : Lib.itoa (rdL x) = x := by
  obtain ⟨v, h1, h2, h3⟩ := rdL_inv (l := x) (by omega)
  rw [h3, itoa_nat, h2]
/-- numbers read are the text's -/
theorem nums_back {x : List UInt8} (h : ∀ q, q ∈ spl 44 x → 0 ≤ rdL q) : numsT ((spl 44 x).map rdL) = x := by
  have e : ((spl 44 x).map rdL).map Lib.itoa = spl 44 x := by
    rw [List.map_map]
    have : (spl 44 x).map (Lib.itoa ∘ rdL) = (spl 44 x).map id := List.map_congr_left fun q hq => rdL_inv' (h q hq)
    rw [this, List.map_id]
  unfold numsT
  rw [e, spl_join]
theorem no115 : ∀ m, m < 10 → (115 : UInt8) ≠ UInt8.ofNat (48 + m) := by decide
theorem no120 : ∀ m, m < 10 → (120 : UInt8) ≠ UInt8.ofNat (48 + m) := by decide
/-- the numbers that a text stands for, if it has -/
def stR (a d b : List UInt8) (has : Bool) : Int × List Int × List Int := (rdL a, (spl 44 d).map rdL, bif has then (spl 44 b).map rdL else [])
theorem spl_map_ne (x : List UInt8) : (spl 44 x).map rdL ≠ [] := fun e => spl_ne 44 x (List.map_eq_nil_iff.1 e)
/-- parts whose numbers are none below nought are the text of their numbers -/
theorem st_text {a d b : List UInt8} {has : Bool} (ha : 0 ≤ rdL a) (hd : ∀ q, q ∈ spl 44 d → 0 ≤ rdL q) (hb : has = true → ∀ q, q ∈ spl 44 b → 0 ≤ rdL q) :
    tS (stR a d b has).1 (stR a d b has).2.1 (stR a d b has).2.2 = a ++ 115 :: (d ++ bif has then 120 :: b else []) := by
  unfold tS stR
  simp only
  rw [rdL_inv' ha, nums_back hd]
  cases has
  · simp
  · simp only [cond_true]
    rw [if_neg (spl_map_ne b), nums_back (hb rfl)]
theorem itoa1 {n : Int} (k : Nat) (h0 : 0 ≤ n) (h1 : n < 10 ^ (k + 1)) : (Lib.itoa n).length ≤ k + 1 := by
  obtain ⟨m, rfl⟩ := Int.eq_ofNat_of_zero_le h0
  rw [itoa_nat]
  exact dec_len6 k m (by exact_mod_cast h1)
/-! ### stairs' texts: their parts -/
def restT (D B : List Int) : List UInt8 := numsT D ++ if B = [] then [] else 120 :: numsT B
theorem tS_rest (N : Int) (D B : List Int) : tS N D B = Lib.itoa N ++ 115 :: restT D B := rfl
theorem tS_cut {N : Int} (hN : 0 ≤ N) (D B : List Int) : Lib.cut (tS N D B) [115] = (Lib.itoa N, restT D B, true) := by
  rw [tS_rest]
  exact cut_at (itoa_no hN no115)
theorem rest_no {D B : List Int} (hD : ∀ x, x ∈ D → 0 ≤ x) (hB : ∀ x, x ∈ B → 0 ≤ x) : (115 : UInt8) ∉ restT D B := by
  unfold restT
  have h1 := numsT_no no115 (by decide) hD
  have h2 := numsT_no no115 (by decide) hB
  rw [List.mem_append, not_or]
  refine ⟨h1, ?_⟩
  split
  · simp
  · simp only [List.mem_cons, not_or]; exact ⟨by decide, h2⟩
theorem tS_spl {N : Int} (hN : 0 ≤ N) {D B : List Int} (hD : ∀ x, x ∈ D → 0 ≤ x) (hB : ∀ x, x ∈ B → 0 ≤ x) : spl 115 (tS N D B) = [Lib.itoa N, restT D B] := by
  rw [tS_rest, spl_piece 115 _ _ (itoa_no hN no115), spl_last 115 _ (rest_no hD hB)]
theorem rest_cut {D : List Int} (hD : ∀ x, x ∈ D → 0 ≤ x) (B : List Int) : Lib.cut (restT D B) [120] = (numsT D, (if B = [] then [] else numsT B), !decide (B = [])) := by
  have h1 := numsT_no no120 (by decide) hD
  unfold restT
  by_cases hb : B = []
  · rw [if_pos hb, if_pos hb, decide_eq_true hb, List.append_nil, cut_none h1]; rfl
  · rw [if_neg hb, if_neg hb, decide_eq_false hb, cut_at h1]; rfl
theorem rest_spl {D B : List Int} (hD : ∀ x, x ∈ D → 0 ≤ x) (hB : ∀ x, x ∈ B → 0 ≤ x) : spl 120 (restT D B) = if B = [] then [numsT D] else [numsT D, numsT B] := by
  have h1 := numsT_no no120 (by decide) hD
  have h2 := numsT_no no120 (by decide) hB
  unfold restT
  by_cases hb : B = []
  · rw [if_pos hb, if_pos hb, List.append_nil, spl_last 120 _ h1]
  · rw [if_neg hb, if_neg hb, spl_piece 120 _ _ h1, spl_last 120 _ h2]
theorem numsT_len {c : Nat} {l : List Int} (h : ∀ x, x ∈ l → (Lib.itoa x).length ≤ c) : (numsT l).length ≤ (c + 1) * l.length := by
  unfold numsT
  have h1 := join_len [44] (l.map Lib.itoa)
  have h2 := lens_le (c := c) (xs := l.map Lib.itoa) (fun x hx => by
    obtain ⟨n, hn, rfl⟩ := List.mem_map.1 hx
    exact h n hn)
  rw [List.length_map] at h1 h2
  simp only [List.length_singleton, Nat.one_mul] at h1
  rw [Nat.add_mul, Nat.one_mul]; omega
theorem tS_len {N : Int} {D B : List Int} (h0 : 0 ≤ N ∧ N ≤ 99) (hd : D.length ≤ 5) (hD : ∀ x, x ∈ D → 0 ≤ x ∧ x ≤ 9) (hb : B.length ≤ 59) (hB : ∀ x, x ∈ B → 0 ≤ x ∧ x ≤ 99) : (tS N D B).length ≤ 200 := by
  have a := itoa1 1 h0.1 (by simp; omega)
  have b := numsT_len (c := 1) (l := D) (fun x hx => itoa1 0 (hD x hx).1 (by have := (hD x hx).2; simp; omega))
  have d := numsT_len (c := 2) (l := B) (fun x hx => itoa1 1 (hB x hx).1 (by have := (hB x hx).2; simp; omega))
  rw [tS_rest]
  unfold restT
  have e1 : (1 + 1) * D.length ≤ (1 + 1) * 5 := Nat.mul_le_mul_left _ hd
  have e2 : (2 + 1) * B.length ≤ (2 + 1) * 59 := Nat.mul_le_mul_left _ hb
  simp only [List.length_append, List.length_cons]
  split
  · simp only [List.length_nil]; omega
  · simp only [List.length_cons]; omega
/-! ### texts of stairs, read back -/
theorem no_in_nums {c : UInt8} (hc : ∀ m, m < 10 → c ≠ UInt8.ofNat (48 + m)) (h44 : c ≠ 44) {x : List UInt8} (h : ∀ q, q ∈ spl 44 x → 0 ≤ rdL q) : c ∉ x := by
  rw [← nums_back h]
  exact numsT_no hc h44 (fun y hy => by
    obtain ⟨q, hq, rfl⟩ := List.mem_map.1 hy
    exact h q hq)
theorem stR_reads {a d b : List UInt8} {has : Bool} (hg : s_clGood (stR a d b has).1 (stR a d b has).2.1 (stR a d b has).2.2 = true) :
    0 ≤ rdL a ∧ (∀ q, q ∈ spl 44 d → 0 ≤ rdL q) ∧ (has = true → ∀ q, q ∈ spl 44 b → 0 ≤ rdL q) := by
  obtain ⟨N, hN, G⟩ := goodS_of hg
  refine ⟨?_, fun q hq => ?_, fun hh q hq => ?_⟩
  · have : rdL a = N := hN
    omega
  · have := G.db (rdL q) (List.mem_map.2 ⟨q, hq, rfl⟩); omega
  · subst hh
    have := G.bb (rdL q) (List.mem_map.2 ⟨q, hq, rfl⟩); omega
theorem good_len {N : Nat} {D B : List Int} (G : GoodS N D B) : (tS (N : Int) D B).length ≤ 200 := by
  have h1 := G.n1
  have h2 := G.n2
  have hb := rise_len B 1 ((N : Int) - 1) G.bp G.bb (by omega)
  exact tS_len (by omega) G.d2 (fun x hx => by have := G.db x hx; omega) (by omega) (fun x hx => by have := G.bb x hx; omega)
structure Parts (t a r d b : List UInt8) (has : Bool) : Prop where
  c1 : Lib.cut t [115] = (a, r, true)
  c2 : Lib.cut r [120] = (d, b, has)
theorem Parts.spl1 {t a r d b : List UInt8} {has : Bool} (P : Parts t a r d b has) : spl 115 t = a :: spl 115 r := by
  rcases cut_inv P.c1 with ⟨-, rfl, h⟩ | ⟨h, -⟩
  · exact spl_piece 115 a r h
  · cases h
theorem Parts.spl2 {t a r d b : List UInt8} {has : Bool} (P : Parts t a r d b has) : spl 120 r = if has = true then d :: spl 120 b else [d] := by
  rcases cut_inv P.c2 with ⟨rfl, rfl, h⟩ | ⟨rfl, rfl, rfl, h⟩
  · rw [if_pos rfl]; exact spl_piece 120 d b h
  · rw [if_neg (by simp)]; exact spl_last 120 _ h
/-- parts that stand for good stairs: the text is theirs -/
theorem Parts.good {t a r d b : List UInt8} {has : Bool} (P : Parts t a r d b has) (hg : s_clGood (stR a d b has).1 (stR a d b has).2.1 (stR a d b has).2.2 = true) :
    tS (stR a d b has).1 (stR a d b has).2.1 (stR a d b has).2.2 = t ∧ t.length ≤ 200 ∧ (115 : UInt8) ∉ r ∧ (has = true → (120 : UInt8) ∉ b) := by
  obtain ⟨h1, h2, h3⟩ := stR_reads hg
  have hd := no_in_nums no115 (by decide) h2
  have ht : tS (stR a d b has).1 (stR a d b has).2.1 (stR a d b has).2.2 = t := by
    rw [st_text h1 h2 h3]
    rcases cut_inv P.c1 with ⟨-, rfl, -⟩ | ⟨h, -⟩
    · rcases cut_inv P.c2 with ⟨rfl, rfl, -⟩ | ⟨rfl, rfl, rfl, -⟩
      · rfl
      · simp
    · cases h
  refine ⟨ht, ?_, ?_, fun hh => no_in_nums no120 (by decide) (h3 hh)⟩
  · obtain ⟨N, hN, G⟩ := goodS_of hg
    have := good_len G
    rw [hN] at ht
    rw [← ht]; exact this
  · rcases cut_inv P.c2 with ⟨rfl, rfl, -⟩ | ⟨rfl, rfl, rfl, -⟩
    · have hb := no_in_nums no115 (by decide) (h3 rfl)
      rw [List.mem_append, List.mem_cons]
      rintro (h | h | h)
      · exact hd h
      · exact absurd h (by decide)
      · exact hb h
    · exact hd
/-- the parts of the text of good stairs -/
theorem good_parts {N : Nat} {D B : List Int} (G : GoodS N D B) : ∃ r b, Parts (tS (N : Int) D B) (Lib.itoa N) r (numsT D) b (!decide (B = [])) ∧ stR (Lib.itoa N) (numsT D) b (!decide (B = [])) = ((N : Int), D, B) := by
  have h1 := G.n1
  have h2 := G.n2
  have hD : ∀ x, x ∈ D → 0 ≤ x ∧ x ≤ 999999 := fun x hx => by have := G.db x hx; omega
  have hB : ∀ x, x ∈ B → 0 ≤ x ∧ x ≤ 999999 := fun x hx => by have := G.bb x hx; omega
  have hD0 : D ≠ [] := fun e => by have := G.d1; rw [e] at this; simp at this
  have eN : rdL (Lib.itoa (N : Int)) = N := by
    have := rdL_map (l := [(N : Int)]) (fun x hx => by rw [List.mem_singleton] at hx; omega)
    simpa using this
  have eD : (spl 44 (numsT D)).map rdL = D := by rw [numsT_spl hD0 (fun x hx => (hD x hx).1), rdL_map hD]
  refine ⟨restT D B, if B = [] then [] else numsT B, ⟨tS_cut (by omega) D B, rest_cut (fun x hx => (hD x hx).1) B⟩, ?_⟩
  unfold stR
  rw [eN, eD]
  by_cases c : B = []
  · rw [c]; rfl
  · rw [decide_eq_false c, if_neg c, numsT_spl c (fun x hx => (hB x hx).1), rdL_map hB]; rfl
theorem parts_uniq {t a r d b a' r' d' b' : List UInt8} {has has' : Bool} (P : Parts t a r d b has) (Q : Parts t a' r' d' b' has') : a = a' ∧ r = r' ∧ d = d' ∧ b = b' ∧ has = has' := by
  have h1 := P.c1.symm.trans Q.c1
  simp only [Prod.mk.injEq] at h1
  obtain ⟨rfl, rfl, -⟩ := h1
  have h2 := P.c2.symm.trans Q.c2
  simp only [Prod.mk.injEq] at h2
  exact ⟨rfl, rfl, h2.1, h2.2.1, h2.2.2⟩
/-! ### a step broken -/
noncomputable def bkN (a : Int) (b c : List Int) (k : Int) : (Int × List Int × List Int) × Bool := bif s_clGood a b c && (s_l1In k 1 (a - 1) && !decide (k ∈ c)) then ((a, b, brkL c k), true) else ((0, [], []), false)
theorem break_eq (a : Int) (b c : List Int) (k : Int) : i_BreakStep a b c k = some (bkN a b c k) ∧ s_BreakStep a b c k = some (bkN a b c k) := by
  unfold i_BreakStep s_BreakStep bkN
  rw [i_AreStairs_eq]
  cases hg : s_clGood a b c
  · exact ⟨rfl, rfl⟩
  · have hl := s_clGood_len hg
    obtain ⟨h1, h2, h3, h4⟩ := s_clGood_iff.1 hg
    have hw : IntKind.wrap .i64 (a - 1) = a - 1 := wrapI (by omega) (by omega)
    rw [hw]
    have e1 : i_within k 1 (a - 1) = s_l1In k 1 (a - 1) := by rw [i_within_inB, s_l1In_inB]
    rw [e1]
    cases hi : s_l1In k 1 (a - 1)
    · exact ⟨rfl, rfl⟩
    · unfold i_Stairs_isBroken s_l1Has_n
      rw [slices_Contains_int_eq]
      by_cases hk : k ∈ c
      · rw [decide_eq_true hk]; exact ⟨rfl, rfl⟩
      · have hcp : i_Stairs_copied a b c = some (a, b, c) := by
          unfold i_Stairs_copied slices_Clone_int_n
          rw [decide_eq_true (by omega : b.length ≤ 4294967296), decide_eq_true (by omega : c.length ≤ 4294967296)]
          rfl
        have hs : slices_Sort_int (c ++ [k]) = some (brkL c k) := by
          unfold slices_Sort_int sortIF
          rw [if_pos ⟨by rw [List.length_append]; simp; omega, by simp⟩, sort_put (rising_iff.1 h4).1 hk]
          rfl
        rw [decide_eq_false hk, hcp, clBreak_eq a (by omega) (by omega) hk]
        simp only [Bool.not_true, cond_false, Option.bind_some]
        rw [hs, show Nat.ble (c.length + 1) 4294967296 = true from (by rw [Nat.ble_eq]; omega)]
        exact ⟨rfl, rfl⟩
/-! ### turned, broken and mended again -/
theorem turn_twice {N : Nat} {D B : List Int} (G : GoodS N D B) : i_TurnStairs_n (N : Int) D (B.map fun x => (N : Int) - x).reverse = (((N : Int), D, B), true) := by
  unfold i_TurnStairs_n
  rw [good_of (turned G).1]
  have e : ((B.map fun x => (N : Int) - x).reverse.map fun x => (N : Int) - x).reverse = B := by
    rw [List.map_reverse, List.reverse_reverse, List.map_map]
    have : ((fun x : Int => (N : Int) - x) ∘ fun x : Int => (N : Int) - x) = id := by
      funext x; simp only [Function.comp, id]; omega
    rw [this, List.map_id]
  rw [e]; rfl
theorem in_iff {k a : Int} : s_l1In k 1 (a - 1) = true ↔ 1 ≤ k ∧ k ≤ a - 1 := by
  rw [l1In_inS, Bool.and_eq_true, decide_eq_true_eq, decide_eq_true_eq]
theorem bk_of {a : Int} {b c : List Int} {k : Int} (h : (bkN a b c k).2 = true) : ∃ N m : Nat, a = N ∧ k = m ∧ GoodS N b c ∧ 1 ≤ m ∧ m < N ∧ ¬ brk c m ∧ bkN a b c k = ((a, b, brkL c k), true) := by
  unfold bkN at h ⊢
  cases hc : s_clGood a b c && (s_l1In k 1 (a - 1) && !decide (k ∈ c))
  · rw [hc] at h; cases h
  · simp only [Bool.and_eq_true, in_iff, Bool.not_eq_true', decide_eq_false_iff_not] at hc
    obtain ⟨h1, ⟨h2, h3⟩, h4⟩ := hc
    obtain ⟨N, rfl, G⟩ := goodS_of h1
    obtain ⟨m, rfl⟩ : ∃ m : Nat, k = m := ⟨k.toNat, by omega⟩
    exact ⟨N, m, rfl, rfl, G, by omega, by omega, h4, rfl⟩
theorem mend_broken {a : Int} {b c : List Int} {k : Int} (h : (bkN a b c k).2 = true) : i_MendStep_n (bkN a b c k).1.1 (bkN a b c k).1.2.1 (bkN a b c k).1.2.2 k = ((a, b, c), true) := by
  obtain ⟨N, m, rfl, rfl, G, h1, h2, h3, e⟩ := bk_of h
  rw [e]
  show s_MendStep_n (N : Int) b (brkL c m) m = _
  unfold s_MendStep_n
  rw [good_of (brkL_good G h1 h2 h3).1, decide_eq_true (brkL_mem.2 (Or.inr rfl)), brkL_mend G.bp h3]; rfl
theorem break_mended {a : Int} {b c : List Int} {k : Int} (h : (i_MendStep_n a b c k).2 = true) : bkN (i_MendStep_n a b c k).1.1 (i_MendStep_n a b c k).1.2.1 (i_MendStep_n a b c k).1.2.2 k = ((a, b, c), true) := by
  have e0 : i_MendStep_n a b c k = s_MendStep_n a b c k := rfl
  rw [e0] at h ⊢
  unfold s_MendStep_n at h ⊢
  cases hc : s_clGood a b c && decide (k ∈ c)
  · rw [hc] at h; cases h
  · simp only [Bool.and_eq_true, decide_eq_true_eq] at hc
    obtain ⟨h1, h2⟩ := hc
    obtain ⟨N, rfl, G⟩ := goodS_of h1
    have hb := G.bb k h2
    have hf : k ∉ c.filter (fun y => !(y == k)) := fun h => by
      have := (List.mem_filter.1 h).2
      simp at this
    have G' : GoodS N b (c.filter fun y => !(y == k)) := ⟨G.n1, G.n2, G.d1, G.d2, G.dp, G.db, List.Pairwise.filter _ G.bp, fun x hx => G.bb x (List.mem_filter.1 hx).1⟩
    simp only [cond_true]
    unfold bkN
    rw [good_of G', in_iff.2 hb, decide_eq_false hf, mend_brkL G.bp h2]; rfl
/-! ### texts of stairs, told and read -/
theorem bsz (l : List UInt8) : (⟨l.toArray⟩ : ByteArray).size = l.length := by show l.toArray.size = _; simp
theorem bL_mk (l : List UInt8) : bL ⟨l.toArray⟩ = l := by show l.toArray.toList = l; simp
theorem ble_b {m : Nat} (h : m ≤ 1000000) : Nat.ble m 9223372036854775807 = true := by rw [Nat.ble_eq]; omega
section
variable {N : Nat} {D B : List Int}
theorem small_D (G : GoodS N D B) : SmallL D := ⟨by have := G.d2; omega, fun x hx => by have := G.db x hx; omega⟩
theorem small_B (G : GoodS N D B) : SmallL B := ⟨by have := brk_len G; omega, fun x hx => by have := G.bb x hx; have := G.n2; omega⟩
theorem txt_len (G : GoodS N D B) : (Lib.itoa (N : Int)).length ≤ 2 ∧ (numsT D).length ≤ 15 ∧ (numsT B).length ≤ 300 := by
  have h1 := G.n2
  have h2 := numsT_len (c := 2) (l := D) (fun x hx => itoa1 1 (by have := G.db x hx; omega) (by have := G.db x hx; omega))
  have h3 := numsT_len (c := 2) (l := B) (fun x hx => itoa1 1 (by have := G.bb x hx; omega) (by have := G.bb x hx; omega))
  have h4 := G.d2
  have h5 := brk_len G
  have e1 : (2 + 1) * D.length ≤ (2 + 1) * 5 := Nat.mul_le_mul_left _ h4
  have e2 : (2 + 1) * B.length ≤ (2 + 1) * 100 := Nat.mul_le_mul_left _ h5
  exact ⟨itoa1 1 (by omega) (by omega), by omega, by omega⟩
theorem stText_i (G : GoodS N D B) : i_StairsText (N : Int) D B = some (⟨(tS (N : Int) D B).toArray⟩, true) := by
  obtain ⟨l1, l2, l3⟩ := txt_len G
  have hN := G.n2
  have e115 : ({ data := #[115] } : ByteArray) = ⟨([115] : List UInt8).toArray⟩ := rfl
  have e120 : ({ data := #[120] } : ByteArray) = ⟨([120] : List UInt8).toArray⟩ := rfl
  have jD : i_joined D { data := #[44] } = some ⟨(numsT D).toArray⟩ := joined_ok (small_D G) _ (by decide)
  have jB : i_joined B { data := #[44] } = some ⟨(numsT B).toArray⟩ := joined_ok (small_B G) _ (by decide)
  unfold i_StairsText
  rw [i_AreStairs_eq, good_of G, itoa_ok (by omega) (by omega), jD, jB, e115, e120]
  simp only [Bool.not_true, cond_false, Option.bind_some]
  unfold itoaB
  simp only [bytes_app, bsz, List.length_append, List.length_cons, List.length_nil, Nat.zero_add]
  rw [ble_b (show (Lib.itoa (N : Int)).length + 1 ≤ 1000000 by omega), ble_b (show (Lib.itoa (N : Int)).length + 1 + (numsT D).length ≤ 1000000 by omega), ble_b (show 1 + (numsT B).length ≤ 1000000 by omega), ble_b (show (Lib.itoa (N : Int)).length + 1 + (numsT D).length + (1 + (numsT B).length) ≤ 1000000 by omega)]
  simp only [cond_true]
  unfold tS
  by_cases hB : B = []
  · subst hB
    rw [decide_eq_false (by simp), cond_false, if_pos rfl]
    simp
  · rw [decide_eq_true (by have := List.length_pos_iff.2 hB; omega), cond_true, if_neg hB]
    simp
theorem stText_c (G : GoodS N D B) : s_clText (N : Int) D B = some ⟨(tS (N : Int) D B).toArray⟩ := by
  obtain ⟨l1, l2, l3⟩ := txt_len G
  have hN := G.n2
  have e115 : ({ data := #[115] } : ByteArray) = ⟨([115] : List UInt8).toArray⟩ := rfl
  have e120 : ({ data := #[120] } : ByteArray) = ⟨([120] : List UInt8).toArray⟩ := rfl
  have jD : s_clList D = some ⟨(numsT D).toArray⟩ := clList_ok (small_D G)
  have jB : s_clList B = some ⟨(numsT B).toArray⟩ := clList_ok (small_B G)
  unfold s_clText
  rw [num_ok (by omega) (by omega), jD, jB, e115, e120]
  simp only [Option.bind_some]
  unfold itoaB
  simp only [bytes_app, bsz, List.length_append, List.length_cons, List.length_nil, Nat.zero_add]
  rw [ble_b (show (Lib.itoa (N : Int)).length + 1 ≤ 1000000 by omega), ble_b (show (Lib.itoa (N : Int)).length + 1 + (numsT D).length ≤ 1000000 by omega), ble_b (show 1 + (numsT B).length ≤ 1000000 by omega), ble_b (show (Lib.itoa (N : Int)).length + 1 + (numsT D).length + (1 + (numsT B).length) ≤ 1000000 by omega)]
  simp only [cond_true]
  unfold tS
  by_cases hB : B = []
  · subst hB
    rw [decide_eq_false (by simp), cond_false, if_pos rfl]
    simp
  · rw [decide_eq_true (by have := List.length_pos_iff.2 hB; omega), cond_true, if_neg hB]
    simp
theorem stText_s (G : GoodS N D B) : s_StairsText (N : Int) D B = some (⟨(tS (N : Int) D B).toArray⟩, true) := by
  unfold s_StairsText
  rw [good_of G, stText_c G]; rfl
end
theorem cut_ok {s : ByteArray} (hs : s.size ≤ 3000000) (c : UInt8) : strings_Cut s { data := #[c] } = some (⟨(Lib.cut (bL s) [c]).1.toArray⟩, ⟨(Lib.cut (bL s) [c]).2.1.toArray⟩, (Lib.cut (bL s) [c]).2.2) := by
  unfold strings_Cut cutF
  rw [if_pos (by omega)]
theorem nums44 {p : ByteArray} (hp : p.size ≤ 2000000) : i_nums p { data := #[44] } = some (bif (spl 44 (bL p)).all (fun x => decide (0 ≤ rdL x)) then ((spl 44 (bL p)).map rdL, true) else ([], false)) := by
  obtain ⟨ps, h1, h2⟩ := nums_ok hp 44
  have e44 : (⟨#[44]⟩ : ByteArray) = { data := #[44] } := rfl
  rw [e44] at h2
  rw [h2]
  rw [← h1, List.map_map, List.all_map]
  rfl
theorem clNumbers_ok {t : ByteArray} (ht : t.size ≤ 2000000) : s_clNumbers t = some ((spl 44 (bL t)).map rdL) := by
  obtain ⟨ps, h1, h2⟩ := l1Split_ok ht 44
  obtain ⟨b1, b2⟩ := pieces_bd h2
  have e : s_l1Split t 44 = some ps := h1
  unfold s_clNumbers s_clNumbers_t0
  rw [e, Option.bind_some, ← h2, List.map_map]
  have main : ∀ (d i : Nat), i + d = ps.length → s_clNumbers_L1 ((ps.take i).map rd) ps (ps.length : Int) (i : Int) = some (ps.map rd) := by
    intro d
    induction d with
    | zero =>
      intro i hi
      have hi : i = ps.length := by omega
      subst hi
      rw [s_clNumbers_u1, s_clNumbers_t1, decide_eq_false (by omega), cond_false, List.take_length]
    | succ d ih =>
      intro i hi
      have hil : i < ps.length := by omega
      have hh := ih (i + 1) (by omega)
      rw [List.take_add_one, List.getElem?_eq_getElem hil, List.map_append] at hh
      rw [s_clNumbers_u1, s_clNumbers_t1, decide_eq_true (show (i : Int) < ps.length by omega), decide_eq_true (Int.natCast_nonneg i), rdk_get (k := kstring) hil, read_ok, wrapS hil (by rw [maxLen_eq]; omega), ble_dec, decide_eq_true (by rw [List.length_map, List.length_take]; omega)]
      simp only [cond_true, Option.bind_some]
      exact hh
  exact main ps.length 0 (by omega)
theorem cut_lens {c : UInt8} {l a r : List UInt8} {f : Bool} (h : Lib.cut l [c] = (a, r, f)) : a.length ≤ l.length ∧ r.length ≤ l.length := by
  rcases cut_inv h with ⟨-, rfl, -⟩ | ⟨-, rfl, rfl, -⟩
  · simp only [List.length_append, List.length_cons]; omega
  · simp
noncomputable def parN (a d b : List UInt8) (ok has : Bool) : (Int × List Int × List Int) × Bool :=
  bif ok && s_clGood (stR a d b has).1 (stR a d b has).2.1 (stR a d b has).2.2 then (stR a d b has, true) else ((0, [], []), false)
theorem parN_not {a d b : List UInt8} {ok has : Bool} (h : s_clGood (stR a d b has).1 (stR a d b has).2.1 (stR a d b has).2.2 = true → False) : parN a d b ok has = ((0, [], []), false) := by
  unfold parN
  cases hg : s_clGood (stR a d b has).1 (stR a d b has).2.1 (stR a d b has).2.2
  · rw [Bool.and_false]; rfl
  · exact (h hg).elim
theorem parse_i {t : ByteArray} (ht : t.size ≤ 2000000) {a r d b : List UInt8} {ok has : Bool} (h1 : Lib.cut (bL t) [115] = (a, r, ok)) (h2 : Lib.cut r [120] = (d, b, has)) : i_ParseStairs t = some (parN a d b ok has) := by
  have hl := bL_len t
  obtain ⟨l1, l2⟩ := cut_lens h1
  obtain ⟨l3, l4⟩ := cut_lens h2
  unfold i_ParseStairs
  rw [cut_ok (by omega), h1]
  simp only [Option.bind_some]
  rw [cut_ok (by rw [bsz]; omega), bL_mk, h2]
  simp only [Option.bind_some]
  rw [num_eq (by rw [bsz]; omega), bL_mk, numL_eq, Option.bind_some]
  cases ok
  · rfl
  · simp only [Bool.not_true, cond_false]
    rw [nums44 (by rw [bsz]; omega), bL_mk, Option.bind_some]
    cases hd : (spl 44 d).all (fun x => decide (0 ≤ rdL x))
    · rw [parN_not (fun hg => by
        have := (stR_reads hg).2.1
        rw [List.all_eq_true.2 (fun x hx => decide_eq_true (this x hx))] at hd
        cases hd)]
      rfl
    · simp only [cond_true, Bool.not_true, cond_false]
      cases has
      · simp only [cond_false]
        unfold parN stR
        rw [i_AreStairs_eq]
        simp only [Bool.true_and, cond_false]
        cases s_clGood (rdL a) ((spl 44 d).map rdL) [] <;> rfl
      · simp only [cond_true]
        rw [nums44 (by rw [bsz]; omega), bL_mk, Option.bind_some]
        cases hb : (spl 44 b).all (fun x => decide (0 ≤ rdL x))
        · rw [parN_not (fun hg => by
            have := (stR_reads hg).2.2 rfl
            rw [List.all_eq_true.2 (fun x hx => decide_eq_true (this x hx))] at hb
            cases hb)]
          rfl
        · simp only [cond_true, Bool.not_true, cond_false]
          unfold parN stR
          rw [i_AreStairs_eq]
          simp only [Bool.true_and, cond_true]
          cases s_clGood (rdL a) ((spl 44 d).map rdL) ((spl 44 b).map rdL) <;> rfl
theorem spl_one {c : UInt8} {l : List UInt8} (h : (spl c l).length = 1) : spl c l = [l] := by
  have hj := spl_join c l
  cases hs : spl c l with
  | nil => rw [hs] at h; cases h
  | cons x r =>
    cases r with
    | nil =>
      rw [hs, Lib.join_one] at hj
      rw [hj]
    | cons y r => rw [hs] at h; simp at h
theorem map_one {ps : List ByteArray} {x : List UInt8} (h : ps.map bL = [x]) : ∃ p, ps = [p] ∧ bL p = x := by
  cases ps with
  | nil => cases h
  | cons p r =>
    rw [List.map_cons] at h
    injection h with h1 h2
    exact ⟨p, by rw [List.map_eq_nil_iff.1 h2], h1⟩
theorem map_two {ps : List ByteArray} {x y : List UInt8} (h : ps.map bL = [x, y]) : ∃ p q, ps = [p, q] ∧ bL p = x ∧ bL q = y := by
  cases ps with
  | nil => cases h
  | cons p r =>
    rw [List.map_cons] at h
    injection h with h1 h2
    obtain ⟨q, hq, e⟩ := map_one h2
    exact ⟨p, q, by rw [hq], h1, e⟩
theorem parse_s {t : ByteArray} (ht : t.size ≤ 2000000) {a r d b : List UInt8} {ok has : Bool} (h1 : Lib.cut (bL t) [115] = (a, r, ok)) (h2 : Lib.cut r [120] = (d, b, has)) : s_ParseStairs t = some (parN a d b ok has) := by
  have hl := bL_len t
  obtain ⟨l1, l2⟩ := cut_lens h1
  obtain ⟨l3, l4⟩ := cut_lens h2
  obtain ⟨ps, p1, p2⟩ := l1Split_ok ht 115
  have e1 : s_l1Split t 115 = some ps := p1
  unfold s_ParseStairs s_clParse
  rw [e1, Option.bind_some]
  cases ok
  · rcases cut_inv h1 with ⟨h, -⟩ | ⟨-, rfl, rfl, hn⟩
    · cases h
    · rw [spl_last 115 _ hn] at p2
      obtain ⟨p, rfl, hp⟩ := map_one p2
      rw [show parN _ d b false has = ((0, [], []), false) from rfl]
      cases decide ((t.size : Int) > 200) <;> rfl
  · have P : Parts (bL t) a r d b has := ⟨h1, h2⟩
    rw [P.spl1] at p2
    by_cases hz : (t.size : Int) > 200
    · rw [decide_eq_true hz, parN_not (fun hg => by have := (P.good hg).2.1; omega)]; rfl
    · rw [decide_eq_false hz, cond_false]
      by_cases hr : (spl 115 r).length = 1
      · rw [spl_one hr] at p2
        obtain ⟨x, y, rfl, hx, hy⟩ := map_two p2
        have hys : y.size ≤ 2000000 := by rw [← bL_len, hy]; omega
        obtain ⟨qs, q1, q2⟩ := l1Split_ok hys 120
        have e2 : s_l1Split y 120 = some qs := q1
        have c2 : ((([x, y] : List ByteArray).length : Int) != 2) = false := rfl
        have c3 : decide ((1 : Int) < (([x, y] : List ByteArray).length : Int)) = true := rfl
        have c4 : decide ((0 : Int) < (([x, y] : List ByteArray).length : Int)) = true := rfl
        have r1 : rdk kstring [x, y] 1 = y := rfl
        have r0 : rdk kstring [x, y] 0 = x := rfl
        rw [c2, c3, c4, r1, r0, e2, read_ok, hx]
        simp only [cond_false, cond_true, Option.bind_some]
        rw [hy, P.spl2] at q2
        cases has
        · rw [if_neg (by simp)] at q2
          obtain ⟨q, rfl, hq⟩ := map_one q2
          have hqs : q.size ≤ 2000000 := by rw [← bL_len, hq]; omega
          have d1 : decide ((([q] : List ByteArray).length : Int) > 2) = false := rfl
          have d2 : decide ((0 : Int) < (([q] : List ByteArray).length : Int)) = true := rfl
          have d3 : ((([q] : List ByteArray).length : Int) == 2) = false := rfl
          have d4 : rdk kstring [q] 0 = q := rfl
          rw [d1, d2, d3, d4, clNumbers_ok hqs, hq]
          simp only [cond_false, cond_true, Option.bind_some]
          unfold parN stR
          simp only [Bool.true_and, cond_false]
          cases s_clGood (rdL a) ((spl 44 d).map rdL) [] <;> rfl
        · rw [if_pos rfl] at q2
          by_cases hb : (spl 120 b).length = 1
          · rw [spl_one hb] at q2
            obtain ⟨q, w, rfl, hq, hw⟩ := map_two q2
            have hqs : q.size ≤ 2000000 := by rw [← bL_len, hq]; omega
            have hws : w.size ≤ 2000000 := by rw [← bL_len, hw]; omega
            have d1 : decide ((([q, w] : List ByteArray).length : Int) > 2) = false := rfl
            have d2 : decide ((0 : Int) < (([q, w] : List ByteArray).length : Int)) = true := rfl
            have d3 : ((([q, w] : List ByteArray).length : Int) == 2) = true := rfl
            have d4 : rdk kstring [q, w] 0 = q := rfl
            have d5 : rdk kstring [q, w] 1 = w := rfl
            have d6 : decide ((1 : Int) < (([q, w] : List ByteArray).length : Int)) = true := rfl
            rw [d1, d2, d3, d4, d5, d6, clNumbers_ok hqs, hq, clNumbers_ok hws, hw]
            simp only [cond_false, cond_true, Option.bind_some]
            unfold parN stR
            simp only [Bool.true_and, cond_true]
            cases s_clGood (rdL a) ((spl 44 d).map rdL) ((spl 44 b).map rdL) <;> rfl
          · rw [parN_not (fun hg => hb (by rw [spl_last 120 b ((P.good hg).2.2.2 rfl)]; rfl))]
            have hq3 : (qs.length : Int) > 2 := by
              have := congrArg List.length q2
              rw [List.length_map, List.length_cons] at this
              have h0 := List.length_pos_iff.2 (spl_ne 120 b)
              omega
            rw [decide_eq_true hq3]; rfl
      · rw [parN_not (fun hg => hr (by rw [spl_last 115 r (P.good hg).2.2.1]; rfl))]
        have hp2 : ((ps.length : Int) != 2) = true := by
          have := congrArg List.length p2
          rw [List.length_map, List.length_cons] at this
          rw [bne_iff_ne]; omega
        rw [hp2]; rfl
theorem ParseStairs_full {t : ByteArray} (ht : t.size ≤ 2000000) : ∃ r f, i_ParseStairs t = some (r, f) ∧ s_ParseStairs t = some (r, f) ∧ (r.2.1.length ≤ 100 ∧ r.2.2.length ≤ 100) ∧
    (f = true → ∃ N : Nat, r.1 = N ∧ GoodS N r.2.1 r.2.2 ∧ tS r.1 r.2.1 r.2.2 = bL t) ∧ (∀ (N : Nat) (D B : List Int), GoodS N D B → tS (N : Int) D B = bL t → r = ((N : Int), D, B) ∧ f = true) := by
  obtain ⟨a, r, ok, h1⟩ : ∃ a r ok, Lib.cut (bL t) [115] = (a, r, ok) := ⟨_, _, _, rfl⟩
  obtain ⟨d, b, has, h2⟩ : ∃ d b has, Lib.cut r [120] = (d, b, has) := ⟨_, _, _, rfl⟩
  refine ⟨(parN a d b ok has).1, (parN a d b ok has).2, parse_i ht h1 h2, parse_s ht h1 h2, ?_, ?_, ?_⟩
  · unfold parN
    cases hc : ok && s_clGood (stR a d b has).1 (stR a d b has).2.1 (stR a d b has).2.2
    · simp
    · rw [Bool.and_eq_true] at hc
      obtain ⟨N, hN, G⟩ := goodS_of hc.2
      have := G.d2
      exact ⟨by show (stR a d b has).2.1.length ≤ 100; omega, brk_len G⟩
  · unfold parN
    cases hc : ok && s_clGood (stR a d b has).1 (stR a d b has).2.1 (stR a d b has).2.2
    · intro h; cases h
    · intro _
      rw [Bool.and_eq_true] at hc
      obtain ⟨rfl, hg⟩ := hc
      obtain ⟨N, hN, G⟩ := goodS_of hg
      exact ⟨N, hN, G, (Parts.good ⟨h1, h2⟩ hg).1⟩
  · intro N D B G e
    obtain ⟨r', b', Q, hs⟩ := good_parts G
    rw [e] at Q
    have c1 := h1.symm.trans Q.c1
    simp only [Prod.mk.injEq] at c1
    obtain ⟨rfl, rfl, rfl⟩ := c1
    have c2 := h2.symm.trans Q.c2
    simp only [Prod.mk.injEq] at c2
    obtain ⟨rfl, rfl, rfl⟩ := c2
    unfold parN
    rw [hs, good_of G]
    exact ⟨rfl, rfl⟩
/-! ### lists that are compared -/
theorem lSame_self {a : List Int} (ha : a.length ≤ 100000) : w_lSame a a = some true := by
  unfold w_lSame w_lSame_t0
  rw [bne_self_eq_false, cond_false]
  refine drop_ind a (fun i l => w_lSame_L1 a a (a.length : Int) (i : Int) = some true) ?_ (fun i hi ih => ?_)
  · have : ¬ ((a.length : Int) < a.length) := by omega
    rw [w_lSame_u1, w_lSame_t1, decide_eq_false this]; rfl
  · have c1 : (i : Int) < a.length := by omega
    rw [w_lSame_u1, w_lSame_t1, decide_eq_true c1, decide_eq_true (Int.natCast_nonneg i), rdk_get (k := kint) hi, bne_self_eq_false, wrapI (n := (i : Int) + 1) (by omega) (by omega)]
    exact ih
theorem lRises_ok {a : List Int} (ha : a.length ≤ 100000) (h : ∀ i (hi : i + 1 < a.length), a[i] < a[i + 1]) : w_lRises a = some true := by
  unfold w_lRises w_lRises_t0
  have go : ∀ (d k : Nat), k + d = a.length → 1 ≤ k → w_lRises_L1 a (k : Int) = some true := by
    intro d
    induction d with
    | zero =>
      intro k hk _
      have : ¬ ((k : Int) < a.length) := by omega
      rw [w_lRises_u1, w_lRises_t1, decide_eq_false this]; rfl
    | succ d ih =>
      intro k hk h1
      obtain ⟨j, rfl⟩ : ∃ j, k = j + 1 := ⟨k - 1, by omega⟩
      have c1 : ((j + 1 : Nat) : Int) < a.length := by omega
      have c2 : (j : Int) < a.length := by omega
      have hw : IntKind.wrap .i64 (((j + 1 : Nat) : Int) - 1) = (j : Int) := by rw [wrapI (by omega) (by omega)]; omega
      have hw2 : IntKind.wrap .i64 (((j + 1 : Nat) : Int) + 1) = ((j + 1 + 1 : Nat) : Int) := by rw [wrapI (by omega) (by omega)]; omega
      have hlt := h j (by omega)
      have c3 : ¬ (a[j] ≥ a[j + 1]) := by omega
      rw [w_lRises_u1, w_lRises_t1, hw, hw2, decide_eq_true c1, decide_eq_true c2, decide_eq_true (Int.natCast_nonneg _), decide_eq_true (Int.natCast_nonneg _), rdk_get (k := kint) (by omega : j < a.length), rdk_get (k := kint) (by omega : j + 1 < a.length), decide_eq_false c3]
      exact ih (j + 1 + 1) (by omega) (by omega)
  by_cases h0 : 1 ≤ a.length
  · exact go (a.length - 1) 1 (by omega) (by omega)
  · have : ¬ ((1 : Int) < a.length) := by omega
    rw [w_lRises_u1, w_lRises_t1, decide_eq_false this]; rfl
theorem lHas_eq {a : List Int} (ha : a.length ≤ 100000) (n : Int) : w_lHas a n = some (decide (n ∈ a)) := by
  unfold w_lHas w_lHas_t0
  refine drop_ind a (fun i l => w_lHas_L1 a n (a.length : Int) (i : Int) = some (decide (n ∈ l))) ?_ (fun i hi ih => ?_)
  · have : ¬ ((a.length : Int) < a.length) := by omega
    rw [w_lHas_u1, w_lHas_t1, decide_eq_false this]; simp
  · have c1 : (i : Int) < a.length := by omega
    rw [w_lHas_u1, w_lHas_t1, decide_eq_true c1, decide_eq_true (Int.natCast_nonneg i), rdk_get (k := kint) hi, wrapI (n := (i : Int) + 1) (by omega) (by omega)]
    simp only [cond_true]
    by_cases h : a[i] = n
    · rw [show (a[i] == n) = true from beq_iff_eq.2 h, decide_eq_true (show n ∈ a[i] :: a.drop (i + 1) from by rw [h]; exact List.mem_cons_self)]; rfl
    · rw [show (a[i] == n) = false from beq_eq_false_iff_ne.2 h, cond_false]
      have e : decide (n ∈ a[i] :: a.drop (i + 1)) = decide (n ∈ a.drop (i + 1)) := decide_eq_decide.2 ⟨fun m => (List.mem_cons.1 m).resolve_left (fun e => h e.symm), fun m => List.mem_cons_of_mem _ m⟩
      rw [e]
      exact ih
theorem lStairs_self {a : Int} {b c : List Int} (hb : b.length ≤ 100000) (hc : c.length ≤ 100000) : w_lStairs a b c a b c = some true := by
  unfold w_lStairs
  rw [lSame_self hb, lSame_self hc]; simp
end Go.Proofs.YtgflffacaobkoaaGreatDoor.V
