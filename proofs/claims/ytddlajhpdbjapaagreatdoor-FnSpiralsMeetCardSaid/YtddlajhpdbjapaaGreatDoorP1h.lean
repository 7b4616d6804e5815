/- Functions of the program, as plain functions. No condition. -/
import Derived.Test.YtddlajhpdbjapaaGreatDoorP1
set_option linter.unusedVariables false
set_option linter.unusedSimpArgs false
set_option maxRecDepth 100000
namespace Go.Proofs.YtddlajhpdbjapaaGreatDoor.V
open Go Go.Ev Go.Proofs
/-! ### numbers joined -/
def itoaB (n : Int) : ByteArray := ⟨(Lib.itoa n).toArray⟩
theorem num_ok {n : Int} (h : 0 ≤ n) (h' : n ≤ 4000000000000000000) : s_l1Num_n n = some (itoaB n) := by
  unfold s_l1Num_n
  rw [decide_eq_true h, decide_eq_true h']; rfl
theorem itoa_ok {n : Int} (h : 0 ≤ n) (h' : n ≤ 4000000000000000000) : strconv_Itoa n = some (itoaB n) := by
  unfold strconv_Itoa itoaF
  rw [if_pos (by omega)]; rfl
theorem itoa_len {n : Int} (h : 0 ≤ n) (h' : n ≤ 1000000) : (Lib.itoa n).length ≤ 1000001 := by
  obtain ⟨m, rfl⟩ := Int.eq_ofNat_of_zero_le h
  rw [itoa_nat]
  have := dec_len m; omega
theorem join_snoc (sep : List UInt8) : ∀ (xs : List (List UInt8)) (y : List UInt8), Lib.join (xs ++ [y]) sep = if xs = [] then y else Lib.join xs sep ++ sep ++ y
  | [], y => by rw [if_pos rfl, List.nil_append, Lib.join_one]
  | x :: r, y => by
    rw [if_neg (by simp), List.cons_append, Lib.join_cons, Lib.join_cons]
    unfold Lib.joinTail
    simp [List.append_assoc]
theorem join_len (sep : List UInt8) (xs : List (List UInt8)) : (Lib.join xs sep).length ≤ sep.length * xs.length + Lib.lens xs := by
  cases xs with
  | nil => simp [Lib.join_nil]
  | cons x r =>
    rw [Lib.join_cons, List.length_append, Lib.joinTail_length]
    have : Lib.lens (x :: r) = x.length + Lib.lens r := by simp [Lib.lens]
    rw [this, List.length_cons, Nat.mul_succ]; omega
theorem lens_le {c : Nat} : ∀ {xs : List (List UInt8)}, (∀ x, x ∈ xs → x.length ≤ c) → Lib.lens xs ≤ c * xs.length
  | [], _ => by simp [Lib.lens]
  | x :: r, h => by
    have h1 := h x (by simp)
    have h2 := lens_le (xs := r) (fun y hy => h y (List.mem_cons_of_mem _ hy))
    have : Lib.lens (x :: r) = x.length + Lib.lens r := by simp [Lib.lens]
    rw [this, List.length_cons, Nat.mul_succ]; omega
/-- small numbers -/
structure SmallL (l : List Int) : Prop where
  len : l.length ≤ 10000
  bd : ∀ x, x ∈ l → 0 ≤ x ∧ x ≤ 1000000
theorem join_bd {l : List Int} (h : SmallL l) (sep : List UInt8) (hs : sep.length ≤ 100) : (Lib.join (l.map Lib.itoa) sep).length ≤ 140737488355328 := by
  have h1 := join_len sep (l.map Lib.itoa)
  have h2 := lens_le (c := 1000001) (xs := l.map Lib.itoa) (fun x hx => by
    obtain ⟨n, hn, rfl⟩ := List.mem_map.1 hx
    have := h.bd n hn
    exact itoa_len this.1 this.2)
  rw [List.length_map] at h1 h2
  have h3 : sep.length * l.length ≤ 100 * 10000 := Nat.mul_le_mul hs h.len
  have h4 : 1000001 * l.length ≤ 1000001 * 10000 := Nat.mul_le_mul_left _ h.len
  omega
theorem SmallL.take {l : List Int} (h : SmallL l) (i : Nat) : SmallL (l.take i) := ⟨by rw [List.length_take]; have := h.len; omega, fun x hx => h.bd x (List.mem_of_mem_take hx)⟩
/-! ### numerals -/
theorem decFrom_snoc : ∀ (l : List UInt8) (acc : Nat) (b : UInt8), Lib.decFrom acc (l ++ [b]) = (Lib.decFrom acc l).bind fun m => (Lib.digitVal b).map fun d => m * 10 + d
  | [], acc, b => by
    simp only [List.nil_append, Lib.decFrom, Option.bind_some]
    cases Lib.digitVal b <;> rfl
  | c :: l, acc, b => by
    simp only [List.cons_append, Lib.decFrom]
    cases Lib.digitVal c
    · rfl
    · exact decFrom_snoc l _ b
theorem digit_of {m : Nat} (h : m < 10) : Lib.digitVal (UInt8.ofNat (48 + m)) = some m := by
  unfold Lib.digitVal
  have e : (UInt8.ofNat (48 + m)).toNat = 48 + m := by
    rw [UInt8.toNat_ofNat']; omega
  rw [e, if_pos (by omega)]
  congr 1; omega
theorem digit_inv {b : UInt8} {d : Nat} (h : Lib.digitVal b = some d) : b = UInt8.ofNat (48 + d) ∧ d < 10 := by
  unfold Lib.digitVal at h
  split at h
  · rename_i hb
    cases h
    have e : 48 + (b.toNat - 48) = b.toNat := by omega
    rw [e]
    exact ⟨by simp, by omega⟩
  · cases h
/-- a numeral spells its number -/
theorem dec_spell : ∀ u : Nat, Lib.decFrom 0 (Lib.decDigits u) = some u := by
  intro u
  induction u using Nat.strongRecOn with
  | ind u ih =>
    rw [Lib.decDigits]
    by_cases h : u < 10
    · rw [dif_pos h]
      simp only [Lib.decFrom, digit_of h]
      congr 1; omega
    · rw [dif_neg h, decFrom_snoc, ih (u / 10) (by omega), Option.bind_some, digit_of (Nat.mod_lt u (by omega))]
      simp only [Option.map_some]
      congr 1; omega
theorem dec_ne (u : Nat) : Lib.decDigits u ≠ [] := by
  rw [Lib.decDigits]
  by_cases h : u < 10
  · rw [dif_pos h]; simp
  · rw [dif_neg h]; simp
theorem dec_head : ∀ u : Nat, 0 < u → (Lib.decDigits u).head? ≠ some 48 := by
  intro u
  induction u using Nat.strongRecOn with
  | ind u ih =>
    intro h0
    rw [Lib.decDigits]
    by_cases h : u < 10
    · rw [dif_pos h]
      simp only [List.head?_cons]
      intro e
      have e := Option.some.inj e
      have := congrArg UInt8.toNat e
      rw [UInt8.toNat_ofNat'] at this
      have e48 : (48 : UInt8).toNat = 48 := rfl
      omega
    · rw [dif_neg h, List.head?_append]
      have := ih (u / 10) (by omega) (by omega)
      cases hd : (Lib.decDigits (u / 10)).head? with
      | none => exact absurd (List.head?_eq_none_iff.1 hd) (dec_ne _)
      | some x => rw [hd] at this; simpa using this
theorem dec_len6 (k : Nat) : ∀ u : Nat, u < 10 ^ (k + 1) → (Lib.decDigits u).length ≤ k + 1 := by
  induction k with
  | zero =>
    intro u h
    rw [Lib.decDigits, dif_pos (by simpa using h)]; simp
  | succ k ih =>
    intro u h
    rw [Lib.decDigits]
    by_cases h1 : u < 10
    · rw [dif_pos h1]; simp
    · rw [dif_neg h1, List.length_append, List.length_singleton]
      have := ih (u / 10) (by rw [Nat.pow_succ] at h; omega)
      omega
/-- digits without a zero ahead are their number's numeral -/
theorem dec_of : ∀ (l : List UInt8) (n : Nat), l ≠ [] → (l.head? = some 48 → l.length = 1) → Lib.decFrom 0 l = some n → Lib.decDigits n = l := by
  intro l
  induction hk : l.length using Nat.strongRecOn generalizing l with
  | ind k ih =>
    intro n hne hz hd
    obtain ⟨b, l', rfl⟩ : ∃ b l', l = l' ++ [b] := ⟨l.getLast hne, l.dropLast, (List.dropLast_concat_getLast hne).symm⟩
    rw [decFrom_snoc] at hd
    cases hm : Lib.decFrom 0 l' with
    | none => rw [hm] at hd; cases hd
    | some m =>
      rw [hm, Option.bind_some] at hd
      cases hb : Lib.digitVal b with
      | none => rw [hb] at hd; cases hd
      | some d =>
        rw [hb, Option.map_some] at hd
        have hd := Option.some.inj hd
        obtain ⟨rfl, hd9⟩ := digit_inv hb
        by_cases h0 : l' = []
        · subst h0
          have hm : some 0 = some m := hm
          have hm := Option.some.inj hm
          have : n = d := by omega
          subst this
          rw [Lib.decDigits, dif_pos hd9]; rfl
        · have hz' : l'.head? ≠ some 48 := fun e => by
            have h1 := hz (by rw [List.head?_append, e]; rfl)
            have h2 : l'.length + 1 = k := by rw [← hk]; simp
            have h3 : l'.length ≠ 0 := fun e => h0 (List.eq_nil_of_length_eq_zero e)
            omega
          have e := ih l'.length (by rw [← hk]; simp) l' rfl m h0 (fun e => absurd e hz') hm
          have hm0 : 0 < m := by
            rcases Nat.eq_zero_or_pos m with q | q
            · subst q
              rw [← e] at hz'
              exact absurd (by rw [Lib.decDigits, dif_pos (by omega)]; rfl) hz'
            · exact q
          have e1 : n / 10 = m := by omega
          have e2 : n % 10 = d := by omega
          rw [Lib.decDigits, dif_neg (by omega), e1, e2, e]
theorem decFrom_lt : ∀ (l : List UInt8) (acc n : Nat), Lib.decFrom acc l = some n → n < (acc + 1) * 10 ^ l.length
  | [], acc, n, h => by simp only [Lib.decFrom] at h; have := Option.some.inj h; simp; omega
  | b :: l, acc, n, h => by
    simp only [Lib.decFrom] at h
    cases hb : Lib.digitVal b with
    | none => rw [hb] at h; cases h
    | some d =>
      rw [hb] at h
      have h9 := (digit_inv hb).2
      have := decFrom_lt l _ n h
      have h2 : (acc * 10 + d + 1) * 10 ^ l.length ≤ ((acc + 1) * 10) * 10 ^ l.length := Nat.mul_le_mul_right _ (by omega)
      rw [List.length_cons, Nat.pow_succ, Nat.mul_comm (10 ^ l.length) 10, ← Nat.mul_assoc]
      omega
/-- what the reference reads -/
def rdL (l : List UInt8) : Int :=
  if 1 ≤ l.length ∧ l.length ≤ 6 ∧ (l.head? = some 48 → l.length = 1) then (match Lib.decFrom 0 l with | some n => (n : Int) | none => -1) else -1
theorem rdL_of {l : List UInt8} {v : Nat} (hv : v ≤ 999999) (h : Lib.decDigits v = l) : rdL l = v := by
  subst h
  unfold rdL
  have h1 := dec_len6 5 v (by omega)
  have h2 : 1 ≤ (Lib.decDigits v).length := Nat.pos_of_ne_zero (fun e => dec_ne v (List.eq_nil_of_length_eq_zero e))
  have h3 : (Lib.decDigits v).head? = some 48 → (Lib.decDigits v).length = 1 := fun e => by
    rcases Nat.eq_zero_or_pos v with q | q
    · subst q; rw [Lib.decDigits, dif_pos (by omega)]; rfl
    · exact absurd e (dec_head v q)
  rw [if_pos ⟨h2, h1, h3⟩, dec_spell]
theorem rdL_inv {l : List UInt8} (h : rdL l ≠ -1) : ∃ v : Nat, v ≤ 999999 ∧ Lib.decDigits v = l ∧ rdL l = v := by
  unfold rdL at h ⊢
  split at h
  · rename_i hc
    rw [if_pos hc]
    cases hd : Lib.decFrom 0 l with
    | none => rw [hd] at h; exact absurd rfl h
    | some n =>
      have hlt := decFrom_lt l 0 n hd
      have hp : 10 ^ l.length ≤ 10 ^ 6 := Nat.pow_le_pow_right (by omega) hc.2.1
      refine ⟨n, by omega, dec_of l n (fun e => by rw [e] at hc; simp at hc) hc.2.2 hd, rfl⟩
  · exact absurd rfl h
/-- what the program reads -/
def numL (l : List UInt8) : Int := match Lib.atoiAll l with | .ok v => if 0 ≤ v ∧ v ≤ 999999 ∧ Lib.itoa v = l then v else -1 | _ => -1
theorem atoi_dec {v : Nat} (hv : v ≤ 999999) : Lib.atoiAll (Lib.decDigits v) = .ok (v : Int) := by
  have h1 := dec_len6 5 v (by omega)
  rw [Lib.atoiAll_short _ (by omega)]
  have hs := dec_spell v
  have hne := dec_ne v
  cases hl : Lib.decDigits v with
  | nil => exact absurd hl hne
  | cons b r =>
    rw [hl] at hs
    have hb : ∃ d, Lib.digitVal b = some d := by
      simp only [Lib.decFrom] at hs
      cases hd : Lib.digitVal b with
      | none => rw [hd] at hs; cases hs
      | some d => exact ⟨d, rfl⟩
    obtain ⟨d, hd⟩ := hb
    obtain ⟨rfl, h9⟩ := digit_inv hd
    have e : (UInt8.ofNat (48 + d)).toNat = 48 + d := by rw [UInt8.toNat_ofNat']; omega
    have n1 : (UInt8.ofNat (48 + d) == 45) = false := by
      rw [beq_eq_false_iff_ne]; intro k; have := congrArg UInt8.toNat k; rw [e] at this; have e45 : (45 : UInt8).toNat = 45 := rfl; omega
    have n2 : (UInt8.ofNat (48 + d) == 43) = false := by
      rw [beq_eq_false_iff_ne]; intro k; have := congrArg UInt8.toNat k; rw [e] at this; have e43 : (43 : UInt8).toNat = 43 := rfl; omega
    unfold Lib.atoi
    simp only [n1, n2, Bool.false_eq_true, if_false]
    unfold Lib.decNat
    simp only [List.isEmpty_cons, Bool.false_eq_true, if_false]
    rw [hs]; rfl
theorem numL_eq (l : List UInt8) : numL l = rdL l := by
  by_cases h : rdL l = -1
  · rw [h]
    unfold numL
    cases ha : Lib.atoiAll l with
    | ok v =>
      simp only
      by_cases hc : 0 ≤ v ∧ v ≤ 999999 ∧ Lib.itoa v = l
      · obtain ⟨n, rfl⟩ := Int.eq_ofNat_of_zero_le hc.1
        have := rdL_of (l := l) (v := n) (by omega) (by rw [← hc.2.2, itoa_nat])
        omega
      · rw [if_neg hc]
    | _ => rfl
  · obtain ⟨v, h1, h2, h3⟩ := rdL_inv h
    rw [h3]
    unfold numL
    rw [← h2, atoi_dec h1]
    simp only
    rw [if_pos ⟨by omega, by omega, itoa_nat v⟩]
/-! ### numbers read -/
abbrev bL (s : ByteArray) : List UInt8 := s.data.toList
theorem bL_len (s : ByteArray) : (bL s).length = s.size := by
  show s.data.toList.length = s.data.size
  rw [Array.length_toList]
theorem bt_get {s : ByteArray} {i : Nat} (h : i < (bL s).length) : bt s (i : Int) = ((bL s)[i].toNat : Int) := by
  unfold bt
  rw [Int.toNat_natCast, List.getD_eq_getElem?_getD, List.getElem?_eq_getElem h]; rfl
theorem bL_inj {a b : ByteArray} (h : bL a = bL b) : a = b := by
  obtain ⟨⟨x⟩⟩ := a
  obtain ⟨⟨y⟩⟩ := b
  have h : x = y := h
  rw [h]
def ofDec : Option Nat → Int | some n => (n : Int) | none => -1
theorem read_loop (s : ByteArray) (hs : s.size ≤ 6) : ∀ (d i n : Nat), i + d = (bL s).length → n < 10 ^ i → s_l1Read_L1 s (n : Int) (i : Int) = some (ofDec (Lib.decFrom n ((bL s).drop i)))
  | 0, i, n, h, hn => by
    have hl := bL_len s
    rw [s_l1Read_u1, s_l1Read_t1, decide_eq_false (by omega), cond_false, List.drop_of_length_le (by omega)]; rfl
  | d + 1, i, n, h, hn => by
    have hl := bL_len s
    have hi : i < (bL s).length := by omega
    have hp : 10 ^ i ≤ 10 ^ 6 := Nat.pow_le_pow_right (by omega) (by omega)
    rw [s_l1Read_u1, s_l1Read_t1, decide_eq_true (show (i : Int) < (s.size : Int) by omega), decide_eq_true (Int.natCast_nonneg i), bt_get hi, List.drop_eq_getElem_cons hi]
    simp only [cond_true, Lib.decFrom]
    unfold Lib.digitVal
    by_cases h1 : ((bL s)[i].toNat : Int) < 48
    · rw [decide_eq_true h1, if_neg (by omega)]; rfl
    · by_cases h2 : ((bL s)[i].toNat : Int) > 57
      · rw [decide_eq_false h1, decide_eq_true h2, if_neg (by omega)]; rfl
      · rw [decide_eq_false h1, decide_eq_false h2, if_pos (by omega)]
        simp only [cond_false]
        rw [wrapU8 (n := ((bL s)[i].toNat : Int) - 48) (by omega) (by omega), wrapI (n := ((bL s)[i].toNat : Int) - 48) (by omega) (by omega), wrapI (n := 10 * (n : Int)) (by omega) (by omega), wrapI (n := 10 * (n : Int) + _) (by omega) (by omega), wrapI (n := (i : Int) + 1) (by omega) (by omega)]
        have e1 : 10 * (n : Int) + (((bL s)[i].toNat : Int) - 48) = ((n * 10 + ((bL s)[i].toNat - 48) : Nat) : Int) := by omega
        rw [e1, show (i : Int) + 1 = ((i + 1 : Nat) : Int) by omega]
        exact read_loop s hs d (i + 1) _ (by omega) (by rw [Nat.pow_succ]; omega)
theorem read_ok (s : ByteArray) : s_l1Read s = some (rdL (bL s)) := by
  have hl := bL_len s
  unfold s_l1Read s_l1Read_t0 rdL
  by_cases h : 1 ≤ s.size ∧ s.size ≤ 6
  · have h1 : s_l1In (s.size : Int) 1 6 = true := by
      unfold s_l1In
      rw [decide_eq_true (by omega), decide_eq_true (by omega)]; rfl
    have h0 : 0 < (bL s).length := by omega
    have hh : (bL s).head? = some (bL s)[0] := by rw [List.head?_eq_getElem?, List.getElem?_eq_getElem h0]
    have hb : bt s 0 = ((bL s)[0].toNat : Int) := bt_get (i := 0) h0
    have lp := read_loop s h.2 (bL s).length 0 0 (by omega) (by simp)
    have lp : s_l1Read_L1 s 0 0 = some (ofDec (Lib.decFrom 0 (bL s))) := lp
    rw [h1, decide_eq_true (show (0 : Int) < (s.size : Int) by omega), hb, hh, lp]
    simp only [Bool.not_true, cond_false, cond_true]
    by_cases hz : (bL s)[0] = 48
    · rw [hz]
      have e48 : (((48 : UInt8).toNat : Int) == 48) = true := rfl
      rw [e48, cond_true]
      by_cases h2 : s.size = 1
      · rw [decide_eq_false (show ¬ (s.size : Int) > 1 by omega), cond_false, if_pos ⟨by omega, by omega, fun _ => by omega⟩]
        unfold ofDec; rfl
      · rw [decide_eq_true (show (s.size : Int) > 1 by omega), cond_true, if_neg]
        intro hc
        have := hc.2.2 rfl
        omega
    · have e48 : (((bL s)[0].toNat : Int) == 48) = false := by
        rw [beq_eq_false_iff_ne]
        intro e
        apply hz
        apply UInt8.toNat_inj.1
        have : (48 : UInt8).toNat = 48 := rfl
        omega
      rw [e48, cond_false, if_pos ⟨by omega, by omega, fun e => absurd (Option.some.inj e) hz⟩]
      unfold ofDec; rfl
  · have h1 : s_l1In (s.size : Int) 1 6 = false := by
      unfold s_l1In
      by_cases h2 : (s.size : Int) ≥ 1
      · rw [decide_eq_true h2, cond_true, decide_eq_false (by omega)]
      · rw [decide_eq_false h2]; rfl
    rw [h1, if_neg (by omega)]; rfl
theorem num_eq {s : ByteArray} (hs : s.size ≤ 281474976710656) : i_num s = some (numL (bL s)) := by
  unfold i_num strconv_Atoi atoiF
  rw [if_pos hs, Option.bind_some]
  unfold atoiV numL
  cases ha : Lib.atoiAll (bL s) with
  | ok v =>
    simp only [Bool.not_true, cond_false]
    by_cases h1 : v < 0
    · rw [decide_eq_true h1, cond_true, if_neg (by omega)]
    · by_cases h2 : v > 999999
      · rw [decide_eq_false h1, decide_eq_true h2, cond_false, cond_true, if_neg (by omega)]
      · rw [decide_eq_false h1, decide_eq_false h2, cond_false, cond_false]
        unfold strconv_Itoa itoaF
        rw [if_pos (by omega), Option.bind_some]
        have e1 : ByteArray.toList (⟨(Lib.itoa v).toArray⟩ : ByteArray) = Lib.itoa v := by rw [ByteArray.toList_eq]
        have e2 : ByteArray.toList s = bL s := ByteArray.toList_eq s
        rw [e1, e2]
        by_cases h3 : Lib.itoa v = bL s
        · rw [if_pos ⟨by omega, by omega, h3⟩, h3, beq_self_eq_true]; rfl
        · rw [if_neg (fun c => h3 c.2.2), show (Lib.itoa v == bL s) = false from beq_eq_false_iff_ne.2 h3]; rfl
  | _ => rfl
/-! ### texts split -/
def spl (c : UInt8) : List UInt8 → List (List UInt8)
  | [] => [[]]
  | b :: r => if b = c then [] :: spl c r else match spl c r with | h :: t => (b :: h) :: t | [] => [[b]]
theorem spl_ne (c : UInt8) : ∀ l : List UInt8, spl c l ≠ []
  | [] => by simp [spl]
  | b :: r => by
    unfold spl
    split
    · simp
    · split <;> simp
theorem spl_join (c : UInt8) : ∀ l : List UInt8, Lib.join (spl c l) [c] = l
  | [] => rfl
  | b :: r => by
    have ih := spl_join c r
    unfold spl
    by_cases h : b = c
    · rw [if_pos h, h]
      cases hs : spl c r with
      | nil => exact absurd hs (spl_ne c r)
      | cons x t =>
        rw [hs, Lib.join_cons] at ih
        rw [Lib.join_cons]
        simp [Lib.joinTail] at ih ⊢
        exact ih
    · rw [if_neg h]
      cases hs : spl c r with
      | nil => exact absurd hs (spl_ne c r)
      | cons x t =>
        rw [hs, Lib.join_cons] at ih
        simp only
        rw [Lib.join_cons, List.cons_append, ih]
/-- a piece without the byte, then the byte -/
theorem spl_piece (c : UInt8) : ∀ (p r : List UInt8), c ∉ p → spl c (p ++ c :: r) = p :: spl c r
  | [], r, _ => by simp [spl]
  | b :: p, r, h => by
    have hb : ¬ b = c := fun e => h (by rw [e]; exact List.mem_cons_self)
    have ih := spl_piece c p r (fun m => h (List.mem_cons_of_mem _ m))
    rw [List.cons_append]
    conv => lhs; unfold spl
    rw [if_neg hb, ih]
theorem spl_last (c : UInt8) : ∀ p : List UInt8, c ∉ p → spl c p = [p]
  | [], _ => rfl
  | b :: p, h => by
    have hb : ¬ b = c := fun e => h (by rw [e]; exact List.mem_cons_self)
    have ih := spl_last c p (fun m => h (List.mem_cons_of_mem _ m))
    unfold spl
    rw [if_neg hb, ih]
theorem split_spl (c : UInt8) : ∀ l : List UInt8, Lib.splitK [c] 0 (Lib.count l [c]) l = spl c l
  | [] => by
    have h : Lib.count [] [c] = 0 := by rw [Lib.count_one]; rfl
    rw [h]; rfl
  | b :: r => by
    have ih := split_spl c r
    by_cases h : b = c
    · subst h
      have hix : Lib.index (b :: r) [b] = 0 := by rw [Lib.index]; simp [List.isPrefixOf]
      rw [Lib.count_cons_eq, Nat.add_comm, Lib.splitK, hix]
      unfold spl
      rw [if_pos rfl, ← ih]
      simp
    · rw [Lib.count_cons_ne b c r h]
      unfold spl
      rw [if_neg h, ← ih]
      have hp : ([c] : List UInt8).isPrefixOf (b :: r) = false := by simp [List.isPrefixOf, Ne.symm h]
      have hix : Lib.index (b :: r) [c] = if Lib.index r [c] == -1 then -1 else Lib.index r [c] + 1 := by rw [Lib.index, hp]; simp
      cases hk : Lib.count r [c] with
      | zero => rfl
      | succ k =>
        by_cases hm : Lib.index r [c] = -1
        · have := Lib.count_miss hm
          omega
        · have hge := Lib.index_ge r [c]
          obtain ⟨j, hj⟩ : ∃ j : Nat, Lib.index r [c] = j := ⟨(Lib.index r [c]).toNat, by omega⟩
          have hne : (Lib.index r [c] == -1) = false := beq_eq_false_iff_ne.2 hm
          have hne2 : (((j : Int) + 1) == -1) = false := beq_eq_false_iff_ne.2 (by omega)
          have hne3 : ((j : Int) == -1) = false := beq_eq_false_iff_ne.2 (by omega)
          rw [Lib.splitK, Lib.splitK, hix, hne]
          simp only [Bool.false_eq_true, if_false, hj, hne2, hne3]
          have e1 : ((j : Int) + 1).toNat = j + 1 := by omega
          rw [e1, Int.toNat_natCast]
          simp [Nat.add_comm]
          rw [Nat.add_comm 1 (j + 1)]
          rfl
theorem bt_eq {s : ByteArray} {i : Nat} (h : i < (bL s).length) (c : UInt8) : (bt s (i : Int) == ((c.toNat : Nat) : Int)) = decide ((bL s)[i] = c) := by
  rw [bt_get h]
  by_cases e : (bL s)[i] = c
  · rw [e, decide_eq_true rfl, beq_self_eq_true]
  · rw [decide_eq_false e, beq_eq_false_iff_ne]
    intro k
    exact e (UInt8.toNat_inj.1 (by omega))
theorem ext_bL (s : ByteArray) (a b : Nat) : bL (s.extract a b) = ((bL s).drop a).take (b - a) := Lib.extract_data s a b
/-- the reference's splitting -/
theorem l1Split_loop (s : ByteArray) (hs : s.size ≤ 2000000) (c : UInt8) : ∀ (d i f : Nat) (r : List ByteArray), i + d = (bL s).length → f ≤ i → c ∉ ((bL s).drop f).take (i - f) → r.length ≤ i →
    ∃ ps : List ByteArray, s_l1Split_L1 r s ((c.toNat : Nat) : Int) (f : Int) (i : Int) = some (r ++ ps) ∧ ps.map bL = spl c ((bL s).drop f)
  | 0, i, f, r, h, hf, hc, hr => by
    have hl := bL_len s
    refine ⟨[s.extract f s.size], ?_, ?_⟩
    · rw [s_l1Split_u1, s_l1Split_t1, decide_eq_false (by omega), cond_false, decide_eq_true (Int.natCast_nonneg f), decide_eq_true (show (f : Int) ≤ (s.size : Int) by omega), ble_dec, decide_eq_true (by omega), Int.toNat_natCast, Int.toNat_natCast]
      rfl
    · have e : ((bL s).drop f).take (i - f) = (bL s).drop f := List.take_of_length_le (by rw [List.length_drop]; omega)
      rw [e] at hc
      rw [spl_last c _ hc, List.map_cons, List.map_nil, ext_bL]
      congr 1
      exact List.take_of_length_le (by rw [List.length_drop]; omega)
  | d + 1, i, f, r, h, hf, hc, hr => by
    have hl := bL_len s
    have hi : i < (bL s).length := by omega
    have hsplit : (bL s).drop f = ((bL s).drop f).take (i - f) ++ (bL s)[i] :: (bL s).drop (i + 1) := by
      have e := List.take_append_drop (i - f) ((bL s).drop f)
      rw [List.drop_drop, show f + (i - f) = i by omega, List.drop_eq_getElem_cons hi] at e
      exact e.symm
    rw [s_l1Split_u1, s_l1Split_t1, decide_eq_true (show (i : Int) < (s.size : Int) by omega), decide_eq_true (Int.natCast_nonneg i), bt_eq hi, decide_eq_true (show (i : Int) ≤ (s.size : Int) by omega), decide_eq_true (Int.natCast_nonneg f), decide_eq_true (show (f : Int) ≤ (i : Int) by omega), ble_dec, decide_eq_true (show r.length + 1 ≤ 4294967296 by omega), wrapI (n := (i : Int) + 1) (by omega) (by omega), Int.toNat_natCast, Int.toNat_natCast, show (i : Int) + 1 = ((i + 1 : Nat) : Int) by omega]
    simp only [cond_true]
    by_cases e : (bL s)[i] = c
    · rw [decide_eq_true e, cond_true]
      obtain ⟨ps, h1, h2⟩ := l1Split_loop s hs c d (i + 1) (i + 1) (r ++ [s.extract f i]) (by omega) (Nat.le_refl _) (by simp) (by simp; omega)
      refine ⟨s.extract f i :: ps, ?_, ?_⟩
      · rw [h1, List.append_assoc]; rfl
      · rw [List.map_cons, h2, ext_bL, hsplit, e, spl_piece c _ _ hc]
        congr 1
        rw [← e, ← hsplit]
    · rw [decide_eq_false e, cond_false]
      refine l1Split_loop s hs c d (i + 1) f r (by omega) (by omega) ?_ (by omega)
      rw [hsplit, show i + 1 - f = (i - f) + 1 by omega]
      intro m
      rw [List.take_append, List.mem_append] at m
      rcases m with m | m
      · exact hc (List.mem_of_mem_take m)
      · have hlen : (((bL s).drop f).take (i - f)).length = i - f := by rw [List.length_take, List.length_drop]; omega
        rw [hlen, show i - f + 1 - (i - f) = 1 by omega] at m
        simp at m
        exact e m.symm
theorem l1Split_ok {s : ByteArray} (hs : s.size ≤ 2000000) (c : UInt8) : ∃ ps : List ByteArray, s_l1Split s ((c.toNat : Nat) : Int) = some ps ∧ ps.map bL = spl c (bL s) := by
  unfold s_l1Split s_l1Split_t0
  obtain ⟨ps, h1, h2⟩ := l1Split_loop s hs c (bL s).length 0 0 [] (by omega) (Nat.le_refl _) (by simp) (Nat.le_refl _)
  exact ⟨ps, h1, h2⟩
/-! ### numbers between -/
theorem spl_len (c : UInt8) : ∀ (l : List UInt8), (∀ x, x ∈ spl c l → x.length ≤ l.length) ∧ (spl c l).length ≤ l.length + 1
  | [] => by simp [spl]
  | b :: r => by
    obtain ⟨h1, h2⟩ := spl_len c r
    unfold spl
    by_cases h : b = c
    · rw [if_pos h]
      refine ⟨fun x hx => ?_, by simp only [List.length_cons]; omega⟩
      rcases List.mem_cons.1 hx with e | e
      · subst e; simp
      · have := h1 x e; simp only [List.length_cons]; omega
    · rw [if_neg h]
      cases hs : spl c r with
      | nil => exact absurd hs (spl_ne c r)
      | cons y t =>
        rw [hs] at h1 h2
        simp only
        refine ⟨fun x hx => ?_, by simp only [List.length_cons] at h2 ⊢; omega⟩
        rcases List.mem_cons.1 hx with e | e
        · subst e; have := h1 y (by simp); simp only [List.length_cons]; omega
        · have := h1 x (List.mem_cons_of_mem _ e); simp only [List.length_cons]; omega
theorem pieces_bd {s : ByteArray} {c : UInt8} {ps : List ByteArray} (h : ps.map bL = spl c (bL s)) : (∀ p, p ∈ ps → p.size ≤ s.size) ∧ ps.length ≤ s.size + 1 := by
  obtain ⟨h1, h2⟩ := spl_len c (bL s)
  have e : ps.length = (spl c (bL s)).length := by rw [← h, List.length_map]
  rw [bL_len] at h1 h2
  refine ⟨fun p hp => ?_, by omega⟩
  have := h1 (bL p) (by rw [← h]; exact List.mem_map_of_mem hp)
  rw [bL_len] at this; exact this
abbrev rd (p : ByteArray) : Int := rdL (bL p)
abbrev okP (p : ByteArray) : Bool := decide (0 ≤ rd p)
theorem rdL_bd (l : List UInt8) : -1 ≤ rdL l ∧ rdL l ≤ 999999 := by
  by_cases h : rdL l = -1
  · omega
  · obtain ⟨v, h1, _, h3⟩ := rdL_inv h; omega
theorem rd_text {p : ByteArray} (h : 0 ≤ rd p) : Lib.itoa (rd p) = bL p := by
  obtain ⟨v, h1, h2, h3⟩ := rdL_inv (l := bL p) (by unfold rd at h; omega)
  unfold rd
  rw [h3, itoa_nat, h2]
/-! ### numerals and pieces, put together and read back -/
theorem dec_mem : ∀ (u : Nat) (b : UInt8), b ∈ Lib.decDigits u → ∃ m, m < 10 ∧ b = UInt8.ofNat (48 + m) := by
  intro u
  induction u using Nat.strongRecOn with
  | _ u ih =>
    intro b h
    rw [Lib.decDigits] at h
    by_cases h1 : u < 10
    · rw [dif_pos h1, List.mem_singleton] at h
      exact ⟨u, h1, h⟩
    · rw [dif_neg h1, List.mem_append, List.mem_singleton] at h
      rcases h with h | h
      · exact ih (u / 10) (by omega) b h
      · exact ⟨u % 10, by omega, h⟩
theorem itoa_no {n : Int} (h0 : 0 ≤ n) {c : UInt8} (hc : ∀ m, m < 10 → c ≠ UInt8.ofNat (48 + m)) : c ∉ Lib.itoa n := by
  obtain ⟨m, rfl⟩ := Int.eq_ofNat_of_zero_le h0
  rw [itoa_nat]
  intro hm
  obtain ⟨d, h1, h2⟩ := dec_mem m c hm
  exact hc d h1 h2
theorem no46 : ∀ m, m < 10 → (46 : UInt8) ≠ UInt8.ofNat (48 + m) := by decide
theorem no44 : ∀ m, m < 10 → (44 : UInt8) ≠ UInt8.ofNat (48 + m) := by decide
theorem rdL_itoa {n : Int} (h0 : 0 ≤ n) (h1 : n ≤ 999999) : rdL (Lib.itoa n) = n := by
  obtain ⟨m, rfl⟩ := Int.eq_ofNat_of_zero_le h0
  rw [itoa_nat]
  exact rdL_of (by omega) rfl
theorem itoa_ne {n : Int} (h0 : 0 ≤ n) : Lib.itoa n ≠ [] := by
  obtain ⟨m, rfl⟩ := Int.eq_ofNat_of_zero_le h0
  rw [itoa_nat]
  exact dec_ne m
theorem spl_of_join (c : UInt8) : ∀ (p : List UInt8) (ps : List (List UInt8)), (∀ q, q ∈ p :: ps → c ∉ q) → spl c (Lib.join (p :: ps) [c]) = p :: ps
  | p, [], h => by rw [Lib.join_one]; exact spl_last c p (h p (by simp))
  | p, q :: r, h => by
    have ih := spl_of_join c q r (fun x hx => h x (List.mem_cons_of_mem _ hx))
    have e : Lib.join (p :: q :: r) [c] = p ++ c :: Lib.join (q :: r) [c] := by
      rw [Lib.join_cons, Lib.join_cons]; simp [Lib.joinTail]
    rw [e, spl_piece c p _ (h p (by simp)), ih]
/-! ### texts cut at a byte -/
theorem cut_spl (c : UInt8) : ∀ l : List UInt8, Lib.cut l [c] = match spl c l with | [] => (l, [], false) | [_] => (l, [], false) | a :: r => (a, Lib.join r [c], true)
  | [] => rfl
  | b :: r => by
    have ih := cut_spl c r
    unfold spl
    by_cases h : b = c
    · subst h
      have hix : Lib.index (b :: r) [b] = 0 := by rw [Lib.index]; simp [List.isPrefixOf]
      rw [if_pos rfl]
      have hj := spl_join b r
      cases hs : spl b r with
      | nil => exact absurd hs (spl_ne b r)
      | cons x t =>
        rw [hs] at hj
        unfold Lib.cut
        rw [hix]
        simp [hj]
    · rw [if_neg h]
      have hp : ([c] : List UInt8).isPrefixOf (b :: r) = false := by simp [List.isPrefixOf, Ne.symm h]
      have hix : Lib.index (b :: r) [c] = if Lib.index r [c] == -1 then -1 else Lib.index r [c] + 1 := by rw [Lib.index, hp]; simp
      have hge := Lib.index_ge r [c]
      unfold Lib.cut at ih ⊢
      rw [hix]
      by_cases hm : Lib.index r [c] = -1
      · rw [hm] at ih ⊢
        simp only [beq_self_eq_true, if_true] at ih ⊢
        rw [if_neg (by omega)] at ih ⊢
        cases hs : spl c r with
        | nil => exact absurd hs (spl_ne c r)
        | cons x t =>
          rw [hs] at ih
          cases t with
          | nil => rfl
          | cons y t => simp at ih
      · obtain ⟨j, hj⟩ : ∃ j : Nat, Lib.index r [c] = j := ⟨(Lib.index r [c]).toNat, by omega⟩
        rw [hj] at ih ⊢
        have hne : (((j : Nat) : Int) == -1) = false := beq_eq_false_iff_ne.2 (by omega)
        rw [hne]
        simp only [Bool.false_eq_true, if_false]
        rw [if_pos (by omega)] at ih ⊢
        rw [show ((j : Int) + 1).toNat = j + 1 from by omega]
        rw [Int.toNat_natCast] at ih
        cases hs : spl c r with
        | nil => exact absurd hs (spl_ne c r)
        | cons x t =>
          rw [hs] at ih
          cases t with
          | nil => simp at ih
          | cons y t =>
            simp only [Prod.mk.injEq, and_true] at ih
            simp only [List.take_succ_cons]
            rw [ih.1]
            refine Prod.ext rfl (Prod.ext ?_ rfl)
            simp only
            rw [← ih.2, show j + 1 + ([c] : List UInt8).length = (j + ([c] : List UInt8).length) + 1 from by omega, List.drop_succ_cons]
theorem cut_none {c : UInt8} {l : List UInt8} (h : c ∉ l) : Lib.cut l [c] = (l, [], false) := by
  rw [cut_spl, spl_last c l h]
theorem cut_at {c : UInt8} {a r : List UInt8} (h : c ∉ a) : Lib.cut (a ++ c :: r) [c] = (a, r, true) := by
  have hj := spl_join c r
  rw [cut_spl, spl_piece c a r h]
  cases hs : spl c r with
  | nil => exact absurd hs (spl_ne c r)
  | cons x t => rw [hs] at hj; simp only; rw [hj]
/-- what a text cut tells -/
theorem cut_inv {c : UInt8} {l a r : List UInt8} {f : Bool} (h : Lib.cut l [c] = (a, r, f)) : (f = true ∧ l = a ++ c :: r ∧ c ∉ a) ∨ (f = false ∧ a = l ∧ r = [] ∧ c ∉ l) := by
  by_cases hc : c ∈ l
  · left
    obtain ⟨s, t, rfl⟩ := List.append_of_mem hc
    have : ∀ (s t : List UInt8), ∃ s' t', s ++ c :: t = s' ++ c :: t' ∧ c ∉ s' := by
      intro s
      induction s with
      | nil => intro t; exact ⟨[], t, rfl, by simp⟩
      | cons x s ih =>
        intro t
        by_cases hx : x = c
        · subst hx; exact ⟨[], s ++ x :: t, rfl, by simp⟩
        · obtain ⟨s', t', h1, h2⟩ := ih t
          exact ⟨x :: s', t', by rw [List.cons_append, h1]; rfl, by simp only [List.mem_cons, not_or]; exact ⟨fun e => hx e.symm, h2⟩⟩
    obtain ⟨s', t', h1, h2⟩ := this s t
    rw [h1, cut_at h2] at h
    cases h
    exact ⟨rfl, h1, h2⟩
  · right
    rw [cut_none hc] at h
    cases h
    exact ⟨rfl, rfl, rfl, hc⟩
/-! ### stairs' texts -/
def numsT (l : List Int) : List UInt8 := Lib.join (l.map Lib.itoa) [44]
def tS (N : Int) (D B : List Int) : List UInt8 := Lib.itoa N ++ 115 :: (numsT D ++ if B = [] then [] else 120 :: numsT B)
theorem join_two (p q : List UInt8) (r : List (List UInt8)) (c : UInt8) : Lib.join (p :: q :: r) [c] = p ++ c :: Lib.join (q :: r) [c] := by
  rw [Lib.join_cons, Lib.join_cons]; simp [Lib.joinTail]
theorem numsT_no {c : UInt8} (hc : ∀ m, m < 10 → c ≠ UInt8.ofNat (48 + m)) (h44 : c ≠ 44) : ∀ {l : List Int}, (∀ x, x ∈ l → 0 ≤ x) → c ∉ numsT l
  | [], _ => by unfold numsT; simp [Lib.join]
  | [x], h => by
    unfold numsT
    rw [List.map_cons, List.map_nil, Lib.join_one]
    exact itoa_no (h x (by simp)) hc
  | x :: y :: l, h => by
    have ih := numsT_no hc h44 (l := y :: l) (fun z hz => h z (List.mem_cons_of_mem _ hz))
    have h1 := itoa_no (h x (by simp)) hc
    unfold numsT at ih ⊢
    rw [List.map_cons, List.map_cons, join_two]
    simp only [List.mem_append, List.mem_cons, not_or]
    rw [List.map_cons] at ih
    exact ⟨h1, h44, ih⟩
theorem numsT_spl {l : List Int} (hl : l ≠ []) (h : ∀ x, x ∈ l → 0 ≤ x) : spl 44 (numsT l) = l.map Lib.itoa := by
  cases l with
  | nil => exact absurd rfl hl
  | cons x l =>
    unfold numsT
    rw [List.map_cons]
    refine spl_of_join 44 _ _ (fun q hq => ?_)
    rw [← List.map_cons] at hq
    obtain ⟨z, hz, rfl⟩ := List.mem_map.1 hq
    exact itoa_no (h z hz) no44
theorem rdL_map {l : List Int} (h : ∀ x, x ∈ l → 0 ≤ x ∧ x ≤ 999999) : (l.map Lib.itoa).map rdL = l := by
  rw [List.map_map]
  have : l.map (rdL ∘ Lib.itoa) = l.map id := List.map_congr_left fun x hx => rdL_itoa (h x hx).1 (h x hx).2
  rw [this, List.map_id]
theorem rdL_inv' {x : List UInt8} (h : 0 ≤ rdL x) : Lib.itoa (rdL x) = x := by
  obtain ⟨v, h1, h2, h3⟩ := rdL_inv (l := x) (by omega)
  rw [h3, itoa_nat, h2]
/-- numbers read are the text's -/
theorem nums_back {x : List UInt8} (h : ∀ q, q ∈ spl 44 x → 0 ≤ rdL q) : numsT ((spl 44 x).map rdL) = x := by
  have e : ((spl 44 x).map rdL).map Lib.itoa = spl 44 x := by
    rw [List.map_map]
    have : (spl 44 x).map (Lib.itoa ∘ rdL) = (spl 44 x).map id := List.map_congr_left fun q hq => rdL_inv' (h q hq)
    rw [this, List.map_id]
  unfold numsT
  rw [e, spl_join]
theorem no115 : ∀ m, m < 10 → (115 : UInt8) ≠ UInt8.ofNat (48 + m) := by decide
theorem no120 : ∀ m, m < 10 → (120 : UInt8) ≠ UInt8.ofNat (48 + m) := by decide
/-- the numbers that a text stands for, if it has -/
def stR (a d b : List UInt8) (has : Bool) : Int × List Int × List Int := (rdL a, (spl 44 d).map rdL, bif has then (spl 44 b).map rdL else [])
theorem spl_map_ne (x : List UInt8) : (spl 44 x).map rdL ≠ [] := fun e => spl_ne 44 x (List.map_eq_nil_iff.1 e)
/-- parts whose numbers are none below nought are the text of their numbers -/
theorem st_text {a d b : List UInt8} {has : Bool} (ha : 0 ≤ rdL a) (hd : ∀ q, q ∈ spl 44 d → 0 ≤ rdL q) (hb : has = true → ∀ q, q ∈ spl 44 b → 0 ≤ rdL q) :
    tS (stR a d b has).1 (stR a d b has).2.1 (stR a d b has).2.2 = a ++ 115 :: (d ++ bif has then 120 :: b else []) := by
  unfold tS stR
  simp only
  rw [rdL_inv' ha, nums_back hd]
  cases has
  · simp
  · simp only [cond_true]
    rw [if_neg (spl_map_ne b), nums_back (hb rfl)]
theorem itoa1 {n : Int} (k : Nat) (h0 : 0 ≤ n) (h1 : n < 10 ^ (k + 1)) : (Lib.itoa n).length ≤ k + 1 := by
  obtain ⟨m, rfl⟩ := Int.eq_ofNat_of_zero_le h0
  rw [itoa_nat]
  exact dec_len6 k m (by exact_mod_cast h1)
/-! ### divisors and fractions -/
theorem within_eq (x lo hi : Int) : i_within x lo hi = s_l1In x lo hi := by unfold i_within s_l1In; simp
theorem l1In_iff {x lo hi : Int} : s_l1In x lo hi = true ↔ lo ≤ x ∧ x ≤ hi := by
  unfold s_l1In
  by_cases h1 : lo ≤ x <;> by_cases h2 : x ≤ hi <;> simp [h1, h2]
theorem l1In_not {x lo hi : Int} (h : s_l1In x lo hi = false) : ¬ (lo ≤ x ∧ x ≤ hi) := fun k => by rw [l1In_iff.2 k] at h; cases h
theorem gcd_loop : ∀ (b a : Nat), i_gcd_L1 (a : Int) (b : Int) = some ((Nat.gcd a b : Nat) : Int) := by
  intro b
  induction b using Nat.strongRecOn with
  | ind b ih =>
    intro a
    rw [i_gcd_u1, i_gcd_t1]
    by_cases hb : b = 0
    · subst hb
      simp
    · have h0 : ((b : Int) == 0) = false := by rw [beq_eq_false_iff_ne]; omega
      have h1 : ((b : Int) != 0) = true := by rw [bne, h0]; rfl
      have h2 : Int.tmod (a : Int) (b : Int) = ((a % b : Nat) : Int) := by
        rw [Int.tmod_eq_emod_of_nonneg (by omega)]; rfl
      rw [h0, h1, h2]
      simp only [cond_true, cond_false]
      rw [ih (a % b) (Nat.mod_lt a (by omega)) b]
      congr 2
      rw [Nat.gcd_comm b, ← Nat.gcd_rec, Nat.gcd_comm]
theorem gcd_eq (a b : Nat) : i_gcd (a : Int) (b : Int) = some ((Nat.gcd a b : Nat) : Int) := gcd_loop b a
theorem part_eq (n d : Nat) (hd : 0 < d) (hn : n ≤ 4000000000000000000) (hd' : d ≤ 4000000000000000000) : i_part (n : Int) (d : Int) = some (((n / Nat.gcd n d : Nat) : Int), ((d / Nat.gcd n d : Nat) : Int), true) := by
  unfold i_part
  have h1 : ¬ ((d : Int) ≤ 0) := by omega
  have hg : 0 < Nat.gcd n d := Nat.gcd_pos_of_pos_right n hd
  have h2 : (((Nat.gcd n d : Nat) : Int) == 0) = false := by rw [beq_eq_false_iff_ne]; omega
  have e1 : Int.tdiv (n : Int) ((Nat.gcd n d : Nat) : Int) = ((n / Nat.gcd n d : Nat) : Int) := by rw [Int.tdiv_eq_ediv_of_nonneg (by omega)]; rfl
  have e2 : Int.tdiv (d : Int) ((Nat.gcd n d : Nat) : Int) = ((d / Nat.gcd n d : Nat) : Int) := by rw [Int.tdiv_eq_ediv_of_nonneg (by omega)]; rfl
  have b1 : n / Nat.gcd n d ≤ n := Nat.div_le_self _ _
  have b2 : d / Nat.gcd n d ≤ d := Nat.div_le_self _ _
  rw [decide_eq_false h1, gcd_eq]
  have w : ∀ q : Nat, q ≤ 4000000000000000000 → IntKind.wrap .i64 (q : Int) = q := fun q hq => wrapI (by omega) (by omega)
  simp only [cond_false, Option.bind_some, h2, e1, e2]
  rw [w _ (by omega), w _ (by omega)]
theorem part_mul (n d k : Nat) (hk : 0 < k) : (k * n) / Nat.gcd (k * n) (k * d) = n / Nat.gcd n d ∧ (k * d) / Nat.gcd (k * n) (k * d) = d / Nat.gcd n d := by
  rw [Nat.gcd_mul_left]
  exact ⟨Nat.mul_div_mul_left _ _ hk, Nat.mul_div_mul_left _ _ hk⟩
/-! ### texts of three numbers -/
theorem bsz (l : List UInt8) : (⟨l.toArray⟩ : ByteArray).size = l.length := by show l.toArray.size = _; simp
theorem bL_mk (l : List UInt8) : bL ⟨l.toArray⟩ = l := by show l.toArray.toList = l; simp
theorem ble_b {m : Nat} (h : m ≤ 1000000) : Nat.ble m 9223372036854775807 = true := by rw [Nat.ble_eq]; omega
theorem cut_ok {s : ByteArray} (hs : s.size ≤ 3000000) (c : UInt8) : strings_Cut s { data := #[c] } = some (⟨(Lib.cut (bL s) [c]).1.toArray⟩, ⟨(Lib.cut (bL s) [c]).2.1.toArray⟩, (Lib.cut (bL s) [c]).2.2) := by
  unfold strings_Cut cutF
  rw [if_pos (by omega)]
theorem cut_lens {c : UInt8} {l a r : List UInt8} {f : Bool} (h : Lib.cut l [c] = (a, r, f)) : a.length ≤ l.length ∧ r.length ≤ l.length := by
  rcases cut_inv h with ⟨-, rfl, -⟩ | ⟨-, rfl, rfl, -⟩
  · simp only [List.length_append, List.length_cons]; omega
  · simp
theorem spl_one {c : UInt8} {l : List UInt8} (h : (spl c l).length = 1) : spl c l = [l] := by
  have hj := spl_join c l
  cases hs : spl c l with
  | nil => rw [hs] at h; cases h
  | cons x r =>
    cases r with
    | nil =>
      rw [hs, Lib.join_one] at hj
      rw [hj]
    | cons y r => rw [hs] at h; simp at h
theorem map_one {ps : List ByteArray} {x : List UInt8} (h : ps.map bL = [x]) : ∃ p, ps = [p] ∧ bL p = x := by
  cases ps with
  | nil => cases h
  | cons p r =>
    rw [List.map_cons] at h
    injection h with h1 h2
    exact ⟨p, by rw [List.map_eq_nil_iff.1 h2], h1⟩
theorem map_two {ps : List ByteArray} {x y : List UInt8} (h : ps.map bL = [x, y]) : ∃ p q, ps = [p, q] ∧ bL p = x ∧ bL q = y := by
  cases ps with
  | nil => cases h
  | cons p r =>
    rw [List.map_cons] at h
    injection h with h1 h2
    obtain ⟨q, hq, e⟩ := map_one h2
    exact ⟨p, q, by rw [hq], h1, e⟩
theorem no_in_rd {c : UInt8} (hc : ∀ m, m < 10 → c ≠ UInt8.ofNat (48 + m)) {x : List UInt8} (h : 0 ≤ rdL x) : c ∉ x := by
  have e := rdL_inv' h
  rw [← e]
  exact itoa_no h hc
theorem rdL_nil : ¬ 0 ≤ rdL [] := fun h => by
  have e := rdL_inv' h
  exact itoa_ne h e
/-- the text of three numbers -/
def T3 (c1 c2 : UInt8) (x y z : Int) : List UInt8 := Lib.itoa x ++ c1 :: (Lib.itoa y ++ c2 :: Lib.itoa z)
/-- a byte that is no digit -/
def NoDig (c : UInt8) : Prop := ∀ m, m < 10 → c ≠ UInt8.ofNat (48 + m)
theorem noDig_rd {c : UInt8} (hc : NoDig c) {x : List UInt8} (h : 0 ≤ rdL x) : c ∉ x := no_in_rd hc h
structure Tri (c1 c2 : UInt8) (t a r b c : List UInt8) (ok has : Bool) : Prop where
  h1 : Lib.cut t [c1] = (a, r, ok)
  h2 : Lib.cut r [c2] = (b, c, has)
theorem Tri.of (c1 c2 : UInt8) (t : List UInt8) : ∃ a r b c ok has, Tri c1 c2 t a r b c ok has := ⟨_, _, _, _, _, _, ⟨rfl, rfl⟩⟩
/-- what was read -/
def Ok3 (a b c : List UInt8) : Prop := 0 ≤ rdL a ∧ 0 ≤ rdL b ∧ 0 ≤ rdL c
section
variable {c1 c2 : UInt8} (n1 : NoDig c1) (n2 : NoDig c2) (hne : c1 ≠ c2) {t a r b c : List UInt8} {ok has : Bool} (P : Tri c1 c2 t a r b c ok has)
include n1 n2 hne P
theorem Tri.good (g : Ok3 a b c) : T3 c1 c2 (rdL a) (rdL b) (rdL c) = t ∧ t = a ++ c1 :: r ∧ r = b ++ c2 :: c ∧ c1 ∉ a ∧ c1 ∉ r ∧ c2 ∉ b ∧ c2 ∉ c := by
  obtain ⟨g1, g2, g3⟩ := g
  have ea := rdL_inv' g1
  have eb := rdL_inv' g2
  have ec := rdL_inv' g3
  rcases cut_inv P.h2 with ⟨-, e2, -⟩ | ⟨-, -, rfl, -⟩
  · rcases cut_inv P.h1 with ⟨-, e1, -⟩ | ⟨-, -, rfl, -⟩
    · have k1 : c1 ∉ r := by
        rw [e2]
        intro h
        rcases List.mem_append.1 h with h | h
        · exact noDig_rd n1 g2 h
        · rcases List.mem_cons.1 h with h | h
          · exact hne h
          · exact noDig_rd n1 g3 h
      refine ⟨?_, e1, e2, noDig_rd n1 g1, k1, noDig_rd n2 g2, noDig_rd n2 g3⟩
      unfold T3
      rw [ea, eb, ec, e1, e2]
    · cases b with
      | nil => exact absurd g2 rdL_nil
      | cons x l => cases e2
  · exact absurd g3 rdL_nil
end
theorem Tri.back {c1 c2 : UInt8} (n1 : NoDig c1) (n2 : NoDig c2) {x y z : Int} (hx : 0 ≤ x) (hy : 0 ≤ y) {a r b c : List UInt8} {ok has : Bool} (P : Tri c1 c2 (T3 c1 c2 x y z) a r b c ok has) : a = Lib.itoa x ∧ b = Lib.itoa y ∧ c = Lib.itoa z := by
  have e1 : Lib.cut (T3 c1 c2 x y z) [c1] = (Lib.itoa x, Lib.itoa y ++ c2 :: Lib.itoa z, true) := cut_at (itoa_no hx n1)
  have e2 : Lib.cut (Lib.itoa y ++ c2 :: Lib.itoa z) [c2] = (Lib.itoa y, Lib.itoa z, true) := cut_at (itoa_no hy n2)
  have h1 := P.h1
  rw [e1] at h1
  simp only [Prod.mk.injEq] at h1
  obtain ⟨rfl, rfl, -⟩ := h1
  have h2 := P.h2
  rw [e2] at h2
  simp only [Prod.mk.injEq] at h2
  exact ⟨rfl, h2.1.symm, h2.2.1.symm⟩
/-- the reference's splitting, beside the cuts -/
theorem split_two {s : ByteArray} (hs : s.size ≤ 2000000) (c1 : UInt8) {a r : List UInt8} {ok : Bool} (h1 : Lib.cut (bL s) [c1] = (a, r, ok)) :
    ∃ ps, s_l1Split s ((c1.toNat : Nat) : Int) = some ps ∧ (((ps.length : Int) ≠ 2 ∧ ¬ (ok = true ∧ c1 ∉ r)) ∨ ∃ x y, ps = [x, y] ∧ bL x = a ∧ bL y = r) := by
  obtain ⟨ps, p1, p2⟩ := l1Split_ok hs c1
  refine ⟨ps, p1, ?_⟩
  rcases cut_inv h1 with ⟨rfl, e, hn⟩ | ⟨rfl, rfl, rfl, hn⟩
  · rw [e, spl_piece c1 a r hn] at p2
    by_cases hb : (spl c1 r).length = 1
    · rw [spl_one hb] at p2
      exact .inr (map_two p2)
    · refine .inl ⟨?_, fun h => hb (by rw [spl_last c1 r h.2]; rfl)⟩
      have := congrArg List.length p2
      rw [List.length_map, List.length_cons] at this
      omega
  · rw [spl_last c1 _ hn] at p2
    obtain ⟨p, rfl, hp⟩ := map_one p2
    exact .inl ⟨by simp, fun h => by cases h.1⟩
noncomputable def par3 (G : Int → Int → Int → Bool) (a b c : List UInt8) : (Int × Int × Int) × Bool := bif G (rdL a) (rdL b) (rdL c) then ((rdL a, rdL b, rdL c), true) else ((0, 0, 0), false)
theorem par3_not {G : Int → Int → Int → Bool} {a b c : List UInt8} (h : G (rdL a) (rdL b) (rdL c) = true → False) : par3 G a b c = ((0, 0, 0), false) := by
  unfold par3
  cases hg : G (rdL a) (rdL b) (rdL c)
  · rfl
  · exact (h hg).elim
section
variable {G : Int → Int → Int → Bool} (hG : ∀ x y z, G x y z = true → (0 ≤ x ∧ x ≤ 999999) ∧ (0 ≤ y ∧ y ≤ 999999) ∧ (0 ≤ z ∧ z ≤ 999999)) {c1 c2 : UInt8} (n1 : NoDig c1) (n2 : NoDig c2) (hne : c1 ≠ c2)
include hG n1 n2 hne
theorem par3_back {t a r b c : List UInt8} {ok has : Bool} (P : Tri c1 c2 t a r b c ok has) :
    ((par3 G a b c).2 = true → G (par3 G a b c).1.1 (par3 G a b c).1.2.1 (par3 G a b c).1.2.2 = true ∧ T3 c1 c2 (par3 G a b c).1.1 (par3 G a b c).1.2.1 (par3 G a b c).1.2.2 = t) ∧
    (∀ x y z, G x y z = true → T3 c1 c2 x y z = t → (par3 G a b c).1 = (x, y, z) ∧ (par3 G a b c).2 = true) := by
  refine ⟨?_, ?_⟩
  · unfold par3
    cases hc : G (rdL a) (rdL b) (rdL c)
    · intro h; cases h
    · intro _
      obtain ⟨g1, g2, g3⟩ := hG _ _ _ hc
      exact ⟨hc, (P.good n1 n2 hne ⟨g1.1, g2.1, g3.1⟩).1⟩
  · intro x y z g e
    obtain ⟨g1, g2, g3⟩ := hG _ _ _ g
    subst e
    obtain ⟨rfl, rfl, rfl⟩ := Tri.back n1 n2 g1.1 g2.1 P
    unfold par3
    rw [rdL_itoa g1.1 g1.2, rdL_itoa g2.1 g2.2, rdL_itoa g3.1 g3.2, g]
    exact ⟨rfl, rfl⟩
/-- how the reference reads: the pieces, or nothing that is good -/
theorem split_three {s : ByteArray} (hs : s.size ≤ 2000000) {a r b c : List UInt8} {ok has : Bool} (P : Tri c1 c2 (bL s) a r b c ok has) :
    ∃ ps, s_l1Split s ((c1.toNat : Nat) : Int) = some ps ∧ (((ps.length : Int) ≠ 2 ∧ ¬ G (rdL a) (rdL b) (rdL c) = true) ∨ ∃ x y, ps = [x, y] ∧ bL x = a ∧
      ∃ qs, s_l1Split y ((c2.toNat : Nat) : Int) = some qs ∧ (((qs.length : Int) ≠ 2 ∧ ¬ G (rdL a) (rdL b) (rdL c) = true) ∨ ∃ u v, qs = [u, v] ∧ bL u = b ∧ bL v = c)) := by
  obtain ⟨ps, p1, p2⟩ := split_two hs c1 P.h1
  refine ⟨ps, p1, ?_⟩
  rcases p2 with ⟨h1, h2⟩ | ⟨x, y, e, hx, hy⟩
  · refine .inl ⟨h1, fun hg => ?_⟩
    obtain ⟨g1, g2, g3⟩ := hG _ _ _ hg
    obtain ⟨-, k1, -, k3, k4, -⟩ := P.good n1 n2 hne ⟨g1.1, g2.1, g3.1⟩
    refine h2 ⟨?_, k4⟩
    rcases cut_inv P.h1 with ⟨h, -, -⟩ | ⟨-, -, -, hn⟩
    · exact h
    · exact absurd (by rw [k1]; simp : c1 ∈ bL s) hn
  · refine .inr ⟨x, y, e, hx, ?_⟩
    have hl := bL_len s
    obtain ⟨l1, l2⟩ := cut_lens P.h1
    have hys : y.size ≤ 2000000 := by rw [← bL_len, hy]; omega
    obtain ⟨qs, q1, q2⟩ := split_two hys c2 (a := b) (r := c) (ok := has) (by rw [hy]; exact P.h2)
    refine ⟨qs, q1, ?_⟩
    rcases q2 with ⟨h1, h2⟩ | ⟨u, v, e, hu, hv⟩
    · refine .inl ⟨h1, fun hg => ?_⟩
      obtain ⟨g1, g2, g3⟩ := hG _ _ _ hg
      obtain ⟨-, -, k2, -, -, k5, k6⟩ := P.good n1 n2 hne ⟨g1.1, g2.1, g3.1⟩
      refine h2 ⟨?_, k6⟩
      rcases cut_inv P.h2 with ⟨h, -, -⟩ | ⟨-, -, -, hn⟩
      · exact h
      · exact absurd (by rw [k2]; simp : c2 ∈ r) hn
    · exact .inr ⟨u, v, e, hu, hv⟩
end
theorem T3_bytes (c1 c2 : UInt8) (x y z : Int) : itoaB x ++ ⟨#[c1]⟩ ++ itoaB y ++ ⟨#[c2]⟩ ++ itoaB z = ⟨(T3 c1 c2 x y z).toArray⟩ := by
  have e1 : (⟨#[c1]⟩ : ByteArray) = ⟨([c1] : List UInt8).toArray⟩ := rfl
  have e2 : (⟨#[c2]⟩ : ByteArray) = ⟨([c2] : List UInt8).toArray⟩ := rfl
  rw [e1, e2]
  unfold itoaB T3
  simp only [bytes_app]
  simp
theorem itoaB_size (x : Int) : (itoaB x).size = (Lib.itoa x).length := bsz _
/-! ### fractions in lowest terms -/
def frN (n d : Int) : Int := ((n.toNat / Nat.gcd n.toNat d.toNat : Nat) : Int)
def frD (n d : Int) : Int := ((d.toNat / Nat.gcd n.toNat d.toNat : Nat) : Int)
/-- x/y is n/d, in lowest terms -/
structure IsFr (x y n d : Int) : Prop where
  cr : x * d = n * y
  x0 : 0 ≤ x
  xn : x ≤ n
  y1 : 1 ≤ y
  yd : y ≤ d
  d1 : 0 < d
  lo : Nat.gcd x.toNat y.toNat = 1
theorem fr_is {n d : Int} (hn : 0 ≤ n) (hd : 0 < d) : IsFr (frN n d) (frD n d) n d := by
  obtain ⟨m, rfl⟩ : ∃ m : Nat, n = m := ⟨n.toNat, by omega⟩
  obtain ⟨e, rfl⟩ : ∃ e : Nat, d = e := ⟨d.toNat, by omega⟩
  have he : 0 < e := by omega
  have hg : 0 < Nat.gcd m e := Nat.gcd_pos_of_pos_right m he
  have g1 := Nat.gcd_dvd_left m e
  have g2 := Nat.gcd_dvd_right m e
  have e1 := Nat.div_mul_cancel g1
  have e2 := Nat.div_mul_cancel g2
  have b1 : m / Nat.gcd m e ≤ m := Nat.div_le_self _ _
  have b2 : e / Nat.gcd m e ≤ e := Nat.div_le_self _ _
  have b3 : 0 < e / Nat.gcd m e := Nat.div_pos (Nat.le_of_dvd he g2) hg
  unfold frN frD
  simp only [Int.toNat_natCast]
  refine ⟨?_, Int.natCast_nonneg _, Int.ofNat_le.2 b1, Int.ofNat_le.2 b3, Int.ofNat_le.2 b2, by omega, ?_⟩
  · have : m / Nat.gcd m e * e = m * (e / Nat.gcd m e) := by
      generalize m / Nat.gcd m e = p at *
      generalize e / Nat.gcd m e = q at *
      rw [← e1]
      conv => lhs; rw [← e2]
      rw [Nat.mul_assoc, Nat.mul_comm (Nat.gcd m e) q]
    exact_mod_cast this
  · simp only [Int.toNat_natCast]
    exact Nat.coprime_div_gcd_div_gcd hg
theorem fr_mul {n d k : Int} (hk : 0 < k) (hn : 0 ≤ n) (hd : 0 < d) : frN (k * n) (k * d) = frN n d ∧ frD (k * n) (k * d) = frD n d := by
  obtain ⟨m, rfl⟩ : ∃ m : Nat, n = m := ⟨n.toNat, by omega⟩
  obtain ⟨e, rfl⟩ : ∃ e : Nat, d = e := ⟨d.toNat, by omega⟩
  obtain ⟨j, rfl⟩ : ∃ j : Nat, k = j := ⟨k.toNat, by omega⟩
  unfold frN frD
  have e1 : ((j : Int) * (m : Int)).toNat = j * m := by rw [← Int.natCast_mul, Int.toNat_natCast]
  have e2 : ((j : Int) * (e : Int)).toNat = j * e := by rw [← Int.natCast_mul, Int.toNat_natCast]
  rw [e1, e2, Nat.gcd_mul_left]
  simp only [Int.toNat_natCast]
  rw [Nat.mul_div_mul_left _ _ (by omega : 0 < j), Nat.mul_div_mul_left _ _ (by omega : 0 < j)]
  exact ⟨rfl, rfl⟩
theorem fr_one {n : Int} (hn : 0 ≤ n) : frN n 1 = n ∧ frD n 1 = 1 := by
  unfold frN frD
  have e : (1 : Int).toNat = 1 := rfl
  rw [e, Nat.gcd_one_right, Nat.div_one]
  exact ⟨by omega, rfl⟩
theorem fr_den1 {x y n d : Int} (h : IsFr x y n d) : y = 1 ↔ n % d = 0 := by
  have hc := h.cr
  have := h.d1
  constructor
  · rintro rfl
    rw [Int.mul_one] at hc
    rw [← hc]; exact Int.mul_emod_left _ _
  · intro hm
    obtain ⟨q, hq⟩ := Int.dvd_of_emod_eq_zero hm
    have e : x = q * y := by
      apply Int.eq_of_mul_eq_mul_right (show d ≠ 0 by omega)
      rw [hc, hq]; grind
    have hd : (y.toNat) ∣ (x.toNat) := by
      have := h.y1
      have := h.x0
      have hq0 : 0 ≤ q := by
        apply Int.not_lt.1
        intro hneg
        have := Int.mul_neg_of_neg_of_pos hneg (show 0 < y by omega)
        omega
      refine ⟨q.toNat, ?_⟩
      apply Int.ofNat.inj
      show (x.toNat : Int) = ((y.toNat * q.toNat : Nat) : Int)
      rw [Int.natCast_mul, Int.toNat_of_nonneg (by omega), Int.toNat_of_nonneg (by omega), Int.toNat_of_nonneg hq0, e, Int.mul_comm]
    have := h.lo
    rw [Nat.gcd_eq_right hd] at this
    omega
/-- bounds of products -/
theorem mul_bd {a b A B : Int} (h : 0 ≤ a ∧ a ≤ A) (h' : 0 ≤ b ∧ b ≤ B) : 0 ≤ a * b ∧ a * b ≤ A * B :=
  ⟨Int.mul_nonneg h.1 h'.1, Int.mul_le_mul h.2 h'.2 h'.1 (by omega)⟩
theorem canc {a b d : Int} (hd : 0 < d) (h : a * d = b * d) : a = b := Int.eq_of_mul_eq_mul_right (by omega) h
theorem canc_le {a b d : Int} (hd : 0 < d) (h : a * d ≤ b * d) : a ≤ b := Int.le_of_mul_le_mul_right h hd
/-! the laws of the moving stairs, in numbers -/
theorem mv_step {step part V S up down t den : Int} (h1 : IsFr step part ((S + up) * V) (2 * S + up + down)) (h2 : IsFr t den V (2 * S + up + down)) : step * den = (S + up) * t * part := by
  have := h1.d1
  have c1 := h1.cr
  have c2 := h2.cr
  apply canc h1.d1
  grind
theorem mv_two {step part back low V S up down : Int} (h1 : IsFr step part ((S + up) * V) (2 * S + up + down)) (h2 : IsFr back low ((S + down) * V) (2 * S + down + up)) : step * low + back * part = V * part * low := by
  have c1 := h1.cr
  have c2 := h2.cr
  apply canc h1.d1
  grind
theorem mv_catch {when_ low V S slow n d e f : Int} (h1 : IsFr when_ low n d) (h2 : IsFr e f V (S + slow)) (h : (S + slow) * n ≤ V * d) : (S + slow) * when_ ≤ V * low ∧ when_ * f ≤ e * low := by
  have c1 := h1.cr
  have c2 := h2.cr
  have a1 : (S + slow) * when_ ≤ V * low := by
    apply canc_le h1.d1
    have e1 : (S + slow) * when_ * d = (S + slow) * n * low := by grind
    have e2 : V * low * d = V * d * low := by grind
    rw [e1, e2]
    exact Int.mul_le_mul_of_nonneg_right h (by have := h1.y1; omega)
  refine ⟨a1, ?_⟩
  apply canc_le h2.d1
  have e1 : when_ * f * (S + slow) = (S + slow) * when_ * f := by grind
  have e2 : e * low * (S + slow) = V * low * f := by grind
  rw [e1, e2]
  exact Int.mul_le_mul_of_nonneg_right a1 (by have := h2.y1; omega)
theorem mv_catch0 {when_ low V S slow n d : Int} (h1 : IsFr when_ low n d) (h : (S + slow) * n ≤ V * d) : (S + slow) * when_ ≤ V * low := by
  have c1 := h1.cr
  apply canc_le h1.d1
  have e1 : (S + slow) * when_ * d = (S + slow) * n * low := by grind
  have e2 : V * low * d = V * d * low := by grind
  rw [e1, e2]
  exact Int.mul_le_mul_of_nonneg_right h (by have := h1.y1; omega)
theorem mv_rail {lead b t f V S p r : Int} (h1 : IsFr lead b ((r - S - p) * V) (S + p)) (h2 : IsFr t f V (S + p)) : lead * f = (r - S - p) * t * b := by
  have c1 := h1.cr
  have c2 := h2.cr
  apply canc h1.d1
  grind
theorem mv_taken {x y t den V S p : Int} (h1 : IsFr x y (p * V) (S + p)) (h2 : IsFr t den V (S + p)) : x * den = p * t * y := by
  have c1 := h1.cr
  have c2 := h2.cr
  apply canc h1.d1
  grind
theorem mv_round {x y t den V d : Int} (h1 : IsFr x y (2 * V) d) (h2 : IsFr t den V d) : x * den = 2 * t * y := by
  have c1 := h1.cr
  have c2 := h2.cr
  apply canc h1.d1
  grind
theorem mv_pace {x V S p a b : Int} (h1 : IsFr x 1 (p * V) (S + p)) (h2 : IsFr a b (x * S) (V - x)) : a = p * b := by
  have c1 := h1.cr
  have c2 := h2.cr
  apply canc h2.d1
  grind
theorem mv_last {t den V d : Int} (h : IsFr t den V d) : V ≤ d * ((t + den - 1) / den) := by
  have c := h.cr
  have y1 := h.y1
  have e := Int.emod_add_mul_ediv (t + den - 1) den
  have m := Int.emod_lt_of_pos (t + den - 1) (show 0 < den by omega)
  generalize (t + den - 1) / den = q at *
  have hq : t ≤ den * q := by omega
  apply canc_le (show 0 < den by omega)
  rw [← c]
  have e2 : d * q * den = den * q * d := by grind
  rw [e2]
  exact Int.mul_le_mul_of_nonneg_right hq (by have := h.d1; omega)
theorem mv_against {x y back low V S p : Int} (h1 : IsFr x y (p * V) (p - S)) (h2 : IsFr back low V (p - S)) : x * low = p * back * y := by
  have c1 := h1.cr
  have c2 := h2.cr
  apply canc h1.d1
  grind
theorem mv_slower {back low t den V S p : Int} (h1 : IsFr back low V (p - S)) (h2 : IsFr t den V (S + p)) (hS : 0 ≤ S) : t * low ≤ back * den := by
  have c1 := h1.cr
  have c2 := h2.cr
  apply canc_le h2.d1
  have e1 : t * low * (S + p) = V * den * low := by grind
  rw [e1]
  have e2 : V * den * low = back * den * (p - S) := by grind
  rw [e2]
  exact Int.mul_le_mul_of_nonneg_left (by omega) (Int.mul_nonneg h1.x0 (by have := h2.y1; omega))
theorem mv_both {x st n k V S p : Int} (h1 : IsFr x 1 (p * V) (S + p)) (h2 : IsFr st 1 (p * V) (p - S)) (h3 : IsFr n k (2 * x * st) (x + st)) (hp : 0 < p) : n = V * k := by
  have c1 := h1.cr
  have c2 := h2.cr
  have c3 := h3.cr
  apply canc h3.d1
  apply canc hp
  grind
theorem mv_visible {n k fast f x y p q : Int} (h1 : IsFr n k (x * y * (q - p)) (x * q - y * p)) (h2 : IsFr fast f ((y - x) * p * q) (x * q - y * p)) : n * p * f = x * (p * f + fast) * k ∧ n * q * f = y * (q * f + fast) * k := by
  have c1 := h1.cr
  have c2 := h2.cr
  constructor
  · apply canc h1.d1
    grind
  · apply canc h1.d1
    grind
theorem mv_mean {b h w a : Int} (h1 : IsFr b h (2 * w * a) (w + a)) (hw : 0 ≤ w) (ha : w ≤ a) : w * h ≤ b ∧ b ≤ a * h := by
  have c := h1.cr
  have y1 := h1.y1
  constructor
  · apply canc_le h1.d1
    have e : b * (w + a) = w * h * (2 * a) := by grind
    rw [e]
    exact Int.mul_le_mul_of_nonneg_left (by omega) (Int.mul_nonneg hw (by omega))
  · apply canc_le h1.d1
    have e : b * (w + a) = a * h * (2 * w) := by grind
    rw [e]
    exact Int.mul_le_mul_of_nonneg_left (by omega) (Int.mul_nonneg (by omega) (by omega))
theorem mv_walk {w j V S n : Int} (h : IsFr w j (n * S) (V - n)) : w * V = n * (S * j + w) := by
  have c := h.cr
  grind
/-! ### spirals: numbers and lists of steps -/
structure GoodS (S R r : Int) : Prop where
  s1 : 1 ≤ S
  s2 : S ≤ 400
  r1 : 3 ≤ R
  r2 : R ≤ 60
  h1 : 1 ≤ r
  h2 : r ≤ 300
theorem isS_eq (S R r : Int) : i_IsSpiral S R r = s_spGood S R r := by
  unfold i_IsSpiral s_spGood
  simp only [within_eq]
theorem good_iff {S R r : Int} : s_spGood S R r = true ↔ GoodS S R r := by
  unfold s_spGood
  constructor
  · intro h
    cases h1 : s_l1In S 1 400
    · rw [h1] at h; cases h
    · cases h2 : s_l1In R 3 60
      · rw [h1, h2] at h; cases h
      · cases h3 : s_l1In r 1 300
        · rw [h1, h2, h3] at h; cases h
        · have g1 := l1In_iff.1 h1
          have g2 := l1In_iff.1 h2
          have g3 := l1In_iff.1 h3
          exact ⟨g1.1, g1.2, g2.1, g2.2, g3.1, g3.2⟩
  · intro g
    rw [l1In_iff.2 ⟨g.s1, g.s2⟩, l1In_iff.2 ⟨g.r1, g.r2⟩, l1In_iff.2 ⟨g.h1, g.h2⟩]; rfl
theorem step_iff {S R r k : Int} : s_spStep S R r k = true ↔ GoodS S R r ∧ 1 ≤ k ∧ k ≤ S := by
  unfold s_spStep
  cases h : s_spGood S R r
  · simp only [cond_false]
    constructor
    · intro h; cases h
    · rintro ⟨g, _⟩; rw [good_iff.2 g] at h; cases h
  · simp only [cond_true]
    rw [l1In_iff]
    exact ⟨fun k => ⟨good_iff.1 h, k⟩, fun k => k.2⟩
theorem has1_eq (S R r k : Int) : i_Spiral_has S R r [k] = some (s_spStep S R r k) := by
  unfold i_Spiral_has i_Spiral_has_t0
  rw [i_Spiral_has_u1, i_Spiral_has_t1, i_Spiral_has_u1, i_Spiral_has_t1, within_eq, isS_eq]
  unfold s_spStep
  show (bif !s_l1In k 1 S then some false else some (s_spGood S R r)) = _
  cases s_l1In k 1 S <;> cases s_spGood S R r <;> rfl
theorem R_ne {S R r : Int} (g : GoodS S R r) : (R == 0) = false := by rw [beq_eq_false_iff_ne]; have := g.r1; omega
theorem ang_val {k R : Int} (hk : 1 ≤ k) (hk' : k ≤ 400) (hR : 3 ≤ R) : Int.tmod (IntKind.wrap .i64 (k - 1)) R = (k - 1) % R := by
  rw [wrapI (by omega) (by omega), Int.tmod_eq_emod_of_nonneg (by omega)]
theorem ang_eq {S R r k : Int} (g : GoodS S R r) (hk : 1 ≤ k) (hk' : k ≤ S) : i_Spiral_angle S R r k = some ((k - 1) % R) := by
  unfold i_Spiral_angle
  rw [R_ne g, cond_false, ang_val hk (by have := g.s2; omega) g.r1]
theorem low_loop (n d : Int) (hn : 0 ≤ n) (hn' : n ≤ 1000000) (hd : 0 ≤ d) (hd' : d ≤ 1000000) : ∀ (b a : Nat), 0 < Nat.gcd a b → Nat.gcd a b ≤ 1000000 → s_spLow_L1 n d (a : Int) (b : Int) = some (n / ((Nat.gcd a b : Nat) : Int), d / ((Nat.gcd a b : Nat) : Int)) := by
  intro b
  induction b using Nat.strongRecOn with
  | ind b ih =>
    intro a hg hg'
    rw [s_spLow_u1, s_spLow_t1]
    by_cases hb : b = 0
    · subst hb
      rw [Nat.gcd_zero_right] at hg hg' ⊢
      have h0 : ((a : Int) == 0) = false := by rw [beq_eq_false_iff_ne]; omega
      have e1 : n / (a : Int) ≤ n := Int.ediv_le_self _ hn
      have e2 : d / (a : Int) ≤ d := Int.ediv_le_self _ hd
      have e3 : 0 ≤ n / (a : Int) := Int.ediv_nonneg hn (by omega)
      have e4 : 0 ≤ d / (a : Int) := Int.ediv_nonneg hd (by omega)
      rw [decide_eq_false (by omega), h0, Int.tdiv_eq_ediv_of_nonneg hn, Int.tdiv_eq_ediv_of_nonneg hd, wrapI (by omega) (by omega), wrapI (by omega) (by omega)]
      rfl
    · have h0 : ((b : Int) == 0) = false := by rw [beq_eq_false_iff_ne]; omega
      have h2 : Int.tmod (a : Int) (b : Int) = ((a % b : Nat) : Int) := by
        rw [Int.tmod_eq_emod_of_nonneg (by omega)]; rfl
      have e : Nat.gcd a b = Nat.gcd b (a % b) := by rw [Nat.gcd_comm b, ← Nat.gcd_rec, Nat.gcd_comm]
      rw [decide_eq_true (by omega), h0, h2, cond_true, cond_false, e]
      exact ih (a % b) (Nat.mod_lt a (by omega)) b (by rw [← e]; exact hg) (by rw [← e]; exact hg')
theorem gcd_bd {n d : Nat} (hd : 0 < d) : 0 < Nat.gcd n d ∧ Nat.gcd n d ≤ d := ⟨Nat.gcd_pos_of_pos_right n hd, Nat.gcd_le_right _ hd⟩
theorem low_eq {n d : Int} (hn : 0 ≤ n) (hn' : n ≤ 1000000) (hd : 0 < d) (hd' : d ≤ 1000000) : s_spLow n d = some (frN n d, frD n d) := by
  obtain ⟨n, rfl⟩ := Int.eq_ofNat_of_zero_le hn
  obtain ⟨d, rfl⟩ := Int.eq_ofNat_of_zero_le (Int.le_of_lt hd)
  have b := gcd_bd (n := n) (d := d) (by omega)
  unfold s_spLow s_spLow_t0 frN frD
  exact low_loop n d (by omega) (by omega) (by omega) (by omega) d n b.1 (by omega)
theorem part_fr {n d : Int} (hn : 0 ≤ n) (hn' : n ≤ 1000000) (hd : 0 < d) (hd' : d ≤ 1000000) : i_part n d = some (frN n d, frD n d, true) := by
  obtain ⟨n, rfl⟩ := Int.eq_ofNat_of_zero_le hn
  obtain ⟨d, rfl⟩ := Int.eq_ofNat_of_zero_le (Int.le_of_lt hd)
  rw [part_eq n d (by omega) (by omega) (by omega)]
  rfl
def seg (p : Int → Bool) (k : Int) : Nat → List Int
  | 0 => []
  | n + 1 => bif p k then k :: seg p (k + 1) n else seg p (k + 1) n
theorem seg_mem {p : Int → Bool} {x : Int} : ∀ {n : Nat} {k : Int}, x ∈ seg p k n ↔ (k ≤ x ∧ x < k + n) ∧ p x = true
  | 0, k => by simp [seg]; omega
  | n + 1, k => by
    have ih := seg_mem (p := p) (x := x) (n := n) (k := k + 1)
    unfold seg
    cases h : p k
    · rw [cond_false, ih]
      constructor
      · rintro ⟨⟨a, b⟩, c⟩; exact ⟨⟨by omega, by omega⟩, c⟩
      · rintro ⟨⟨a, b⟩, c⟩
        have : x ≠ k := fun e => by subst e; rw [h] at c; cases c
        exact ⟨⟨by omega, by omega⟩, c⟩
    · rw [cond_true, List.mem_cons, ih]
      constructor
      · rintro (e | ⟨⟨a, b⟩, c⟩)
        · subst e; exact ⟨⟨by omega, by omega⟩, h⟩
        · exact ⟨⟨by omega, by omega⟩, c⟩
      · rintro ⟨⟨a, b⟩, c⟩
        by_cases e : x = k
        · exact .inl e
        · exact .inr ⟨⟨by omega, by omega⟩, c⟩
theorem seg_pair {p : Int → Bool} : ∀ {n : Nat} {k : Int}, (seg p k n).Pairwise (· < ·)
  | 0, k => .nil
  | n + 1, k => by
    unfold seg
    cases h : p k
    · rw [cond_false]; exact seg_pair
    · rw [cond_true]
      exact .cons (fun x hx => by have := (seg_mem.1 hx).1.1; omega) seg_pair
theorem seg_len {p : Int → Bool} : ∀ {n : Nat} {k : Int}, (seg p k n).length ≤ n
  | 0, k => Nat.le_refl _
  | n + 1, k => by
    unfold seg
    have := seg_len (p := p) (n := n) (k := k + 1)
    cases h : p k
    · rw [cond_false]; omega
    · rw [cond_true, List.length_cons]; omega
theorem seg_congr {p q : Int → Bool} : ∀ {n : Nat} {k : Int}, (∀ x, k ≤ x → x < k + n → p x = q x) → seg p k n = seg q k n
  | 0, k, _ => rfl
  | n + 1, k, h => by
    unfold seg
    rw [h k (by omega) (by omega), seg_congr (n := n) (fun x a b => h x (by omega) (by omega))]
/-- a loop that keeps those of which something holds -/
theorem seg_loop {β : Type} {f : List Int → Int → Option β} {S : Int} {p : Int → Bool} {fin : List Int → Option β}
    (hs : ∀ (l : List Int) (k : Int), 1 ≤ k → k ≤ S → l.length ≤ 100000 → f l k = bif p k then f (l ++ [k]) (k + 1) else f l (k + 1)) (he : ∀ l k, S < k → f l k = fin l) :
    ∀ (n : Nat) (k : Int) (l : List Int), 1 ≤ k → k + n = S + 1 → l.length + n ≤ 100000 → f l k = fin (l ++ seg p k n)
  | 0, k, l, hk, h, hl => by rw [he l k (by omega)]; simp [seg]
  | n + 1, k, l, hk, h, hl => by
    have ih := seg_loop hs he n (k + 1)
    rw [hs l k hk (by omega) (by omega)]
    unfold seg
    cases p k
    · rw [cond_false, cond_false]; exact ih l (by omega) (by omega) (by omega)
    · rw [cond_true, cond_true, ih (l ++ [k]) (by omega) (by omega) (by rw [List.length_append, List.length_singleton]; omega), List.append_assoc]; rfl
theorem pair_ext : ∀ {a b : List Int}, a.Pairwise (· < ·) → b.Pairwise (· < ·) → (∀ x, x ∈ a ↔ x ∈ b) → a = b
  | [], [], _, _, _ => rfl
  | [], y :: b, _, _, h => by have := (h y).2 (by simp); cases this
  | x :: a, [], _, _, h => by have := (h x).1 (by simp); cases this
  | x :: a, y :: b, ha, hb, h => by
    obtain ⟨h1, h2⟩ := List.pairwise_cons.1 ha
    obtain ⟨h3, h4⟩ := List.pairwise_cons.1 hb
    have e : x = y := by
      rcases List.mem_cons.1 ((h x).1 (by simp)) with e | e
      · exact e
      · rcases List.mem_cons.1 ((h y).2 (by simp)) with e' | e'
        · exact e'.symm
        · have a1 := h3 _ e; have a2 := h1 _ e'; omega
    subst e
    congr 1
    refine pair_ext h2 h4 fun z => ?_
    constructor
    · intro hz
      rcases List.mem_cons.1 ((h z).1 (List.mem_cons_of_mem _ hz)) with e | e
      · have := h1 _ hz; omega
      · exact e
    · intro hz
      rcases List.mem_cons.1 ((h z).2 (List.mem_cons_of_mem _ hz)) with e | e
      · have := h3 _ hz; omega
      · exact e
/-- numbers that are equally far apart -/
def apL (R : Int) (a : Int) : Nat → List Int
  | 0 => []
  | n + 1 => a :: apL R (a + R) n
theorem apL_len {R : Int} : ∀ {n : Nat} {a : Int}, (apL R a n).length = n
  | 0, _ => rfl
  | n + 1, a => by rw [apL, List.length_cons, apL_len]
theorem apL_get {R : Int} : ∀ {n : Nat} {a : Int} {i : Nat} (h : i < (apL R a n).length), (apL R a n)[i] = a + i * R
  | 0, a, i, h => by simp [apL] at h
  | n + 1, a, 0, h => by simp [apL]
  | n + 1, a, i + 1, h => by
    simp only [apL, List.getElem_cons_succ]
    rw [apL_get]
    rw [Int.natCast_succ, Int.add_mul, Int.one_mul]; omega
theorem apL_mem {R x : Int} : ∀ {n : Nat} {a : Int}, x ∈ apL R a n ↔ ∃ i : Nat, i < n ∧ x = a + i * R
  | 0, a => by simp [apL]
  | n + 1, a => by
    rw [apL, List.mem_cons, apL_mem]
    constructor
    · rintro (e | ⟨i, h1, h2⟩)
      · exact ⟨0, by omega, by simp [e]⟩
      · exact ⟨i + 1, by omega, by rw [Int.natCast_succ, Int.add_mul, Int.one_mul]; omega⟩
    · rintro ⟨i, h1, h2⟩
      cases i with
      | zero => left; simpa using h2
      | succ i => right; exact ⟨i, by omega, by rw [Int.natCast_succ, Int.add_mul, Int.one_mul] at h2; omega⟩
theorem apL_pair {R : Int} (hR : 0 < R) : ∀ {n : Nat} {a : Int}, (apL R a n).Pairwise (· < ·)
  | 0, _ => .nil
  | n + 1, a => by
    refine .cons (fun x hx => ?_) (apL_pair hR)
    obtain ⟨i, _, h⟩ := apL_mem.1 hx
    have : 0 ≤ (i : Int) * R := Int.mul_nonneg (by omega) (by omega)
    omega
theorem bleT {l : List Int} (h : l.length ≤ 100000) : Nat.ble (l.length + 1) 4294967296 = true := by rw [ble_dec]; exact decide_eq_true (by omega)
noncomputable def agN (S R r k : Int) : Int × Int × Bool := bif s_spStep S R r k then (frN ((k - 1) % R) R, frD ((k - 1) % R) R, true) else (0, 0, false)
theorem AngleOf_i (S R r k : Int) : i_AngleOf S R r k = some (agN S R r k) := by
  unfold i_AngleOf agN
  rw [has1_eq, Option.bind_some]
  cases h : s_spStep S R r k
  · rfl
  · obtain ⟨g, k1, k2⟩ := step_iff.1 h
    have := g.s2; have := g.r1; have := g.r2
    have m1 : 0 ≤ (k - 1) % R := Int.emod_nonneg _ (by omega)
    have m2 : (k - 1) % R < R := Int.emod_lt_of_pos _ (by omega)
    rw [Bool.not_true, cond_false, ang_eq g k1 k2, Option.bind_some, part_fr m1 (by omega) (by omega) (by omega)]
    rfl
noncomputable def htN (S R r k : Int) : Int × Bool := bif s_spStep S R r k then (k * r, true) else (0, false)
theorem Height_i (S R r k : Int) : i_HeightSpiral S R r k = some (htN S R r k) := by
  unfold i_HeightSpiral htN
  rw [has1_eq, Option.bind_some]
  cases h : s_spStep S R r k
  · rfl
  · obtain ⟨g, k1, k2⟩ := step_iff.1 h
    have := g.s2; have := g.h1; have := g.h2
    have b1 : k * r ≤ 400 * 300 := Int.mul_le_mul (by omega) (by omega) (by omega) (by omega)
    have b2 : 0 ≤ k * r := Int.mul_nonneg (by omega) (by omega)
    rw [Bool.not_true, cond_false, wrapI (n := k * r) (by omega) (by omega)]
    rfl
/-! ### lamps and twins, in numbers -/
theorem mulBd {a b A B : Int} (h : 0 ≤ a ∧ a ≤ A) (h' : 0 ≤ b ∧ b ≤ B) : 0 ≤ a * b ∧ a * b ≤ A * B :=
  ⟨Int.mul_nonneg h.1 h'.1, Int.mul_le_mul h.2 h'.2 h'.1 (by omega)⟩
noncomputable def dst (a b : Int) : Int := if b - a > a - b then b - a else a - b
theorem dst_le {a b s : Int} : dst a b ≤ s ↔ (a - b ≤ s ∧ b - a ≤ s) := by unfold dst; split <;> omega
/-- no lamp shines, of so many -/
noncomputable def drk (lamp s k : Int) : Nat → Int → Bool
  | 0, _ => true
  | n + 1, a => decide (s < dst a k) && drk lamp s k n (a + lamp)
theorem drk_iff {lamp s k : Int} : ∀ {n : Nat} {a : Int}, drk lamp s k n a = true ↔ ∀ i : Nat, i < n → s < dst (a + i * lamp) k
  | 0, a => by simp [drk]
  | n + 1, a => by
    unfold drk
    rw [Bool.and_eq_true, decide_eq_true_eq, drk_iff (n := n)]
    constructor
    · rintro ⟨h0, h⟩ i hi
      cases i with
      | zero => simpa using h0
      | succ i =>
        have := h i (by omega)
        have e : a + ((i + 1 : Nat) : Int) * lamp = a + lamp + (i : Int) * lamp := by push_cast; grind
        rw [e]; exact this
    · intro h
      refine ⟨by have := h 0 (by omega); simpa using this, fun i hi => ?_⟩
      have := h (i + 1) (by omega)
      have e : a + ((i + 1 : Nat) : Int) * lamp = a + lamp + (i : Int) * lamp := by push_cast; grind
      rw [e] at this; exact this
/-- dark, of the lamps that there are -/
noncomputable def dkB (S lamp s k : Int) : Bool := drk lamp s k (S / lamp).toNat lamp
theorem dk_iff {S lamp s k : Int} (hl : 1 ≤ lamp) (hS : 0 ≤ S) : dkB S lamp s k = true ↔ ∀ m : Int, 1 ≤ m → m * lamp ≤ S → s < dst (m * lamp) k := by
  unfold dkB
  rw [drk_iff]
  have hq := Int.ediv_nonneg hS (show 0 ≤ lamp by omega)
  constructor
  · intro h m h1 h2
    have h3 : m ≤ S / lamp := (Int.le_ediv_iff_mul_le (by omega)).2 h2
    have := h (m - 1).toNat (by omega)
    have e : lamp + (((m - 1).toNat : Nat) : Int) * lamp = m * lamp := by
      rw [Int.toNat_of_nonneg (by omega)]; grind
    rw [e] at this; exact this
  · intro h i hi
    have h3 : ((i : Int) + 1) * lamp ≤ S := (Int.le_ediv_iff_mul_le (by omega)).1 (by omega)
    have := h ((i : Int) + 1) (by omega) h3
    have e : lamp + (i : Int) * lamp = ((i : Int) + 1) * lamp := by grind
    rw [e]; exact this
/-- lit by the lamp below or by the one above -/
theorem lit_iff {S lamp s k : Int} (hl : 1 ≤ lamp) (hk : 1 ≤ k) (hS : k ≤ S) :
    dkB S lamp s k = true ↔ ¬ ((k / lamp * lamp > 0 ∧ k - k / lamp * lamp ≤ s) ∨ (k / lamp * lamp + lamp ≤ S ∧ k / lamp * lamp + lamp - k ≤ s)) := by
  rw [dk_iff hl (by omega)]
  have e := Int.emod_add_mul_ediv k lamp
  have r0 := Int.emod_nonneg k (show lamp ≠ 0 by omega)
  have r1 := Int.emod_lt_of_pos k (show 0 < lamp by omega)
  have q0 := Int.ediv_nonneg (show 0 ≤ k by omega) (show 0 ≤ lamp by omega)
  rw [Int.mul_comm lamp] at e
  generalize k % lamp = r at *
  generalize k / lamp = q at *
  constructor
  · rintro h (⟨h1, h2⟩ | ⟨h1, h2⟩)
    · have hq : 1 ≤ q := by
        apply Int.not_lt.1
        intro hn
        have : q = 0 := by omega
        subst this; simp at h1
      have := h q hq (by omega)
      have : dst (q * lamp) k ≤ s := dst_le.2 ⟨by omega, by omega⟩
      omega
    · have e2 : (q + 1) * lamp = q * lamp + lamp := by grind
      have := h (q + 1) (by omega) (by omega)
      rw [e2] at this
      have : dst (q * lamp + lamp) k ≤ s := dst_le.2 ⟨by omega, by omega⟩
      omega
  · intro h m h1 h2
    apply Int.not_le.1
    intro hd
    obtain ⟨d1, d2⟩ := dst_le.1 hd
    apply h
    by_cases hm : m ≤ q
    · have : m * lamp ≤ q * lamp := Int.mul_le_mul_of_nonneg_right hm (by omega)
      have : 1 * lamp ≤ m * lamp := Int.mul_le_mul_of_nonneg_right h1 (by omega)
      exact .inl ⟨by omega, by omega⟩
    · have e2 : (q + 1) * lamp = q * lamp + lamp := by grind
      have : (q + 1) * lamp ≤ m * lamp := Int.mul_le_mul_of_nonneg_right (by omega) (by omega)
      exact .inr ⟨by omega, by omega⟩
/-- where no step is dark there are lamps enough -/
theorem lamps_enough {S lamp s : Int} (hl : 1 ≤ lamp) (hS : 1 ≤ S) (hs : 0 ≤ s) (h : ∀ k, 1 ≤ k → k ≤ S → dkB S lamp s k = false) : (S + 2 * s) / (2 * s + 1) ≤ S / lamp := by
  have lit : ∀ k, 1 ≤ k → k ≤ S → ∃ m : Int, 1 ≤ m ∧ m * lamp ≤ S ∧ dst (m * lamp) k ≤ s := fun k h1 h2 => by
    have hf := h k h1 h2
    apply Classical.byContradiction
    intro hn
    have : dkB S lamp s k = true := (dk_iff hl (by omega)).2 fun m m1 m2 => by
      apply Int.not_le.1
      intro hd
      exact hn ⟨m, m1, m2, hd⟩
    rw [this] at hf; cases hf
  obtain ⟨m, m1, m2, m3⟩ := lit 1 (by omega) hS
  obtain ⟨j, j1, j2, j3⟩ := lit S hS (by omega)
  have a1 := (dst_le.1 m3).1
  have a2 := (dst_le.1 j3).2
  have b1 : 1 * lamp ≤ m * lamp := Int.mul_le_mul_of_nonneg_right m1 (by omega)
  have hj : j ≤ S / lamp := (Int.le_ediv_iff_mul_le (by omega)).2 j2
  generalize S / lamp = n at *
  have c1 : j * lamp ≤ n * lamp := Int.mul_le_mul_of_nonneg_right hj (by omega)
  have c2 : n * lamp ≤ n * (s + 1) := Int.mul_le_mul_of_nonneg_left (by omega) (by omega)
  have c3 : 1 * s ≤ n * s := Int.mul_le_mul_of_nonneg_right (by omega) hs
  have e1 : n * (s + 1) = n * s + n := by grind
  apply Int.le_of_lt_add_one
  apply (Int.ediv_lt_iff_lt_mul (by omega)).2
  have e2 : (n + 1) * (2 * s + 1) = 2 * (n * s) + n + 2 * s + 1 := by grind
  omega
/-- fewest lamps -/
theorem few_lamps {S s : Int} (hS : 1 ≤ S) (hs : 0 ≤ s) : 1 ≤ (S + 2 * s) / (2 * s + 1) ∧ S ≤ (S + 2 * s) / (2 * s + 1) * (2 * s + 1) ∧ ((S + 2 * s) / (2 * s + 1) - 1) * (2 * s + 1) < S ∧ (S + 2 * s) / (2 * s + 1) ≤ S + 2 * s := by
  have e := Int.emod_add_mul_ediv (S + 2 * s) (2 * s + 1)
  have r0 := Int.emod_nonneg (S + 2 * s) (show 2 * s + 1 ≠ 0 by omega)
  have r1 := Int.emod_lt_of_pos (S + 2 * s) (show 0 < 2 * s + 1 by omega)
  have h1 : 1 ≤ (S + 2 * s) / (2 * s + 1) := (Int.le_ediv_iff_mul_le (by omega)).2 (by omega)
  have h4 : (S + 2 * s) / (2 * s + 1) ≤ S + 2 * s := Int.ediv_le_self _ (by omega)
  rw [Int.mul_comm (2 * s + 1)] at e
  generalize (S + 2 * s) / (2 * s + 1) = q at *
  have e2 : (q - 1) * (2 * s + 1) = q * (2 * s + 1) - (2 * s + 1) := by grind
  exact ⟨h1, by omega, by omega, h4⟩
/-! twins -/
theorem twin_ang {k j A B : Int} (hA : 0 < A) (hB : 0 < B) : (A * B) ∣ (k * B - j * A) ↔ k % A * B = j % B * A := by
  have e1 := Int.emod_add_mul_ediv k A
  have e2 := Int.emod_add_mul_ediv j B
  have a0 := Int.emod_nonneg k (show A ≠ 0 by omega)
  have a1 := Int.emod_lt_of_pos k hA
  have b0 := Int.emod_nonneg j (show B ≠ 0 by omega)
  have b1 := Int.emod_lt_of_pos j hB
  generalize k % A = a at *
  generalize j % B = b at *
  generalize k / A = x at *
  generalize j / B = y at *
  have e : k * B - j * A = A * B * (x - y) + (a * B - b * A) := by rw [← e1, ← e2]; grind
  have c1 : 0 ≤ a * B := Int.mul_nonneg a0 (by omega)
  have c2 : 0 ≤ b * A := Int.mul_nonneg b0 (by omega)
  have c3 : a * B < A * B := Int.mul_lt_mul_of_pos_right a1 hB
  have c4 : b * A < A * B := by rw [Int.mul_comm A B]; exact Int.mul_lt_mul_of_pos_right b1 hA
  constructor
  · intro h
    rw [e] at h
    have h2 : (A * B) ∣ (a * B - b * A) := (Int.dvd_add_right (Int.dvd_mul_right _ _)).1 h
    obtain ⟨c, hc⟩ := h2
    have hAB : 0 < A * B := Int.mul_pos hA hB
    have hc1 : c < 1 := by
      apply Int.not_le.1
      intro hn
      have : A * B * 1 ≤ A * B * c := Int.mul_le_mul_of_nonneg_left hn (by omega)
      omega
    have hc2 : -1 < c := by
      apply Int.not_le.1
      intro hn
      have : A * B * c ≤ A * B * (-1) := Int.mul_le_mul_of_nonneg_left hn (by omega)
      omega
    have : c = 0 := by omega
    subst this
    omega
  · intro h
    rw [e, h]
    simp
/-- lists that rise: who is among the others has no more -/
theorem pw_sub : ∀ {l m : List Int}, l.Pairwise (· < ·) → m.Pairwise (· < ·) → (∀ x, x ∈ l → x ∈ m) → l.length ≤ m.length
  | [], m, _, _, _ => by simp
  | x :: l, [], _, _, h => absurd (h x (by simp)) (by simp)
  | x :: l, y :: m, hl, hm, h => by
    obtain ⟨l1, l2⟩ := List.pairwise_cons.1 hl
    obtain ⟨m1, m2⟩ := List.pairwise_cons.1 hm
    have key : l.length ≤ m.length := by
      refine pw_sub l2 m2 fun z hz => ?_
      rcases List.mem_cons.1 (h z (List.mem_cons_of_mem _ hz)) with e | e
      · have hx := h x (by simp)
        have := l1 z hz
        rcases List.mem_cons.1 hx with e' | e'
        · omega
        · have := m1 x e'; omega
      · exact e
    simp only [List.length_cons]; omega
/-- the step of the other one that is as high, and at the same angle -/
def TwJ (sR sr tS tR tr k j : Int) : Prop := (1 ≤ j ∧ j ≤ tS) ∧ k * sr = j * tr ∧ (k - 1) % sR * tR = (j - 1) % tR * sR
theorem TwJ_uniq {sR sr tS tR tr k j : Int} (ht : 1 ≤ tr) (h : TwJ sR sr tS tR tr k j) : (k * sr) % tr = 0 ∧ k * sr / tr = j := by
  rw [h.2.1]
  exact ⟨Int.mul_emod_left _ _, Int.mul_ediv_cancel _ (by omega)⟩
theorem tw_spec {sR sr tS tR tr k : Int} (hs : 1 ≤ sr) (ht : 1 ≤ tr) (hR : 3 ≤ sR) (hR' : 3 ≤ tR) (hk : 1 ≤ k) :
    ((k * sr) % tr = 0 ∧ k * sr / tr ≤ tS ∧ Int.tmod ((k - 1) * tR - (k * sr / tr - 1) * sR) (sR * tR) = 0) ↔ ∃ j, TwJ sR sr tS tR tr k j := by
  constructor
  · rintro ⟨h1, h2, h3⟩
    have hd := Int.mul_ediv_cancel' (Int.dvd_of_emod_eq_zero h1)
    have hpos : 0 < k * sr := Int.mul_pos (by omega) (by omega)
    refine ⟨k * sr / tr, ⟨?_, h2⟩, ?_, ?_⟩
    · apply Int.not_lt.1
      intro hn
      have : tr * (k * sr / tr) ≤ tr * 0 := Int.mul_le_mul_of_nonneg_left (by omega) (by omega)
      omega
    · rw [Int.mul_comm (k * sr / tr)]; exact hd.symm
    · exact (twin_ang (by omega) (by omega)).1 (Int.dvd_of_tmod_eq_zero h3)
  · rintro ⟨j, h⟩
    obtain ⟨h1, h2⟩ := TwJ_uniq ht h
    refine ⟨h1, by rw [h2]; exact h.1.2, ?_⟩
    rw [h2]
    exact Int.tmod_eq_zero_of_dvd ((twin_ang (by omega) (by omega)).2 h.2.2)
/-- twins have as many meets on both sides: not more on one -/
theorem tw_card {sS sR sr tS tR tr : Int} {l m : List Int} (ht : 1 ≤ tr) (hl : l.Pairwise (· < ·)) (hm : m.Pairwise (· < ·)) (hs : 1 ≤ sr)
    (h1 : ∀ k, k ∈ l → ∃ j, TwJ sR sr tS tR tr k j ∧ (1 ≤ k ∧ k ≤ sS)) (h2 : ∀ j, (1 ≤ j ∧ j ≤ tS) → (∃ k, TwJ tR tr sS sR sr j k) → j ∈ m) : l.length ≤ m.length := by
  have e : l.length = (l.map fun k => k * sr / tr).length := by rw [List.length_map]
  rw [e]
  refine pw_sub ?_ hm ?_
  · rw [List.pairwise_map]
    refine hl.imp_of_mem fun {a b} ha hb hab => ?_
    obtain ⟨ja, ha, -⟩ := h1 a ha
    obtain ⟨jb, hb, -⟩ := h1 b hb
    rw [(TwJ_uniq ht ha).2, (TwJ_uniq ht hb).2]
    have ea := ha.2.1
    have eb := hb.2.1
    have : a * sr < b * sr := Int.mul_lt_mul_of_pos_right hab (by omega)
    rw [ea, eb] at this
    exact Int.lt_of_mul_lt_mul_right this (by omega)
  · intro x hx
    obtain ⟨k, hk, rfl⟩ := List.mem_map.1 hx
    obtain ⟨j, hj, hk1⟩ := h1 k hk
    rw [(TwJ_uniq ht hj).2]
    exact h2 j hj.1 ⟨k, hk1, hj.2.1.symm, hj.2.2.symm⟩
/-! ### texts of spirals -/
theorem spG (S R r : Int) (h : s_spGood S R r = true) : (0 ≤ S ∧ S ≤ 999999) ∧ (0 ≤ R ∧ R ≤ 999999) ∧ (0 ≤ r ∧ r ≤ 999999) := by
  have g := good_iff.1 h
  have := g.s1; have := g.s2; have := g.r1; have := g.r2; have := g.h1; have := g.h2
  exact ⟨⟨by omega, by omega⟩, ⟨by omega, by omega⟩, by omega, by omega⟩
theorem n64 : NoDig 64 := by unfold NoDig; decide
theorem n42 : NoDig 42 := by unfold NoDig; decide
theorem spT_len {S R r : Int} (g : GoodS S R r) : (Lib.itoa S).length ≤ 3 ∧ (Lib.itoa R).length ≤ 2 ∧ (Lib.itoa r).length ≤ 3 ∧ (T3 64 42 S R r).length ≤ 10 := by
  have := g.s1; have := g.s2; have := g.r1; have := g.r2; have := g.h1; have := g.h2
  have a := itoa1 (n := S) 2 (by omega) (by omega)
  have b := itoa1 (n := R) 1 (by omega) (by omega)
  have c := itoa1 (n := r) 2 (by omega) (by omega)
  refine ⟨a, b, c, ?_⟩
  unfold T3
  simp only [List.length_append, List.length_cons]; omega
theorem spText_ok {S R r : Int} (g : GoodS S R r) : s_spText S R r = some ⟨(T3 64 42 S R r).toArray⟩ := by
  obtain ⟨l1, l2, l3, -⟩ := spT_len g
  have := g.s1; have := g.s2; have := g.r1; have := g.r2; have := g.h1; have := g.h2
  have z1 : ByteArray.size { data := #[64] } = 1 := rfl
  have z2 : ByteArray.size { data := #[42] } = 1 := rfl
  unfold s_spText
  rw [num_ok (by omega) (by omega), num_ok (by omega) (by omega), num_ok (by omega) (by omega)]
  simp only [Option.bind_some, ByteArray.size_append, itoaB_size, z1, z2]
  rw [ble_b (show (Lib.itoa S).length + 1 ≤ 1000000 by omega), ble_b (show (Lib.itoa S).length + 1 + (Lib.itoa R).length ≤ 1000000 by omega), ble_b (show (Lib.itoa S).length + 1 + (Lib.itoa R).length + 1 ≤ 1000000 by omega), ble_b (show (Lib.itoa S).length + 1 + (Lib.itoa R).length + 1 + (Lib.itoa r).length ≤ 1000000 by omega)]
  simp only [cond_true]
  rw [T3_bytes]
noncomputable def spN (S R r : Int) : ByteArray × Bool := bif s_spGood S R r then (⟨(T3 64 42 S R r).toArray⟩, true) else (⟨#[]⟩, false)
theorem SpiralText_two (S R r : Int) : i_SpiralText S R r = some (spN S R r) ∧ s_SpiralText S R r = some (spN S R r) := by
  unfold i_SpiralText s_SpiralText spN
  rw [isS_eq]
  cases h : s_spGood S R r
  · exact ⟨rfl, rfl⟩
  · have g := good_iff.1 h
    obtain ⟨l1, l2, l3, -⟩ := spT_len g
    have := g.s1; have := g.s2; have := g.r1; have := g.r2; have := g.h1; have := g.h2
    have z1 : ByteArray.size { data := #[64] } = 1 := rfl
    have z2 : ByteArray.size { data := #[42] } = 1 := rfl
    rw [spText_ok g, itoa_ok (by omega) (by omega), itoa_ok (by omega) (by omega), itoa_ok (by omega) (by omega)]
    refine ⟨?_, rfl⟩
    simp only [Option.bind_some, ByteArray.size_append, itoaB_size, z1, z2, Bool.not_true, cond_false]
    rw [ble_b (show (Lib.itoa S).length + 1 ≤ 1000000 by omega), ble_b (show (Lib.itoa S).length + 1 + (Lib.itoa R).length ≤ 1000000 by omega), ble_b (show (Lib.itoa S).length + 1 + (Lib.itoa R).length + 1 ≤ 1000000 by omega), ble_b (show (Lib.itoa S).length + 1 + (Lib.itoa R).length + 1 + (Lib.itoa r).length ≤ 1000000 by omega)]
    simp only [cond_true]
    rw [T3_bytes]
theorem spparse_i {t : ByteArray} (ht : t.size ≤ 2000000) {a r b c : List UInt8} {ok has : Bool} (P : Tri 64 42 (bL t) a r b c ok has) : i_ParseSpiral t = some (par3 s_spGood a b c) := by
  have hl := bL_len t
  obtain ⟨l1, l2⟩ := cut_lens P.h1
  obtain ⟨l3, l4⟩ := cut_lens P.h2
  unfold i_ParseSpiral
  rw [cut_ok (by omega), P.h1]
  simp only [Option.bind_some]
  rw [cut_ok (by rw [bsz]; omega), bL_mk, P.h2]
  simp only [Option.bind_some]
  rw [num_eq (by rw [bsz]; omega), bL_mk, numL_eq, num_eq (by rw [bsz]; omega), bL_mk, numL_eq, num_eq (by rw [bsz]; omega), bL_mk, numL_eq]
  simp only [Option.bind_some]
  unfold par3
  rw [isS_eq]
  cases s_spGood (rdL a) (rdL b) (rdL c) <;> rfl
theorem spparse_s {t : ByteArray} (ht : t.size ≤ 2000000) {a r b c : List UInt8} {ok has : Bool} (P : Tri 64 42 (bL t) a r b c ok has) : s_ParseSpiral t = some (par3 s_spGood a b c) := by
  have hl := bL_len t
  obtain ⟨ps, p1, p2⟩ := split_three spG n64 n42 (by decide) ht P
  have e1 : s_l1Split t 64 = some ps := p1
  unfold s_ParseSpiral s_spParse
  rw [e1, Option.bind_some]
  by_cases hz : (t.size : Int) > 10
  · rw [decide_eq_true hz, par3_not (fun hg => by
      have g := good_iff.1 hg
      have h1 := (spT_len g).2.2.2
      obtain ⟨g1, g2, g3⟩ := spG _ _ _ hg
      rw [(P.good n64 n42 (by decide) ⟨g1.1, g2.1, g3.1⟩).1] at h1
      omega)]
    rfl
  · rw [decide_eq_false hz, cond_false]
    rcases p2 with ⟨h1, h2⟩ | ⟨x, y, rfl, hx, qs, q1, q2⟩
    · rw [show ((ps.length : Int) != 2) = true from bne_iff_ne.2 h1, par3_not h2]; rfl
    · have e2 : s_l1Split y 42 = some qs := q1
      have c2 : ((([x, y] : List ByteArray).length : Int) != 2) = false := rfl
      have c3 : decide ((1 : Int) < (([x, y] : List ByteArray).length : Int)) = true := rfl
      have c4 : decide ((0 : Int) < (([x, y] : List ByteArray).length : Int)) = true := rfl
      have r1 : rdk kstring [x, y] 1 = y := rfl
      have r0 : rdk kstring [x, y] 0 = x := rfl
      simp only [c2, c3, c4, r1, r0, e2, cond_false, cond_true, Option.bind_some]
      rcases q2 with ⟨h1, h2⟩ | ⟨u, v, rfl, hu, hv⟩
      · rw [show ((qs.length : Int) != 2) = true from bne_iff_ne.2 h1, par3_not h2]; rfl
      · have d2 : ((([u, v] : List ByteArray).length : Int) != 2) = false := rfl
        have d3 : decide ((1 : Int) < (([u, v] : List ByteArray).length : Int)) = true := rfl
        have d4 : decide ((0 : Int) < (([u, v] : List ByteArray).length : Int)) = true := rfl
        have s1 : rdk kstring [u, v] 1 = v := rfl
        have s0 : rdk kstring [u, v] 0 = u := rfl
        simp only [d2, d3, d4, s1, s0, read_ok, hx, hu, hv, cond_false, cond_true, Option.bind_some]
        unfold par3
        cases hg : s_spGood (rdL a) (rdL b) (rdL c)
        · rfl
        · have g := good_iff.1 hg
          obtain ⟨g1, g2, g3⟩ := spG _ _ _ hg
          have ht := (P.good n64 n42 (by decide) ⟨g1.1, g2.1, g3.1⟩).1
          simp only [cond_true]
          rw [spText_ok g]
          simp only [Option.bind_some]
          rw [ByteArray.toList_eq, ByteArray.toList_eq]
          have e : ({ data := (T3 64 42 (rdL a) (rdL b) (rdL c)).toArray } : ByteArray).data.toList = t.data.toList := by rw [ht]
          rw [e, beq_self_eq_true]
          rfl
theorem ParseSpiral_full {t : ByteArray} (ht : t.size ≤ 2000000) : ∃ r f, i_ParseSpiral t = some (r, f) ∧ s_ParseSpiral t = some (r, f) ∧
    (f = true → s_spGood r.1 r.2.1 r.2.2 = true ∧ T3 64 42 r.1 r.2.1 r.2.2 = bL t) ∧ (∀ S R h, s_spGood S R h = true → T3 64 42 S R h = bL t → r = (S, R, h) ∧ f = true) := by
  obtain ⟨a, r, b, c, ok, has, P⟩ := Tri.of 64 42 (bL t)
  obtain ⟨h1, h2⟩ := par3_back spG n64 n42 (by decide) P
  exact ⟨(par3 s_spGood a b c).1, (par3 s_spGood a b c).2, spparse_i ht P, spparse_s ht P, h1, h2⟩
/-! ### lamps, windows and twins, as the functions find them -/
theorem every_eq (n : Int) : i_isEvery n = s_l1In n 1 400 := by unfold i_isEvery; exact within_eq n 1 400
theorem max_dst {a b : Int} (h1 : -2000 ≤ a) (h2 : a ≤ 2000) (h3 : -2000 ≤ b) (h4 : b ≤ 2000) : (bif decide (IntKind.wrap .i64 (b - a) > IntKind.wrap .i64 (a - b)) then IntKind.wrap .i64 (b - a) else IntKind.wrap .i64 (a - b)) = dst a b := by
  rw [wrapI (n := b - a) (by omega) (by omega), wrapI (n := a - b) (by omega) (by omega)]
  unfold dst
  by_cases c : b - a > a - b
  · rw [decide_eq_true c, if_pos c]; rfl
  · rw [decide_eq_false c, if_neg c]; rfl
theorem abs_dst {a b : Int} (h1 : -2000 ≤ a) (h2 : a ≤ 2000) (h3 : -2000 ≤ b) (h4 : b ≤ 2000) : s_l1Abs (IntKind.wrap .i64 (a - b)) = dst a b := by
  rw [wrapI (n := a - b) (by omega) (by omega)]
  unfold s_l1Abs s_l1Most dst
  rw [wrapI (n := 0 - (a - b)) (by omega) (by omega)]
  by_cases c : b - a > a - b
  · rw [if_pos c, decide_eq_false (show ¬ a - b > 0 - (a - b) by omega), cond_false]; omega
  · rw [if_neg c]
    by_cases c2 : a - b > 0 - (a - b)
    · rw [decide_eq_true c2]; rfl
    · rw [decide_eq_false c2, cond_false]; omega
/-- how many lamps there are -/
noncomputable def lmN (S lamp : Int) : Nat := (S / lamp).toNat
theorem lm_facts {S lamp : Int} (hS : 1 ≤ S) (hl : 1 ≤ lamp) : (lamp + (lmN S lamp : Int) * lamp > S) ∧ ∀ i : Nat, i < lmN S lamp → lamp + (i : Int) * lamp ≤ S := by
  have e := Int.emod_add_mul_ediv S lamp
  have r0 := Int.emod_nonneg S (show lamp ≠ 0 by omega)
  have r1 := Int.emod_lt_of_pos S (show 0 < lamp by omega)
  have q0 := Int.ediv_nonneg (show 0 ≤ S by omega) (show 0 ≤ lamp by omega)
  unfold lmN
  rw [Int.mul_comm lamp] at e
  refine ⟨?_, fun i hi => ?_⟩
  · rw [Int.toNat_of_nonneg q0]; omega
  · have h3 : ((i : Int) + 1) * lamp ≤ S := (Int.le_ediv_iff_mul_le (by omega)).1 (by omega)
    have e2 : ((i : Int) + 1) * lamp = lamp + (i : Int) * lamp := by grind
    omega
theorem dark_loop {S R r lamp s k : Int} (hS : S ≤ 400) (hl : 1 ≤ lamp) (hl2 : lamp ≤ 400) (hk : 1 ≤ k) (hk2 : k ≤ 400) : ∀ (n : Nat) (a : Int), 1 ≤ a → a ≤ 1000 → a + (n : Int) * lamp > S → (∀ i : Nat, i < n → a + (i : Int) * lamp ≤ S) →
    i_DarkSteps_c1_L1 lamp S R r s k a = some (drk lamp s k n a, lamp, (S, R, r), s)
  | 0, a, h1, h2, h3, h4 => by
    rw [i_DarkSteps_c1_u1, i_DarkSteps_c1_t1, decide_eq_false (by simp at h3; omega)]; rfl
  | n + 1, a, h1, h2, h3, h4 => by
    have ha : a ≤ S := by have := h4 0 (by omega); simpa using this
    rw [i_DarkSteps_c1_u1, i_DarkSteps_c1_t1, decide_eq_true ha, max_dst (a := a) (b := k) (by omega) (by omega) (by omega) (by omega)]
    unfold drk
    by_cases c : dst a k ≤ s
    · rw [decide_eq_true c, decide_eq_false (show ¬ s < dst a k by omega)]; rfl
    · rw [decide_eq_false c, decide_eq_true (show s < dst a k by omega), wrapI (n := a + lamp) (by omega) (by omega)]
      simp only [cond_true, cond_false, Bool.true_and]
      refine dark_loop hS hl hl2 hk hk2 n (a + lamp) (by omega) (by omega) ?_ (fun i hi => ?_)
      · have e : a + lamp + (n : Int) * lamp = a + ((n + 1 : Nat) : Int) * lamp := by push_cast; grind
        rw [e]; exact h3
      · have := h4 (i + 1) (by omega)
        have e : a + lamp + (i : Int) * lamp = a + ((i + 1 : Nat) : Int) * lamp := by push_cast; grind
        rw [e]; exact this
theorem dark_c1 {S R r lamp s k : Int} (g : GoodS S R r) (hl : 1 ≤ lamp ∧ lamp ≤ 400) (hk : 1 ≤ k) (hk2 : k ≤ S) : i_DarkSteps_c1 k lamp S R r s = some (dkB S lamp s k, lamp, (S, R, r), s) := by
  have := g.s2
  obtain ⟨f1, f2⟩ := lm_facts g.s1 hl.1
  unfold i_DarkSteps_c1 i_DarkSteps_c1_t0
  exact dark_loop this hl.1 hl.2 hk (by omega) (lmN S lamp) lamp hl.1 (by omega) f1 f2
noncomputable def dkC (S R r lamp s : Int) : Bool := s_spGood S R r && (s_l1In lamp 1 400 && s_l1In s 0 400)
noncomputable def dkN (S R r lamp s : Int) : List Int × Bool := bif dkC S R r lamp s then (seg (dkB S lamp s) 1 S.toNat, true) else ([], false)
theorem Dark_i (S R r lamp s : Int) : i_DarkSteps S R r lamp s = some (dkN S R r lamp s) := by
  unfold i_DarkSteps dkN dkC
  rw [isS_eq, every_eq, within_eq]
  cases hg : s_spGood S R r
  · rfl
  · cases hl : s_l1In lamp 1 400
    · rfl
    · cases hs : s_l1In s 0 400
      · rfl
      · have g := good_iff.1 hg
        have hl := l1In_iff.1 hl
        have := g.s1; have := g.s2
        simp only [Bool.not_true, cond_false, Bool.and_self, cond_true]
        unfold i_Spiral_those__i_DarkSteps_c1 i_Spiral_those__i_DarkSteps_c1_t0
        rw [seg_loop (S := S) (p := dkB S lamp s) (f := fun l x => i_Spiral_those__i_DarkSteps_c1_L1 lamp S R r s S R r l x) (fin := fun l => some (l, lamp, (S, R, r), s)) (fun l x hx hx' hl' => ?_) (fun l x hx => ?_) S.toNat 1 [] (by omega) (by omega) (by simp; omega)]
        · rfl
        · show i_Spiral_those__i_DarkSteps_c1_L1 lamp S R r s S R r l x = _
          rw [i_Spiral_those__i_DarkSteps_c1_u1, i_Spiral_those__i_DarkSteps_c1_t1, decide_eq_true hx', cond_true, dark_c1 g hl hx hx', Option.bind_some, bleT hl', wrapI (n := x + 1) (by omega) (by omega)]
          rfl
        · show i_Spiral_those__i_DarkSteps_c1_L1 lamp S R r s S R r l x = _
          rw [i_Spiral_those__i_DarkSteps_c1_u1, i_Spiral_those__i_DarkSteps_c1_t1, decide_eq_false (by omega), cond_false]
theorem dark_s {S R r lamp s k : Int} (hS : S ≤ 400) (hl : 1 ≤ lamp) (hl2 : lamp ≤ 400) (hk : 1 ≤ k) (hk2 : k ≤ 400) (acc : List Int) : ∀ (n : Nat) (a : Int) (d : Bool), 1 ≤ a → a ≤ 1000 → a + (n : Int) * lamp > S → (∀ i : Nat, i < n → a + (i : Int) * lamp ≤ S) →
    s_DarkSteps_L2 S R r acc lamp s k d a = bif d && drk lamp s k n a then (bif Nat.ble (acc.length + 1) 4294967296 then s_DarkSteps_L1 S R r (acc ++ [k]) lamp s (IntKind.wrap .i64 (k + 1)) else none) else s_DarkSteps_L1 S R r acc lamp s (IntKind.wrap .i64 (k + 1))
  | 0, a, d, h1, h2, h3, h4 => by
    rw [s_DarkSteps_u2, s_DarkSteps_t2, decide_eq_false (by simp at h3; omega)]
    unfold drk
    cases d <;> rfl
  | n + 1, a, d, h1, h2, h3, h4 => by
    have ha : a ≤ S := by have := h4 0 (by omega); simpa using this
    have h3' : a + lamp + (n : Int) * lamp > S := by
      have e : a + lamp + (n : Int) * lamp = a + ((n + 1 : Nat) : Int) * lamp := by push_cast; grind
      rw [e]; exact h3
    have h4' : ∀ i : Nat, i < n → a + lamp + (i : Int) * lamp ≤ S := fun i hi => by
      have := h4 (i + 1) (by omega)
      have e : a + lamp + (i : Int) * lamp = a + ((i + 1 : Nat) : Int) * lamp := by push_cast; grind
      rw [e]; exact this
    rw [s_DarkSteps_u2, s_DarkSteps_t2, decide_eq_true ha, abs_dst (a := a) (b := k) (by omega) (by omega) (by omega) (by omega), wrapI (n := a + lamp) (by omega) (by omega)]
    simp only [cond_true]
    rw [dark_s hS hl hl2 hk hk2 acc n (a + lamp) (decide (dst a k > s)) (by omega) (by omega) h3' h4', dark_s hS hl hl2 hk hk2 acc n (a + lamp) false (by omega) (by omega) h3' h4']
    conv => rhs; unfold drk
    cases d
    · rfl
    · rfl
theorem Dark_s (S R r lamp s : Int) : s_DarkSteps S R r lamp s = some (dkN S R r lamp s) := by
  unfold s_DarkSteps s_DarkSteps_t0 dkN dkC s_spEvery
  cases hg : s_spGood S R r
  · rfl
  · cases hl : s_l1In lamp 1 400
    · rfl
    · cases hs : s_l1In s 0 400
      · rfl
      · have g := good_iff.1 hg
        have hl := l1In_iff.1 hl
        have := g.s1; have := g.s2
        obtain ⟨f1, f2⟩ := lm_facts g.s1 hl.1
        simp only [Bool.not_true, cond_false, Bool.and_self, cond_true]
        rw [seg_loop (S := S) (p := dkB S lamp s) (f := fun l x => s_DarkSteps_L1 S R r l lamp s x) (fin := fun l => some (l, true)) (fun l x hx hx' hl' => ?_) (fun l x hx => ?_) S.toNat 1 [] (by omega) (by omega) (by simp; omega)]
        · rfl
        · show s_DarkSteps_L1 S R r l lamp s x = _
          rw [s_DarkSteps_u1, s_DarkSteps_t1, decide_eq_true hx', cond_true, dark_s (by omega) hl.1 hl.2 hx (by omega) l (lmN S lamp) lamp true hl.1 (by omega) f1 f2, bleT hl', wrapI (n := x + 1) (by omega) (by omega)]
          rfl
        · show s_DarkSteps_L1 S R r l lamp s x = _
          rw [s_DarkSteps_u1, s_DarkSteps_t1, decide_eq_false (by omega), cond_false]
noncomputable def flN (S R r s : Int) : Int × Bool := bif s_spGood S R r && s_l1In s 0 400 then ((S + 2 * s) / (2 * s + 1), true) else (0, false)
theorem Fewest_two (S R r s : Int) : i_FewestLamps S R r s = some (flN S R r s) ∧ s_FewestLamps S R r s = some (flN S R r s) := by
  unfold i_FewestLamps s_FewestLamps flN
  rw [isS_eq, within_eq]
  cases hg : s_spGood S R r
  · exact ⟨rfl, rfl⟩
  · cases hs : s_l1In s 0 400
    · exact ⟨rfl, rfl⟩
    · have g := good_iff.1 hg
      have hs := l1In_iff.1 hs
      have := g.s1; have := g.s2
      have f := few_lamps g.s1 hs.1
      rw [wrapI (n := 2 * s) (by omega) (by omega), wrapI (n := 2 * s + 1) (by omega) (by omega), wrapI (n := S + 2 * s) (by omega) (by omega), show (2 * s + 1 == 0) = false from beq_eq_false_iff_ne.2 (by omega), Int.tdiv_eq_ediv_of_nonneg (by omega), wrapI (n := (S + 2 * s) / (2 * s + 1)) (by omega) (by omega)]
      exact ⟨rfl, rfl⟩
/-! lamps and windows -/
def lwB (a b k : Int) : Bool := (k % a == 0) && (k % b == 0)
noncomputable def lwC (S R r a b : Int) : Bool := s_spGood S R r && (s_l1In a 1 400 && s_l1In b 1 400)
noncomputable def lwN (S R r a b : Int) : List Int × Bool := bif lwC S R r a b then (seg (lwB a b) 1 S.toNat, true) else ([], false)
theorem lwN_comm (S R r a b : Int) : lwN S R r a b = lwN S R r b a := by
  have e : lwB a b = lwB b a := by funext k; unfold lwB; exact Bool.and_comm _ _
  unfold lwN lwC
  rw [e, Bool.and_comm (s_l1In a 1 400)]
theorem Lamps_i (S R r a b : Int) : i_LampsAndWindows S R r a b = some (lwN S R r a b) := by
  unfold i_LampsAndWindows lwN lwC
  rw [isS_eq, every_eq, every_eq]
  cases hg : s_spGood S R r
  · rfl
  · cases ha : s_l1In a 1 400
    · rfl
    · cases hb : s_l1In b 1 400
      · rfl
      · have g := good_iff.1 hg
        have ha := l1In_iff.1 ha
        have hb := l1In_iff.1 hb
        have := g.s1; have := g.s2
        simp only [Bool.not_true, cond_false, Bool.and_self, cond_true]
        unfold i_Spiral_those__i_LampsAndWindows_c1 i_Spiral_those__i_LampsAndWindows_c1_t0
        rw [seg_loop (S := S) (p := lwB a b) (f := fun l x => i_Spiral_those__i_LampsAndWindows_c1_L1 a b S R r l x) (fin := fun l => some (l, a, b)) (fun l x hx hx' hl' => ?_) (fun l x hx => ?_) S.toNat 1 [] (by omega) (by omega) (by simp; omega)]
        · rfl
        · have hc : i_LampsAndWindows_c1 x a b = some (lwB a b x, a, b) := by
            unfold i_LampsAndWindows_c1 lwB
            rw [show (a == 0) = false from beq_eq_false_iff_ne.2 (by omega), show (b == 0) = false from beq_eq_false_iff_ne.2 (by omega), Int.tmod_eq_emod_of_nonneg (by omega), Int.tmod_eq_emod_of_nonneg (by omega)]
            cases x % a == 0 <;> rfl
          show i_Spiral_those__i_LampsAndWindows_c1_L1 a b S R r l x = _
          rw [i_Spiral_those__i_LampsAndWindows_c1_u1, i_Spiral_those__i_LampsAndWindows_c1_t1, decide_eq_true hx', cond_true, hc, Option.bind_some, bleT hl', wrapI (n := x + 1) (by omega) (by omega)]
          rfl
        · show i_Spiral_those__i_LampsAndWindows_c1_L1 a b S R r l x = _
          rw [i_Spiral_those__i_LampsAndWindows_c1_u1, i_Spiral_those__i_LampsAndWindows_c1_t1, decide_eq_false (by omega), cond_false]
theorem lamps_loop {S R r a b : Int} (hS : S ≤ 400) (ha : 1 ≤ a) (ha2 : a ≤ 400) (hb : 1 ≤ b) : ∀ (n : Nat) (x : Int) (l : List Int), 1 ≤ x → x ≤ 1000 → x + (n : Int) * a > S → (∀ i : Nat, i < n → x + (i : Int) * a ≤ S) → l.length + n ≤ 1000 →
    s_LampsAndWindows_L1 S R r l a b x = some (l ++ (apL a x n).filter (fun k => k % b == 0), true)
  | 0, x, l, h1, h2, h3, h4, h5 => by
    rw [s_LampsAndWindows_u1, s_LampsAndWindows_t1, decide_eq_false (by simp at h3; omega)]; simp [apL]
  | n + 1, x, l, h1, h2, h3, h4, h5 => by
    have hx : x ≤ S := by have := h4 0 (by omega); simpa using this
    have h3' : x + a + (n : Int) * a > S := by
      have e : x + a + (n : Int) * a = x + ((n + 1 : Nat) : Int) * a := by push_cast; grind
      rw [e]; exact h3
    have h4' : ∀ i : Nat, i < n → x + a + (i : Int) * a ≤ S := fun i hi => by
      have := h4 (i + 1) (by omega)
      have e : x + a + (i : Int) * a = x + ((i + 1 : Nat) : Int) * a := by push_cast; grind
      rw [e]; exact this
    rw [s_LampsAndWindows_u1, s_LampsAndWindows_t1, decide_eq_true hx, show (b == 0) = false from beq_eq_false_iff_ne.2 (by omega), Int.tmod_eq_emod_of_nonneg (by omega), bleT (by omega), wrapI (n := x + a) (by omega) (by omega),
      lamps_loop hS ha ha2 hb n (x + a) l (by omega) (by omega) h3' h4' (by omega), lamps_loop hS ha ha2 hb n (x + a) (l ++ [x]) (by omega) (by omega) h3' h4' (by simp; omega)]
    conv => rhs; unfold apL
    rw [List.filter_cons]
    cases x % b == 0
    · rfl
    · simp
theorem lw_same {S a b : Int} (hS : 1 ≤ S) (ha : 1 ≤ a) : (apL a a (lmN S a)).filter (fun k => k % b == 0) = seg (lwB a b) 1 S.toNat := by
  obtain ⟨f1, f2⟩ := lm_facts hS ha
  refine pair_ext ((apL_pair (by omega)).filter _) seg_pair fun x => ?_
  rw [List.mem_filter, apL_mem, seg_mem]
  unfold lwB
  rw [Bool.and_eq_true, beq_iff_eq, beq_iff_eq]
  constructor
  · rintro ⟨⟨i, hi, rfl⟩, h⟩
    have h1 := f2 i hi
    have h0 : 0 ≤ (i : Int) * a := Int.mul_nonneg (by omega) (by omega)
    refine ⟨⟨by omega, by omega⟩, ?_, h⟩
    have e : a + (i : Int) * a = ((i : Int) + 1) * a := by grind
    rw [e]; exact Int.mul_emod_left _ _
  · rintro ⟨⟨h1, h2⟩, h3, h4⟩
    refine ⟨?_, h4⟩
    have hd := Int.mul_ediv_cancel' (Int.dvd_of_emod_eq_zero h3)
    have hq : 1 ≤ x / a := by
      apply Int.not_lt.1
      intro hn
      have : a * (x / a) ≤ a * 0 := Int.mul_le_mul_of_nonneg_left (by omega) (by omega)
      omega
    refine ⟨(x / a - 1).toNat, ?_, ?_⟩
    · unfold lmN
      have : x / a ≤ S / a := Int.ediv_le_ediv (by omega) (by omega)
      omega
    · rw [Int.toNat_of_nonneg (by omega)]
      have e : a + (x / a - 1) * a = a * (x / a) := by grind
      rw [e]; exact hd.symm
theorem Lamps_s (S R r a b : Int) : s_LampsAndWindows S R r a b = some (lwN S R r a b) := by
  unfold s_LampsAndWindows s_LampsAndWindows_t0 lwN lwC s_spEvery
  cases hg : s_spGood S R r
  · rfl
  · cases ha : s_l1In a 1 400
    · rfl
    · cases hb : s_l1In b 1 400
      · rfl
      · have g := good_iff.1 hg
        have ha := l1In_iff.1 ha
        have hb := l1In_iff.1 hb
        have := g.s1; have := g.s2
        obtain ⟨f1, f2⟩ := lm_facts g.s1 ha.1
        have hn : lmN S a ≤ 400 := by
          unfold lmN
          have : S / a ≤ S := Int.ediv_le_self _ (by omega)
          omega
        simp only [Bool.not_true, cond_false, Bool.and_self, cond_true]
        rw [lamps_loop (by omega) ha.1 ha.2 hb.1 (lmN S a) a [] ha.1 (by omega) f1 f2 (by simp; omega), lw_same g.s1 ha.1]
        rfl
/-! angles of multiples -/
noncomputable def caN (S R r e : Int) : Int × Bool := bif s_spGood S R r && s_l1In e 1 400 then (frD e R, true) else (0, false)
theorem Angles_s (S R r e : Int) : s_CountAngles S R r e = some (caN S R r e) := by
  unfold s_CountAngles caN s_spEvery
  cases hg : s_spGood S R r
  · rfl
  · cases he : s_l1In e 1 400
    · rfl
    · have g := good_iff.1 hg
      have he := l1In_iff.1 he
      have := g.r1; have := g.r2
      rw [low_eq (by omega) (by omega) (by omega) (by omega)]
      rfl
theorem Angles_i (S R r e : Int) : i_CountAngles S R r e = some (caN S R r e) := by
  unfold i_CountAngles caN
  rw [isS_eq, every_eq]
  cases hg : s_spGood S R r
  · rfl
  · cases he : s_l1In e 1 400
    · rfl
    · have g := good_iff.1 hg
      have he := l1In_iff.1 he
      have := g.r1; have := g.r2
      obtain ⟨m, rfl⟩ : ∃ m : Nat, e = m := ⟨e.toNat, by omega⟩
      obtain ⟨q, rfl⟩ : ∃ q : Nat, R = q := ⟨R.toNat, by omega⟩
      have hg : 0 < Nat.gcd m q := Nat.gcd_pos_of_pos_right m (by omega)
      have hb : q / Nat.gcd m q ≤ q := Nat.div_le_self _ _
      have e1 : Int.tdiv (q : Int) ((Nat.gcd m q : Nat) : Int) = ((q / Nat.gcd m q : Nat) : Int) := by rw [Int.tdiv_eq_ediv_of_nonneg (by omega)]; rfl
      rw [gcd_eq]
      simp only [Bool.not_true, cond_false, Option.bind_some]
      rw [show (((Nat.gcd m q : Nat) : Int) == 0) = false from beq_eq_false_iff_ne.2 (by omega), e1]
      generalize hz : q / Nat.gcd m q = z at *
      rw [wrapI (by omega) (by omega)]
      show some ((z : Int), true) = some (frD (m : Int) (q : Int), true)
      unfold frD
      simp only [Int.toNat_natCast]
      rw [hz]
/-! ### twins, and spirals that are cut -/
noncomputable def twB (sR sr tS tR tr k : Int) : Bool := @decide (∃ j, TwJ sR sr tS tR tr k j) (Classical.propDecidable _)
theorem twB_iff {sR sr tS tR tr k : Int} : twB sR sr tS tR tr k = true ↔ ∃ j, TwJ sR sr tS tR tr k j := by unfold twB; exact @decide_eq_true_iff _ (Classical.propDecidable _)
theorem twB_eq {sR sr tS tR tr k : Int} {c : Bool} (h : c = true ↔ ∃ j, TwJ sR sr tS tR tr k j) : c = twB sR sr tS tR tr k := by
  rw [Bool.eq_iff_iff, twB_iff]; exact h
theorem tw_loop {S R r tS tR tr k : Int} (g : GoodS S R r) (t : GoodS tS tR tr) (hk : 1 ≤ k) (hk2 : k ≤ S) : ∀ (n : Nat) (j : Int), 1 ≤ j → j + n = tS + 1 →
    ∃ c, i_TwinMeets_c1_L1 tS tR tr S R r k j = some (c, (tS, tR, tr), (S, R, r)) ∧ (c = true ↔ ∃ i, j ≤ i ∧ TwJ R r tS tR tr k i)
  | 0, j, h1, h2 => by
    refine ⟨false, ?_, ?_⟩
    · rw [i_TwinMeets_c1_u1, i_TwinMeets_c1_t1, decide_eq_false (by omega)]; rfl
    · constructor
      · intro h; cases h
      · rintro ⟨i, h3, h4⟩
        have := h4.1.2; omega
  | n + 1, j, h1, h2 => by
    have gs := g.s2; have gr := g.h1; have gr2 := g.h2; have gR := g.r1; have gR2 := g.r2
    have ts := t.s2; have tr1 := t.h1; have tr2 := t.h2; have tR1 := t.r1; have tR2 := t.r2
    obtain ⟨c, e, hc⟩ := tw_loop g t hk hk2 n (j + 1) (by omega) (by omega)
    have B1 := mulBd (a := k) (b := r) (A := 400) (B := 300) ⟨by omega, by omega⟩ ⟨by omega, by omega⟩
    have B2 := mulBd (a := j) (b := tr) (A := 400) (B := 300) ⟨by omega, by omega⟩ ⟨by omega, by omega⟩
    have m1 := Int.emod_nonneg (k - 1) (show R ≠ 0 by omega)
    have m2 := Int.emod_lt_of_pos (k - 1) (show 0 < R by omega)
    have m3 := Int.emod_nonneg (j - 1) (show tR ≠ 0 by omega)
    have m4 := Int.emod_lt_of_pos (j - 1) (show 0 < tR by omega)
    have B3 := mulBd (a := (k - 1) % R) (b := tR) (A := 60) (B := 60) ⟨by omega, by omega⟩ ⟨by omega, by omega⟩
    have B4 := mulBd (a := (j - 1) % tR) (b := R) (A := 60) (B := 60) ⟨by omega, by omega⟩ ⟨by omega, by omega⟩
    rw [i_TwinMeets_c1_u1, i_TwinMeets_c1_t1, decide_eq_true (show j ≤ tS by omega), wrapI (n := k * r) (by omega) (by omega), wrapI (n := j * tr) (by omega) (by omega), ang_eq g hk hk2, ang_eq t h1 (by omega), wrapI (n := j + 1) (by omega) (by omega), e]
    simp only [cond_true, Option.bind_some]
    rw [wrapI (n := (k - 1) % R * tR) (by omega) (by omega), wrapI (n := (j - 1) % tR * R) (by omega) (by omega)]
    have no : ¬ TwJ R r tS tR tr k j → (c = true ↔ ∃ i, j ≤ i ∧ TwJ R r tS tR tr k i) := fun hn => by
      rw [hc]
      constructor
      · rintro ⟨i, h3, h4⟩; exact ⟨i, by omega, h4⟩
      · rintro ⟨i, h3, h4⟩
        refine ⟨i, ?_, h4⟩
        have : i ≠ j := fun e => by subst e; exact hn h4
        omega
    by_cases c1 : k * r = j * tr
    · rw [show (k * r == j * tr) = true from beq_iff_eq.2 c1, cond_true]
      by_cases c2 : (k - 1) % R * tR = (j - 1) % tR * R
      · rw [show ((k - 1) % R * tR == (j - 1) % tR * R) = true from beq_iff_eq.2 c2, cond_true]
        exact ⟨true, rfl, fun _ => ⟨j, Int.le_refl _, ⟨h1, by omega⟩, c1, c2⟩, fun _ => rfl⟩
      · rw [show ((k - 1) % R * tR == (j - 1) % tR * R) = false from beq_eq_false_iff_ne.2 c2, cond_false]
        exact ⟨c, rfl, no fun h => c2 h.2.2⟩
    · rw [show (k * r == j * tr) = false from beq_eq_false_iff_ne.2 c1, cond_false]
      exact ⟨c, rfl, no fun h => c1 h.2.1⟩
theorem tw_c1 {S R r tS tR tr k : Int} (g : GoodS S R r) (t : GoodS tS tR tr) (hk : 1 ≤ k) (hk2 : k ≤ S) : i_TwinMeets_c1 k tS tR tr S R r = some (twB R r tS tR tr k, (tS, tR, tr), (S, R, r)) := by
  unfold i_TwinMeets_c1 i_TwinMeets_c1_t0
  have := t.s1
  obtain ⟨c, e, h⟩ := tw_loop g t hk hk2 tS.toNat 1 (by omega) (by omega)
  rw [e, twB_eq (c := c) (h.trans ⟨fun ⟨i, _, h⟩ => ⟨i, h⟩, fun ⟨i, h⟩ => ⟨i, h.1.1, h⟩⟩)]
noncomputable def twN (S R r tS tR tr : Int) : List Int × Bool := bif s_spGood S R r && s_spGood tS tR tr then (seg (twB R r tS tR tr) 1 S.toNat, true) else ([], false)
theorem Twin_i (S R r tS tR tr : Int) : i_TwinMeets S R r tS tR tr = some (twN S R r tS tR tr) := by
  unfold i_TwinMeets twN
  rw [isS_eq, isS_eq]
  cases hg : s_spGood S R r
  · rfl
  · cases ht : s_spGood tS tR tr
    · rfl
    · have g := good_iff.1 hg
      have t := good_iff.1 ht
      have := g.s1; have := g.s2
      simp only [Bool.not_true, cond_false, Bool.and_self, cond_true]
      unfold i_Spiral_those__i_TwinMeets_c1 i_Spiral_those__i_TwinMeets_c1_t0
      rw [seg_loop (S := S) (p := twB R r tS tR tr) (f := fun l x => i_Spiral_those__i_TwinMeets_c1_L1 tS tR tr S R r S R r l x) (fin := fun l => some (l, (tS, tR, tr), (S, R, r))) (fun l x hx hx' hl' => ?_) (fun l x hx => ?_) S.toNat 1 [] (by omega) (by omega) (by simp; omega)]
      · rfl
      · show i_Spiral_those__i_TwinMeets_c1_L1 tS tR tr S R r S R r l x = _
        rw [i_Spiral_those__i_TwinMeets_c1_u1, i_Spiral_those__i_TwinMeets_c1_t1, decide_eq_true hx', cond_true, tw_c1 g t hx hx', Option.bind_some, bleT hl', wrapI (n := x + 1) (by omega) (by omega)]
        rfl
      · show i_Spiral_those__i_TwinMeets_c1_L1 tS tR tr S R r S R r l x = _
        rw [i_Spiral_those__i_TwinMeets_c1_u1, i_Spiral_those__i_TwinMeets_c1_t1, decide_eq_false (by omega), cond_false]
theorem Twin_s (S R r tS tR tr : Int) : s_TwinMeets S R r tS tR tr = some (twN S R r tS tR tr) := by
  unfold s_TwinMeets s_TwinMeets_t0 twN
  cases hg : s_spGood S R r
  · rfl
  · cases ht : s_spGood tS tR tr
    · rfl
    · have g := good_iff.1 hg
      have t := good_iff.1 ht
      have gs1 := g.s1; have gs := g.s2; have gr := g.h1; have gr2 := g.h2; have gR := g.r1; have gR2 := g.r2
      have ts1 := t.s1; have ts := t.s2; have tr1 := t.h1; have tr2 := t.h2; have tR1 := t.r1; have tR2 := t.r2
      simp only [Bool.not_true, cond_false, Bool.and_self, cond_true]
      rw [seg_loop (S := S) (p := twB R r tS tR tr) (f := fun l x => s_TwinMeets_L1 S R r tS tR tr l x) (fin := fun l => some (l, true)) (fun l x hx hx' hl' => ?_) (fun l x hx => ?_) S.toNat 1 [] (by omega) (by omega) (by simp; omega)]
      · rfl
      · show s_TwinMeets_L1 S R r tS tR tr l x = _
        have B1 := mulBd (a := x) (b := r) (A := 400) (B := 300) ⟨by omega, by omega⟩ ⟨by omega, by omega⟩
        have q0 : 0 ≤ x * r / tr := Int.ediv_nonneg B1.1 (by omega)
        have q1 : x * r / tr ≤ x * r := Int.ediv_le_self _ B1.1
        have B2 := mulBd (a := R) (b := tR) (A := 60) (B := 60) ⟨by omega, by omega⟩ ⟨by omega, by omega⟩
        have hp : 0 < R * tR := Int.mul_pos (by omega) (by omega)
        have B3 := mulBd (a := x - 1) (b := tR) (A := 400) (B := 60) ⟨by omega, by omega⟩ ⟨by omega, by omega⟩
        have key := tw_spec (sR := R) (sr := r) (tS := tS) (tR := tR) (tr := tr) (k := x) (by omega) (by omega) (by omega) (by omega) hx
        rw [s_TwinMeets_u1, s_TwinMeets_t1, decide_eq_true hx', cond_true, wrapI (n := x * r) (by omega) (by omega), show (tr == 0) = false from beq_eq_false_iff_ne.2 (by omega), Int.tmod_eq_emod_of_nonneg B1.1, Int.tdiv_eq_ediv_of_nonneg B1.1, wrapI (n := x * r / tr) (by omega) (by omega), wrapI (n := x + 1) (by omega) (by omega), wrapI (n := R * tR) (by omega) (by omega), show (R * tR == 0) = false from beq_eq_false_iff_ne.2 (by omega), bleT hl', wrapI (n := x - 1) (by omega) (by omega), wrapI (n := (x - 1) * tR) (by omega) (by omega), wrapI (n := x * r / tr - 1) (by omega) (by omega)]
        simp only [cond_false, cond_true]
        by_cases c1 : x * r % tr = 0
        · rw [show (x * r % tr != 0) = false from (by rw [c1]; rfl), cond_false]
          by_cases c2 : x * r / tr ≤ tS
          · have B4 : -(400 * 60) ≤ (x * r / tr - 1) * R ∧ (x * r / tr - 1) * R ≤ 400 * 60 := by
              have h1 : (x * r / tr) * R ≤ 400 * 60 := Int.mul_le_mul (by omega) (by omega) (by omega) (by omega)
              have h2 : 0 ≤ (x * r / tr) * R := Int.mul_nonneg q0 (by omega)
              have e : (x * r / tr - 1) * R = (x * r / tr) * R - R := by grind
              omega
            rw [decide_eq_false (show ¬ x * r / tr > tS by omega), cond_false, wrapI (n := (x * r / tr - 1) * R) (by omega) (by omega), wrapI (n := (x - 1) * tR - (x * r / tr - 1) * R) (by omega) (by omega)]
            rw [twB_eq (c := Int.tmod ((x - 1) * tR - (x * r / tr - 1) * R) (R * tR) == 0) (by rw [beq_iff_eq]; exact ⟨fun h => key.1 ⟨c1, c2, h⟩, fun h => (key.2 h).2.2⟩)]
          · rw [decide_eq_true (show x * r / tr > tS by omega), ← twB_eq (c := false) ⟨fun h => by (cases h), fun h => absurd (key.2 h).2.1 c2⟩]
            rfl
        · rw [show (x * r % tr != 0) = true from bne_iff_ne.2 c1, ← twB_eq (c := false) ⟨fun h => by (cases h), fun h => absurd (key.2 h).1 c1⟩]
          rfl
      · show s_TwinMeets_L1 S R r tS tR tr l x = _
        rw [s_TwinMeets_u1, s_TwinMeets_t1, decide_eq_false (by omega), cond_false]
noncomputable def csN (S R r k : Int) : (Int × Int × Int) × (Int × Int × Int) × Bool := bif s_spStep S R r k && !(k == S) then ((k, R, r), (S - k, R, r), true) else ((0, 0, 0), (0, 0, 0), false)
theorem Cut_s (S R r k : Int) : s_CutSpiral S R r k = csN S R r k := by
  unfold s_CutSpiral csN
  cases h : s_spStep S R r k
  · rfl
  · obtain ⟨g, h1, h2⟩ := step_iff.1 h
    have := g.s2
    rw [wrapI (n := S - k) (by omega) (by omega)]
    cases k == S <;> rfl
theorem Cut_i (S R r k : Int) : i_CutSpiral S R r k = some (csN S R r k) := by
  rw [← Cut_s]
  unfold i_CutSpiral s_CutSpiral
  rw [has1_eq, Option.bind_some]
  cases s_spStep S R r k
  · rfl
  · cases k == S <;> rfl
end Go.Proofs.YtddlajhpdbjapaaGreatDoor.V
