/- Functions of the program, as plain functions. No condition. -/
import Derived.Test.YtmiimfpdlkmjhaaGreatDoorR1
set_option linter.unusedVariables false
set_option linter.unusedSimpArgs false
set_option maxRecDepth 100000
namespace Go.Proofs.YtmiimfpdlkmjhaaGreatDoor.V
open Go Go.Ev Go.Proofs
/-! ### numbers joined -/
def itoaB (n : Int) : ByteArray := ⟨(Lib.itoa n).toArray⟩
theorem num_ok {n : Int} (h : 0 ≤ n) (h' : n ≤ 4000000000000000000) : s_l1Num_n n = some (itoaB n) := by
  unfold s_l1Num_n
  rw [decide_eq_true h, decide_eq_true h']; rfl
theorem itoa_ok {n : Int} (h : 0 ≤ n) (h' : n ≤ 4000000000000000000) : strconv_Itoa n = some (itoaB n) := by
  unfold strconv_Itoa itoaF
  rw [if_pos (by omega)]; rfl
theorem itoa_len {n : Int} (h : 0 ≤ n) (h' : n ≤ 1000000) : (Lib.itoa n).length ≤ 1000001 := by
  obtain ⟨m, rfl⟩ := Int.eq_ofNat_of_zero_le h
  rw [itoa_nat]
  have := dec_len m; omega
theorem join_snoc (sep : List UInt8) : ∀ (xs : List (List UInt8)) (y : List UInt8), Lib.join (xs ++ [y]) sep = if xs = [] then y else Lib.join xs sep ++ sep ++ y
  | [], y => by rw [if_pos rfl, List.nil_append, Lib.join_one]
  | x :: r, y => by
    rw [if_neg (by simp), List.cons_append, Lib.join_cons, Lib.join_cons]
    unfold Lib.joinTail
    simp [List.append_assoc]
theorem join_len (sep : List UInt8) (xs : List (List UInt8)) : (Lib.join xs sep).length ≤ sep.length * xs.length + Lib.lens xs := by
  cases xs with
  | nil => simp [Lib.join_nil]
  | cons x r =>
    rw [Lib.join_cons, List.length_append, Lib.joinTail_length]
    have : Lib.lens (x :: r) = x.length + Lib.lens r := by simp [Lib.lens]
    rw [this, List.length_cons, Nat.mul_succ]; omega
theorem lens_le {c : Nat} : ∀ {xs : List (List UInt8)}, (∀ x, x ∈ xs → x.length ≤ c) → Lib.lens xs ≤ c * xs.length
  | [], _ => by simp [Lib.lens]
  | x :: r, h => by
    have h1 := h x (by simp)
    have h2 := lens_le (xs := r) (fun y hy => h y (List.mem_cons_of_mem _ hy))
    have : Lib.lens (x :: r) = x.length + Lib.lens r := by simp [Lib.lens]
    rw [this, List.length_cons, Nat.mul_succ]; omega
/-- small numbers -/
structure SmallL (l : List Int) : Prop where
  len : l.length ≤ 10000
  bd : ∀ x, x ∈ l → 0 ≤ x ∧ x ≤ 1000000
theorem join_bd {l : List Int} (h : SmallL l) (sep : List UInt8) (hs : sep.length ≤ 100) : (Lib.join (l.map Lib.itoa) sep).length ≤ 140737488355328 := by
  have h1 := join_len sep (l.map Lib.itoa)
  have h2 := lens_le (c := 1000001) (xs := l.map Lib.itoa) (fun x hx => by
    obtain ⟨n, hn, rfl⟩ := List.mem_map.1 hx
    have := h.bd n hn
    exact itoa_len this.1 this.2)
  rw [List.length_map] at h1 h2
  have h3 : sep.length * l.length ≤ 100 * 10000 := Nat.mul_le_mul hs h.len
  have h4 : 1000001 * l.length ≤ 1000001 * 10000 := Nat.mul_le_mul_left _ h.len
  omega
theorem SmallL.take {l : List Int} (h : SmallL l) (i : Nat) : SmallL (l.take i) := ⟨by rw [List.length_take]; have := h.len; omega, fun x hx => h.bd x (List.mem_of_mem_take hx)⟩
/-! ### numerals -/
theorem decFrom_snoc : ∀ (l : List UInt8) (acc : Nat) (b : UInt8), Lib.decFrom acc (l ++ [b]) = (Lib.decFrom acc l).bind fun m => (Lib.digitVal b).map fun d => m * 10 + d
  | [], acc, b => by
    simp only [List.nil_append, Lib.decFrom, Option.bind_some]
    cases Lib.digitVal b <;> rfl
  | c :: l, acc, b => by
    simp only [List.cons_append, Lib.decFrom]
    cases Lib.digitVal c
    · rfl
    · exact decFrom_snoc l _ b
theorem digit_of {m : Nat} (h : m < 10) : Lib.digitVal (UInt8.ofNat (48 + m)) = some m := by
  unfold Lib.digitVal
  have e : (UInt8.ofNat (48 + m)).toNat = 48 + m := by
    rw [UInt8.toNat_ofNat']; omega
  rw [e, if_pos (by omega)]
  congr 1; omega
theorem digit_inv {b : UInt8} {d : Nat} (h : Lib.digitVal b = some d) : b = UInt8.ofNat (48 + d) ∧ d < 10 := by
  unfold Lib.digitVal at h
  split at h
  · rename_i hb
    cases h
    have e : 48 + (b.toNat - 48) = b.toNat := by omega
    rw [e]
    exact ⟨by simp, by omega⟩
  · cases h
/-- a numeral spells its number -/
theorem dec_spell : ∀ u : Nat, Lib.decFrom 0 (Lib.decDigits u) = some u := by
  intro u
  induction u using Nat.strongRecOn with
  | ind u ih =>
    rw [Lib.decDigits]
    by_cases h : u < 10
    · rw [dif_pos h]
      simp only [Lib.decFrom, digit_of h]
      congr 1; omega
    · rw [dif_neg h, decFrom_snoc, ih (u / 10) (by omega), Option.bind_some, digit_of (Nat.mod_lt u (by omega))]
      simp only [Option.map_some]
      congr 1; omega
theorem dec_ne (u : Nat) : Lib.decDigits u ≠ [] := by
  rw [Lib.decDigits]
  by_cases h : u < 10
  · rw [dif_pos h]; simp
  · rw [dif_neg h]; simp
theorem dec_head : ∀ u : Nat, 0 < u → (Lib.decDigits u).head? ≠ some 48 := by
  intro u
  induction u using Nat.strongRecOn with
  | ind u ih =>
    intro h0
    rw [Lib.decDigits]
    by_cases h : u < 10
    · rw [dif_pos h]
      simp only [List.head?_cons]
      intro e
      have e := Option.some.inj e
      have := congrArg UInt8.toNat e
      rw [UInt8.toNat_ofNat'] at this
      have e48 : (48 : UInt8).toNat = 48 := rfl
      omega
    · rw [dif_neg h, List.head?_append]
      have := ih (u / 10) (by omega) (by omega)
      cases hd : (Lib.decDigits (u / 10)).head? with
      | none => exact absurd (List.head?_eq_none_iff.1 hd) (dec_ne _)
      | some x => rw [hd] at this; simpa using this
theorem dec_len6 (k : Nat) : ∀ u : Nat, u < 10 ^ (k + 1) → (Lib.decDigits u).length ≤ k + 1 := by
  induction k with
  | zero =>
    intro u h
    rw [Lib.decDigits, dif_pos (by simpa using h)]; simp
  | succ k ih =>
    intro u h
    rw [Lib.decDigits]
    by_cases h1 : u < 10
    · rw [dif_pos h1]; simp
    · rw [dif_neg h1, List.length_append, List.length_singleton]
      have := ih (u / 10) (by rw [Nat.pow_succ] at h; omega)
      omega
/-- digits without a zero ahead are their number's numeral -/
theorem dec_of : ∀ (l : List UInt8) (n : Nat), l ≠ [] → (l.head? = some 48 → l.length = 1) → Lib.decFrom 0 l = some n → Lib.decDigits n = l := by
  intro l
  induction hk : l.length using Nat.strongRecOn generalizing l with
  | ind k ih =>
    intro n hne hz hd
    obtain ⟨b, l', rfl⟩ : ∃ b l', l = l' ++ [b] := ⟨l.getLast hne, l.dropLast, (List.dropLast_concat_getLast hne).symm⟩
    rw [decFrom_snoc] at hd
    cases hm : Lib.decFrom 0 l' with
    | none => rw [hm] at hd; cases hd
    | some m =>
      rw [hm, Option.bind_some] at hd
      cases hb : Lib.digitVal b with
      | none => rw [hb] at hd; cases hd
      | some d =>
        rw [hb, Option.map_some] at hd
        have hd := Option.some.inj hd
        obtain ⟨rfl, hd9⟩ := digit_inv hb
        by_cases h0 : l' = []
        · subst h0
          have hm : some 0 = some m := hm
          have hm := Option.some.inj hm
          have : n = d := by omega
          subst this
          rw [Lib.decDigits, dif_pos hd9]; rfl
        · have hz' : l'.head? ≠ some 48 := fun e => by
            have h1 := hz (by rw [List.head?_append, e]; rfl)
            have h2 : l'.length + 1 = k := by rw [← hk]; simp
            have h3 : l'.length ≠ 0 := fun e => h0 (List.eq_nil_of_length_eq_zero e)
            omega
          have e := ih l'.length (by rw [← hk]; simp) l' rfl m h0 (fun e => absurd e hz') hm
          have hm0 : 0 < m := by
            rcases Nat.eq_zero_or_pos m with q | q
            · subst q
              rw [← e] at hz'
              exact absurd (by rw [Lib.decDigits, dif_pos (by omega)]; rfl) hz'
            · exact q
          have e1 : n / 10 = m := by omega
          have e2 : n % 10 = d := by omega
          rw [Lib.decDigits, dif_neg (by omega), e1, e2, e]
theorem decFrom_lt : ∀ (l : List UInt8) (acc n : Nat), Lib.decFrom acc l = some n → n < (acc + 1) * 10 ^ l.length
  | [], acc, n, h => by simp only [Lib.decFrom] at h; have := Option.some.inj h; simp; omega
  | b :: l, acc, n, h => by
    simp only [Lib.decFrom] at h
    cases hb : Lib.digitVal b with
    | none => rw [hb] at h; cases h
    | some d =>
      rw [hb] at h
      have h9 := (digit_inv hb).2
      have := decFrom_lt l _ n h
      have h2 : (acc * 10 + d + 1) * 10 ^ l.length ≤ ((acc + 1) * 10) * 10 ^ l.length := Nat.mul_le_mul_right _ (by omega)
      rw [List.length_cons, Nat.pow_succ, Nat.mul_comm (10 ^ l.length) 10, ← Nat.mul_assoc]
      omega
/-- what the reference reads -/
def rdL (l : List UInt8) : Int :=
  if 1 ≤ l.length ∧ l.length ≤ 6 ∧ (l.head? = some 48 → l.length = 1) then (match Lib.decFrom 0 l with | some n => (n : Int) | none => -1) else -1
theorem rdL_of {l : List UInt8} {v : Nat} (hv : v ≤ 999999) (h : Lib.decDigits v = l) : rdL l = v := by
  subst h
  unfold rdL
  have h1 := dec_len6 5 v (by omega)
  have h2 : 1 ≤ (Lib.decDigits v).length := Nat.pos_of_ne_zero (fun e => dec_ne v (List.eq_nil_of_length_eq_zero e))
  have h3 : (Lib.decDigits v).head? = some 48 → (Lib.decDigits v).length = 1 := fun e => by
    rcases Nat.eq_zero_or_pos v with q | q
    · subst q; rw [Lib.decDigits, dif_pos (by omega)]; rfl
    · exact absurd e (dec_head v q)
  rw [if_pos ⟨h2, h1, h3⟩, dec_spell]
theorem rdL_inv {l : List UInt8} (h : rdL l ≠ -1) : ∃ v : Nat, v ≤ 999999 ∧ Lib.decDigits v = l ∧ rdL l = v := by
  unfold rdL at h ⊢
  split at h
  · rename_i hc
    rw [if_pos hc]
    cases hd : Lib.decFrom 0 l with
    | none => rw [hd] at h; exact absurd rfl h
    | some n =>
      have hlt := decFrom_lt l 0 n hd
      have hp : 10 ^ l.length ≤ 10 ^ 6 := Nat.pow_le_pow_right (by omega) hc.2.1
      refine ⟨n, by omega, dec_of l n (fun e => by rw [e] at hc; simp at hc) hc.2.2 hd, rfl⟩
  · exact absurd rfl h
/-- what the program reads -/
def numL (l : List UInt8) : Int := match Lib.atoiAll l with | .ok v => if 0 ≤ v ∧ v ≤ 999999 ∧ Lib.itoa v = l then v else -1 | _ => -1
theorem atoi_dec {v : Nat} (hv : v ≤ 999999) : Lib.atoiAll (Lib.decDigits v) = .ok (v : Int) := by
  have h1 := dec_len6 5 v (by omega)
  rw [Lib.atoiAll_short _ (by omega)]
  have hs := dec_spell v
  have hne := dec_ne v
  cases hl : Lib.decDigits v with
  | nil => exact absurd hl hne
  | cons b r =>
    rw [hl] at hs
    have hb : ∃ d, Lib.digitVal b = some d := by
      simp only [Lib.decFrom] at hs
      cases hd : Lib.digitVal b with
      | none => rw [hd] at hs; cases hs
      | some d => exact ⟨d, rfl⟩
    obtain ⟨d, hd⟩ := hb
    obtain ⟨rfl, h9⟩ := digit_inv hd
    have e : (UInt8.ofNat (48 + d)).toNat = 48 + d := by rw [UInt8.toNat_ofNat']; omega
    have n1 : (UInt8.ofNat (48 + d) == 45) = false := by
      rw [beq_eq_false_iff_ne]; intro k; have := congrArg UInt8.toNat k; rw [e] at this; have e45 : (45 : UInt8).toNat = 45 := rfl; omega
    have n2 : (UInt8.ofNat (48 + d) == 43) = false := by
      rw [beq_eq_false_iff_ne]; intro k; have := congrArg UInt8.toNat k; rw [e] at this; have e43 : (43 : UInt8).toNat = 43 := rfl; omega
    unfold Lib.atoi
    simp only [n1, n2, Bool.false_eq_true, if_false]
    unfold Lib.decNat
    simp only [List.isEmpty_cons, Bool.false_eq_true, if_false]
    rw [hs]; rfl
theorem numL_eq (l : List UInt8) : numL l = rdL l := by
  by_cases h : rdL l = -1
  · rw [h]
    unfold numL
    cases ha : Lib.atoiAll l with
    | ok v =>
      simp only
      by_cases hc : 0 ≤ v ∧ v ≤ 999999 ∧ Lib.itoa v = l
      · obtain ⟨n, rfl⟩ := Int.eq_ofNat_of_zero_le hc.1
        have := rdL_of (l := l) (v := n) (by omega) (by rw [← hc.2.2, itoa_nat])
        omega
      · rw [if_neg hc]
    | _ => rfl
  · obtain ⟨v, h1, h2, h3⟩ := rdL_inv h
    rw [h3]
    unfold numL
    rw [← h2, atoi_dec h1]
    simp only
    rw [if_pos ⟨by omega, by omega, itoa_nat v⟩]
/-! ### numbers read -/
abbrev bL (s : ByteArray) : List UInt8 := s.data.toList
theorem bL_len (s : ByteArray) : (bL s).length = s.size := by
  show s.data.toList.length = s.data.size
  rw [Array.length_toList]
theorem bt_get {s : ByteArray} {i : Nat} (h : i < (bL s).length) : bt s (i : Int) = ((bL s)[i].toNat : Int) := by
  unfold bt
  rw [Int.toNat_natCast, List.getD_eq_getElem?_getD, List.getElem?_eq_getElem h]; rfl
theorem bL_inj {a b : ByteArray} (h : bL a = bL b) : a = b := by
  obtain ⟨⟨x⟩⟩ := a
  obtain ⟨⟨y⟩⟩ := b
  have h : x = y := h
  rw [h]
def ofDec : Option Nat → Int | some n => (n : Int) | none => -1
theorem read_loop (s : ByteArray) (hs : s.size ≤ 6) : ∀ (d i n : Nat), i + d = (bL s).length → n < 10 ^ i → s_l1Read_L1 s (n : Int) (i : Int) = some (ofDec (Lib.decFrom n ((bL s).drop i)))
  | 0, i, n, h, hn => by
    have hl := bL_len s
    rw [s_l1Read_u1, s_l1Read_t1, decide_eq_false (by omega), cond_false, List.drop_of_length_le (by omega)]; rfl
  | d + 1, i, n, h, hn => by
    have hl := bL_len s
    have hi : i < (bL s).length := by omega
    have hp : 10 ^ i ≤ 10 ^ 6 := Nat.pow_le_pow_right (by omega) (by omega)
    rw [s_l1Read_u1, s_l1Read_t1, decide_eq_true (show (i : Int) < (s.size : Int) by omega), decide_eq_true (Int.natCast_nonneg i), bt_get hi, List.drop_eq_getElem_cons hi]
    simp only [cond_true, Lib.decFrom]
    unfold Lib.digitVal
    by_cases h1 : ((bL s)[i].toNat : Int) < 48
    · rw [decide_eq_true h1, if_neg (by omega)]; rfl
    · by_cases h2 : ((bL s)[i].toNat : Int) > 57
      · rw [decide_eq_false h1, decide_eq_true h2, if_neg (by omega)]; rfl
      · rw [decide_eq_false h1, decide_eq_false h2, if_pos (by omega)]
        simp only [cond_false]
        rw [wrapU8 (n := ((bL s)[i].toNat : Int) - 48) (by omega) (by omega), wrapI (n := ((bL s)[i].toNat : Int) - 48) (by omega) (by omega), wrapI (n := 10 * (n : Int)) (by omega) (by omega), wrapI (n := 10 * (n : Int) + _) (by omega) (by omega), wrapI (n := (i : Int) + 1) (by omega) (by omega)]
        have e1 : 10 * (n : Int) + (((bL s)[i].toNat : Int) - 48) = ((n * 10 + ((bL s)[i].toNat - 48) : Nat) : Int) := by omega
        rw [e1, show (i : Int) + 1 = ((i + 1 : Nat) : Int) by omega]
        exact read_loop s hs d (i + 1) _ (by omega) (by rw [Nat.pow_succ]; omega)
theorem read_ok (s : ByteArray) : s_l1Read s = some (rdL (bL s)) := by
  have hl := bL_len s
  unfold s_l1Read s_l1Read_t0 rdL
  by_cases h : 1 ≤ s.size ∧ s.size ≤ 6
  · have h1 : s_l1In (s.size : Int) 1 6 = true := by
      unfold s_l1In
      rw [decide_eq_true (by omega), decide_eq_true (by omega)]; rfl
    have h0 : 0 < (bL s).length := by omega
    have hh : (bL s).head? = some (bL s)[0] := by rw [List.head?_eq_getElem?, List.getElem?_eq_getElem h0]
    have hb : bt s 0 = ((bL s)[0].toNat : Int) := bt_get (i := 0) h0
    have lp := read_loop s h.2 (bL s).length 0 0 (by omega) (by simp)
    have lp : s_l1Read_L1 s 0 0 = some (ofDec (Lib.decFrom 0 (bL s))) := lp
    rw [h1, decide_eq_true (show (0 : Int) < (s.size : Int) by omega), hb, hh, lp]
    simp only [Bool.not_true, cond_false, cond_true]
    by_cases hz : (bL s)[0] = 48
    · rw [hz]
      have e48 : (((48 : UInt8).toNat : Int) == 48) = true := rfl
      rw [e48, cond_true]
      by_cases h2 : s.size = 1
      · rw [decide_eq_false (show ¬ (s.size : Int) > 1 by omega), cond_false, if_pos ⟨by omega, by omega, fun _ => by omega⟩]
        unfold ofDec; rfl
      · rw [decide_eq_true (show (s.size : Int) > 1 by omega), cond_true, if_neg]
        intro hc
        have := hc.2.2 rfl
        omega
    · have e48 : (((bL s)[0].toNat : Int) == 48) = false := by
        rw [beq_eq_false_iff_ne]
        intro e
        apply hz
        apply UInt8.toNat_inj.1
        have : (48 : UInt8).toNat = 48 := rfl
        omega
      rw [e48, cond_false, if_pos ⟨by omega, by omega, fun e => absurd (Option.some.inj e) hz⟩]
      unfold ofDec; rfl
  · have h1 : s_l1In (s.size : Int) 1 6 = false := by
      unfold s_l1In
      by_cases h2 : (s.size : Int) ≥ 1
      · rw [decide_eq_true h2, cond_true, decide_eq_false (by omega)]
      · rw [decide_eq_false h2]; rfl
    rw [h1, if_neg (by omega)]; rfl
theorem num_eq {s : ByteArray} (hs : s.size ≤ 281474976710656) : i_num s = some (numL (bL s)) := by
  unfold i_num strconv_Atoi atoiF
  rw [if_pos hs, Option.bind_some]
  unfold atoiV numL
  cases ha : Lib.atoiAll (bL s) with
  | ok v =>
    simp only [Bool.not_true, cond_false]
    by_cases h1 : v < 0
    · rw [decide_eq_true h1, cond_true, if_neg (by omega)]
    · by_cases h2 : v > 999999
      · rw [decide_eq_false h1, decide_eq_true h2, cond_false, cond_true, if_neg (by omega)]
      · rw [decide_eq_false h1, decide_eq_false h2, cond_false, cond_false]
        unfold strconv_Itoa itoaF
        rw [if_pos (by omega), Option.bind_some]
        have e1 : ByteArray.toList (⟨(Lib.itoa v).toArray⟩ : ByteArray) = Lib.itoa v := by rw [ByteArray.toList_eq]
        have e2 : ByteArray.toList s = bL s := ByteArray.toList_eq s
        rw [e1, e2]
        by_cases h3 : Lib.itoa v = bL s
        · rw [if_pos ⟨by omega, by omega, h3⟩, h3, beq_self_eq_true]; rfl
        · rw [if_neg (fun c => h3 c.2.2), show (Lib.itoa v == bL s) = false from beq_eq_false_iff_ne.2 h3]; rfl
  | _ => rfl
/-! ### texts split -/
def spl (c : UInt8) : List UInt8 → List (List UInt8)
  | [] => [[]]
  | b :: r => if b = c then [] :: spl c r else match spl c r with | h :: t => (b :: h) :: t | [] => [[b]]
theorem spl_ne (c : UInt8) : ∀ l : List UInt8, spl c l ≠ []
  | [] => by simp [spl]
  | b :: r => by
    unfold spl
    split
    · simp
    · split <;> simp
theorem spl_join (c : UInt8) : ∀ l : List UInt8, Lib.join (spl c l) [c] = l
  | [] => rfl
  | b :: r => by
    have ih := spl_join c r
    unfold spl
    by_cases h : b = c
    · rw [if_pos h, h]
      cases hs : spl c r with
      | nil => exact absurd hs (spl_ne c r)
      | cons x t =>
        rw [hs, Lib.join_cons] at ih
        rw [Lib.join_cons]
        simp [Lib.joinTail] at ih ⊢
        exact ih
    · rw [if_neg h]
      cases hs : spl c r with
      | nil => exact absurd hs (spl_ne c r)
      | cons x t =>
        rw [hs, Lib.join_cons] at ih
        simp only
        rw [Lib.join_cons, List.cons_append, ih]
/-- a piece without the byte, then the byte -/
theorem spl_piece (c : UInt8) : ∀ (p r : List UInt8), c ∉ p → spl c (p ++ c :: r) = p :: spl c r
  | [], r, _ => by simp [spl]
  | b :: p, r, h => by
    have hb : ¬ b = c := fun e => h (by rw [e]; exact List.mem_cons_self)
    have ih := spl_piece c p r (fun m => h (List.mem_cons_of_mem _ m))
    rw [List.cons_append]
    conv => lhs; unfold spl
    rw [if_neg hb, ih]
theorem spl_last (c : UInt8) : ∀ p : List UInt8, c ∉ p → spl c p = [p]
  | [], _ => rfl
  | b :: p, h => by
    have hb : ¬ b = c := fun e => h (by rw [e]; exact List.mem_cons_self)
    have ih := spl_last c p (fun m => h (List.mem_cons_of_mem _ m))
    unfold spl
    rw [if_neg hb, ih]
theorem split_spl (c : UInt8) : ∀ l : List UInt8, Lib.splitK [c] 0 (Lib.count l [c]) l = spl c l
  | [] => by
    have h : Lib.count [] [c] = 0 := by rw [Lib.count_one]; rfl
    rw [h]; rfl
  | b :: r => by
    have ih := split_spl c r
    by_cases h : b = c
    · subst h
      have hix : Lib.index (b :: r) [b] = 0 := by rw [Lib.index]; simp [List.isPrefixOf]
      rw [Lib.count_cons_eq, Nat.add_comm, Lib.splitK, hix]
      unfold spl
      rw [if_pos rfl, ← ih]
      simp
    · rw [Lib.count_cons_ne b c r h]
      unfold spl
      rw [if_neg h, ← ih]
      have hp : ([c] : List UInt8).isPrefixOf (b :: r) = false := by simp [List.isPrefixOf, Ne.symm h]
      have hix : Lib.index (b :: r) [c] = if Lib.index r [c] == -1 then -1 else Lib.index r [c] + 1 := by rw [Lib.index, hp]; simp
      cases hk : Lib.count r [c] with
      | zero => rfl
      | succ k =>
        by_cases hm : Lib.index r [c] = -1
        · have := Lib.count_miss hm
          omega
        · have hge := Lib.index_ge r [c]
          obtain ⟨j, hj⟩ : ∃ j : Nat, Lib.index r [c] = j := ⟨(Lib.index r [c]).toNat, by omega⟩
          have hne : (Lib.index r [c] == -1) = false := beq_eq_false_iff_ne.2 hm
          have hne2 : (((j : Int) + 1) == -1) = false := beq_eq_false_iff_ne.2 (by omega)
          have hne3 : ((j : Int) == -1) = false := beq_eq_false_iff_ne.2 (by omega)
          rw [Lib.splitK, Lib.splitK, hix, hne]
          simp only [Bool.false_eq_true, if_false, hj, hne2, hne3]
          have e1 : ((j : Int) + 1).toNat = j + 1 := by omega
          rw [e1, Int.toNat_natCast]
          simp [Nat.add_comm]
          rw [Nat.add_comm 1 (j + 1)]
          rfl
theorem split_ok {s : ByteArray} (hs : s.size < 4294967281) (c : UInt8) : ∃ ps : List ByteArray, strings_Split s ⟨#[c]⟩ = some ps ∧ ps.map bL = spl c (bL s) := by
  unfold strings_Split splitF
  have h1 : (⟨#[c]⟩ : ByteArray).size = 1 := rfl
  rw [if_pos ⟨hs, by omega⟩]
  exact ⟨_, rfl, (Lib.splitB_data _ _ _ _).trans (split_spl c (bL s))⟩
theorem bt_eq {s : ByteArray} {i : Nat} (h : i < (bL s).length) (c : UInt8) : (bt s (i : Int) == ((c.toNat : Nat) : Int)) = decide ((bL s)[i] = c) := by
  rw [bt_get h]
  by_cases e : (bL s)[i] = c
  · rw [e, decide_eq_true rfl, beq_self_eq_true]
  · rw [decide_eq_false e, beq_eq_false_iff_ne]
    intro k
    exact e (UInt8.toNat_inj.1 (by omega))
theorem ext_bL (s : ByteArray) (a b : Nat) : bL (s.extract a b) = ((bL s).drop a).take (b - a) := Lib.extract_data s a b
/-- the reference's splitting -/
theorem l1Split_loop (s : ByteArray) (hs : s.size ≤ 2000000) (c : UInt8) : ∀ (d i f : Nat) (r : List ByteArray), i + d = (bL s).length → f ≤ i → c ∉ ((bL s).drop f).take (i - f) → r.length ≤ i →
    ∃ ps : List ByteArray, s_l1Split_L1 r s ((c.toNat : Nat) : Int) (f : Int) (i : Int) = some (r ++ ps) ∧ ps.map bL = spl c ((bL s).drop f)
  | 0, i, f, r, h, hf, hc, hr => by
    have hl := bL_len s
    refine ⟨[s.extract f s.size], ?_, ?_⟩
    · rw [s_l1Split_u1, s_l1Split_t1, decide_eq_false (by omega), cond_false, decide_eq_true (Int.natCast_nonneg f), decide_eq_true (show (f : Int) ≤ (s.size : Int) by omega), ble_dec, decide_eq_true (by omega), Int.toNat_natCast, Int.toNat_natCast]
      rfl
    · have e : ((bL s).drop f).take (i - f) = (bL s).drop f := List.take_of_length_le (by rw [List.length_drop]; omega)
      rw [e] at hc
      rw [spl_last c _ hc, List.map_cons, List.map_nil, ext_bL]
      congr 1
      exact List.take_of_length_le (by rw [List.length_drop]; omega)
  | d + 1, i, f, r, h, hf, hc, hr => by
    have hl := bL_len s
    have hi : i < (bL s).length := by omega
    have hsplit : (bL s).drop f = ((bL s).drop f).take (i - f) ++ (bL s)[i] :: (bL s).drop (i + 1) := by
      have e := List.take_append_drop (i - f) ((bL s).drop f)
      rw [List.drop_drop, show f + (i - f) = i by omega, List.drop_eq_getElem_cons hi] at e
      exact e.symm
    rw [s_l1Split_u1, s_l1Split_t1, decide_eq_true (show (i : Int) < (s.size : Int) by omega), decide_eq_true (Int.natCast_nonneg i), bt_eq hi, decide_eq_true (show (i : Int) ≤ (s.size : Int) by omega), decide_eq_true (Int.natCast_nonneg f), decide_eq_true (show (f : Int) ≤ (i : Int) by omega), ble_dec, decide_eq_true (show r.length + 1 ≤ 4294967296 by omega), wrapI (n := (i : Int) + 1) (by omega) (by omega), Int.toNat_natCast, Int.toNat_natCast, show (i : Int) + 1 = ((i + 1 : Nat) : Int) by omega]
    simp only [cond_true]
    by_cases e : (bL s)[i] = c
    · rw [decide_eq_true e, cond_true]
      obtain ⟨ps, h1, h2⟩ := l1Split_loop s hs c d (i + 1) (i + 1) (r ++ [s.extract f i]) (by omega) (Nat.le_refl _) (by simp) (by simp; omega)
      refine ⟨s.extract f i :: ps, ?_, ?_⟩
      · rw [h1, List.append_assoc]; rfl
      · rw [List.map_cons, h2, ext_bL, hsplit, e, spl_piece c _ _ hc]
        congr 1
        rw [← e, ← hsplit]
    · rw [decide_eq_false e, cond_false]
      refine l1Split_loop s hs c d (i + 1) f r (by omega) (by omega) ?_ (by omega)
      rw [hsplit, show i + 1 - f = (i - f) + 1 by omega]
      intro m
      rw [List.take_append, List.mem_append] at m
      rcases m with m | m
      · exact hc (List.mem_of_mem_take m)
      · have hlen : (((bL s).drop f).take (i - f)).length = i - f := by rw [List.length_take, List.length_drop]; omega
        rw [hlen, show i - f + 1 - (i - f) = 1 by omega] at m
        simp at m
        exact e m.symm
theorem l1Split_ok {s : ByteArray} (hs : s.size ≤ 2000000) (c : UInt8) : ∃ ps : List ByteArray, s_l1Split s ((c.toNat : Nat) : Int) = some ps ∧ ps.map bL = spl c (bL s) := by
  unfold s_l1Split s_l1Split_t0
  obtain ⟨ps, h1, h2⟩ := l1Split_loop s hs c (bL s).length 0 0 [] (by omega) (Nat.le_refl _) (by simp) (Nat.le_refl _)
  exact ⟨ps, h1, h2⟩
/-! ### numbers between -/
theorem spl_len (c : UInt8) : ∀ (l : List UInt8), (∀ x, x ∈ spl c l → x.length ≤ l.length) ∧ (spl c l).length ≤ l.length + 1
  | [] => by simp [spl]
  | b :: r => by
    obtain ⟨h1, h2⟩ := spl_len c r
    unfold spl
    by_cases h : b = c
    · rw [if_pos h]
      refine ⟨fun x hx => ?_, by simp only [List.length_cons]; omega⟩
      rcases List.mem_cons.1 hx with e | e
      · subst e; simp
      · have := h1 x e; simp only [List.length_cons]; omega
    · rw [if_neg h]
      cases hs : spl c r with
      | nil => exact absurd hs (spl_ne c r)
      | cons y t =>
        rw [hs] at h1 h2
        simp only
        refine ⟨fun x hx => ?_, by simp only [List.length_cons] at h2 ⊢; omega⟩
        rcases List.mem_cons.1 hx with e | e
        · subst e; have := h1 y (by simp); simp only [List.length_cons]; omega
        · have := h1 x (List.mem_cons_of_mem _ e); simp only [List.length_cons]; omega
theorem pieces_bd {s : ByteArray} {c : UInt8} {ps : List ByteArray} (h : ps.map bL = spl c (bL s)) : (∀ p, p ∈ ps → p.size ≤ s.size) ∧ ps.length ≤ s.size + 1 := by
  obtain ⟨h1, h2⟩ := spl_len c (bL s)
  have e : ps.length = (spl c (bL s)).length := by rw [← h, List.length_map]
  rw [bL_len] at h1 h2
  refine ⟨fun p hp => ?_, by omega⟩
  have := h1 (bL p) (by rw [← h]; exact List.mem_map_of_mem hp)
  rw [bL_len] at this; exact this
abbrev rd (p : ByteArray) : Int := rdL (bL p)
abbrev okP (p : ByteArray) : Bool := decide (0 ≤ rd p)
theorem rdL_bd (l : List UInt8) : -1 ≤ rdL l ∧ rdL l ≤ 999999 := by
  by_cases h : rdL l = -1
  · omega
  · obtain ⟨v, h1, _, h3⟩ := rdL_inv h; omega
theorem rd_text {p : ByteArray} (h : 0 ≤ rd p) : Lib.itoa (rd p) = bL p := by
  obtain ⟨v, h1, h2, h3⟩ := rdL_inv (l := bL p) (by unfold rd at h; omega)
  unfold rd
  rw [h3, itoa_nat, h2]
/-! ### numerals and pieces, put together and read back -/
theorem dec_mem : ∀ (u : Nat) (b : UInt8), b ∈ Lib.decDigits u → ∃ m, m < 10 ∧ b = UInt8.ofNat (48 + m) := by
  intro u
  induction u using Nat.strongRecOn with
  | _ u ih =>
    intro b h
    rw [Lib.decDigits] at h
    by_cases h1 : u < 10
    · rw [dif_pos h1, List.mem_singleton] at h
      exact ⟨u, h1, h⟩
    · rw [dif_neg h1, List.mem_append, List.mem_singleton] at h
      rcases h with h | h
      · exact ih (u / 10) (by omega) b h
      · exact ⟨u % 10, by omega, h⟩
theorem itoa_no {n : Int} (h0 : 0 ≤ n) {c : UInt8} (hc : ∀ m, m < 10 → c ≠ UInt8.ofNat (48 + m)) : c ∉ Lib.itoa n := by
  obtain ⟨m, rfl⟩ := Int.eq_ofNat_of_zero_le h0
  rw [itoa_nat]
  intro hm
  obtain ⟨d, h1, h2⟩ := dec_mem m c hm
  exact hc d h1 h2
theorem no46 : ∀ m, m < 10 → (46 : UInt8) ≠ UInt8.ofNat (48 + m) := by decide
theorem no44 : ∀ m, m < 10 → (44 : UInt8) ≠ UInt8.ofNat (48 + m) := by decide
theorem rdL_itoa {n : Int} (h0 : 0 ≤ n) (h1 : n ≤ 999999) : rdL (Lib.itoa n) = n := by
  obtain ⟨m, rfl⟩ := Int.eq_ofNat_of_zero_le h0
  rw [itoa_nat]
  exact rdL_of (by omega) rfl
theorem itoa_ne {n : Int} (h0 : 0 ≤ n) : Lib.itoa n ≠ [] := by
  obtain ⟨m, rfl⟩ := Int.eq_ofNat_of_zero_le h0
  rw [itoa_nat]
  exact dec_ne m
theorem spl_of_join (c : UInt8) : ∀ (p : List UInt8) (ps : List (List UInt8)), (∀ q, q ∈ p :: ps → c ∉ q) → spl c (Lib.join (p :: ps) [c]) = p :: ps
  | p, [], h => by rw [Lib.join_one]; exact spl_last c p (h p (by simp))
  | p, q :: r, h => by
    have ih := spl_of_join c q r (fun x hx => h x (List.mem_cons_of_mem _ hx))
    have e : Lib.join (p :: q :: r) [c] = p ++ c :: Lib.join (q :: r) [c] := by
      rw [Lib.join_cons, Lib.join_cons]; simp [Lib.joinTail]
    rw [e, spl_piece c p _ (h p (by simp)), ih]
/-! ### texts cut at a byte -/
theorem cut_spl (c : UInt8) : ∀ l : List UInt8, Lib.cut l [c] = match spl c l with | [] => (l, [], false) | [_] => (l, [], false) | a :: r => (a, Lib.join r [c], true)
  | [] => rfl
  | b :: r => by
    have ih := cut_spl c r
    unfold spl
    by_cases h : b = c
    · subst h
      have hix : Lib.index (b :: r) [b] = 0 := by rw [Lib.index]; simp [List.isPrefixOf]
      rw [if_pos rfl]
      have hj := spl_join b r
      cases hs : spl b r with
      | nil => exact absurd hs (spl_ne b r)
      | cons x t =>
        rw [hs] at hj
        unfold Lib.cut
        rw [hix]
        simp [hj]
    · rw [if_neg h]
      have hp : ([c] : List UInt8).isPrefixOf (b :: r) = false := by simp [List.isPrefixOf, Ne.symm h]
      have hix : Lib.index (b :: r) [c] = if Lib.index r [c] == -1 then -1 else Lib.index r [c] + 1 := by rw [Lib.index, hp]; simp
      have hge := Lib.index_ge r [c]
      unfold Lib.cut at ih ⊢
      rw [hix]
      by_cases hm : Lib.index r [c] = -1
      · rw [hm] at ih ⊢
        simp only [beq_self_eq_true, if_true] at ih ⊢
        rw [if_neg (by omega)] at ih ⊢
        cases hs : spl c r with
        | nil => exact absurd hs (spl_ne c r)
        | cons x t =>
          rw [hs] at ih
          cases t with
          | nil => rfl
          | cons y t => simp at ih
      · obtain ⟨j, hj⟩ : ∃ j : Nat, Lib.index r [c] = j := ⟨(Lib.index r [c]).toNat, by omega⟩
        rw [hj] at ih ⊢
        have hne : (((j : Nat) : Int) == -1) = false := beq_eq_false_iff_ne.2 (by omega)
        rw [hne]
        simp only [Bool.false_eq_true, if_false]
        rw [if_pos (by omega)] at ih ⊢
        rw [show ((j : Int) + 1).toNat = j + 1 from by omega]
        rw [Int.toNat_natCast] at ih
        cases hs : spl c r with
        | nil => exact absurd hs (spl_ne c r)
        | cons x t =>
          rw [hs] at ih
          cases t with
          | nil => simp at ih
          | cons y t =>
            simp only [Prod.mk.injEq, and_true] at ih
            simp only [List.take_succ_cons]
            rw [ih.1]
            refine Prod.ext rfl (Prod.ext ?_ rfl)
            simp only
            rw [← ih.2, show j + 1 + ([c] : List UInt8).length = (j + ([c] : List UInt8).length) + 1 from by omega, List.drop_succ_cons]
theorem cut_none {c : UInt8} {l : List UInt8} (h : c ∉ l) : Lib.cut l [c] = (l, [], false) := by
  rw [cut_spl, spl_last c l h]
theorem cut_at {c : UInt8} {a r : List UInt8} (h : c ∉ a) : Lib.cut (a ++ c :: r) [c] = (a, r, true) := by
  have hj := spl_join c r
  rw [cut_spl, spl_piece c a r h]
  cases hs : spl c r with
  | nil => exact absurd hs (spl_ne c r)
  | cons x t => rw [hs] at hj; simp only; rw [hj]
/-- what a text cut tells -/
theorem cut_inv {c : UInt8} {l a r : List UInt8} {f : Bool} (h : Lib.cut l [c] = (a, r, f)) : (f = true ∧ l = a ++ c :: r ∧ c ∉ a) ∨ (f = false ∧ a = l ∧ r = [] ∧ c ∉ l) := by
  by_cases hc : c ∈ l
  · left
    obtain ⟨s, t, rfl⟩ := List.append_of_mem hc
    have : ∀ (s t : List UInt8), ∃ s' t', s ++ c :: t = s' ++ c :: t' ∧ c ∉ s' := by
      intro s
      induction s with
      | nil => intro t; exact ⟨[], t, rfl, by simp⟩
      | cons x s ih =>
        intro t
        by_cases hx : x = c
        · subst hx; exact ⟨[], s ++ x :: t, rfl, by simp⟩
        · obtain ⟨s', t', h1, h2⟩ := ih t
          exact ⟨x :: s', t', by rw [List.cons_append, h1]; rfl, by simp only [List.mem_cons, not_or]; exact ⟨fun e => hx e.symm, h2⟩⟩
    obtain ⟨s', t', h1, h2⟩ := this s t
    rw [h1, cut_at h2] at h
    cases h
    exact ⟨rfl, h1, h2⟩
  · right
    rw [cut_none hc] at h
    cases h
    exact ⟨rfl, rfl, rfl, hc⟩
/-! ### stairs' texts -/
def numsT (l : List Int) : List UInt8 := Lib.join (l.map Lib.itoa) [44]
def tS (N : Int) (D B : List Int) : List UInt8 := Lib.itoa N ++ 115 :: (numsT D ++ if B = [] then [] else 120 :: numsT B)
theorem join_two (p q : List UInt8) (r : List (List UInt8)) (c : UInt8) : Lib.join (p :: q :: r) [c] = p ++ c :: Lib.join (q :: r) [c] := by
  rw [Lib.join_cons, Lib.join_cons]; simp [Lib.joinTail]
theorem numsT_no {c : UInt8} (hc : ∀ m, m < 10 → c ≠ UInt8.ofNat (48 + m)) (h44 : c ≠ 44) : ∀ {l : List Int}, (∀ x, x ∈ l → 0 ≤ x) → c ∉ numsT l
  | [], _ => by unfold numsT; simp [Lib.join]
  | [x], h => by
    unfold numsT
    rw [List.map_cons, List.map_nil, Lib.join_one]
    exact itoa_no (h x (by simp)) hc
  | x :: y :: l, h => by
    have ih := numsT_no hc h44 (l := y :: l) (fun z hz => h z (List.mem_cons_of_mem _ hz))
    have h1 := itoa_no (h x (by simp)) hc
    unfold numsT at ih ⊢
    rw [List.map_cons, List.map_cons, join_two]
    simp only [List.mem_append, List.mem_cons, not_or]
    rw [List.map_cons] at ih
    exact ⟨h1, h44, ih⟩
theorem numsT_spl {l : List Int} (hl : l ≠ []) (h : ∀ x, x ∈ l → 0 ≤ x) : spl 44 (numsT l) = l.map Lib.itoa := by
  cases l with
  | nil => exact absurd rfl hl
  | cons x l =>
    unfold numsT
    rw [List.map_cons]
    refine spl_of_join 44 _ _ (fun q hq => ?_)
    rw [← List.map_cons] at hq
    obtain ⟨z, hz, rfl⟩ := List.mem_map.1 hq
    exact itoa_no (h z hz) no44
theorem rdL_map {l : List Int} (h : ∀ x, x ∈ l → 0 ≤ x ∧ x ≤ 999999) : (l.map Lib.itoa).map rdL = l := by
  rw [List.map_map]
  have : l.map (rdL ∘ Lib.itoa) = l.map id := List.map_congr_left fun x hx => rdL_itoa (h x hx).1 (h x hx).2
  rw [this, List.map_id]
theorem rdL_inv' {x : List UInt8} (h : 0 ≤ rdL x) : Lib.itoa (rdL x) = x := by
  obtain ⟨v, h1, h2, h3⟩ := rdL_inv (l := x) (by omega)
  rw [h3, itoa_nat, h2]
/-- numbers read are the text's -/
theorem nums_back {x : List UInt8} (h : ∀ q, q ∈ spl 44 x → 0 ≤ rdL q) : numsT ((spl 44 x).map rdL) = x := by
  have e : ((spl 44 x).map rdL).map Lib.itoa = spl 44 x := by
    rw [List.map_map]
    have : (spl 44 x).map (Lib.itoa ∘ rdL) = (spl 44 x).map id := List.map_congr_left fun q hq => rdL_inv' (h q hq)
    rw [this, List.map_id]
  unfold numsT
  rw [e, spl_join]
theorem no115 : ∀ m, m < 10 → (115 : UInt8) ≠ UInt8.ofNat (48 + m) := by decide
theorem no120 : ∀ m, m < 10 → (120 : UInt8) ≠ UInt8.ofNat (48 + m) := by decide
/-- the numbers that a text stands for, if it has -/
def stR (a d b : List UInt8) (has : Bool) : Int × List Int × List Int := (rdL a, (spl 44 d).map rdL, bif has then (spl 44 b).map rdL else [])
theorem spl_map_ne (x : List UInt8) : (spl 44 x).map rdL ≠ [] := fun e => spl_ne 44 x (List.map_eq_nil_iff.1 e)
/-- parts whose numbers are none below nought are the text of their numbers -/
theorem st_text {a d b : List UInt8} {has : Bool} (ha : 0 ≤ rdL a) (hd : ∀ q, q ∈ spl 44 d → 0 ≤ rdL q) (hb : has = true → ∀ q, q ∈ spl 44 b → 0 ≤ rdL q) :
    tS (stR a d b has).1 (stR a d b has).2.1 (stR a d b has).2.2 = a ++ 115 :: (d ++ bif has then 120 :: b else []) := by
  unfold tS stR
  simp only
  rw [rdL_inv' ha, nums_back hd]
  cases has
  · simp
  · simp only [cond_true]
    rw [if_neg (spl_map_ne b), nums_back (hb rfl)]
theorem itoa1 {n : Int} (k : Nat) (h0 : 0 ≤ n) (h1 : n < 10 ^ (k + 1)) : (Lib.itoa n).length ≤ k + 1 := by
  obtain ⟨m, rfl⟩ := Int.eq_ofNat_of_zero_le h0
  rw [itoa_nat]
  exact dec_len6 k m (by exact_mod_cast h1)
theorem within_eq (x lo hi : Int) : i_within x lo hi = s_l1In x lo hi := by unfold i_within s_l1In; simp
theorem l1In_iff {x lo hi : Int} : s_l1In x lo hi = true ↔ lo ≤ x ∧ x ≤ hi := by
  unfold s_l1In
  by_cases h1 : lo ≤ x <;> by_cases h2 : x ≤ hi <;> simp [h1, h2]
/-! ### texts of three numbers -/
theorem bsz (l : List UInt8) : (⟨l.toArray⟩ : ByteArray).size = l.length := by show l.toArray.size = _; simp
theorem bL_mk (l : List UInt8) : bL ⟨l.toArray⟩ = l := by show l.toArray.toList = l; simp
theorem ble_b {m : Nat} (h : m ≤ 1000000) : Nat.ble m 9223372036854775807 = true := by rw [Nat.ble_eq]; omega
theorem cut_ok {s : ByteArray} (hs : s.size ≤ 3000000) (c : UInt8) : strings_Cut s { data := #[c] } = some (⟨(Lib.cut (bL s) [c]).1.toArray⟩, ⟨(Lib.cut (bL s) [c]).2.1.toArray⟩, (Lib.cut (bL s) [c]).2.2) := by
  unfold strings_Cut cutF
  rw [if_pos (by omega)]
theorem cut_lens {c : UInt8} {l a r : List UInt8} {f : Bool} (h : Lib.cut l [c] = (a, r, f)) : a.length ≤ l.length ∧ r.length ≤ l.length := by
  rcases cut_inv h with ⟨-, rfl, -⟩ | ⟨-, rfl, rfl, -⟩
  · simp only [List.length_append, List.length_cons]; omega
  · simp
theorem spl_one {c : UInt8} {l : List UInt8} (h : (spl c l).length = 1) : spl c l = [l] := by
  have hj := spl_join c l
  cases hs : spl c l with
  | nil => rw [hs] at h; cases h
  | cons x r =>
    cases r with
    | nil =>
      rw [hs, Lib.join_one] at hj
      rw [hj]
    | cons y r => rw [hs] at h; simp at h
theorem map_one {ps : List ByteArray} {x : List UInt8} (h : ps.map bL = [x]) : ∃ p, ps = [p] ∧ bL p = x := by
  cases ps with
  | nil => cases h
  | cons p r =>
    rw [List.map_cons] at h
    injection h with h1 h2
    exact ⟨p, by rw [List.map_eq_nil_iff.1 h2], h1⟩
theorem map_two {ps : List ByteArray} {x y : List UInt8} (h : ps.map bL = [x, y]) : ∃ p q, ps = [p, q] ∧ bL p = x ∧ bL q = y := by
  cases ps with
  | nil => cases h
  | cons p r =>
    rw [List.map_cons] at h
    injection h with h1 h2
    obtain ⟨q, hq, e⟩ := map_one h2
    exact ⟨p, q, by rw [hq], h1, e⟩
theorem no_in_rd {c : UInt8} (hc : ∀ m, m < 10 → c ≠ UInt8.ofNat (48 + m)) {x : List UInt8} (h : 0 ≤ rdL x) : c ∉ x := by
  have e := rdL_inv' h
  rw [← e]
  exact itoa_no h hc
theorem rdL_nil : ¬ 0 ≤ rdL [] := fun h => by
  have e := rdL_inv' h
  exact itoa_ne h e
/-- the text of three numbers -/
def T3 (c1 c2 : UInt8) (x y z : Int) : List UInt8 := Lib.itoa x ++ c1 :: (Lib.itoa y ++ c2 :: Lib.itoa z)
/-- a byte that is no digit -/
def NoDig (c : UInt8) : Prop := ∀ m, m < 10 → c ≠ UInt8.ofNat (48 + m)
theorem noDig_rd {c : UInt8} (hc : NoDig c) {x : List UInt8} (h : 0 ≤ rdL x) : c ∉ x := no_in_rd hc h
structure Tri (c1 c2 : UInt8) (t a r b c : List UInt8) (ok has : Bool) : Prop where
  h1 : Lib.cut t [c1] = (a, r, ok)
  h2 : Lib.cut r [c2] = (b, c, has)
theorem Tri.of (c1 c2 : UInt8) (t : List UInt8) : ∃ a r b c ok has, Tri c1 c2 t a r b c ok has := ⟨_, _, _, _, _, _, ⟨rfl, rfl⟩⟩
/-- what was read -/
def Ok3 (a b c : List UInt8) : Prop := 0 ≤ rdL a ∧ 0 ≤ rdL b ∧ 0 ≤ rdL c
section
variable {c1 c2 : UInt8} (n1 : NoDig c1) (n2 : NoDig c2) (hne : c1 ≠ c2) {t a r b c : List UInt8} {ok has : Bool} (P : Tri c1 c2 t a r b c ok has)
include n1 n2 hne P
theorem Tri.good (g : Ok3 a b c) : T3 c1 c2 (rdL a) (rdL b) (rdL c) = t ∧ t = a ++ c1 :: r ∧ r = b ++ c2 :: c ∧ c1 ∉ a ∧ c1 ∉ r ∧ c2 ∉ b ∧ c2 ∉ c := by
  obtain ⟨g1, g2, g3⟩ := g
  have ea := rdL_inv' g1
  have eb := rdL_inv' g2
  have ec := rdL_inv' g3
  rcases cut_inv P.h2 with ⟨-, e2, -⟩ | ⟨-, -, rfl, -⟩
  · rcases cut_inv P.h1 with ⟨-, e1, -⟩ | ⟨-, -, rfl, -⟩
    · have k1 : c1 ∉ r := by
        rw [e2]
        intro h
        rcases List.mem_append.1 h with h | h
        · exact noDig_rd n1 g2 h
        · rcases List.mem_cons.1 h with h | h
          · exact hne h
          · exact noDig_rd n1 g3 h
      refine ⟨?_, e1, e2, noDig_rd n1 g1, k1, noDig_rd n2 g2, noDig_rd n2 g3⟩
      unfold T3
      rw [ea, eb, ec, e1, e2]
    · cases b with
      | nil => exact absurd g2 rdL_nil
      | cons x l => cases e2
  · exact absurd g3 rdL_nil
end
theorem Tri.back {c1 c2 : UInt8} (n1 : NoDig c1) (n2 : NoDig c2) {x y z : Int} (hx : 0 ≤ x) (hy : 0 ≤ y) {a r b c : List UInt8} {ok has : Bool} (P : Tri c1 c2 (T3 c1 c2 x y z) a r b c ok has) : a = Lib.itoa x ∧ b = Lib.itoa y ∧ c = Lib.itoa z := by
  have e1 : Lib.cut (T3 c1 c2 x y z) [c1] = (Lib.itoa x, Lib.itoa y ++ c2 :: Lib.itoa z, true) := cut_at (itoa_no hx n1)
  have e2 : Lib.cut (Lib.itoa y ++ c2 :: Lib.itoa z) [c2] = (Lib.itoa y, Lib.itoa z, true) := cut_at (itoa_no hy n2)
  have h1 := P.h1
  rw [e1] at h1
  simp only [Prod.mk.injEq] at h1
  obtain ⟨rfl, rfl, -⟩ := h1
  have h2 := P.h2
  rw [e2] at h2
  simp only [Prod.mk.injEq] at h2
  exact ⟨rfl, h2.1.symm, h2.2.1.symm⟩
/-- the reference's splitting, beside the cuts -/
theorem split_two {s : ByteArray} (hs : s.size ≤ 2000000) (c1 : UInt8) {a r : List UInt8} {ok : Bool} (h1 : Lib.cut (bL s) [c1] = (a, r, ok)) :
    ∃ ps, s_l1Split s ((c1.toNat : Nat) : Int) = some ps ∧ (((ps.length : Int) ≠ 2 ∧ ¬ (ok = true ∧ c1 ∉ r)) ∨ ∃ x y, ps = [x, y] ∧ bL x = a ∧ bL y = r) := by
  obtain ⟨ps, p1, p2⟩ := l1Split_ok hs c1
  refine ⟨ps, p1, ?_⟩
  rcases cut_inv h1 with ⟨rfl, e, hn⟩ | ⟨rfl, rfl, rfl, hn⟩
  · rw [e, spl_piece c1 a r hn] at p2
    by_cases hb : (spl c1 r).length = 1
    · rw [spl_one hb] at p2
      exact .inr (map_two p2)
    · refine .inl ⟨?_, fun h => hb (by rw [spl_last c1 r h.2]; rfl)⟩
      have := congrArg List.length p2
      rw [List.length_map, List.length_cons] at this
      omega
  · rw [spl_last c1 _ hn] at p2
    obtain ⟨p, rfl, hp⟩ := map_one p2
    exact .inl ⟨by simp, fun h => by cases h.1⟩
noncomputable def par3 (G : Int → Int → Int → Bool) (a b c : List UInt8) : (Int × Int × Int) × Bool := bif G (rdL a) (rdL b) (rdL c) then ((rdL a, rdL b, rdL c), true) else ((0, 0, 0), false)
theorem par3_not {G : Int → Int → Int → Bool} {a b c : List UInt8} (h : G (rdL a) (rdL b) (rdL c) = true → False) : par3 G a b c = ((0, 0, 0), false) := by
  unfold par3
  cases hg : G (rdL a) (rdL b) (rdL c)
  · rfl
  · exact (h hg).elim
section
variable {G : Int → Int → Int → Bool} (hG : ∀ x y z, G x y z = true → (0 ≤ x ∧ x ≤ 999999) ∧ (0 ≤ y ∧ y ≤ 999999) ∧ (0 ≤ z ∧ z ≤ 999999)) {c1 c2 : UInt8} (n1 : NoDig c1) (n2 : NoDig c2) (hne : c1 ≠ c2)
include hG n1 n2 hne
theorem par3_back {t a r b c : List UInt8} {ok has : Bool} (P : Tri c1 c2 t a r b c ok has) :
    ((par3 G a b c).2 = true → G (par3 G a b c).1.1 (par3 G a b c).1.2.1 (par3 G a b c).1.2.2 = true ∧ T3 c1 c2 (par3 G a b c).1.1 (par3 G a b c).1.2.1 (par3 G a b c).1.2.2 = t) ∧
    (∀ x y z, G x y z = true → T3 c1 c2 x y z = t → (par3 G a b c).1 = (x, y, z) ∧ (par3 G a b c).2 = true) := by
  refine ⟨?_, ?_⟩
  · unfold par3
    cases hc : G (rdL a) (rdL b) (rdL c)
    · intro h; cases h
    · intro _
      obtain ⟨g1, g2, g3⟩ := hG _ _ _ hc
      exact ⟨hc, (P.good n1 n2 hne ⟨g1.1, g2.1, g3.1⟩).1⟩
  · intro x y z g e
    obtain ⟨g1, g2, g3⟩ := hG _ _ _ g
    subst e
    obtain ⟨rfl, rfl, rfl⟩ := Tri.back n1 n2 g1.1 g2.1 P
    unfold par3
    rw [rdL_itoa g1.1 g1.2, rdL_itoa g2.1 g2.2, rdL_itoa g3.1 g3.2, g]
    exact ⟨rfl, rfl⟩
/-- how the reference reads: the pieces, or nothing that is good -/
theorem split_three {s : ByteArray} (hs : s.size ≤ 2000000) {a r b c : List UInt8} {ok has : Bool} (P : Tri c1 c2 (bL s) a r b c ok has) :
    ∃ ps, s_l1Split s ((c1.toNat : Nat) : Int) = some ps ∧ (((ps.length : Int) ≠ 2 ∧ ¬ G (rdL a) (rdL b) (rdL c) = true) ∨ ∃ x y, ps = [x, y] ∧ bL x = a ∧
      ∃ qs, s_l1Split y ((c2.toNat : Nat) : Int) = some qs ∧ (((qs.length : Int) ≠ 2 ∧ ¬ G (rdL a) (rdL b) (rdL c) = true) ∨ ∃ u v, qs = [u, v] ∧ bL u = b ∧ bL v = c)) := by
  obtain ⟨ps, p1, p2⟩ := split_two hs c1 P.h1
  refine ⟨ps, p1, ?_⟩
  rcases p2 with ⟨h1, h2⟩ | ⟨x, y, e, hx, hy⟩
  · refine .inl ⟨h1, fun hg => ?_⟩
    obtain ⟨g1, g2, g3⟩ := hG _ _ _ hg
    obtain ⟨-, k1, -, k3, k4, -⟩ := P.good n1 n2 hne ⟨g1.1, g2.1, g3.1⟩
    refine h2 ⟨?_, k4⟩
    rcases cut_inv P.h1 with ⟨h, -, -⟩ | ⟨-, -, -, hn⟩
    · exact h
    · exact absurd (by rw [k1]; simp : c1 ∈ bL s) hn
  · refine .inr ⟨x, y, e, hx, ?_⟩
    have hl := bL_len s
    obtain ⟨l1, l2⟩ := cut_lens P.h1
    have hys : y.size ≤ 2000000 := by rw [← bL_len, hy]; omega
    obtain ⟨qs, q1, q2⟩ := split_two hys c2 (a := b) (r := c) (ok := has) (by rw [hy]; exact P.h2)
    refine ⟨qs, q1, ?_⟩
    rcases q2 with ⟨h1, h2⟩ | ⟨u, v, e, hu, hv⟩
    · refine .inl ⟨h1, fun hg => ?_⟩
      obtain ⟨g1, g2, g3⟩ := hG _ _ _ hg
      obtain ⟨-, -, k2, -, -, k5, k6⟩ := P.good n1 n2 hne ⟨g1.1, g2.1, g3.1⟩
      refine h2 ⟨?_, k6⟩
      rcases cut_inv P.h2 with ⟨h, -, -⟩ | ⟨-, -, -, hn⟩
      · exact h
      · exact absurd (by rw [k2]; simp : c2 ∈ r) hn
    · exact .inr ⟨u, v, e, hu, hv⟩
end
theorem T3_bytes (c1 c2 : UInt8) (x y z : Int) : itoaB x ++ ⟨#[c1]⟩ ++ itoaB y ++ ⟨#[c2]⟩ ++ itoaB z = ⟨(T3 c1 c2 x y z).toArray⟩ := by
  have e1 : (⟨#[c1]⟩ : ByteArray) = ⟨([c1] : List UInt8).toArray⟩ := rfl
  have e2 : (⟨#[c2]⟩ : ByteArray) = ⟨([c2] : List UInt8).toArray⟩ := rfl
  rw [e1, e2]
  unfold itoaB T3
  simp only [bytes_app]
  simp
theorem itoaB_size (x : Int) : (itoaB x).size = (Lib.itoa x).length := bsz _
/-! ### numbers of which something holds -/
def numF (f : Nat → Bool) (n d : Nat) : List Int := ((List.range' n d).filter f).map (fun k : Nat => (k : Int))
theorem numF_zero (f : Nat → Bool) (n : Nat) : numF f n 0 = [] := rfl
theorem numF_succ (f : Nat → Bool) (n d : Nat) : numF f n (d + 1) = (bif f n then [(n : Int)] else []) ++ numF f (n + 1) d := by
  unfold numF
  rw [List.range'_succ, List.filter_cons]
  cases h : f n
  · simp
  · simp
theorem numF_mem {f : Nat → Bool} {n d : Nat} {x : Int} : x ∈ numF f n d ↔ ∃ k : Nat, (n ≤ k ∧ k < n + d) ∧ f k = true ∧ x = k := by
  unfold numF
  rw [List.mem_map]
  constructor
  · rintro ⟨k, hk, rfl⟩
    obtain ⟨h1, h2⟩ := List.mem_filter.1 hk
    exact ⟨k, List.mem_range'_1.1 h1, h2, rfl⟩
  · rintro ⟨k, h1, h2, rfl⟩
    exact ⟨k, List.mem_filter.2 ⟨List.mem_range'_1.2 h1, h2⟩, rfl⟩
theorem numF_nat {f : Nat → Bool} {n d k : Nat} : (k : Int) ∈ numF f n d ↔ (n ≤ k ∧ k < n + d) ∧ f k = true := by
  rw [numF_mem]
  constructor
  · rintro ⟨j, h1, h2, h3⟩
    rw [show k = j from by omega]; exact ⟨h1, h2⟩
  · rintro ⟨h1, h2⟩
    exact ⟨k, h1, h2, rfl⟩
theorem numF_len (f : Nat → Bool) (n d : Nat) : (numF f n d).length ≤ d := by
  unfold numF
  rw [List.length_map]
  refine Nat.le_trans (List.length_filter_le _ _) ?_
  rw [List.length_range']; exact Nat.le_refl _
theorem numF_pw (f : Nat → Bool) (n d : Nat) : (numF f n d).Pairwise (· < ·) := by
  unfold numF
  rw [List.pairwise_map]
  exact (List.Pairwise.filter _ List.pairwise_lt_range').imp fun {a b} h => by omega
theorem numF_congr {f g : Nat → Bool} {n d : Nat} (h : ∀ k, n ≤ k → k < n + d → f k = g k) : numF f n d = numF g n d := by
  unfold numF
  congr 1
  exact List.filter_congr fun k hk => by have := List.mem_range'_1.1 hk; exact h k this.1 this.2
/-- two lists that rise and have the same members are the same -/
theorem pw_ext : ∀ {l m : List Int}, l.Pairwise (· < ·) → m.Pairwise (· < ·) → (∀ x, x ∈ l ↔ x ∈ m) → l = m
  | [], [], _, _, _ => rfl
  | [], y :: m, _, _, h => absurd ((h y).2 (by simp)) (by simp)
  | x :: l, [], _, _, h => absurd ((h x).1 (by simp)) (by simp)
  | x :: l, y :: m, hl, hm, h => by
    obtain ⟨l1, l2⟩ := List.pairwise_cons.1 hl
    obtain ⟨m1, m2⟩ := List.pairwise_cons.1 hm
    have e : x = y := by
      have a := (h x).1 (by simp)
      have b := (h y).2 (by simp)
      rcases List.mem_cons.1 a with a | a
      · exact a
      · rcases List.mem_cons.1 b with b | b
        · exact b.symm
        · have := m1 x a; have := l1 y b; omega
    subst e
    rw [pw_ext l2 m2 (fun z => ?_)]
    constructor
    · intro hz
      rcases List.mem_cons.1 ((h z).1 (List.mem_cons_of_mem _ hz)) with e | e
      · have := l1 z hz; omega
      · exact e
    · intro hz
      rcases List.mem_cons.1 ((h z).2 (List.mem_cons_of_mem _ hz)) with e | e
      · have := m1 z hz; omega
      · exact e
/-- a row that goes up changes no more often than it rises -/
theorem joins_cnt (g : Nat → Int) : ∀ d : Nat, (∀ i, i < d → g i ≤ g (i + 1)) → (((List.range' 1 d).filter (fun i => !(g i == g (i - 1)))).length : Int) ≤ g d - g 0
  | 0, _ => by simp
  | d + 1, h => by
    have ih := joins_cnt g d (fun i hi => h i (by omega))
    have hd := h d (by omega)
    rw [List.range'_1_concat, List.filter_append, List.length_append]
    rw [show 1 + d = d + 1 from by omega]
    by_cases c : g (d + 1) = g d
    · have : [d + 1].filter (fun i => !(g i == g (i - 1))) = [] := by simp [c]
      rw [this, List.length_nil]; omega
    · have : ([d + 1].filter (fun i => !(g i == g (i - 1)))).length ≤ 1 := List.length_filter_le _ _
      omega
/-! ### landings, in numbers -/
/-- the landings of one stair: so many behind a place -/
def lseg (m a : Int) : Nat → Nat → List Int
  | _, 0 => []
  | k, d + 1 => (a + (k : Int) * m) :: lseg m a (k + 1) d
def lcnt (m n : Int) : Nat := ((n - 1) / m).toNat
def lnd (m : Int) : Int → List Int → List Int
  | _, [] => []
  | a, n :: s => lseg m a 1 (lcnt m n) ++ lnd m (a + n) s
def lneed (m : Int) : List Int → Int
  | [] => 0
  | n :: s => (n - 1) / m + lneed m s
theorem lseg_len {m a : Int} : ∀ {d k : Nat}, (lseg m a k d).length = d
  | 0, _ => rfl
  | d + 1, k => by unfold lseg; rw [List.length_cons, lseg_len]
theorem lseg_mem {m a x : Int} : ∀ {d k : Nat}, x ∈ lseg m a k d ↔ ∃ j : Nat, (k ≤ j ∧ j < k + d) ∧ x = a + (j : Int) * m
  | 0, k => by
    unfold lseg
    constructor
    · intro h; cases h
    · rintro ⟨j, h, -⟩; omega
  | d + 1, k => by
    unfold lseg
    rw [List.mem_cons, lseg_mem]
    constructor
    · rintro (rfl | ⟨j, h, rfl⟩)
      · exact ⟨k, by omega, rfl⟩
      · exact ⟨j, by omega, rfl⟩
    · rintro ⟨j, h, rfl⟩
      by_cases e : j = k
      · exact .inl (by rw [e])
      · exact .inr ⟨j, by omega, rfl⟩
theorem lcnt_facts {m n : Int} (hm : 1 ≤ m) (hn : 1 ≤ n) : ((lcnt m n : Int) = (n - 1) / m) ∧ (lcnt m n : Int) * m < n ∧ n ≤ (lcnt m n : Int) * m + m ∧ (lcnt m n : Int) < n := by
  have q0 : 0 ≤ (n - 1) / m := Int.ediv_nonneg (by omega) (by omega)
  have q1 : (n - 1) / m ≤ n - 1 := Int.ediv_le_self _ (by omega)
  have e := Int.emod_add_mul_ediv (n - 1) m
  have r0 := Int.emod_nonneg (n - 1) (show m ≠ 0 by omega)
  have r1 := Int.emod_lt_of_pos (n - 1) (show 0 < m by omega)
  have h : (lcnt m n : Int) = (n - 1) / m := by unfold lcnt; omega
  rw [Int.mul_comm m] at e
  rw [h]
  refine ⟨rfl, ?_, ?_, ?_⟩ <;> omega
theorem lseg_bd {m a n x : Int} (hm : 1 ≤ m) (hn : 1 ≤ n) (h : x ∈ lseg m a 1 (lcnt m n)) : a < x ∧ x < a + n := by
  obtain ⟨j, hj, rfl⟩ := lseg_mem.1 h
  obtain ⟨h1, h2, h3, h4⟩ := lcnt_facts hm hn
  have h5 : (j : Int) * m ≤ (lcnt m n : Int) * m := Int.mul_le_mul_of_nonneg_right (by omega) (by omega)
  have h6 : 1 * m ≤ (j : Int) * m := Int.mul_le_mul_of_nonneg_right (by omega) (by omega)
  omega
theorem lnd_gt {m : Int} (hm : 1 ≤ m) : ∀ {s : List Int} {a x : Int}, (∀ n, n ∈ s → 1 ≤ n) → x ∈ lnd m a s → a < x
  | [], a, x, _, h => by cases h
  | n :: s, a, x, hs, h => by
    have hn := hs n (by simp)
    unfold lnd at h
    rcases List.mem_append.1 h with h | h
    · exact (lseg_bd hm hn h).1
    · have := lnd_gt hm (fun y hy => hs y (List.mem_cons_of_mem _ hy)) h
      omega
theorem lnd_len {m : Int} (hm : 1 ≤ m) : ∀ {s : List Int} {a : Int}, (∀ n, n ∈ s → 1 ≤ n) → ((lnd m a s).length : Int) = lneed m s
  | [], a, _ => rfl
  | n :: s, a, hs => by
    have hn := hs n (by simp)
    unfold lnd lneed
    rw [List.length_append, lseg_len, ← lnd_len hm (a := a + n) (fun y hy => hs y (List.mem_cons_of_mem _ hy)), ← (lcnt_facts hm hn).1]
    omega
theorem lseg_pw {m a : Int} (hm : 1 ≤ m) : ∀ {d k : Nat}, (lseg m a k d).Pairwise (· < ·)
  | 0, _ => List.Pairwise.nil
  | d + 1, k => by
    unfold lseg
    refine List.Pairwise.cons (fun y hy => ?_) (lseg_pw hm)
    obtain ⟨j, hj, rfl⟩ := lseg_mem.1 hy
    have : ((k : Int) + 1) * m ≤ (j : Int) * m := Int.mul_le_mul_of_nonneg_right (by omega) (by omega)
    have e : ((k : Int) + 1) * m = (k : Int) * m + m := by grind
    omega
theorem lnd_pw {m : Int} (hm : 1 ≤ m) : ∀ {s : List Int} {a : Int}, (∀ n, n ∈ s → 1 ≤ n) → (lnd m a s).Pairwise (· < ·)
  | [], _, _ => List.Pairwise.nil
  | n :: s, a, hs => by
    have hn := hs n (by simp)
    have hs' : ∀ y, y ∈ s → 1 ≤ y := fun y hy => hs y (List.mem_cons_of_mem _ hy)
    unfold lnd
    rw [List.pairwise_append]
    refine ⟨lseg_pw hm, lnd_pw hm hs', fun x hx y hy => ?_⟩
    have := (lseg_bd hm hn hx).2
    have := lnd_gt hm hs' hy
    omega
/-- the law's way along one stair: the last landing that was met -/
def lscan (m a n : Int) : List Int → Int → Option Int
  | [], l => some l
  | x :: r, l => bif decide (x > a) && decide (x < a + n) then (bif decide (x - l > m) then none else lscan m a n r x) else lscan m a n r l
theorem lscan_skip {m a n : Int} : ∀ {A B : List Int} {l : Int}, (∀ x, x ∈ A → ¬ (x > a ∧ x < a + n)) → lscan m a n (A ++ B) l = lscan m a n B l
  | [], B, l, _ => rfl
  | x :: A, B, l, h => by
    have hx := h x (by simp)
    rw [List.cons_append]
    conv => lhs; unfold lscan
    have : (decide (x > a) && decide (x < a + n)) = false := by
      by_cases c : x > a
      · rw [decide_eq_false (show ¬ x < a + n from fun k => hx ⟨c, k⟩), Bool.and_false]
      · rw [decide_eq_false c, Bool.false_and]
    rw [this, cond_false]
    exact lscan_skip fun y hy => h y (List.mem_cons_of_mem _ hy)
theorem lscan_seg {m a n : Int} (hm : 1 ≤ m) (hn : 1 ≤ n) {B : List Int} : ∀ {d k : Nat}, 1 ≤ k → k + d = lcnt m n + 1 → lscan m a n (lseg m a k d ++ B) (a + ((k : Int) - 1) * m) = lscan m a n B (a + (lcnt m n : Int) * m)
  | 0, k, h1, h2 => by
    have : (k : Int) - 1 = (lcnt m n : Int) := by omega
    rw [this]; rfl
  | d + 1, k, h1, h2 => by
    have hb := lseg_bd (m := m) (a := a) (n := n) (x := a + (k : Int) * m) hm hn (lseg_mem.2 ⟨k, by omega, rfl⟩)
    have e : a + (k : Int) * m - (a + ((k : Int) - 1) * m) = m := by grind
    have ih := lscan_seg (m := m) (a := a) (n := n) hm hn (B := B) (d := d) (k := k + 1) (by omega) (by omega)
    have e2 : (((k + 1 : Nat) : Int) - 1) = (k : Int) := by omega
    rw [e2] at ih
    unfold lseg
    rw [List.cons_append]
    conv => lhs; unfold lscan
    rw [decide_eq_true (show a + (k : Int) * m > a by omega), decide_eq_true (show a + (k : Int) * m < a + n by omega), e, decide_eq_false (show ¬ m > m by omega)]
    exact ih
/-- along the stair with others before and behind it -/
theorem lscan_all {m a n : Int} (hm : 1 ≤ m) (hn : 1 ≤ n) {A B : List Int} (hA : ∀ x, x ∈ A → x < a) (hB : ∀ x, x ∈ B → a + n < x) : lscan m a n (A ++ (lseg m a 1 (lcnt m n) ++ B)) a = some (a + (lcnt m n : Int) * m) := by
  rw [lscan_skip fun x hx h => by have := hA x hx; omega]
  have h1 := lscan_seg (m := m) (a := a) (n := n) hm hn (B := B) (d := lcnt m n) (k := 1) (Nat.le_refl _) (by omega)
  have e : a + (((1 : Nat) : Int) - 1) * m = a := by simp
  rw [e] at h1
  rw [h1]
  have := lscan_skip (m := m) (a := a) (n := n) (A := B) (B := []) (l := a + (lcnt m n : Int) * m) (fun x hx h => by have := hB x hx; omega)
  rw [List.append_nil] at this
  rw [this]; rfl
/-! ### texts of houses -/
theorem no94 : ∀ m, m < 10 → (94 : UInt8) ≠ UInt8.ofNat (48 + m) := by decide
theorem no58 : ∀ m, m < 10 → (58 : UInt8) ≠ UInt8.ofNat (48 + m) := by decide
def hW (n d : Int) : List UInt8 := Lib.itoa n ++ 58 :: Lib.itoa d
def hWs : List Int → List Int → List (List UInt8)
  | n :: S, d :: D => hW n d :: hWs S D
  | _, _ => []
/-- the words of a house: its first doors, then stairs and doors -/
def hAll (S : List Int) (D : List Int) : List (List UInt8) := Lib.itoa (D.headD 0) :: hWs S D.tail
def hT (S D : List Int) : List UInt8 := Lib.join (hAll S D) [94]
theorem hWs_len : ∀ {S D : List Int}, S.length = D.length → (hWs S D).length = S.length
  | [], _, _ => by simp [hWs]
  | n :: S, [], h => by simp at h
  | n :: S, d :: D, h => by
    simp only [List.length_cons] at h
    unfold hWs
    rw [List.length_cons, List.length_cons, hWs_len (by omega)]
theorem hWs_get : ∀ {S D : List Int} {i : Nat} (h : i < (hWs S D).length) (hS : i < S.length) (hD : i < D.length), (hWs S D)[i] = hW S[i] D[i]
  | [], _, i, h, hS, hD => by simp at hS
  | n :: S, [], i, h, hS, hD => by simp at hD
  | n :: S, d :: D, 0, h, hS, hD => rfl
  | n :: S, d :: D, i + 1, h, hS, hD => by
    have h' : i < (hWs S D).length := by unfold hWs at h; simp at h; exact h
    have := hWs_get (S := S) (D := D) (i := i) h' (by simp at hS; exact hS) (by simp at hD; exact hD)
    simp only [hWs, List.getElem_cons_succ]
    exact this
structure GoodH (S D : List Int) : Prop where
  d1 : 2 ≤ D.length
  d2 : D.length ≤ 12
  sl : S.length + 1 = D.length
  sb : ∀ x, x ∈ S → 1 ≤ x ∧ x ≤ 40
  db : ∀ x, x ∈ D → 0 ≤ x ∧ x ≤ 20
theorem GoodH.cons {S D : List Int} (g : GoodH S D) : ∃ d0 E, D = d0 :: E ∧ S.length = E.length := by
  cases D with
  | nil => have := g.d1; simp at this
  | cons d0 E => exact ⟨d0, E, rfl, by have := g.sl; simp at this; exact this⟩
theorem hW_mem {w : List UInt8} : ∀ {S E : List Int}, w ∈ hWs S E → ∃ n d, n ∈ S ∧ d ∈ E ∧ w = hW n d
  | [], _, h => by simp [hWs] at h
  | n :: S, [], h => by simp [hWs] at h
  | n :: S, d :: E, h => by
    unfold hWs at h
    rcases List.mem_cons.1 h with e | h
    · exact ⟨n, d, by simp, by simp, e⟩
    · obtain ⟨n', d', h1, h2, h3⟩ := hW_mem h
      exact ⟨n', d', List.mem_cons_of_mem _ h1, List.mem_cons_of_mem _ h2, h3⟩
theorem hW_cut {n d : Int} (hn : 0 ≤ n) : Lib.cut (hW n d) [58] = (Lib.itoa n, Lib.itoa d, true) := cut_at (itoa_no hn no58)
theorem hW_no94 {n d : Int} (hn : 0 ≤ n) (hd : 0 ≤ d) : (94 : UInt8) ∉ hW n d := by
  unfold hW
  intro h
  rcases List.mem_append.1 h with h | h
  · exact itoa_no hn no94 h
  · rcases List.mem_cons.1 h with h | h
    · exact absurd h (by decide)
    · exact itoa_no hd no94 h
theorem hT_spl {S D : List Int} (g : GoodH S D) : spl 94 (hT S D) = hAll S D := by
  obtain ⟨d0, E, rfl, he⟩ := g.cons
  unfold hT hAll
  refine spl_of_join 94 _ _ fun q hq => ?_
  rcases List.mem_cons.1 hq with e | e
  · subst e
    have := g.db d0 (by simp)
    exact itoa_no this.1 no94
  · obtain ⟨n, d, h1, h2, rfl⟩ := hW_mem e
    have := g.sb n h1
    have := g.db d (List.mem_cons_of_mem _ h2)
    exact hW_no94 (by omega) (by omega)
/-- what is read of words -/
def pS (ws : List (List UInt8)) : List Int := ws.map fun w => rdL (Lib.cut w [58]).1
def pD (ws : List (List UInt8)) : List Int := ws.map fun w => rdL (Lib.cut w [58]).2.1
theorem pS_hWs : ∀ {S E : List Int}, S.length = E.length → (∀ x, x ∈ S → 1 ≤ x ∧ x ≤ 40) → (∀ x, x ∈ E → 0 ≤ x ∧ x ≤ 20) → pS (hWs S E) = S ∧ pD (hWs S E) = E
  | [], [], _, _, _ => ⟨rfl, rfl⟩
  | [], d :: E, h, _, _ => by simp at h
  | n :: S, [], h, _, _ => by simp at h
  | n :: S, d :: E, h, hS, hE => by
    have a := hS n (by simp)
    have b := hE d (by simp)
    obtain ⟨h1, h2⟩ := pS_hWs (S := S) (E := E) (by simp at h; exact h) (fun x hx => hS x (List.mem_cons_of_mem _ hx)) (fun x hx => hE x (List.mem_cons_of_mem _ hx))
    have c := hW_cut (n := n) (d := d) (by omega)
    constructor
    · show rdL (Lib.cut (hW n d) [58]).1 :: pS (hWs S E) = n :: S
      rw [c, h1, rdL_itoa (by omega) (by omega)]
    · show rdL (Lib.cut (hW n d) [58]).2.1 :: pD (hWs S E) = d :: E
      rw [c, h2, rdL_itoa (by omega) (by omega)]
/-- a word whose two numbers are read is the word of these -/
theorem word_back {w : List UInt8} (h1 : 0 ≤ rdL (Lib.cut w [58]).1) (h2 : 0 ≤ rdL (Lib.cut w [58]).2.1) : w = hW (rdL (Lib.cut w [58]).1) (rdL (Lib.cut w [58]).2.1) ∧ spl 58 w = [(Lib.cut w [58]).1, (Lib.cut w [58]).2.1] := by
  obtain ⟨a, b, f, hc⟩ : ∃ a b f, Lib.cut w [58] = (a, b, f) := ⟨_, _, _, rfl⟩
  rw [hc] at h1 h2 ⊢
  simp only at h1 h2 ⊢
  have ea := rdL_inv' h1
  have eb := rdL_inv' h2
  rcases cut_inv hc with ⟨-, e, hn⟩ | ⟨-, -, rfl, -⟩
  · refine ⟨?_, ?_⟩
    · unfold hW; rw [ea, eb]; exact e
    · rw [e, spl_piece 58 a b hn, spl_last 58 b (no_in_rd no58 h2)]
  · exact absurd h2 rdL_nil
theorem words_back : ∀ {ws : List (List UInt8)}, (∀ x, x ∈ pS ws → 0 ≤ x) → (∀ x, x ∈ pD ws → 0 ≤ x) → hWs (pS ws) (pD ws) = ws
  | [], _, _ => rfl
  | w :: ws, h1, h2 => by
    have a := h1 (rdL (Lib.cut w [58]).1) (by unfold pS; simp)
    have b := h2 (rdL (Lib.cut w [58]).2.1) (by unfold pD; simp)
    have ih := words_back (ws := ws) (fun x hx => h1 x (by unfold pS at hx ⊢; exact List.mem_cons_of_mem _ hx)) (fun x hx => h2 x (by unfold pD at hx ⊢; exact List.mem_cons_of_mem _ hx))
    show hW _ _ :: hWs (pS ws) (pD ws) = w :: ws
    rw [ih, ← (word_back a b).1]
/-- what is read of a text -/
def prS (s : List UInt8) : List Int := pS (spl 94 s).tail
def prD (s : List UInt8) : List Int := rdL ((spl 94 s).headD []) :: pD (spl 94 s).tail
theorem parsed_back {s : List UInt8} (g : GoodH (prS s) (prD s)) : hT (prS s) (prD s) = s := by
  have h := spl_join 94 s
  unfold hT hAll
  unfold prS prD at *
  cases hs : spl 94 s with
  | nil => exact absurd hs (spl_ne 94 s)
  | cons w ws =>
    rw [hs] at g h
    simp only [List.tail_cons, List.headD_cons] at *
    have h0 := (g.db (rdL w) (by simp)).1
    rw [words_back (fun x hx => by have := g.sb x hx; omega) (fun x hx => (g.db x (List.mem_cons_of_mem _ hx)).1), rdL_inv' h0]
    exact h
theorem parsed_told {S D : List Int} (g : GoodH S D) : prS (hT S D) = S ∧ prD (hT S D) = D := by
  have h := hT_spl g
  obtain ⟨d0, E, rfl, he⟩ := g.cons
  unfold hAll at h
  simp only [List.headD_cons, List.tail_cons] at h
  obtain ⟨h1, h2⟩ := pS_hWs he g.sb (fun x hx => g.db x (List.mem_cons_of_mem _ hx))
  have hd := g.db d0 (by simp)
  unfold prS prD
  rw [h]
  simp only [List.headD_cons, List.tail_cons]
  rw [h1, h2, rdL_itoa hd.1 (by omega)]
  exact ⟨rfl, rfl⟩
/-! ### houses: what the functions come to -/
theorem l1All_iff {l : List Int} {lo hi : Int} : s_l1All_n l lo hi = true ↔ ∀ x, x ∈ l → lo ≤ x ∧ x ≤ hi := by
  unfold s_l1All_n
  rw [List.all_eq_true]
  constructor
  · intro h x hx
    have := h x hx
    unfold inB at this
    simp at this
    exact this
  · intro h x hx
    have := h x hx
    unfold inB
    simp
    exact this
theorem goodH_iff {S D : List Int} : s_ldGood S D = true ↔ GoodH S D := by
  unfold s_ldGood
  constructor
  · intro h
    cases h1 : s_l1In (D.length : Int) 2 12
    · rw [h1] at h; cases h
    · have g1 := l1In_iff.1 h1
      rw [h1, wrapI (by omega) (by omega)] at h
      cases h2 : ((S.length : Int) == (D.length : Int) - 1)
      · rw [h2] at h; cases h
      · cases h3 : s_l1All_n S 1 40
        · rw [h2, h3] at h; cases h
        · rw [h2, h3] at h
          have h2 := beq_iff_eq.1 h2
          exact ⟨by omega, by omega, by omega, l1All_iff.1 h3, l1All_iff.1 h⟩
  · intro g
    have := g.d1; have := g.d2; have := g.sl
    rw [l1In_iff.2 (⟨by omega, by omega⟩ : 2 ≤ (D.length : Int) ∧ (D.length : Int) ≤ 12), wrapI (by omega) (by omega), show ((S.length : Int) == (D.length : Int) - 1) = true from beq_iff_eq.2 (by omega), l1All_iff.2 g.sb, l1All_iff.2 g.db]
    rfl
theorem not_anyH {α : Type} (p : α → Bool) : ∀ l : List α, (!l.any fun n => !p n) = l.all p
  | [] => rfl
  | x :: l => by rw [List.any_cons, List.all_cons, ← not_anyH p l]; cases p x <;> simp
theorem IsHouse_eq (S D : List Int) : i_IsHouse S D = s_ldGood S D := by
  unfold i_IsHouse s_ldGood s_l1All_n slices_ContainsFunc_int__i_IsHouse_c1 slices_ContainsFunc_int__i_IsHouse_c2 slices_IndexFunc_int__i_IsHouse_c1_n slices_IndexFunc_int__i_IsHouse_c2_n
  rw [within_eq, idxF_any, idxF_any]
  have e1 : (fun x => i_IsHouse_c1 x) = fun n => !inB 1 40 n := by
    funext n
    unfold i_IsHouse_c1
    rw [within_eq, s_l1In_inB2]
  have e2 : (fun x => i_IsHouse_c2 x) = fun n => !inB 0 20 n := by
    funext n
    unfold i_IsHouse_c2
    rw [within_eq, s_l1In_inB2]
  rw [e1, e2, not_anyH, not_anyH]
theorem IsHouse_s (S D : List Int) : s_IsHouse S D = s_ldGood S D := rfl
/-! sums -/
def sumI : List Int → Int
  | [] => 0
  | x :: l => x + sumI l
theorem sumI_bd : ∀ {l : List Int}, (∀ x, x ∈ l → 0 ≤ x ∧ x ≤ 100) → 0 ≤ sumI l ∧ sumI l ≤ 100 * (l.length : Int)
  | [], _ => by simp [sumI]
  | x :: l, h => by
    have a := h x (by simp)
    have b := sumI_bd (l := l) (fun y hy => h y (List.mem_cons_of_mem _ hy))
    unfold sumI
    simp only [List.length_cons]
    omega
theorem sumI_take {l : List Int} {i : Nat} (hi : i < l.length) : sumI (l.take (i + 1)) = sumI (l.take i) + l[i] := by
  have : ∀ (l : List Int) (i : Nat) (hi : i < l.length), sumI (l.take (i + 1)) = sumI (l.take i) + l[i] := by
    intro l
    induction l with
    | nil => intro i hi; simp at hi
    | cons x l ih =>
      intro i hi
      cases i with
      | zero => simp [sumI]
      | succ i =>
        have := ih i (by simp at hi; exact hi)
        rw [List.take_succ_cons, List.take_succ_cons]
        simp only [sumI, List.getElem_cons_succ]
        omega
  exact this l i hi
theorem sum_i {l : List Int} (hl : l.length ≤ 1000) (hb : ∀ x, x ∈ l → 0 ≤ x ∧ x ≤ 100) : i_sum l = some (sumI l) := by
  unfold i_sum i_sum_t0
  have key : ∀ s : Int, (0 ≤ s ∧ s ≤ 100 * ((0 : Nat) : Int)) → i_sum_L1 l s (l.length : Int) ((0 : Nat) : Int) = some (s + sumI l) := by
    refine drop_ind l (fun i q => ∀ s : Int, (0 ≤ s ∧ s ≤ 100 * (i : Int)) → i_sum_L1 l s (l.length : Int) (i : Int) = some (s + sumI q)) ?_ (fun i hi ih => ?_)
    · intro s hs
      have : ¬ ((l.length : Int) < l.length) := by omega
      rw [i_sum_u1, i_sum_t1, decide_eq_false this]
      simp [sumI]
    · intro s hs
      have hx := hb _ (List.getElem_mem hi)
      have hw : IntKind.wrap .i64 ((i : Int) + 1) = ((i + 1 : Nat) : Int) := by rw [wrapI (by omega) (by omega)]; omega
      rw [i_sum_u1, i_sum_t1, decide_eq_true (show (i : Int) < l.length by omega), decide_eq_true (Int.natCast_nonneg i), rdk_get (k := kint) hi, hw, wrapI (n := s + l[i]) (by omega) (by omega)]
      simp only [cond_true]
      rw [ih (s + l[i]) (by push_cast; omega), Int.add_assoc]
      rfl
  have := key 0 (by simp)
  rw [Int.zero_add] at this
  exact this
theorem sum_s {l : List Int} (hl : l.length ≤ 1000) (hb : ∀ x, x ∈ l → 0 ≤ x ∧ x ≤ 100) : s_ldSum l = some (sumI l) := by
  unfold s_ldSum s_ldSum_t0
  have key : ∀ s : Int, (0 ≤ s ∧ s ≤ 100 * ((0 : Nat) : Int)) → s_ldSum_L1 l s (l.length : Int) ((0 : Nat) : Int) = some (s + sumI l) := by
    refine drop_ind l (fun i q => ∀ s : Int, (0 ≤ s ∧ s ≤ 100 * (i : Int)) → s_ldSum_L1 l s (l.length : Int) (i : Int) = some (s + sumI q)) ?_ (fun i hi ih => ?_)
    · intro s hs
      have : ¬ ((l.length : Int) < l.length) := by omega
      rw [s_ldSum_u1, s_ldSum_t1, decide_eq_false this]
      simp [sumI]
    · intro s hs
      have hx := hb _ (List.getElem_mem hi)
      have hw : IntKind.wrap .i64 ((i : Int) + 1) = ((i + 1 : Nat) : Int) := by rw [wrapI (by omega) (by omega)]; omega
      rw [s_ldSum_u1, s_ldSum_t1, decide_eq_true (show (i : Int) < l.length by omega), decide_eq_true (Int.natCast_nonneg i), rdk_get (k := kint) hi, hw, wrapI (n := s + l[i]) (by omega) (by omega)]
      simp only [cond_true]
      rw [ih (s + l[i]) (by push_cast; omega), Int.add_assoc]
      rfl
  have := key 0 (by simp)
  rw [Int.zero_add] at this
  exact this
theorem sum_w {l : List Int} (hl : l.length ≤ 1000) (hb : ∀ x, x ∈ l → 0 ≤ x ∧ x ≤ 100) : w_wSum l = some (sumI l) := by
  unfold w_wSum w_wSum_t0
  have key : ∀ s : Int, (0 ≤ s ∧ s ≤ 100 * ((0 : Nat) : Int)) → w_wSum_L1 l s (l.length : Int) ((0 : Nat) : Int) = some (s + sumI l) := by
    refine drop_ind l (fun i q => ∀ s : Int, (0 ≤ s ∧ s ≤ 100 * (i : Int)) → w_wSum_L1 l s (l.length : Int) (i : Int) = some (s + sumI q)) ?_ (fun i hi ih => ?_)
    · intro s hs
      have : ¬ ((l.length : Int) < l.length) := by omega
      rw [w_wSum_u1, w_wSum_t1, decide_eq_false this]
      simp [sumI]
    · intro s hs
      have hx := hb _ (List.getElem_mem hi)
      have hw : IntKind.wrap .i64 ((i : Int) + 1) = ((i + 1 : Nat) : Int) := by rw [wrapI (by omega) (by omega)]; omega
      rw [w_wSum_u1, w_wSum_t1, decide_eq_true (show (i : Int) < l.length by omega), decide_eq_true (Int.natCast_nonneg i), rdk_get (k := kint) hi, hw, wrapI (n := s + l[i]) (by omega) (by omega)]
      simp only [cond_true]
      rw [ih (s + l[i]) (by push_cast; omega), Int.add_assoc]
      rfl
  have := key 0 (by simp)
  rw [Int.zero_add] at this
  exact this
theorem GoodH.bS {S D : List Int} (g : GoodH S D) : S.length ≤ 11 ∧ ∀ x, x ∈ S → 0 ≤ x ∧ x ≤ 100 := ⟨by have := g.d2; have := g.sl; omega, fun x hx => by have := g.sb x hx; omega⟩
theorem GoodH.bD {S D : List Int} (g : GoodH S D) : D.length ≤ 12 ∧ ∀ x, x ∈ D → 0 ≤ x ∧ x ≤ 100 := ⟨g.d2, fun x hx => by have := g.db x hx; omega⟩
noncomputable def doN (S D : List Int) : Int × Bool := bif s_ldGood S D then (sumI D, true) else (0, false)
theorem Doors_two (S D : List Int) : i_DoorsInHouse S D = some (doN S D) ∧ s_DoorsInHouse S D = some (doN S D) := by
  unfold i_DoorsInHouse s_DoorsInHouse doN
  rw [IsHouse_eq]
  cases h : s_ldGood S D
  · exact ⟨rfl, rfl⟩
  · have g := goodH_iff.1 h
    obtain ⟨b1, b2⟩ := g.bD
    rw [sum_i (by omega) b2, sum_s (by omega) b2]
    exact ⟨rfl, rfl⟩
/-! landings -/
theorem land_in {S : List Int} {m a n : Int} (hm : 1 ≤ m ∧ m ≤ 40) (hn : 1 ≤ n ∧ n ≤ 40) (ha : 0 ≤ a ∧ a ≤ 10000) (len i : Int) : ∀ (d j : Nat) (acc : List Int), 1 ≤ j → j + d = lcnt m n + 1 → acc.length ≤ 10000 + j →
    i_LandingsAt_L2 acc S m a n ((j : Int) * m) len i = i_LandingsAt_L1 (acc ++ lseg m a j d) S m (IntKind.wrap .i64 (a + n)) len (IntKind.wrap .i64 (i + 1))
  | 0, j, acc, h1, h2, h3 => by
    obtain ⟨f1, f2, f3, f4⟩ := lcnt_facts hm.1 hn.1
    have e : (j : Int) * m = (lcnt m n : Int) * m + m := by
      have : (j : Int) = (lcnt m n : Int) + 1 := by omega
      rw [this]; grind
    rw [i_LandingsAt_u2, i_LandingsAt_t2, decide_eq_false (show ¬ (j : Int) * m < n by omega)]
    simp [lseg]
  | d + 1, j, acc, h1, h2, h3 => by
    obtain ⟨f1, f2, f3, f4⟩ := lcnt_facts hm.1 hn.1
    have b1 : (j : Int) * m ≤ (lcnt m n : Int) * m := Int.mul_le_mul_of_nonneg_right (by omega) (by omega)
    have b0 : 0 ≤ (j : Int) * m := Int.mul_nonneg (by omega) (by omega)
    have e : (j : Int) * m + m = ((j + 1 : Nat) : Int) * m := by push_cast; grind
    have hb : Nat.ble (acc.length + 1) 4294967296 = true := by rw [ble_dec]; exact decide_eq_true (by omega)
    rw [i_LandingsAt_u2, i_LandingsAt_t2, decide_eq_true (show (j : Int) * m < n by omega), hb, wrapI (n := a + (j : Int) * m) (by omega) (by omega), wrapI (n := (j : Int) * m + m) (by omega) (by omega), e]
    simp only [cond_true]
    rw [land_in hm hn ha len i d (j + 1) _ (by omega) (by omega) (by simp; omega)]
    conv => rhs; unfold lseg
    simp
theorem land_i {S : List Int} {m : Int} (hm : 1 ≤ m ∧ m ≤ 40) (hl : S.length ≤ 11) (hb : ∀ x, x ∈ S → 1 ≤ x ∧ x ≤ 40) : i_LandingsAt_L1 [] S m 0 (S.length : Int) ((0 : Nat) : Int) = some (lnd m 0 S, true) := by
  have key : ∀ (acc : List Int) (a : Int), acc.length ≤ 40 * (0 : Nat) → (0 ≤ a ∧ a ≤ 40 * ((0 : Nat) : Int)) → i_LandingsAt_L1 acc S m a (S.length : Int) ((0 : Nat) : Int) = some (acc ++ lnd m a S, true) := by
    refine drop_ind S (fun i q => ∀ (acc : List Int) (a : Int), acc.length ≤ 40 * i → (0 ≤ a ∧ a ≤ 40 * (i : Int)) → i_LandingsAt_L1 acc S m a (S.length : Int) (i : Int) = some (acc ++ lnd m a q, true)) ?_ (fun i hi ih => ?_)
    · intro acc a h1 h2
      have : ¬ ((S.length : Int) < S.length) := by omega
      rw [i_LandingsAt_u1, i_LandingsAt_t1, decide_eq_false this]
      simp [lnd]
    · intro acc a h1 h2
      have hx := hb _ (List.getElem_mem hi)
      obtain ⟨f1, f2, f3, f4⟩ := lcnt_facts hm.1 hx.1
      have hw : IntKind.wrap .i64 ((i : Int) + 1) = ((i + 1 : Nat) : Int) := by rw [wrapI (by omega) (by omega)]; omega
      have inn := land_in (S := S) (m := m) (a := a) (n := S[i]) hm hx ⟨by omega, by omega⟩ (S.length : Int) (i : Int) (lcnt m S[i]) 1 acc (Nat.le_refl _) (by omega) (by omega)
      have e1 : ((1 : Nat) : Int) * m = m := by simp
      rw [e1] at inn
      rw [i_LandingsAt_u1, i_LandingsAt_t1, decide_eq_true (show (i : Int) < S.length by omega), decide_eq_true (Int.natCast_nonneg i), rdk_get (k := kint) hi, inn, hw, wrapI (n := a + S[i]) (by omega) (by omega)]
      simp only [cond_true]
      rw [ih _ (a + S[i]) (by rw [List.length_append, lseg_len]; omega) (by push_cast; omega)]
      conv => rhs; unfold lnd
      rw [List.append_assoc]
  exact key [] 0 (by simp) (by simp)
theorem ldTo_eq {S D : List Int} (hl : S.length ≤ 11) (hb : ∀ x, x ∈ S → 0 ≤ x ∧ x ≤ 100) {i : Nat} (hi : i ≤ S.length) : s_ldTo S D (i : Int) = some (sumI (S.take i)) := by
  unfold s_ldTo
  rw [decide_eq_true (Int.natCast_nonneg i), decide_eq_true (show (i : Int) ≤ (S.length : Int) by omega)]
  have e : List.take (Int.toNat (i : Int) - Int.toNat 0) (List.drop (Int.toNat 0) S) = S.take i := by simp
  rw [e, sum_s (by rw [List.length_take]; omega) (fun x hx => hb x (List.mem_of_mem_take hx))]
  rfl
theorem land_sn {S D : List Int} (hl : S.length ≤ 11) (hb : ∀ x, x ∈ S → 0 ≤ x ∧ x ≤ 100) {m n : Int} (hm : 1 ≤ m ∧ m ≤ 40) (hn : 1 ≤ n ∧ n ≤ 40) (len : Int) {i : Nat} (hi : i ≤ S.length) : ∀ (d j : Nat) (acc : List Int), 1 ≤ j → j + d = lcnt m n + 1 → acc.length ≤ 10000 + j →
    s_ldLandings_L2 acc S D m (i : Int) n ((j : Int) * m) len (i : Int) = s_ldLandings_L1 (acc ++ lseg m (sumI (S.take i)) j d) S D m len (IntKind.wrap .i64 ((i : Int) + 1))
  | 0, j, acc, h1, h2, h3 => by
    obtain ⟨f1, f2, f3, f4⟩ := lcnt_facts hm.1 hn.1
    have e : (j : Int) * m = (lcnt m n : Int) * m + m := by
      have : (j : Int) = (lcnt m n : Int) + 1 := by omega
      rw [this]; grind
    rw [s_ldLandings_u2, s_ldLandings_t2, decide_eq_false (show ¬ (j : Int) * m < n by omega)]
    simp [lseg]
  | d + 1, j, acc, h1, h2, h3 => by
    obtain ⟨f1, f2, f3, f4⟩ := lcnt_facts hm.1 hn.1
    have b1 : (j : Int) * m ≤ (lcnt m n : Int) * m := Int.mul_le_mul_of_nonneg_right (by omega) (by omega)
    have b0 : 0 ≤ (j : Int) * m := Int.mul_nonneg (by omega) (by omega)
    have hs := sumI_bd (l := S.take i) (fun x hx => hb x (List.mem_of_mem_take hx))
    rw [List.length_take] at hs
    have e : (j : Int) * m + m = ((j + 1 : Nat) : Int) * m := by push_cast; grind
    have hb2 : Nat.ble (acc.length + 1) 4294967296 = true := by rw [ble_dec]; exact decide_eq_true (by omega)
    rw [s_ldLandings_u2, s_ldLandings_t2, decide_eq_true (show (j : Int) * m < n by omega), hb2, ldTo_eq hl hb hi, wrapI (n := (j : Int) * m + m) (by omega) (by omega), e]
    simp only [cond_true, Option.bind_some]
    rw [wrapI (n := sumI (S.take i) + (j : Int) * m) (by omega) (by omega), land_sn hl hb hm hn len hi d (j + 1) _ (by omega) (by omega) (by simp; omega)]
    conv => rhs; unfold lseg
    simp
theorem land_s {S D : List Int} {m : Int} (hm : 1 ≤ m ∧ m ≤ 40) (hl : S.length ≤ 11) (hb : ∀ x, x ∈ S → 1 ≤ x ∧ x ≤ 40) : s_ldLandings S D m = some (lnd m 0 S) := by
  unfold s_ldLandings s_ldLandings_t0
  have hb' : ∀ x, x ∈ S → 0 ≤ x ∧ x ≤ 100 := fun x hx => by have := hb x hx; omega
  have key : ∀ (acc : List Int), acc.length ≤ 40 * (0 : Nat) → s_ldLandings_L1 acc S D m (S.length : Int) ((0 : Nat) : Int) = some (acc ++ lnd m (sumI (S.take 0)) S) := by
    refine drop_ind S (fun i q => ∀ (acc : List Int), acc.length ≤ 40 * i → s_ldLandings_L1 acc S D m (S.length : Int) (i : Int) = some (acc ++ lnd m (sumI (S.take i)) q)) ?_ (fun i hi ih => ?_)
    · intro acc h1
      have : ¬ ((S.length : Int) < S.length) := by omega
      rw [s_ldLandings_u1, s_ldLandings_t1, decide_eq_false this]
      simp [lnd]
    · intro acc h1
      have hx := hb _ (List.getElem_mem hi)
      obtain ⟨f1, f2, f3, f4⟩ := lcnt_facts hm.1 hx.1
      have hw : IntKind.wrap .i64 ((i : Int) + 1) = ((i + 1 : Nat) : Int) := by rw [wrapI (by omega) (by omega)]; omega
      have inn := land_sn (S := S) (D := D) hl hb' (m := m) (n := S[i]) hm hx (S.length : Int) (i := i) (by omega) (lcnt m S[i]) 1 acc (Nat.le_refl _) (by omega) (by omega)
      have e1 : ((1 : Nat) : Int) * m = m := by simp
      rw [e1] at inn
      rw [s_ldLandings_u1, s_ldLandings_t1, decide_eq_true (show (i : Int) < S.length by omega), decide_eq_true (Int.natCast_nonneg i), rdk_get (k := kint) hi, inn, hw]
      simp only [cond_true]
      rw [ih _ (by rw [List.length_append, lseg_len]; omega), sumI_take hi]
      conv => rhs; unfold lnd
      rw [List.append_assoc]
  exact key [] (by simp)
noncomputable def laC (S D : List Int) (m : Int) : Bool := s_ldGood S D && s_l1In m 1 40
noncomputable def laN (S D : List Int) (m : Int) : List Int × Bool := bif laC S D m then (lnd m 0 S, true) else ([], false)
theorem Land_two (S D : List Int) (m : Int) : i_LandingsAt S D m = some (laN S D m) ∧ s_LandingsAt S D m = some (laN S D m) := by
  unfold i_LandingsAt i_LandingsAt_t0 s_LandingsAt s_ldMost laN laC
  rw [IsHouse_eq, within_eq]
  cases h : s_ldGood S D
  · exact ⟨rfl, rfl⟩
  · cases hm : s_l1In m 1 40
    · exact ⟨rfl, rfl⟩
    · have g := goodH_iff.1 h
      have hm := l1In_iff.1 hm
      rw [land_s hm g.bS.1 g.sb]
      exact ⟨land_i hm g.bS.1 g.sb, rfl⟩
noncomputable def lnN (S D : List Int) (m : Int) : Int × Bool := (((laN S D m).1.length : Int), (laN S D m).2)
theorem Needed_two (S D : List Int) (m : Int) : i_LandingsNeeded S D m = some (lnN S D m) ∧ s_LandingsNeeded S D m = some (lnN S D m) := by
  refine ⟨?_, ?_⟩
  · unfold i_LandingsNeeded
    rw [(Land_two S D m).1]; rfl
  · unfold s_LandingsNeeded s_ldMost lnN laN laC
    cases h : s_ldGood S D
    · rfl
    · cases hm : s_l1In m 1 40
      · rfl
      · have g := goodH_iff.1 h
        have hm := l1In_iff.1 hm
        rw [land_s hm g.bS.1 g.sb]
        rfl
/-! ### houses: texts told and read -/
theorem jl_len {S E : List Int} {d0 : Int} (hS : ∀ x, x ∈ S → 1 ≤ x ∧ x ≤ 40) (hE : ∀ x, x ∈ E → 0 ≤ x ∧ x ≤ 20) (h0 : 0 ≤ d0 ∧ d0 ≤ 20) (i : Nat) : (Lib.join (Lib.itoa d0 :: (hWs S E).take i) [94]).length ≤ 6 * (((hWs S E).take i).length + 1) := by
  have h1 := join_len [94] (Lib.itoa d0 :: (hWs S E).take i)
  have h2 := lens_le (c := 5) (xs := Lib.itoa d0 :: (hWs S E).take i) (fun x hx => by
    rcases List.mem_cons.1 hx with e | e
    · subst e
      have := itoa1 (n := d0) 1 (by omega) (by omega)
      omega
    · obtain ⟨n, d, a1, a2, rfl⟩ := hW_mem (List.mem_of_mem_take e)
      have b1 := hS n a1
      have b2 := hE d a2
      have c1 := itoa1 (n := n) 1 (by omega) (by omega)
      have c2 := itoa1 (n := d) 1 (by omega) (by omega)
      unfold hW
      rw [List.length_append, List.length_cons]; omega)
  simp only [List.length_cons, List.length_singleton, List.length_nil] at h1 h2
  omega
theorem hW_bytes (n d : Int) : ({ data := #[94] } : ByteArray) ++ itoaB n ++ { data := #[58] } ++ itoaB d = ⟨(94 :: hW n d).toArray⟩ := by
  have e1 : ({ data := #[94] } : ByteArray) = ⟨([94] : List UInt8).toArray⟩ := rfl
  have e2 : ({ data := #[58] } : ByteArray) = ⟨([58] : List UInt8).toArray⟩ := rfl
  rw [e1, e2]
  unfold itoaB hW
  simp only [bytes_app]
  simp
theorem text_loop {S E : List Int} {d0 : Int} {β : Type} {f : ByteArray → Int → Option β} {fin : ByteArray → Option β} (hS : ∀ x, x ∈ S → 1 ≤ x ∧ x ≤ 40) (hE : ∀ x, x ∈ E → 0 ≤ x ∧ x ≤ 20) (h0 : 0 ≤ d0 ∧ d0 ≤ 20) (hl : S.length = E.length) (hl2 : S.length ≤ 11)
    (he : ∀ b, f b (S.length : Int) = fin b) (hs : ∀ (i : Nat) (h : i < S.length) (h' : i < E.length) (b : ByteArray), b.size ≤ 1000 → f b (i : Int) = f (b ++ ⟨(94 :: hW S[i] E[i]).toArray⟩) ((i + 1 : Nat) : Int)) :
    f (itoaB d0) ((0 : Nat) : Int) = fin ⟨(hT S (d0 :: E)).toArray⟩ := by
  have hw := hWs_len (S := S) (D := E) hl
  have key : f ⟨(Lib.join (Lib.itoa d0 :: (hWs S E).take 0) [94]).toArray⟩ ((0 : Nat) : Int) = fin ⟨(hT S (d0 :: E)).toArray⟩ := by
    refine drop_ind S (fun i _ => f ⟨(Lib.join (Lib.itoa d0 :: (hWs S E).take i) [94]).toArray⟩ (i : Int) = fin ⟨(hT S (d0 :: E)).toArray⟩) ?_ (fun i hi ih => ?_)
    · rw [he, List.take_of_length_le (by omega)]; rfl
    · have hlen := jl_len hS hE h0 i
      rw [List.length_take] at hlen
      rw [hs i hi (by omega) _ (by rw [bsz]; omega), ← ih]
      congr 1
      have e : (hWs S E).take (i + 1) = (hWs S E).take i ++ [hW S[i] E[i]] := by
        rw [List.take_add_one, List.getElem?_eq_getElem (by omega : i < (hWs S E).length), hWs_get _ hi (by omega)]; rfl
      rw [e, ← List.cons_append, join_snoc, if_neg (by simp), bytes_app]
      simp
  have e0 : itoaB d0 = ⟨(Lib.join (Lib.itoa d0 :: (hWs S E).take 0) [94]).toArray⟩ := by
    unfold itoaB
    rw [List.take_zero, Lib.join_one]
  rw [e0]
  exact key
theorem itoa2 {n : Int} (h : 0 ≤ n ∧ n ≤ 40) : (Lib.itoa n).length ≤ 2 := itoa1 1 (by omega) (by omega)
noncomputable def htN (S D : List Int) : ByteArray × Bool := bif s_ldGood S D then (⟨(hT S D).toArray⟩, true) else (⟨#[]⟩, false)
theorem HouseText_i (S D : List Int) : i_HouseText S D = some (htN S D) := by
  unfold i_HouseText i_HouseText_t0 htN
  rw [IsHouse_eq]
  cases h : s_ldGood S D
  · rfl
  · have g := goodH_iff.1 h
    obtain ⟨d0, E, rfl, he⟩ := g.cons
    have hd0 := g.db d0 (by simp)
    have hE : ∀ x, x ∈ E → 0 ≤ x ∧ x ≤ 20 := fun x hx => g.db x (List.mem_cons_of_mem _ hx)
    have z1 : ByteArray.size { data := #[94] } = 1 := rfl
    have z2 : ByteArray.size { data := #[58] } = 1 := rfl
    simp only [Bool.not_true, cond_false, cond_true]
    rw [decide_eq_true (show (0 : Int) < ((d0 :: E).length : Int) by simp), show rdk kint (d0 :: E) 0 = d0 from rfl, itoa_ok (by omega) (by omega)]
    simp only [cond_true, Option.bind_some]
    refine text_loop (S := S) (E := E) (d0 := d0) (f := fun b i => i_HouseText_L1 S (d0 :: E) b (S.length : Int) i) (fin := fun b => some (b, true)) g.sb hE hd0 he g.bS.1 (fun b => ?_) (fun i hi hi' b hb => ?_)
    · have : ¬ ((S.length : Int) < S.length) := by omega
      show i_HouseText_L1 S (d0 :: E) b (S.length : Int) (S.length : Int) = _
      rw [i_HouseText_u1, i_HouseText_t1, decide_eq_false this]; rfl
    · show i_HouseText_L1 S (d0 :: E) b (S.length : Int) (i : Int) = _
      have a1 := g.sb _ (List.getElem_mem hi)
      have a2 := hE _ (List.getElem_mem hi')
      have c1 := itoa2 (n := S[i]) (by omega)
      have c2 := itoa2 (n := E[i]) (by omega)
      have hw : IntKind.wrap .i64 ((i : Int) + 1) = ((i + 1 : Nat) : Int) := by rw [wrapI (by omega) (by have := g.bS.1; omega)]; omega
      rw [i_HouseText_u1, i_HouseText_t1, decide_eq_true (show (i : Int) < S.length by omega), decide_eq_true (Int.natCast_nonneg i), rdk_get (k := kint) hi, itoa_ok (by omega) (by omega), hw, decide_eq_true (Int.natCast_nonneg (i + 1)), decide_eq_true (show ((i + 1 : Nat) : Int) < ((d0 :: E).length : Int) by simp; omega), rdk_get (k := kint) (i := i + 1) (by simp; omega)]
      simp only [cond_true, Option.bind_some, List.getElem_cons_succ]
      rw [itoa_ok (n := E[i]) (by omega) (by omega)]
      simp only [Option.bind_some, ByteArray.size_append, itoaB_size, z1, z2]
      rw [ble_b (show 1 + (Lib.itoa S[i]).length ≤ 1000000 by omega), ble_b (show 1 + (Lib.itoa S[i]).length + 1 ≤ 1000000 by omega), ble_b (show 1 + (Lib.itoa S[i]).length + 1 + (Lib.itoa E[i]).length ≤ 1000000 by omega), ble_b (show b.size + (1 + (Lib.itoa S[i]).length + 1 + (Lib.itoa E[i]).length) ≤ 1000000 by omega), hW_bytes]
      rfl
theorem ldText_ok {S D : List Int} (g : GoodH S D) : s_ldText S D = some ⟨(hT S D).toArray⟩ := by
  unfold s_ldText s_ldText_t0
  obtain ⟨d0, E, rfl, he⟩ := g.cons
  have hd0 := g.db d0 (by simp)
  have hE : ∀ x, x ∈ E → 0 ≤ x ∧ x ≤ 20 := fun x hx => g.db x (List.mem_cons_of_mem _ hx)
  have z1 : ByteArray.size { data := #[94] } = 1 := rfl
  have z2 : ByteArray.size { data := #[58] } = 1 := rfl
  rw [decide_eq_true (show (0 : Int) < ((d0 :: E).length : Int) by simp), show rdk kint (d0 :: E) 0 = d0 from rfl, num_ok (by omega) (by omega)]
  simp only [cond_true, Option.bind_some]
  refine text_loop (S := S) (E := E) (d0 := d0) (f := fun b i => s_ldText_L1 S (d0 :: E) b (S.length : Int) i) (fin := fun b => some b) g.sb hE hd0 he g.bS.1 (fun b => ?_) (fun i hi hi' b hb => ?_)
  · have : ¬ ((S.length : Int) < S.length) := by omega
    show s_ldText_L1 S (d0 :: E) b (S.length : Int) (S.length : Int) = _
    rw [s_ldText_u1, s_ldText_t1, decide_eq_false this]; rfl
  · show s_ldText_L1 S (d0 :: E) b (S.length : Int) (i : Int) = _
    have a1 := g.sb _ (List.getElem_mem hi)
    have a2 := hE _ (List.getElem_mem hi')
    have c1 := itoa2 (n := S[i]) (by omega)
    have c2 := itoa2 (n := E[i]) (by omega)
    have hw : IntKind.wrap .i64 ((i : Int) + 1) = ((i + 1 : Nat) : Int) := by rw [wrapI (by omega) (by have := g.bS.1; omega)]; omega
    rw [s_ldText_u1, s_ldText_t1, decide_eq_true (show (i : Int) < S.length by omega), decide_eq_true (Int.natCast_nonneg i), rdk_get (k := kint) hi, num_ok (by omega) (by omega), hw, decide_eq_true (Int.natCast_nonneg (i + 1)), decide_eq_true (show ((i + 1 : Nat) : Int) < ((d0 :: E).length : Int) by simp; omega), rdk_get (k := kint) (i := i + 1) (by simp; omega)]
    simp only [cond_true, Option.bind_some, List.getElem_cons_succ]
    rw [num_ok (n := E[i]) (by omega) (by omega)]
    simp only [Option.bind_some, ByteArray.size_append, itoaB_size, z1, z2]
    rw [ble_b (show 1 + (Lib.itoa S[i]).length ≤ 1000000 by omega), ble_b (show 1 + (Lib.itoa S[i]).length + 1 ≤ 1000000 by omega), ble_b (show 1 + (Lib.itoa S[i]).length + 1 + (Lib.itoa E[i]).length ≤ 1000000 by omega), ble_b (show b.size + (1 + (Lib.itoa S[i]).length + 1 + (Lib.itoa E[i]).length) ≤ 1000000 by omega), hW_bytes]
    rfl
theorem HouseText_s (S D : List Int) : s_HouseText S D = some (htN S D) := by
  unfold s_HouseText htN
  cases h : s_ldGood S D
  · rfl
  · rw [ldText_ok (goodH_iff.1 h)]; rfl
theorem hT_len {S D : List Int} (g : GoodH S D) : (hT S D).length ≤ 84 := by
  obtain ⟨d0, E, rfl, he⟩ := g.cons
  have h := jl_len (S := S) (E := E) (d0 := d0) g.sb (fun x hx => g.db x (List.mem_cons_of_mem _ hx)) (g.db d0 (by simp)) (hWs S E).length
  rw [List.take_length] at h
  have hw := hWs_len (S := S) (D := E) he
  have := g.bS.1
  have e : hT S (d0 :: E) = Lib.join (Lib.itoa d0 :: hWs S E) [94] := rfl
  rw [e]; omega
/-! reading -/
noncomputable def phN (s : List UInt8) : (List Int × List Int) × Bool := bif s_ldGood (prS s) (prD s) then ((prS s, prD s), true) else (([], []), false)
theorem parse_loop {ws : List ByteArray} (hb : ∀ p, p ∈ ws → p.size ≤ 2000000) (hl : ws.length ≤ 3000000) : ∀ (S D : List Int), S.length ≤ 0 → D.length ≤ 1 →
    i_ParseHouse_L1 ws [] [] S D (ws.length : Int) ((0 : Nat) : Int) = some (bif s_ldGood (S ++ pS (ws.map bL)) (D ++ pD (ws.map bL)) then ((S ++ pS (ws.map bL), D ++ pD (ws.map bL)), true) else (([], []), false)) := by
  refine drop_ind ws (fun i q => ∀ (S D : List Int), S.length ≤ i → D.length ≤ i + 1 → i_ParseHouse_L1 ws [] [] S D (ws.length : Int) (i : Int) = some (bif s_ldGood (S ++ pS (q.map bL)) (D ++ pD (q.map bL)) then ((S ++ pS (q.map bL), D ++ pD (q.map bL)), true) else (([], []), false))) ?_ (fun i hi ih => ?_)
  · intro S D h1 h2
    have : ¬ ((ws.length : Int) < ws.length) := by omega
    rw [i_ParseHouse_u1, i_ParseHouse_t1, decide_eq_false this, IsHouse_eq]
    have e1 : S ++ pS (List.map bL []) = S := by simp [pS]
    have e2 : D ++ pD (List.map bL []) = D := by simp [pD]
    rw [e1, e2]
    cases s_ldGood S D <;> rfl
  · intro S D h1 h2
    have hp := hb _ (List.getElem_mem hi)
    have hw : IntKind.wrap .i64 ((i : Int) + 1) = ((i + 1 : Nat) : Int) := by rw [wrapI (by omega) (by omega)]; omega
    have b1 : Nat.ble (S.length + 1) 4294967296 = true := by rw [ble_dec]; exact decide_eq_true (by omega)
    have b2 : Nat.ble (D.length + 1) 4294967296 = true := by rw [ble_dec]; exact decide_eq_true (by omega)
    obtain ⟨a, b, f, hc⟩ : ∃ a b f, Lib.cut (bL ws[i]) [58] = (a, b, f) := ⟨_, _, _, rfl⟩
    obtain ⟨l1, l2⟩ := cut_lens hc
    have hl2 := bL_len ws[i]
    rw [i_ParseHouse_u1, i_ParseHouse_t1, decide_eq_true (show (i : Int) < ws.length by omega), decide_eq_true (Int.natCast_nonneg i), rdk_get (k := kstring) hi, cut_ok (by omega), hc]
    simp only [cond_true, Option.bind_some]
    rw [num_eq (by rw [bsz]; omega), bL_mk, numL_eq, num_eq (by rw [bsz]; omega), bL_mk, numL_eq, b1, b2, hw]
    simp only [cond_true, Option.bind_some]
    rw [ih (S ++ [rdL a]) (D ++ [rdL b]) (by simp; omega) (by simp; omega)]
    have e1 : S ++ [rdL a] ++ pS (List.map bL (List.drop (i + 1) ws)) = S ++ pS (List.map bL (ws[i] :: List.drop (i + 1) ws)) := by
      rw [List.append_assoc]
      show S ++ (rdL a :: _) = S ++ (rdL (Lib.cut (bL ws[i]) [58]).1 :: _)
      rw [hc]; rfl
    have e2 : D ++ [rdL b] ++ pD (List.map bL (List.drop (i + 1) ws)) = D ++ pD (List.map bL (ws[i] :: List.drop (i + 1) ws)) := by
      rw [List.append_assoc]
      show D ++ (rdL b :: _) = D ++ (rdL (Lib.cut (bL ws[i]) [58]).2.1 :: _)
      rw [hc]; rfl
    rw [e1, e2]
theorem ParseHouse_i {t : ByteArray} (ht : t.size ≤ 2000000) : i_ParseHouse t = some (phN (bL t)) := by
  unfold i_ParseHouse i_ParseHouse_t0
  obtain ⟨ps, p1, p2⟩ := split_ok (s := t) (by omega) 94
  obtain ⟨b1, b2⟩ := pieces_bd p2
  have e94 : (⟨#[94]⟩ : ByteArray) = { data := #[94] } := rfl
  rw [e94] at p1
  rw [p1, Option.bind_some]
  cases ps with
  | nil => exact absurd p2.symm (spl_ne 94 (bL t))
  | cons w ws =>
    have hw := b1 w (by simp)
    have e1 : List.take (Int.toNat (((w :: ws).length : Nat) : Int) - Int.toNat 1) (List.drop (Int.toNat 1) (w :: ws)) = ws := by simp
    rw [decide_eq_true (show (0 : Int) < ((w :: ws).length : Int) by simp), show rdk kstring (w :: ws) 0 = w from rfl, num_eq (by omega), numL_eq, decide_eq_true (show (1 : Int) ≤ ((w :: ws).length : Int) by simp; omega), e1]
    simp only [cond_true, Option.bind_some]
    have k := parse_loop (ws := ws) (fun p hp => by have := b1 p (List.mem_cons_of_mem _ hp); omega) (by simp at b2; omega) [] [rdL (bL w)] (by simp) (by simp)
    rw [List.map_cons] at p2
    unfold phN prS prD
    rw [← p2]
    simp only [List.tail_cons, List.headD_cons]
    exact k
theorem parse_sl {t : ByteArray} {ps : List ByteArray} (hb : ∀ p, p ∈ ps → p.size ≤ 2000000) (hl : ps.length ≤ 3000000) (hsp : ps.map bL = spl 94 (bL t)) (i0 : Nat) (hi0 : 1 ≤ i0) : ∀ (d i : Nat), i + d = ps.length → 1 ≤ i → ∀ (S D : List Int), S.length ≤ i → D.length ≤ i → S ++ pS ((ps.drop i).map bL) = prS (bL t) → D ++ pD ((ps.drop i).map bL) = prD (bL t) →
    ∃ r, s_ldParse_L1 ps [] [] S D t (ps.length : Int) (i : Int) = some r ∧ (bif !r.2 then (([], []), false) else ((r.1.1, r.1.2), true)) = phN (bL t)
  | 0, i, h, h1, S, D, hS, hD, e1, e2 => by
    have hd : ps.drop i = [] := List.drop_eq_nil_of_le (by omega)
    rw [hd] at e1 e2
    simp only [List.map_nil, pS, pD, List.append_nil] at e1 e2
    subst e1 e2
    rw [s_ldParse_u1, s_ldParse_t1, decide_eq_false (by omega), cond_false]
    unfold phN
    cases hg : s_ldGood (prS (bL t)) (prD (bL t))
    · exact ⟨_, rfl, rfl⟩
    · have g := goodH_iff.1 hg
      rw [cond_true, ldText_ok g, Option.bind_some]
      refine ⟨_, rfl, ?_⟩
      have e : (ByteArray.toList ⟨(hT (prS (bL t)) (prD (bL t))).toArray⟩ == ByteArray.toList t) = true := by
        rw [ByteArray.toList_eq, ByteArray.toList_eq, parsed_back g]
        simp
      rw [e]; rfl
  | d + 1, i, h, h1, S, D, hS, hD, e1, e2 => by
    have hi : i < ps.length := by omega
    have hp := hb _ (List.getElem_mem hi)
    have hw : IntKind.wrap .i64 ((i : Int) + 1) = ((i + 1 : Nat) : Int) := by rw [wrapI (by omega) (by omega)]; omega
    have b1 : Nat.ble (S.length + 1) 4294967296 = true := by rw [ble_dec]; exact decide_eq_true (by omega)
    have b2 : Nat.ble (D.length + 1) 4294967296 = true := by rw [ble_dec]; exact decide_eq_true (by omega)
    obtain ⟨a, b, f, hc⟩ : ∃ a b f, Lib.cut (bL ps[i]) [58] = (a, b, f) := ⟨_, _, _, rfl⟩
    obtain ⟨qs, q1, q2⟩ := split_two hp 58 hc
    have q1 : s_l1Split ps[i] 58 = some qs := q1
    rw [List.drop_eq_getElem_cons hi, List.map_cons] at e1 e2
    have f1 : pS (bL ps[i] :: List.map bL (List.drop (i + 1) ps)) = rdL a :: pS (List.map bL (List.drop (i + 1) ps)) := by
      show rdL (Lib.cut (bL ps[i]) [58]).1 :: _ = _
      rw [hc]; rfl
    have f2 : pD (bL ps[i] :: List.map bL (List.drop (i + 1) ps)) = rdL b :: pD (List.map bL (List.drop (i + 1) ps)) := by
      show rdL (Lib.cut (bL ps[i]) [58]).2.1 :: _ = _
      rw [hc]; rfl
    rw [f1] at e1
    rw [f2] at e2
    rw [s_ldParse_u1, s_ldParse_t1, decide_eq_true (show (i : Int) < ps.length by omega), decide_eq_true (Int.natCast_nonneg i), rdk_get (k := kstring) hi, show ((i : Int) == 0) = false from beq_eq_false_iff_ne.2 (by omega), q1]
    simp only [cond_true, cond_false, Option.bind_some]
    rcases q2 with ⟨n1, n2⟩ | ⟨x, y, rfl, hx, hy⟩
    · rw [show ((qs.length : Int) != 2) = true from bne_iff_ne.2 n1, cond_true]
      refine ⟨_, rfl, ?_⟩
      unfold phN
      cases hg : s_ldGood (prS (bL t)) (prD (bL t))
      · rfl
      · have g := goodH_iff.1 hg
        have m1 := g.sb (rdL a) (by rw [← e1]; simp)
        have m2 := g.db (rdL b) (by rw [← e2]; simp)
        have wb := word_back (w := bL ps[i]) (by rw [hc]; show 0 ≤ rdL a; omega) (by rw [hc]; show 0 ≤ rdL b; omega)
        rw [hc] at wb
        exfalso
        apply n2
        rcases cut_inv hc with ⟨k1, k2, k3⟩ | ⟨-, -, rfl, -⟩
        · exact ⟨k1, no_in_rd no58 m2.1⟩
        · exact absurd m2.1 rdL_nil
    · have d2 : ((([x, y] : List ByteArray).length : Int) != 2) = false := rfl
      have d3 : decide ((1 : Int) < (([x, y] : List ByteArray).length : Int)) = true := rfl
      have d4 : decide ((0 : Int) < (([x, y] : List ByteArray).length : Int)) = true := rfl
      have s1 : rdk kstring [x, y] 1 = y := rfl
      have s0 : rdk kstring [x, y] 0 = x := rfl
      simp only [d2, d3, d4, s1, s0, read_ok, hx, hy, cond_false, cond_true, Option.bind_some]
      rw [b1, b2, hw]
      simp only [cond_true]
      exact parse_sl hb hl hsp i0 hi0 d (i + 1) (by omega) (by omega) (S ++ [rdL a]) (D ++ [rdL b]) (by simp; omega) (by simp; omega) (by rw [List.append_assoc]; exact e1) (by rw [List.append_assoc]; exact e2)
theorem ParseHouse_s {t : ByteArray} (ht : t.size ≤ 2000000) : s_ParseHouse t = some (phN (bL t)) := by
  unfold s_ParseHouse s_ldParse s_ldParse_t0
  obtain ⟨ps, p1, p2⟩ := l1Split_ok ht 94
  have p1 : s_l1Split t 94 = some ps := p1
  obtain ⟨b1, b2⟩ := pieces_bd p2
  by_cases hz : (t.size : Int) > 84
  · rw [decide_eq_true hz]
    unfold phN
    cases hg : s_ldGood (prS (bL t)) (prD (bL t))
    · rfl
    · have g := goodH_iff.1 hg
      have h := hT_len g
      rw [parsed_back g, bL_len] at h
      omega
  · rw [decide_eq_false hz, cond_false, p1, Option.bind_some]
    cases ps with
    | nil => exact absurd p2.symm (spl_ne 94 (bL t))
    | cons w ws =>
      have hw := b1 w (by simp)
      have hwr : IntKind.wrap .i64 (0 + 1) = ((1 : Nat) : Int) := by decide
      have p3 := p2
      rw [List.map_cons] at p3
      have e1 : ([] : List Int) ++ pS (((w :: ws).drop 1).map bL) = prS (bL t) := by
        unfold prS; rw [← p3]; rfl
      have e2 : [rdL (bL w)] ++ pD (((w :: ws).drop 1).map bL) = prD (bL t) := by
        unfold prD; rw [← p3]; rfl
      obtain ⟨r, r1, r2⟩ := parse_sl (t := t) (ps := w :: ws) (fun p hp => by have := b1 p hp; omega) (by omega) p2 1 (Nat.le_refl _) ws.length 1 (by simp; omega) (Nat.le_refl _) [] [rdL (bL w)] (by simp) (by simp) e1 e2
      have e0 : rdk kstring (w :: ws) 0 = w := rfl
      rw [s_ldParse_u1, s_ldParse_t1, decide_eq_true (show (0 : Int) < ((w :: ws).length : Int) by simp), e0, read_ok, hwr]
      simp only [cond_true, Option.bind_some, beq_self_eq_true, Int.le_refl, decide_true]
      rw [r1]
      simp only [Option.bind_some]
      rw [← r2]
      cases r.2 <;> rfl
theorem phN_told {S D : List Int} (g : GoodH S D) : phN (hT S D) = ((S, D), true) := by
  obtain ⟨h1, h2⟩ := parsed_told g
  unfold phN
  rw [h1, h2, goodH_iff.2 g]; rfl
theorem phN_back {s : List UInt8} (h : (phN s).2 = true) : GoodH (phN s).1.1 (phN s).1.2 ∧ hT (phN s).1.1 (phN s).1.2 = s := by
  unfold phN at h ⊢
  cases hg : s_ldGood (prS s) (prD s)
  · rw [hg] at h; cases h
  · exact ⟨goodH_iff.1 hg, parsed_back (goodH_iff.1 hg)⟩
/-! ### longest stairs, stairs above, floors added and dropped -/
theorem idxF_first {α : Type} (p : α → Bool) : ∀ (l : List α) (k : Nat), (∃ x, x ∈ l ∧ p x = true) → ∃ j, ∃ h : j < l.length, idxF p l k = ((k + j : Nat) : Int) ∧ p l[j] = true ∧ ∀ i (hi : i < l.length), i < j → p l[i] = false
  | [], k, ⟨x, h, _⟩ => by cases h
  | y :: l, k, ⟨x, h, hp⟩ => by
    rw [idxF]
    cases hy : p y
    · have hx : x ∈ l := by
        rcases List.mem_cons.1 h with e | e
        · subst e; rw [hy] at hp; cases hp
        · exact e
      obtain ⟨j, hj, h1, h2, h3⟩ := idxF_first p l (k + 1) ⟨x, hx, hp⟩
      refine ⟨j + 1, by simp; omega, ?_, h2, fun i hi hij => ?_⟩
      · rw [cond_false, h1]; congr 1; omega
      · cases i with
        | zero => exact hy
        | succ i => exact h3 i (by simp at hi; omega) (by omega)
    · exact ⟨0, by simp, by simp, hy, fun i hi h => absurd h (by omega)⟩
/-- the first of the longest -/
structure Best (S : List Int) (b : Nat) : Prop where
  lt : b < S.length
  most : ∀ j (h : j < S.length), S[j] ≤ S[b]
  first : ∀ j (h : j < S.length), j < b → S[j] < S[b]
theorem Best.uniq {S : List Int} {b c : Nat} (h : Best S b) (k : Best S c) : b = c := by
  rcases Nat.lt_trichotomy b c with e | e | e
  · have := k.first b h.lt e
    have := h.most c k.lt
    omega
  · exact e
  · have := h.first c k.lt e
    have := k.most b h.lt
    omega
theorem max_loop {S : List Int} (hl : S.length ≤ 100) : ∀ (d i : Nat) (m : Int), i + d = S.length → (∃ x, x ∈ S ∧ x = m) → (∀ j (h : j < S.length), j < i → S[j] ≤ m) → ∃ M, slices_Max_int_L1 S m (i : Int) = some M ∧ M ∈ S ∧ ∀ j (h : j < S.length), S[j] ≤ M
  | 0, i, m, h, hm, hj => by
    obtain ⟨x, hx, rfl⟩ := hm
    refine ⟨x, ?_, hx, fun j hj' => hj j hj' (by omega)⟩
    rw [slices_Max_int_u1, slices_Max_int_t1, decide_eq_false (by omega)]; rfl
  | d + 1, i, m, h, hm, hj => by
    have hi : i < S.length := by omega
    have hw : IntKind.wrap .i64 ((i : Int) + 1) = ((i + 1 : Nat) : Int) := by rw [wrapI (by omega) (by omega)]; omega
    rw [slices_Max_int_u1, slices_Max_int_t1, decide_eq_true (show (i : Int) < S.length by omega), decide_eq_true (Int.natCast_nonneg i), rdk_get (k := kint) hi, hw]
    simp only [cond_true]
    by_cases c : S[i] > m
    · rw [decide_eq_true c, cond_true]
      refine max_loop hl d (i + 1) S[i] (by omega) ⟨_, List.getElem_mem hi, rfl⟩ (fun j hj' hji => ?_)
      by_cases e : j = i
      · subst e; exact Int.le_refl _
      · have := hj j hj' (by omega); omega
    · rw [decide_eq_false c, cond_false]
      refine max_loop hl d (i + 1) m (by omega) hm (fun j hj' hji => ?_)
      by_cases e : j = i
      · subst e; omega
      · exact hj j hj' (by omega)
theorem best_loop {S D : List Int} (hl : S.length ≤ 100) : ∀ (d i b : Nat), i + d = S.length → (hb : b < S.length) → (∀ j (h : j < S.length), j < i → S[j] ≤ S[b]) → (∀ j (h : j < S.length), j < b → S[j] < S[b]) → b ≤ i → ∃ c, Best S c ∧ s_LongestStairs_L1 S D (b : Int) (S.length : Int) (i : Int) = some ((c : Int), S.getD c 0, true)
  | 0, i, b, h, hb, h1, h2, hbi => by
    refine ⟨b, ⟨hb, fun j hj => h1 j hj (by omega), h2⟩, ?_⟩
    rw [s_LongestStairs_u1, s_LongestStairs_t1, decide_eq_false (by omega), decide_eq_true (Int.natCast_nonneg b), decide_eq_true (show (b : Int) < (S.length : Int) by omega), rdk_get (k := kint) hb]
    simp [List.getD_eq_getElem?_getD, hb]
  | d + 1, i, b, h, hb, h1, h2, hbi => by
    have hi : i < S.length := by omega
    have hw : IntKind.wrap .i64 ((i : Int) + 1) = ((i + 1 : Nat) : Int) := by rw [wrapI (by omega) (by omega)]; omega
    rw [s_LongestStairs_u1, s_LongestStairs_t1, decide_eq_true (show (i : Int) < S.length by omega), decide_eq_true (Int.natCast_nonneg i), rdk_get (k := kint) hi, decide_eq_true (Int.natCast_nonneg b), decide_eq_true (show (b : Int) < (S.length : Int) by omega), rdk_get (k := kint) hb, hw]
    simp only [cond_true]
    by_cases c : S[i] > S[b]
    · rw [decide_eq_true c, cond_true]
      refine best_loop hl d (i + 1) i (by omega) hi (fun j hj hji => ?_) (fun j hj hji => ?_) (by omega)
      · by_cases e : j = i
        · subst e; exact Int.le_refl _
        · have := h1 j hj (by omega); omega
      · have := h1 j hj hji; omega
    · rw [decide_eq_false c, cond_false]
      refine best_loop hl d (i + 1) b (by omega) hb (fun j hj hji => ?_) h2 (by omega)
      by_cases e : j = i
      · subst e; omega
      · exact h1 j hj (by omega)
theorem Longest_no {S D : List Int} (h : s_ldGood S D = false) : i_LongestStairs S D = some (0, 0, false) ∧ s_LongestStairs S D = some (0, 0, false) := by
  unfold i_LongestStairs s_LongestStairs s_LongestStairs_t0
  rw [IsHouse_eq, h]
  exact ⟨rfl, rfl⟩
theorem Longest_yes {S D : List Int} (h : s_ldGood S D = true) : ∃ b, Best S b ∧ i_LongestStairs S D = some ((b : Int), S.getD b 0, true) ∧ s_LongestStairs S D = some ((b : Int), S.getD b 0, true) := by
  have g := goodH_iff.1 h
  have hl := g.bS.1
  have h0 : 0 < S.length := by have := g.d1; have := g.sl; omega
  obtain ⟨c, hc, hs⟩ := best_loop (S := S) (D := D) (by omega) S.length 0 0 (by omega) h0 (fun j hj hji => by omega) (fun j hj hji => by omega) (Nat.le_refl _)
  refine ⟨c, hc, ?_, ?_⟩
  · unfold i_LongestStairs
    rw [IsHouse_eq, h]
    have e0 : rdk kint S 0 = S[0] := rdk_get (k := kint) (i := 0) h0
    obtain ⟨M, m1, m2, m3⟩ := max_loop (S := S) (by omega) (S.length - 1) 1 S[0] (by omega) ⟨_, List.getElem_mem h0, rfl⟩ (fun j hj hji => by
      have : j = 0 := by omega
      subst this; exact Int.le_refl _)
    have hm : slices_Max_int S = some M := by
      unfold slices_Max_int slices_Max_int_t0
      rw [decide_eq_false (show ¬ (S.length : Int) < 1 by omega), decide_eq_true (show (0 : Int) < (S.length : Int) by omega), e0]
      exact m1
    rw [hm]
    simp only [Bool.not_true, cond_false, Option.bind_some]
    obtain ⟨j, hj, i1, i2, i3⟩ := idxF_first (fun x => M == x) S 0 ⟨M, m2, by simp⟩
    have i2 := beq_iff_eq.1 i2
    have hbj : Best S j := ⟨hj, fun k hk => by rw [← i2]; exact m3 k hk, fun k hk hkj => by
      have a := m3 k hk
      have b := i3 k hk hkj
      have b := beq_eq_false_iff_ne.1 b
      omega⟩
    have : j = c := hbj.uniq hc
    subst this
    unfold slices_Index_int_n
    rw [i1, Nat.zero_add]
    simp [List.getD_eq_getElem?_getD, hj, i2]
  · unfold s_LongestStairs s_LongestStairs_t0
    rw [h]
    exact hs
/-! stairs above -/
noncomputable def abB (S : List Int) (n : Int) (i : Nat) : Bool := decide (S.getD i 0 > n)
noncomputable def abC (S D : List Int) (n : Int) : Bool := s_ldGood S D && s_l1In n 0 40
noncomputable def abN (S D : List Int) (n : Int) : List Int × Bool := bif abC S D n then (numF (abB S n) 0 S.length, true) else ([], false)
theorem getD_get {S : List Int} {i : Nat} (h : i < S.length) : S.getD i 0 = S[i] := by simp [List.getD_eq_getElem?_getD, h]
theorem above_i {S : List Int} {n : Int} (hl : S.length ≤ 100) : ∀ (d i : Nat) (acc : List Int), i + d = S.length → acc.length ≤ i → i_StairsAbove_L1 acc S n (S.length : Int) (i : Int) = some (acc ++ numF (abB S n) i d, true)
  | 0, i, acc, h, ha => by
    rw [i_StairsAbove_u1, i_StairsAbove_t1, decide_eq_false (by omega), numF_zero, List.append_nil]; rfl
  | d + 1, i, acc, h, ha => by
    have hi : i < S.length := by omega
    have hw : IntKind.wrap .i64 ((i : Int) + 1) = ((i + 1 : Nat) : Int) := by rw [wrapI (by omega) (by omega)]; omega
    have hb : Nat.ble (acc.length + 1) 4294967296 = true := by rw [ble_dec]; exact decide_eq_true (by omega)
    rw [i_StairsAbove_u1, i_StairsAbove_t1, decide_eq_true (show (i : Int) < S.length by omega), decide_eq_true (Int.natCast_nonneg i), rdk_get (k := kint) hi, hw, hb, above_i hl d (i + 1) acc (by omega) (by omega), above_i hl d (i + 1) (acc ++ [(i : Int)]) (by omega) (by simp; omega), numF_succ]
    unfold abB
    rw [getD_get hi]
    cases decide (S[i] > n)
    · rfl
    · simp
theorem above_s {S : List Int} {n : Int} (hl : S.length ≤ 100) : ∀ (d i : Nat) (acc : List Int), i + d = S.length → acc.length ≤ i → s_StairsAbove_L1 acc S n (S.length : Int) (i : Int) = some (acc ++ numF (abB S n) i d, true)
  | 0, i, acc, h, ha => by
    rw [s_StairsAbove_u1, s_StairsAbove_t1, decide_eq_false (by omega), numF_zero, List.append_nil]; rfl
  | d + 1, i, acc, h, ha => by
    have hi : i < S.length := by omega
    have hw : IntKind.wrap .i64 ((i : Int) + 1) = ((i + 1 : Nat) : Int) := by rw [wrapI (by omega) (by omega)]; omega
    have hb : Nat.ble (acc.length + 1) 4294967296 = true := by rw [ble_dec]; exact decide_eq_true (by omega)
    rw [s_StairsAbove_u1, s_StairsAbove_t1, decide_eq_true (show (i : Int) < S.length by omega), decide_eq_true (Int.natCast_nonneg i), rdk_get (k := kint) hi, hw, hb, above_s hl d (i + 1) acc (by omega) (by omega), above_s hl d (i + 1) (acc ++ [(i : Int)]) (by omega) (by simp; omega), numF_succ]
    unfold abB
    rw [getD_get hi]
    cases decide (S[i] > n)
    · rfl
    · simp
theorem Above_two (S D : List Int) (n : Int) : i_StairsAbove S D n = some (abN S D n) ∧ s_StairsAbove S D n = some (abN S D n) := by
  unfold i_StairsAbove i_StairsAbove_t0 s_StairsAbove s_StairsAbove_t0 abN abC
  rw [IsHouse_eq, within_eq]
  cases h : s_ldGood S D
  · exact ⟨rfl, rfl⟩
  · cases s_l1In n 0 40
    · exact ⟨rfl, rfl⟩
    · have hl := (goodH_iff.1 h).bS.1
      exact ⟨above_i (by omega) S.length 0 [] (by omega) (by simp), above_s (by omega) S.length 0 [] (by omega) (by simp)⟩
/-- the first of those of which something holds -/
theorem numF_head {f : Nat → Bool} {b : Nat} (hb : f b = true) : ∀ (d n : Nat), n ≤ b → b < n + d → (∀ j, n ≤ j → j < b → f j = false) → ∃ r, numF f n d = (b : Int) :: r
  | 0, n, h1, h2, h3 => by omega
  | d + 1, n, h1, h2, h3 => by
    rw [numF_succ]
    by_cases e : n = b
    · subst e; rw [hb]; exact ⟨_, rfl⟩
    · rw [h3 n (Nat.le_refl _) (by omega)]
      exact numF_head hb d (n + 1) (by omega) (by omega) (fun j h4 h5 => h3 j (by omega) h5)
theorem numF_nil {f : Nat → Bool} : ∀ (d n : Nat), (∀ j, n ≤ j → j < n + d → f j = false) → numF f n d = []
  | 0, n, h => rfl
  | d + 1, n, h => by
    rw [numF_succ, h n (Nat.le_refl _) (by omega), numF_nil d (n + 1) (fun j h1 h2 => h j (by omega) (by omega))]
    rfl
/-! floors -/
theorem cloneH {l : List Int} (h : l.length ≤ 1000) : slices_Clone_int_n l = some l := by
  unfold slices_Clone_int_n
  rw [decide_eq_true (show l.length ≤ 4294967296 by omega)]; rfl
theorem ownH {l : List Int} (h : l.length ≤ 1000) : s_l1Own_n l = some l := by
  unfold s_l1Own_n
  rw [decide_eq_true (show l.length ≤ 4294967296 by omega)]; rfl
noncomputable def drC (S D : List Int) : Bool := s_ldGood S D && !((S.length : Int) == 1)
noncomputable def drN (S D : List Int) : (List Int × List Int) × Bool := bif drC S D then ((S.take (S.length - 1), D.take S.length), true) else (([], []), false)
theorem Drop_two (S D : List Int) : i_DropFloor S D = some (drN S D) ∧ s_DropFloor S D = some (drN S D) := by
  unfold i_DropFloor s_DropFloor drN drC
  rw [IsHouse_eq]
  cases h : s_ldGood S D
  · exact ⟨rfl, rfl⟩
  · cases h1 : ((S.length : Int) == 1)
    · have g := goodH_iff.1 h
      have hl := g.bS.1; have hs := g.sl; have hd := g.d1
      have hv : IntKind.wrap .i64 ((S.length : Int) - 1) = ((S.length - 1 : Nat) : Int) := by rw [wrapI (by omega) (by omega)]; omega
      have e1 : List.take (Int.toNat ((S.length - 1 : Nat) : Int) - Int.toNat 0) (List.drop (Int.toNat 0) S) = S.take (S.length - 1) := by simp
      have e2 : List.take (Int.toNat (S.length : Int) - Int.toNat 0) (List.drop (Int.toNat 0) D) = D.take S.length := by simp
      rw [hv, decide_eq_true (Int.natCast_nonneg (S.length - 1)), decide_eq_true (show ((S.length - 1 : Nat) : Int) ≤ (S.length : Int) by omega), decide_eq_true (show (S.length : Int) ≤ (D.length : Int) by omega), e1, e2, cloneH (by rw [List.length_take]; omega), ownH (by rw [List.length_take]; omega), cloneH (by rw [List.length_take]; omega), ownH (by rw [List.length_take]; omega)]
      exact ⟨rfl, rfl⟩
    · exact ⟨rfl, rfl⟩
noncomputable def adC (S D : List Int) (n d : Int) : Bool := s_ldGood S D && (s_l1In n 1 40 && (s_l1In d 0 20 && !((D.length : Int) == 12)))
noncomputable def adN (S D : List Int) (n d : Int) : (List Int × List Int) × Bool := bif adC S D n d then ((S ++ [n], D ++ [d]), true) else (([], []), false)
theorem Add_two (S D : List Int) (n d : Int) : i_AddFloor S D n d = some (adN S D n d) ∧ s_AddFloor S D n d = some (adN S D n d) := by
  unfold i_AddFloor s_AddFloor adN adC
  rw [IsHouse_eq, within_eq, within_eq]
  cases h : s_ldGood S D
  · exact ⟨rfl, rfl⟩
  · have g := goodH_iff.1 h
    have hl := g.bS.1; have hl2 := g.bD.1
    have b1 : Nat.ble (S.length + 1) 4294967296 = true := by rw [ble_dec]; exact decide_eq_true (by omega)
    have b2 : Nat.ble (D.length + 1) 4294967296 = true := by rw [ble_dec]; exact decide_eq_true (by omega)
    rw [cloneH (by omega), ownH (by omega)]
    cases s_l1In n 1 40 <;> cases s_l1In d 0 20 <;> cases ((D.length : Int) == 12) <;> simp only [Bool.not_true, Bool.not_false, cond_true, cond_false, Option.bind_some, Bool.and_true, Bool.and_false, Bool.true_and, Bool.false_and, b1, and_self]
    rw [cloneH (by omega), ownH (by omega)]
    simp only [Option.bind_some, b2, cond_true, and_self]
theorem adC_good {S D : List Int} {n d : Int} (h : adC S D n d = true) : GoodH S D ∧ GoodH (S ++ [n]) (D ++ [d]) ∧ drC (S ++ [n]) (D ++ [d]) = true := by
  unfold adC at h
  simp only [Bool.and_eq_true, l1In_iff, Bool.not_eq_true', beq_eq_false_iff_ne] at h
  obtain ⟨h1, h2, h3, h4⟩ := h
  have g := goodH_iff.1 h1
  have a := g.d1; have b := g.d2; have c := g.sl
  have g2 : GoodH (S ++ [n]) (D ++ [d]) := by
    refine ⟨by simp; omega, by simp; omega, by simp; omega, fun x hx => ?_, fun x hx => ?_⟩
    · rcases List.mem_append.1 hx with e | e
      · exact g.sb x e
      · rw [List.mem_singleton] at e; subst e; exact h2
    · rcases List.mem_append.1 hx with e | e
      · exact g.db x e
      · rw [List.mem_singleton] at e; subst e; exact h3
  refine ⟨g, g2, ?_⟩
  unfold drC
  rw [goodH_iff.2 g2]
  have : (((S ++ [n]).length : Int) == 1) = false := by rw [beq_eq_false_iff_ne]; simp; omega
  rw [this]; rfl
/-- what is dropped is added again -/
theorem drop_add {S D : List Int} (h : drC S D = true) : ∃ n d : Int, S.getD (S.length - 1) 0 = n ∧ D.getD S.length 0 = d ∧ adC (S.take (S.length - 1)) (D.take S.length) n d = true ∧ S.take (S.length - 1) ++ [n] = S ∧ D.take S.length ++ [d] = D := by
  unfold drC at h
  rw [Bool.and_eq_true, Bool.not_eq_true', beq_eq_false_iff_ne] at h
  have g := goodH_iff.1 h.1
  have a := g.d1; have b := g.d2; have c := g.sl
  have h0 : 1 < S.length := by omega
  have e1 : S.take (S.length - 1) ++ [S.getD (S.length - 1) 0] = S := by
    rw [getD_get (by omega : S.length - 1 < S.length)]
    have := List.take_append_getElem (l := S) (i := S.length - 1) (by omega)
    rw [this, List.take_of_length_le (by omega)]
  have e2 : D.take S.length ++ [D.getD S.length 0] = D := by
    rw [getD_get (by omega : S.length < D.length)]
    have := List.take_append_getElem (l := D) (i := S.length) (by omega)
    rw [this, List.take_of_length_le (by omega)]
  refine ⟨_, _, rfl, rfl, ?_, e1, e2⟩
  have m1 : S.getD (S.length - 1) 0 ∈ S := by rw [getD_get (by omega)]; exact List.getElem_mem _
  have m2 : D.getD S.length 0 ∈ D := by rw [getD_get (by omega)]; exact List.getElem_mem _
  have g2 : GoodH (S.take (S.length - 1)) (D.take S.length) := by
    refine ⟨by rw [List.length_take]; omega, by rw [List.length_take]; omega, by rw [List.length_take, List.length_take]; omega, fun x hx => g.sb x (List.mem_of_mem_take hx), fun x hx => g.db x (List.mem_of_mem_take hx)⟩
  unfold adC
  rw [goodH_iff.2 g2, l1In_iff.2 (g.sb _ m1), l1In_iff.2 (g.db _ m2)]
  have : (((D.take S.length).length : Int) == 12) = false := by rw [beq_eq_false_iff_ne, List.length_take]; omega
  rw [this]; rfl
end Go.Proofs.YtmiimfpdlkmjhaaGreatDoor.V
