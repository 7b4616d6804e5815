/- Functions of the program, as plain functions. No condition. -/
import Derived.Test.YtddlajhpdbjapaaGreatDoorQ1
set_option linter.unusedVariables false
set_option linter.unusedSimpArgs false
set_option maxRecDepth 100000
namespace Go.Proofs.YtddlajhpdbjapaaGreatDoor.V
open Go Go.Ev Go.Proofs
/-! ### numbers joined -/
def itoaB (n : Int) : ByteArray := ⟨(Lib.itoa n).toArray⟩
theorem num_ok {n : Int} (h : 0 ≤ n) (h' : n ≤ 4000000000000000000) : s_l1Num_n n = some (itoaB n) := by
  unfold s_l1Num_n
  rw [decide_eq_true h, decide_eq_true h']; rfl
theorem itoa_ok {n : Int} (h : 0 ≤ n) (h' : n ≤ 4000000000000000000) : strconv_Itoa n = some (itoaB n) := by
  unfold strconv_Itoa itoaF
  rw [if_pos (by omega)]; rfl
theorem itoa_len {n : Int} (h : 0 ≤ n) (h' : n ≤ 1000000) : (Lib.itoa n).length ≤ 1000001 := by
  obtain ⟨m, rfl⟩ := Int.eq_ofNat_of_zero_le h
  rw [itoa_nat]
  have := dec_len m; omega
theorem join_snoc (sep : List UInt8) : ∀ (xs : List (List UInt8)) (y : List UInt8), Lib.join (xs ++ [y]) sep = if xs = [] then y else Lib.join xs sep ++ sep ++ y
  | [], y => by rw [if_pos rfl, List.nil_append, Lib.join_one]
  | x :: r, y => by
    rw [if_neg (by simp), List.cons_append, Lib.join_cons, Lib.join_cons]
    unfold Lib.joinTail
    simp [List.append_assoc]
theorem join_len (sep : List UInt8) (xs : List (List UInt8)) : (Lib.join xs sep).length ≤ sep.length * xs.length + Lib.lens xs := by
  cases xs with
  | nil => simp [Lib.join_nil]
  | cons x r =>
    rw [Lib.join_cons, List.length_append, Lib.joinTail_length]
    have : Lib.lens (x :: r) = x.length + Lib.lens r := by simp [Lib.lens]
    rw [this, List.length_cons, Nat.mul_succ]; omega
theorem lens_le {c : Nat} : ∀ {xs : List (List UInt8)}, (∀ x, x ∈ xs → x.length ≤ c) → Lib.lens xs ≤ c * xs.length
  | [], _ => by simp [Lib.lens]
  | x :: r, h => by
    have h1 := h x (by simp)
    have h2 := lens_le (xs := r) (fun y hy => h y (List.mem_cons_of_mem _ hy))
    have : Lib.lens (x :: r) = x.length + Lib.lens r := by simp [Lib.lens]
    rw [this, List.length_cons, Nat.mul_succ]; omega
/-- small numbers -/
structure SmallL (l : List Int) : Prop where
  len : l.length ≤ 10000
  bd : ∀ x, x ∈ l → 0 ≤ x ∧ x ≤ 1000000
theorem join_bd {l : List Int} (h : SmallL l) (sep : List UInt8) (hs : sep.length ≤ 100) : (Lib.join (l.map Lib.itoa) sep).length ≤ 140737488355328 := by
  have h1 := join_len sep (l.map Lib.itoa)
  have h2 := lens_le (c := 1000001) (xs := l.map Lib.itoa) (fun x hx => by
    obtain ⟨n, hn, rfl⟩ := List.mem_map.1 hx
    have := h.bd n hn
    exact itoa_len this.1 this.2)
  rw [List.length_map] at h1 h2
  have h3 : sep.length * l.length ≤ 100 * 10000 := Nat.mul_le_mul hs h.len
  have h4 : 1000001 * l.length ≤ 1000001 * 10000 := Nat.mul_le_mul_left _ h.len
  omega
theorem SmallL.take {l : List Int} (h : SmallL l) (i : Nat) : SmallL (l.take i) := ⟨by rw [List.length_take]; have := h.len; omega, fun x hx => h.bd x (List.mem_of_mem_take hx)⟩
/-! ### numerals -/
theorem decFrom_snoc : ∀ (l : List UInt8) (acc : Nat) (b : UInt8), Lib.decFrom acc (l ++ [b]) = (Lib.decFrom acc l).bind fun m => (Lib.digitVal b).map fun d => m * 10 + d
  | [], acc, b => by
    simp only [List.nil_append, Lib.decFrom, Option.bind_some]
    cases Lib.digitVal b <;> rfl
  | c :: l, acc, b => by
    simp only [List.cons_append, Lib.decFrom]
    cases Lib.digitVal c
    · rfl
    · exact decFrom_snoc l _ b
theorem digit_of {m : Nat} (h : m < 10) : Lib.digitVal (UInt8.ofNat (48 + m)) = some m := by
  unfold Lib.digitVal
  have e : (UInt8.ofNat (48 + m)).toNat = 48 + m := by
    rw [UInt8.toNat_ofNat']; omega
  rw [e, if_pos (by omega)]
  congr 1; omega
theorem digit_inv {b : UInt8} {d : Nat} (h : Lib.digitVal b = some d) : b = UInt8.ofNat (48 + d) ∧ d < 10 := by
  unfold Lib.digitVal at h
  split at h
  · rename_i hb
    cases h
    have e : 48 + (b.toNat - 48) = b.toNat := by omega
    rw [e]
    exact ⟨by simp, by omega⟩
  · cases h
/-- a numeral spells its number -/
theorem dec_spell : ∀ u : Nat, Lib.decFrom 0 (Lib.decDigits u) = some u := by
  intro u
  induction u using Nat.strongRecOn with
  | ind u ih =>
    rw [Lib.decDigits]
    by_cases h : u < 10
    · rw [dif_pos h]
      simp only [Lib.decFrom, digit_of h]
      congr 1; omega
    · rw [dif_neg h, decFrom_snoc, ih (u / 10) (by omega), Option.bind_some, digit_of (Nat.mod_lt u (by omega))]
      simp only [Option.map_some]
      congr 1; omega
theorem dec_ne (u : Nat) : Lib.decDigits u ≠ [] := by
  rw [Lib.decDigits]
  by_cases h : u < 10
  · rw [dif_pos h]; simp
  · rw [dif_neg h]; simp
theorem dec_head : ∀ u : Nat, 0 < u → (Lib.decDigits u).head? ≠ some 48 := by
  intro u
  induction u using Nat.strongRecOn with
  | ind u ih =>
    intro h0
    rw [Lib.decDigits]
    by_cases h : u < 10
    · rw [dif_pos h]
      simp only [List.head?_cons]
      intro e
      have e := Option.some.inj e
      have := congrArg UInt8.toNat e
      rw [UInt8.toNat_ofNat'] at this
      have e48 : (48 : UInt8).toNat = 48 := rfl
      omega
    · rw [dif_neg h, List.head?_append]
      have := ih (u / 10) (by omega) (by omega)
      cases hd : (Lib.decDigits (u / 10)).head? with
      | none => exact absurd (List.head?_eq_none_iff.1 hd) (dec_ne _)
      | some x => rw [hd] at this; simpa using this
theorem dec_len6 (k : Nat) : ∀ u : Nat, u < 10 ^ (k + 1) → (Lib.decDigits u).length ≤ k + 1 := by
  induction k with
  | zero =>
    intro u h
    rw [Lib.decDigits, dif_pos (by simpa using h)]; simp
  | succ k ih =>
    intro u h
    rw [Lib.decDigits]
    by_cases h1 : u < 10
    · rw [dif_pos h1]; simp
    · rw [dif_neg h1, List.length_append, List.length_singleton]
      have := ih (u / 10) (by rw [Nat.pow_succ] at h; omega)
      omega
/-- digits without a zero ahead are their number's numeral -/
theorem dec_of : ∀ (l : List UInt8) (n : Nat), l ≠ [] → (l.head? = some 48 → l.length = 1) → Lib.decFrom 0 l = some n → Lib.decDigits n = l := by
  intro l
  induction hk : l.length using Nat.strongRecOn generalizing l with
  | ind k ih =>
    intro n hne hz hd
    obtain ⟨b, l', rfl⟩ : ∃ b l', l = l' ++ [b] := ⟨l.getLast hne, l.dropLast, (List.dropLast_concat_getLast hne).symm⟩
    rw [decFrom_snoc] at hd
    cases hm : Lib.decFrom 0 l' with
    | none => rw [hm] at hd; cases hd
    | some m =>
      rw [hm, Option.bind_some] at hd
      cases hb : Lib.digitVal b with
      | none => rw [hb] at hd; cases hd
      | some d =>
        rw [hb, Option.map_some] at hd
        have hd := Option.some.inj hd
        obtain ⟨rfl, hd9⟩ := digit_inv hb
        by_cases h0 : l' = []
        · subst h0
          have hm : some 0 = some m := hm
          have hm := Option.some.inj hm
          have : n = d := by omega
          subst this
          rw [Lib.decDigits, dif_pos hd9]; rfl
        · have hz' : l'.head? ≠ some 48 := fun e => by
            have h1 := hz (by rw [List.head?_append, e]; rfl)
            have h2 : l'.length + 1 = k := by rw [← hk]; simp
            have h3 : l'.length ≠ 0 := fun e => h0 (List.eq_nil_of_length_eq_zero e)
            omega
          have e := ih l'.length (by rw [← hk]; simp) l' rfl m h0 (fun e => absurd e hz') hm
          have hm0 : 0 < m := by
            rcases Nat.eq_zero_or_pos m with q | q
            · subst q
              rw [← e] at hz'
              exact absurd (by rw [Lib.decDigits, dif_pos (by omega)]; rfl) hz'
            · exact q
          have e1 : n / 10 = m := by omega
          have e2 : n % 10 = d := by omega
          rw [Lib.decDigits, dif_neg (by omega), e1, e2, e]
theorem decFrom_lt : ∀ (l : List UInt8) (acc n : Nat), Lib.decFrom acc l = some n → n < (acc + 1) * 10 ^ l.length
  | [], acc, n, h => by simp only [Lib.decFrom] at h; have := Option.some.inj h; simp; omega
  | b :: l, acc, n, h => by
    simp only [Lib.decFrom] at h
    cases hb : Lib.digitVal b with
    | none => rw [hb] at h; cases h
    | some d =>
      rw [hb] at h
      have h9 := (digit_inv hb).2
      have := decFrom_lt l _ n h
      have h2 : (acc * 10 + d + 1) * 10 ^ l.length ≤ ((acc + 1) * 10) * 10 ^ l.length := Nat.mul_le_mul_right _ (by omega)
      rw [List.length_cons, Nat.pow_succ, Nat.mul_comm (10 ^ l.length) 10, ← Nat.mul_assoc]
      omega
/-- what the reference reads -/
def rdL (l : List UInt8) : Int :=
  if 1 ≤ l.length ∧ l.length ≤ 6 ∧ (l.head? = some 48 → l.length = 1) then (match Lib.decFrom 0 l with | some n => (n : Int) | none => -1) else -1
theorem rdL_of {l : List UInt8} {v : Nat} (hv : v ≤ 999999) (h : Lib.decDigits v = l) : rdL l = v := by
  subst h
  unfold rdL
  have h1 := dec_len6 5 v (by omega)
  have h2 : 1 ≤ (Lib.decDigits v).length := Nat.pos_of_ne_zero (fun e => dec_ne v (List.eq_nil_of_length_eq_zero e))
  have h3 : (Lib.decDigits v).head? = some 48 → (Lib.decDigits v).length = 1 := fun e => by
    rcases Nat.eq_zero_or_pos v with q | q
    · subst q; rw [Lib.decDigits, dif_pos (by omega)]; rfl
    · exact absurd e (dec_head v q)
  rw [if_pos ⟨h2, h1, h3⟩, dec_spell]
theorem rdL_inv {l : List UInt8} (h : rdL l ≠ -1) : ∃ v : Nat, v ≤ 999999 ∧ Lib.decDigits v = l ∧ rdL l = v := by
  unfold rdL at h ⊢
  split at h
  · rename_i hc
    rw [if_pos hc]
    cases hd : Lib.decFrom 0 l with
    | none => rw [hd] at h; exact absurd rfl h
    | some n =>
      have hlt := decFrom_lt l 0 n hd
      have hp : 10 ^ l.length ≤ 10 ^ 6 := Nat.pow_le_pow_right (by omega) hc.2.1
      refine ⟨n, by omega, dec_of l n (fun e => by rw [e] at hc; simp at hc) hc.2.2 hd, rfl⟩
  · exact absurd rfl h
/-- what the program reads -/
def numL (l : List UInt8) : Int := match Lib.atoiAll l with | .ok v => if 0 ≤ v ∧ v ≤ 999999 ∧ Lib.itoa v = l then v else -1 | _ => -1
theorem atoi_dec {v : Nat} (hv : v ≤ 999999) : Lib.atoiAll (Lib.decDigits v) = .ok (v : Int) := by
  have h1 := dec_len6 5 v (by omega)
  rw [Lib.atoiAll_short _ (by omega)]
  have hs := dec_spell v
  have hne := dec_ne v
  cases hl : Lib.decDigits v with
  | nil => exact absurd hl hne
  | cons b r =>
    rw [hl] at hs
    have hb : ∃ d, Lib.digitVal b = some d := by
      simp only [Lib.decFrom] at hs
      cases hd : Lib.digitVal b with
      | none => rw [hd] at hs; cases hs
      | some d => exact ⟨d, rfl⟩
    obtain ⟨d, hd⟩ := hb
    obtain ⟨rfl, h9⟩ := digit_inv hd
    have e : (UInt8.ofNat (48 + d)).toNat = 48 + d := by rw [UInt8.toNat_ofNat']; omega
    have n1 : (UInt8.ofNat (48 + d) == 45) = false := by
      rw [beq_eq_false_iff_ne]; intro k; have := congrArg UInt8.toNat k; rw [e] at this; have e45 : (45 : UInt8).toNat = 45 := rfl; omega
    have n2 : (UInt8.ofNat (48 + d) == 43) = false := by
      rw [beq_eq_false_iff_ne]; intro k; have := congrArg UInt8.toNat k; rw [e] at this; have e43 : (43 : UInt8).toNat = 43 := rfl; omega
    unfold Lib.atoi
    simp only [n1, n2, Bool.false_eq_true, if_false]
    unfold Lib.decNat
    simp only [List.isEmpty_cons, Bool.false_eq_true, if_false]
    rw [hs]; rfl
theorem numL_eq (l : List UInt8) : numL l = rdL l := by
  by_cases h : rdL l = -1
  · rw [h]
    unfold numL
    cases ha : Lib.atoiAll l with
    | ok v =>
      simp only
      by_cases hc : 0 ≤ v ∧ v ≤ 999999 ∧ Lib.itoa v = l
      · obtain ⟨n, rfl⟩ := Int.eq_ofNat_of_zero_le hc.1
        have := rdL_of (l := l) (v := n) (by omega) (by rw [← hc.2.2, itoa_nat])
        omega
      · rw [if_neg hc]
    | _ => rfl
  · obtain ⟨v, h1, h2, h3⟩ := rdL_inv h
    rw [h3]
    unfold numL
    rw [← h2, atoi_dec h1]
    simp only
    rw [if_pos ⟨by omega, by omega, itoa_nat v⟩]
/-! ### numbers read -/
abbrev bL (s : ByteArray) : List UInt8 := s.data.toList
theorem bL_len (s : ByteArray) : (bL s).length = s.size := by
  show s.data.toList.length = s.data.size
  rw [Array.length_toList]
theorem bt_get {s : ByteArray} {i : Nat} (h : i < (bL s).length) : bt s (i : Int) = ((bL s)[i].toNat : Int) := by
  unfold bt
  rw [Int.toNat_natCast, List.getD_eq_getElem?_getD, List.getElem?_eq_getElem h]; rfl
theorem bL_inj {a b : ByteArray} (h : bL a = bL b) : a = b := by
  obtain ⟨⟨x⟩⟩ := a
  obtain ⟨⟨y⟩⟩ := b
  have h : x = y := h
  rw [h]
def ofDec : Option Nat → Int | some n => (n : Int) | none => -1
theorem read_loop (s : ByteArray) (hs : s.size ≤ 6) : ∀ (d i n : Nat), i + d = (bL s).length → n < 10 ^ i → s_l1Read_L1 s (n : Int) (i : Int) = some (ofDec (Lib.decFrom n ((bL s).drop i)))
  | 0, i, n, h, hn => by
    have hl := bL_len s
    rw [s_l1Read_u1, s_l1Read_t1, decide_eq_false (by omega), cond_false, List.drop_of_length_le (by omega)]; rfl
  | d + 1, i, n, h, hn => by
    have hl := bL_len s
    have hi : i < (bL s).length := by omega
    have hp : 10 ^ i ≤ 10 ^ 6 := Nat.pow_le_pow_right (by omega) (by omega)
    rw [s_l1Read_u1, s_l1Read_t1, decide_eq_true (show (i : Int) < (s.size : Int) by omega), decide_eq_true (Int.natCast_nonneg i), bt_get hi, List.drop_eq_getElem_cons hi]
    simp only [cond_true, Lib.decFrom]
    unfold Lib.digitVal
    by_cases h1 : ((bL s)[i].toNat : Int) < 48
    · rw [decide_eq_true h1, if_neg (by omega)]; rfl
    · by_cases h2 : ((bL s)[i].toNat : Int) > 57
      · rw [decide_eq_false h1, decide_eq_true h2, if_neg (by omega)]; rfl
      · rw [decide_eq_false h1, decide_eq_false h2, if_pos (by omega)]
        simp only [cond_false]
        rw [wrapU8 (n := ((bL s)[i].toNat : Int) - 48) (by omega) (by omega), wrapI (n := ((bL s)[i].toNat : Int) - 48) (by omega) (by omega), wrapI (n := 10 * (n : Int)) (by omega) (by omega), wrapI (n := 10 * (n : Int) + _) (by omega) (by omega), wrapI (n := (i : Int) + 1) (by omega) (by omega)]
        have e1 : 10 * (n : Int) + (((bL s)[i].toNat : Int) - 48) = ((n * 10 + ((bL s)[i].toNat - 48) : Nat) : Int) := by omega
        rw [e1, show (i : Int) + 1 = ((i + 1 : Nat) : Int) by omega]
        exact read_loop s hs d (i + 1) _ (by omega) (by rw [Nat.pow_succ]; omega)
theorem read_ok (s : ByteArray) : s_l1Read s = some (rdL (bL s)) := by
  have hl := bL_len s
  unfold s_l1Read s_l1Read_t0 rdL
  by_cases h : 1 ≤ s.size ∧ s.size ≤ 6
  · have h1 : s_l1In (s.size : Int) 1 6 = true := by
      unfold s_l1In
      rw [decide_eq_true (by omega), decide_eq_true (by omega)]; rfl
    have h0 : 0 < (bL s).length := by omega
    have hh : (bL s).head? = some (bL s)[0] := by rw [List.head?_eq_getElem?, List.getElem?_eq_getElem h0]
    have hb : bt s 0 = ((bL s)[0].toNat : Int) := bt_get (i := 0) h0
    have lp := read_loop s h.2 (bL s).length 0 0 (by omega) (by simp)
    have lp : s_l1Read_L1 s 0 0 = some (ofDec (Lib.decFrom 0 (bL s))) := lp
    rw [h1, decide_eq_true (show (0 : Int) < (s.size : Int) by omega), hb, hh, lp]
    simp only [Bool.not_true, cond_false, cond_true]
    by_cases hz : (bL s)[0] = 48
    · rw [hz]
      have e48 : (((48 : UInt8).toNat : Int) == 48) = true := rfl
      rw [e48, cond_true]
      by_cases h2 : s.size = 1
      · rw [decide_eq_false (show ¬ (s.size : Int) > 1 by omega), cond_false, if_pos ⟨by omega, by omega, fun _ => by omega⟩]
        unfold ofDec; rfl
      · rw [decide_eq_true (show (s.size : Int) > 1 by omega), cond_true, if_neg]
        intro hc
        have := hc.2.2 rfl
        omega
    · have e48 : (((bL s)[0].toNat : Int) == 48) = false := by
        rw [beq_eq_false_iff_ne]
        intro e
        apply hz
        apply UInt8.toNat_inj.1
        have : (48 : UInt8).toNat = 48 := rfl
        omega
      rw [e48, cond_false, if_pos ⟨by omega, by omega, fun e => absurd (Option.some.inj e) hz⟩]
      unfold ofDec; rfl
  · have h1 : s_l1In (s.size : Int) 1 6 = false := by
      unfold s_l1In
      by_cases h2 : (s.size : Int) ≥ 1
      · rw [decide_eq_true h2, cond_true, decide_eq_false (by omega)]
      · rw [decide_eq_false h2]; rfl
    rw [h1, if_neg (by omega)]; rfl
theorem num_eq {s : ByteArray} (hs : s.size ≤ 281474976710656) : i_num s = some (numL (bL s)) := by
  unfold i_num strconv_Atoi atoiF
  rw [if_pos hs, Option.bind_some]
  unfold atoiV numL
  cases ha : Lib.atoiAll (bL s) with
  | ok v =>
    simp only [Bool.not_true, cond_false]
    by_cases h1 : v < 0
    · rw [decide_eq_true h1, cond_true, if_neg (by omega)]
    · by_cases h2 : v > 999999
      · rw [decide_eq_false h1, decide_eq_true h2, cond_false, cond_true, if_neg (by omega)]
      · rw [decide_eq_false h1, decide_eq_false h2, cond_false, cond_false]
        unfold strconv_Itoa itoaF
        rw [if_pos (by omega), Option.bind_some]
        have e1 : ByteArray.toList (⟨(Lib.itoa v).toArray⟩ : ByteArray) = Lib.itoa v := by rw [ByteArray.toList_eq]
        have e2 : ByteArray.toList s = bL s := ByteArray.toList_eq s
        rw [e1, e2]
        by_cases h3 : Lib.itoa v = bL s
        · rw [if_pos ⟨by omega, by omega, h3⟩, h3, beq_self_eq_true]; rfl
        · rw [if_neg (fun c => h3 c.2.2), show (Lib.itoa v == bL s) = false from beq_eq_false_iff_ne.2 h3]; rfl
  | _ => rfl
/-! ### texts split -/
def spl (c : UInt8) : List UInt8 → List (List UInt8)
  | [] => [[]]
  | b :: r => if b = c then [] :: spl c r else match spl c r with | h :: t => (b :: h) :: t | [] => [[b]]
theorem spl_ne (c : UInt8) : ∀ l : List UInt8, spl c l ≠ []
  | [] => by simp [spl]
  | b :: r => by
    unfold spl
    split
    · simp
    · split <;> simp
theorem spl_join (c : UInt8) : ∀ l : List UInt8, Lib.join (spl c l) [c] = l
  | [] => rfl
  | b :: r => by
    have ih := spl_join c r
    unfold spl
    by_cases h : b = c
    · rw [if_pos h, h]
      cases hs : spl c r with
      | nil => exact absurd hs (spl_ne c r)
      | cons x t =>
        rw [hs, Lib.join_cons] at ih
        rw [Lib.join_cons]
        simp [Lib.joinTail] at ih ⊢
        exact ih
    · rw [if_neg h]
      cases hs : spl c r with
      | nil => exact absurd hs (spl_ne c r)
      | cons x t =>
        rw [hs, Lib.join_cons] at ih
        simp only
        rw [Lib.join_cons, List.cons_append, ih]
/-- a piece without the byte, then the byte -/
theorem spl_piece (c : UInt8) : ∀ (p r : List UInt8), c ∉ p → spl c (p ++ c :: r) = p :: spl c r
  | [], r, _ => by simp [spl]
  | b :: p, r, h => by
    have hb : ¬ b = c := fun e => h (by rw [e]; exact List.mem_cons_self)
    have ih := spl_piece c p r (fun m => h (List.mem_cons_of_mem _ m))
    rw [List.cons_append]
    conv => lhs; unfold spl
    rw [if_neg hb, ih]
theorem spl_last (c : UInt8) : ∀ p : List UInt8, c ∉ p → spl c p = [p]
  | [], _ => rfl
  | b :: p, h => by
    have hb : ¬ b = c := fun e => h (by rw [e]; exact List.mem_cons_self)
    have ih := spl_last c p (fun m => h (List.mem_cons_of_mem _ m))
    unfold spl
    rw [if_neg hb, ih]
theorem split_spl (c : UInt8) : ∀ l : List UInt8, Lib.splitK [c] 0 (Lib.count l [c]) l = spl c l
  | [] => by
    have h : Lib.count [] [c] = 0 := by rw [Lib.count_one]; rfl
    rw [h]; rfl
  | b :: r => by
    have ih := split_spl c r
    by_cases h : b = c
    · subst h
      have hix : Lib.index (b :: r) [b] = 0 := by rw [Lib.index]; simp [List.isPrefixOf]
      rw [Lib.count_cons_eq, Nat.add_comm, Lib.splitK, hix]
      unfold spl
      rw [if_pos rfl, ← ih]
      simp
    · rw [Lib.count_cons_ne b c r h]
      unfold spl
      rw [if_neg h, ← ih]
      have hp : ([c] : List UInt8).isPrefixOf (b :: r) = false := by simp [List.isPrefixOf, Ne.symm h]
      have hix : Lib.index (b :: r) [c] = if Lib.index r [c] == -1 then -1 else Lib.index r [c] + 1 := by rw [Lib.index, hp]; simp
      cases hk : Lib.count r [c] with
      | zero => rfl
      | succ k =>
        by_cases hm : Lib.index r [c] = -1
        · have := Lib.count_miss hm
          omega
        · have hge := Lib.index_ge r [c]
          obtain ⟨j, hj⟩ : ∃ j : Nat, Lib.index r [c] = j := ⟨(Lib.index r [c]).toNat, by omega⟩
          have hne : (Lib.index r [c] == -1) = false := beq_eq_false_iff_ne.2 hm
          have hne2 : (((j : Int) + 1) == -1) = false := beq_eq_false_iff_ne.2 (by omega)
          have hne3 : ((j : Int) == -1) = false := beq_eq_false_iff_ne.2 (by omega)
          rw [Lib.splitK, Lib.splitK, hix, hne]
          simp only [Bool.false_eq_true, if_false, hj, hne2, hne3]
          have e1 : ((j : Int) + 1).toNat = j + 1 := by omega
          rw [e1, Int.toNat_natCast]
          simp [Nat.add_comm]
          rw [Nat.add_comm 1 (j + 1)]
          rfl
theorem bt_eq {s : ByteArray} {i : Nat} (h : i < (bL s).length) (c : UInt8) : (bt s (i : Int) == ((c.toNat : Nat) : Int)) = decide ((bL s)[i] = c) := by
  rw [bt_get h]
  by_cases e : (bL s)[i] = c
  · rw [e, decide_eq_true rfl, beq_self_eq_true]
  · rw [decide_eq_false e, beq_eq_false_iff_ne]
    intro k
    exact e (UInt8.toNat_inj.1 (by omega))
theorem ext_bL (s : ByteArray) (a b : Nat) : bL (s.extract a b) = ((bL s).drop a).take (b - a) := Lib.extract_data s a b
/-- the reference's splitting -/
theorem l1Split_loop (s : ByteArray) (hs : s.size ≤ 2000000) (c : UInt8) : ∀ (d i f : Nat) (r : List ByteArray), i + d = (bL s).length → f ≤ i → c ∉ ((bL s).drop f).take (i - f) → r.length ≤ i →
    ∃ ps : List ByteArray, s_l1Split_L1 r s ((c.toNat : Nat) : Int) (f : Int) (i : Int) = some (r ++ ps) ∧ ps.map bL = spl c ((bL s).drop f)
  | 0, i, f, r, h, hf, hc, hr => by
    have hl := bL_len s
    refine ⟨[s.extract f s.size], ?_, ?_⟩
    · rw [s_l1Split_u1, s_l1Split_t1, decide_eq_false (by omega), cond_false, decide_eq_true (Int.natCast_nonneg f), decide_eq_true (show (f : Int) ≤ (s.size : Int) by omega), ble_dec, decide_eq_true (by omega), Int.toNat_natCast, Int.toNat_natCast]
      rfl
    · have e : ((bL s).drop f).take (i - f) = (bL s).drop f := List.take_of_length_le (by rw [List.length_drop]; omega)
      rw [e] at hc
      rw [spl_last c _ hc, List.map_cons, List.map_nil, ext_bL]
      congr 1
      exact List.take_of_length_le (by rw [List.length_drop]; omega)
  | d + 1, i, f, r, h, hf, hc, hr => by
    have hl := bL_len s
    have hi : i < (bL s).length := by omega
    have hsplit : (bL s).drop f = ((bL s).drop f).take (i - f) ++ (bL s)[i] :: (bL s).drop (i + 1) := by
      have e := List.take_append_drop (i - f) ((bL s).drop f)
      rw [List.drop_drop, show f + (i - f) = i by omega, List.drop_eq_getElem_cons hi] at e
      exact e.symm
    rw [s_l1Split_u1, s_l1Split_t1, decide_eq_true (show (i : Int) < (s.size : Int) by omega), decide_eq_true (Int.natCast_nonneg i), bt_eq hi, decide_eq_true (show (i : Int) ≤ (s.size : Int) by omega), decide_eq_true (Int.natCast_nonneg f), decide_eq_true (show (f : Int) ≤ (i : Int) by omega), ble_dec, decide_eq_true (show r.length + 1 ≤ 4294967296 by omega), wrapI (n := (i : Int) + 1) (by omega) (by omega), Int.toNat_natCast, Int.toNat_natCast, show (i : Int) + 1 = ((i + 1 : Nat) : Int) by omega]
    simp only [cond_true]
    by_cases e : (bL s)[i] = c
    · rw [decide_eq_true e, cond_true]
      obtain ⟨ps, h1, h2⟩ := l1Split_loop s hs c d (i + 1) (i + 1) (r ++ [s.extract f i]) (by omega) (Nat.le_refl _) (by simp) (by simp; omega)
      refine ⟨s.extract f i :: ps, ?_, ?_⟩
      · rw [h1, List.append_assoc]; rfl
      · rw [List.map_cons, h2, ext_bL, hsplit, e, spl_piece c _ _ hc]
        congr 1
        rw [← e, ← hsplit]
    · rw [decide_eq_false e, cond_false]
      refine l1Split_loop s hs c d (i + 1) f r (by omega) (by omega) ?_ (by omega)
      rw [hsplit, show i + 1 - f = (i - f) + 1 by omega]
      intro m
      rw [List.take_append, List.mem_append] at m
      rcases m with m | m
      · exact hc (List.mem_of_mem_take m)
      · have hlen : (((bL s).drop f).take (i - f)).length = i - f := by rw [List.length_take, List.length_drop]; omega
        rw [hlen, show i - f + 1 - (i - f) = 1 by omega] at m
        simp at m
        exact e m.symm
theorem l1Split_ok {s : ByteArray} (hs : s.size ≤ 2000000) (c : UInt8) : ∃ ps : List ByteArray, s_l1Split s ((c.toNat : Nat) : Int) = some ps ∧ ps.map bL = spl c (bL s) := by
  unfold s_l1Split s_l1Split_t0
  obtain ⟨ps, h1, h2⟩ := l1Split_loop s hs c (bL s).length 0 0 [] (by omega) (Nat.le_refl _) (by simp) (Nat.le_refl _)
  exact ⟨ps, h1, h2⟩
/-! ### numbers between -/
theorem spl_len (c : UInt8) : ∀ (l : List UInt8), (∀ x, x ∈ spl c l → x.length ≤ l.length) ∧ (spl c l).length ≤ l.length + 1
  | [] => by simp [spl]
  | b :: r => by
    obtain ⟨h1, h2⟩ := spl_len c r
    unfold spl
    by_cases h : b = c
    · rw [if_pos h]
      refine ⟨fun x hx => ?_, by simp only [List.length_cons]; omega⟩
      rcases List.mem_cons.1 hx with e | e
      · subst e; simp
      · have := h1 x e; simp only [List.length_cons]; omega
    · rw [if_neg h]
      cases hs : spl c r with
      | nil => exact absurd hs (spl_ne c r)
      | cons y t =>
        rw [hs] at h1 h2
        simp only
        refine ⟨fun x hx => ?_, by simp only [List.length_cons] at h2 ⊢; omega⟩
        rcases List.mem_cons.1 hx with e | e
        · subst e; have := h1 y (by simp); simp only [List.length_cons]; omega
        · have := h1 x (List.mem_cons_of_mem _ e); simp only [List.length_cons]; omega
theorem pieces_bd {s : ByteArray} {c : UInt8} {ps : List ByteArray} (h : ps.map bL = spl c (bL s)) : (∀ p, p ∈ ps → p.size ≤ s.size) ∧ ps.length ≤ s.size + 1 := by
  obtain ⟨h1, h2⟩ := spl_len c (bL s)
  have e : ps.length = (spl c (bL s)).length := by rw [← h, List.length_map]
  rw [bL_len] at h1 h2
  refine ⟨fun p hp => ?_, by omega⟩
  have := h1 (bL p) (by rw [← h]; exact List.mem_map_of_mem hp)
  rw [bL_len] at this; exact this
abbrev rd (p : ByteArray) : Int := rdL (bL p)
abbrev okP (p : ByteArray) : Bool := decide (0 ≤ rd p)
theorem rdL_bd (l : List UInt8) : -1 ≤ rdL l ∧ rdL l ≤ 999999 := by
  by_cases h : rdL l = -1
  · omega
  · obtain ⟨v, h1, _, h3⟩ := rdL_inv h; omega
theorem rd_text {p : ByteArray} (h : 0 ≤ rd p) : Lib.itoa (rd p) = bL p := by
  obtain ⟨v, h1, h2, h3⟩ := rdL_inv (l := bL p) (by unfold rd at h; omega)
  unfold rd
  rw [h3, itoa_nat, h2]
/-! ### numerals and pieces, put together and read back -/
theorem dec_mem : ∀ (u : Nat) (b : UInt8), b ∈ Lib.decDigits u → ∃ m, m < 10 ∧ b = UInt8.ofNat (48 + m) := by
  intro u
  induction u using Nat.strongRecOn with
  | _ u ih =>
    intro b h
    rw [Lib.decDigits] at h
    by_cases h1 : u < 10
    · rw [dif_pos h1, List.mem_singleton] at h
      exact ⟨u, h1, h⟩
    · rw [dif_neg h1, List.mem_append, List.mem_singleton] at h
      rcases h with h | h
      · exact ih (u / 10) (by omega) b h
      · exact ⟨u % 10, by omega, h⟩
theorem itoa_no {n : Int} (h0 : 0 ≤ n) {c : UInt8} (hc : ∀ m, m < 10 → c ≠ UInt8.ofNat (48 + m)) : c ∉ Lib.itoa n := by
  obtain ⟨m, rfl⟩ := Int.eq_ofNat_of_zero_le h0
  rw [itoa_nat]
  intro hm
  obtain ⟨d, h1, h2⟩ := dec_mem m c hm
  exact hc d h1 h2
theorem no46 : ∀ m, m < 10 → (46 : UInt8) ≠ UInt8.ofNat (48 + m) := by decide
theorem no44 : ∀ m, m < 10 → (44 : UInt8) ≠ UInt8.ofNat (48 + m) := by decide
theorem rdL_itoa {n : Int} (h0 : 0 ≤ n) (h1 : n ≤ 999999) : rdL (Lib.itoa n) = n := by
  obtain ⟨m, rfl⟩ := Int.eq_ofNat_of_zero_le h0
  rw [itoa_nat]
  exact rdL_of (by omega) rfl
theorem itoa_ne {n : Int} (h0 : 0 ≤ n) : Lib.itoa n ≠ [] := by
  obtain ⟨m, rfl⟩ := Int.eq_ofNat_of_zero_le h0
  rw [itoa_nat]
  exact dec_ne m
theorem spl_of_join (c : UInt8) : ∀ (p : List UInt8) (ps : List (List UInt8)), (∀ q, q ∈ p :: ps → c ∉ q) → spl c (Lib.join (p :: ps) [c]) = p :: ps
  | p, [], h => by rw [Lib.join_one]; exact spl_last c p (h p (by simp))
  | p, q :: r, h => by
    have ih := spl_of_join c q r (fun x hx => h x (List.mem_cons_of_mem _ hx))
    have e : Lib.join (p :: q :: r) [c] = p ++ c :: Lib.join (q :: r) [c] := by
      rw [Lib.join_cons, Lib.join_cons]; simp [Lib.joinTail]
    rw [e, spl_piece c p _ (h p (by simp)), ih]
/-! ### texts cut at a byte -/
theorem cut_spl (c : UInt8) : ∀ l : List UInt8, Lib.cut l [c] = match spl c l with | [] => (l, [], false) | [_] => (l, [], false) | a :: r => (a, Lib.join r [c], true)
  | [] => rfl
  | b :: r => by
    have ih := cut_spl c r
    unfold spl
    by_cases h : b = c
    · subst h
      have hix : Lib.index (b :: r) [b] = 0 := by rw [Lib.index]; simp [List.isPrefixOf]
      rw [if_pos rfl]
      have hj := spl_join b r
      cases hs : spl b r with
      | nil => exact absurd hs (spl_ne b r)
      | cons x t =>
        rw [hs] at hj
        unfold Lib.cut
        rw [hix]
        simp [hj]
    · rw [if_neg h]
      have hp : ([c] : List UInt8).isPrefixOf (b :: r) = false := by simp [List.isPrefixOf, Ne.symm h]
      have hix : Lib.index (b :: r) [c] = if Lib.index r [c] == -1 then -1 else Lib.index r [c] + 1 := by rw [Lib.index, hp]; simp
      have hge := Lib.index_ge r [c]
      unfold Lib.cut at ih ⊢
      rw [hix]
      by_cases hm : Lib.index r [c] = -1
      · rw [hm] at ih ⊢
        simp only [beq_self_eq_true, if_true] at ih ⊢
        rw [if_neg (by omega)] at ih ⊢
        cases hs : spl c r with
        | nil => exact absurd hs (spl_ne c r)
        | cons x t =>
          rw [hs] at ih
          cases t with
          | nil => rfl
          | cons y t => simp at ih
      · obtain ⟨j, hj⟩ : ∃ j : Nat, Lib.index r [c] = j := ⟨(Lib.index r [c]).toNat, by omega⟩
        rw [hj] at ih ⊢
        have hne : (((j : Nat) : Int) == -1) = false := beq_eq_false_iff_ne.2 (by omega)
        rw [hne]
        simp only [Bool.false_eq_true, if_false]
        rw [if_pos (by omega)] at ih ⊢
        rw [show ((j : Int) + 1).toNat = j + 1 from by omega]
        rw [Int.toNat_natCast] at ih
        cases hs : spl c r with
        | nil => exact absurd hs (spl_ne c r)
        | cons x t =>
          rw [hs] at ih
          cases t with
          | nil => simp at ih
          | cons y t =>
            simp only [Prod.mk.injEq, and_true] at ih
            simp only [List.take_succ_cons]
            rw [ih.1]
            refine Prod.ext rfl (Prod.ext ?_ rfl)
            simp only
            rw [← ih.2, show j + 1 + ([c] : List UInt8).length = (j + ([c] : List UInt8).length) + 1 from by omega, List.drop_succ_cons]
theorem cut_none {c : UInt8} {l : List UInt8} (h : c ∉ l) : Lib.cut l [c] = (l, [], false) := by
  rw [cut_spl, spl_last c l h]
theorem cut_at {c : UInt8} {a r : List UInt8} (h : c ∉ a) : Lib.cut (a ++ c :: r) [c] = (a, r, true) := by
  have hj := spl_join c r
  rw [cut_spl, spl_piece c a r h]
  cases hs : spl c r with
  | nil => exact absurd hs (spl_ne c r)
  | cons x t => rw [hs] at hj; simp only; rw [hj]
/-- what a text cut tells -/
theorem cut_inv {c : UInt8} {l a r : List UInt8} {f : Bool} (h : Lib.cut l [c] = (a, r, f)) : (f = true ∧ l = a ++ c :: r ∧ c ∉ a) ∨ (f = false ∧ a = l ∧ r = [] ∧ c ∉ l) := by
  by_cases hc : c ∈ l
  · left
    obtain ⟨s, t, rfl⟩ := List.append_of_mem hc
    have : ∀ (s t : List UInt8), ∃ s' t', s ++ c :: t = s' ++ c :: t' ∧ c ∉ s' := by
      intro s
      induction s with
      | nil => intro t; exact ⟨[], t, rfl, by simp⟩
      | cons x s ih =>
        intro t
        by_cases hx : x = c
        · subst hx; exact ⟨[], s ++ x :: t, rfl, by simp⟩
        · obtain ⟨s', t', h1, h2⟩ := ih t
          exact ⟨x :: s', t', by rw [List.cons_append, h1]; rfl, by simp only [List.mem_cons, not_or]; exact ⟨fun e => hx e.symm, h2⟩⟩
    obtain ⟨s', t', h1, h2⟩ := this s t
    rw [h1, cut_at h2] at h
    cases h
    exact ⟨rfl, h1, h2⟩
  · right
    rw [cut_none hc] at h
    cases h
    exact ⟨rfl, rfl, rfl, hc⟩
/-! ### stairs' texts -/
def numsT (l : List Int) : List UInt8 := Lib.join (l.map Lib.itoa) [44]
def tS (N : Int) (D B : List Int) : List UInt8 := Lib.itoa N ++ 115 :: (numsT D ++ if B = [] then [] else 120 :: numsT B)
theorem join_two (p q : List UInt8) (r : List (List UInt8)) (c : UInt8) : Lib.join (p :: q :: r) [c] = p ++ c :: Lib.join (q :: r) [c] := by
  rw [Lib.join_cons, Lib.join_cons]; simp [Lib.joinTail]
theorem numsT_no {c : UInt8} (hc : ∀ m, m < 10 → c ≠ UInt8.ofNat (48 + m)) (h44 : c ≠ 44) : ∀ {l : List Int}, (∀ x, x ∈ l → 0 ≤ x) → c ∉ numsT l
  | [], _ => by unfold numsT; simp [Lib.join]
  | [x], h => by
    unfold numsT
    rw [List.map_cons, List.map_nil, Lib.join_one]
    exact itoa_no (h x (by simp)) hc
  | x :: y :: l, h => by
    have ih := numsT_no hc h44 (l := y :: l) (fun z hz => h z (List.mem_cons_of_mem _ hz))
    have h1 := itoa_no (h x (by simp)) hc
    unfold numsT at ih ⊢
    rw [List.map_cons, List.map_cons, join_two]
    simp only [List.mem_append, List.mem_cons, not_or]
    rw [List.map_cons] at ih
    exact ⟨h1, h44, ih⟩
theorem numsT_spl {l : List Int} (hl : l ≠ []) (h : ∀ x, x ∈ l → 0 ≤ x) : spl 44 (numsT l) = l.map Lib.itoa := by
  cases l with
  | nil => exact absurd rfl hl
  | cons x l =>
    unfold numsT
    rw [List.map_cons]
    refine spl_of_join 44 _ _ (fun q hq => ?_)
    rw [← List.map_cons] at hq
    obtain ⟨z, hz, rfl⟩ := List.mem_map.1 hq
    exact itoa_no (h z hz) no44
theorem rdL_map {l : List Int} (h : ∀ x, x ∈ l → 0 ≤ x ∧ x ≤ 999999) : (l.map Lib.itoa).map rdL = l := by
  rw [List.map_map]
  have : l.map (rdL ∘ Lib.itoa) = l.map id := List.map_congr_left fun x hx => rdL_itoa (h x hx).1 (h x hx).2
  rw [this, List.map_id]
theorem rdL_inv' {x : List UInt8} (h : 0 ≤ rdL x) : Lib.itoa (rdL x) = x := by
  obtain ⟨v, h1, h2, h3⟩ := rdL_inv (l := x) (by omega)
  rw [h3, itoa_nat, h2]
/-- numbers read are the text's -/
theorem nums_back {x : List UInt8} (h : ∀ q, q ∈ spl 44 x → 0 ≤ rdL q) : numsT ((spl 44 x).map rdL) = x := by
  have e : ((spl 44 x).map rdL).map Lib.itoa = spl 44 x := by
    rw [List.map_map]
    have : (spl 44 x).map (Lib.itoa ∘ rdL) = (spl 44 x).map id := List.map_congr_left fun q hq => rdL_inv' (h q hq)
    rw [this, List.map_id]
  unfold numsT
  rw [e, spl_join]
theorem no115 : ∀ m, m < 10 → (115 : UInt8) ≠ UInt8.ofNat (48 + m) := by decide
theorem no120 : ∀ m, m < 10 → (120 : UInt8) ≠ UInt8.ofNat (48 + m) := by decide
/-- the numbers that a text stands for, if it has -/
def stR (a d b : List UInt8) (has : Bool) : Int × List Int × List Int := (rdL a, (spl 44 d).map rdL, bif has then (spl 44 b).map rdL else [])
theorem spl_map_ne (x : List UInt8) : (spl 44 x).map rdL ≠ [] := fun e => spl_ne 44 x (List.map_eq_nil_iff.1 e)
/-- parts whose numbers are none below nought are the text of their numbers -/
theorem st_text {a d b : List UInt8} {has : Bool} (ha : 0 ≤ rdL a) (hd : ∀ q, q ∈ spl 44 d → 0 ≤ rdL q) (hb : has = true → ∀ q, q ∈ spl 44 b → 0 ≤ rdL q) :
    tS (stR a d b has).1 (stR a d b has).2.1 (stR a d b has).2.2 = a ++ 115 :: (d ++ bif has then 120 :: b else []) := by
  unfold tS stR
  simp only
  rw [rdL_inv' ha, nums_back hd]
  cases has
  · simp
  · simp only [cond_true]
    rw [if_neg (spl_map_ne b), nums_back (hb rfl)]
theorem itoa1 {n : Int} (k : Nat) (h0 : 0 ≤ n) (h1 : n < 10 ^ (k + 1)) : (Lib.itoa n).length ≤ k + 1 := by
  obtain ⟨m, rfl⟩ := Int.eq_ofNat_of_zero_le h0
  rw [itoa_nat]
  exact dec_len6 k m (by exact_mod_cast h1)
/-! ### divisors and fractions -/
theorem within_eq (x lo hi : Int) : i_within x lo hi = s_l1In x lo hi := by unfold i_within s_l1In; simp
theorem l1In_iff {x lo hi : Int} : s_l1In x lo hi = true ↔ lo ≤ x ∧ x ≤ hi := by
  unfold s_l1In
  by_cases h1 : lo ≤ x <;> by_cases h2 : x ≤ hi <;> simp [h1, h2]
theorem l1In_not {x lo hi : Int} (h : s_l1In x lo hi = false) : ¬ (lo ≤ x ∧ x ≤ hi) := fun k => by rw [l1In_iff.2 k] at h; cases h
theorem gcd_loop : ∀ (b a : Nat), i_gcd_L1 (a : Int) (b : Int) = some ((Nat.gcd a b : Nat) : Int) := by
  intro b
  induction b using Nat.strongRecOn with
  | ind b ih =>
    intro a
    rw [i_gcd_u1, i_gcd_t1]
    by_cases hb : b = 0
    · subst hb
      simp
    · have h0 : ((b : Int) == 0) = false := by rw [beq_eq_false_iff_ne]; omega
      have h1 : ((b : Int) != 0) = true := by rw [bne, h0]; rfl
      have h2 : Int.tmod (a : Int) (b : Int) = ((a % b : Nat) : Int) := by
        rw [Int.tmod_eq_emod_of_nonneg (by omega)]; rfl
      rw [h0, h1, h2]
      simp only [cond_true, cond_false]
      rw [ih (a % b) (Nat.mod_lt a (by omega)) b]
      congr 2
      rw [Nat.gcd_comm b, ← Nat.gcd_rec, Nat.gcd_comm]
theorem gcd_eq (a b : Nat) : i_gcd (a : Int) (b : Int) = some ((Nat.gcd a b : Nat) : Int) := gcd_loop b a
theorem part_eq (n d : Nat) (hd : 0 < d) (hn : n ≤ 4000000000000000000) (hd' : d ≤ 4000000000000000000) : i_part (n : Int) (d : Int) = some (((n / Nat.gcd n d : Nat) : Int), ((d / Nat.gcd n d : Nat) : Int), true) := by
  unfold i_part
  have h1 : ¬ ((d : Int) ≤ 0) := by omega
  have hg : 0 < Nat.gcd n d := Nat.gcd_pos_of_pos_right n hd
  have h2 : (((Nat.gcd n d : Nat) : Int) == 0) = false := by rw [beq_eq_false_iff_ne]; omega
  have e1 : Int.tdiv (n : Int) ((Nat.gcd n d : Nat) : Int) = ((n / Nat.gcd n d : Nat) : Int) := by rw [Int.tdiv_eq_ediv_of_nonneg (by omega)]; rfl
  have e2 : Int.tdiv (d : Int) ((Nat.gcd n d : Nat) : Int) = ((d / Nat.gcd n d : Nat) : Int) := by rw [Int.tdiv_eq_ediv_of_nonneg (by omega)]; rfl
  have b1 : n / Nat.gcd n d ≤ n := Nat.div_le_self _ _
  have b2 : d / Nat.gcd n d ≤ d := Nat.div_le_self _ _
  rw [decide_eq_false h1, gcd_eq]
  have w : ∀ q : Nat, q ≤ 4000000000000000000 → IntKind.wrap .i64 (q : Int) = q := fun q hq => wrapI (by omega) (by omega)
  simp only [cond_false, Option.bind_some, h2, e1, e2]
  rw [w _ (by omega), w _ (by omega)]
theorem part_mul (n d k : Nat) (hk : 0 < k) : (k * n) / Nat.gcd (k * n) (k * d) = n / Nat.gcd n d ∧ (k * d) / Nat.gcd (k * n) (k * d) = d / Nat.gcd n d := by
  rw [Nat.gcd_mul_left]
  exact ⟨Nat.mul_div_mul_left _ _ hk, Nat.mul_div_mul_left _ _ hk⟩
/-! ### texts of three numbers -/
theorem bsz (l : List UInt8) : (⟨l.toArray⟩ : ByteArray).size = l.length := by show l.toArray.size = _; simp
theorem bL_mk (l : List UInt8) : bL ⟨l.toArray⟩ = l := by show l.toArray.toList = l; simp
theorem ble_b {m : Nat} (h : m ≤ 1000000) : Nat.ble m 9223372036854775807 = true := by rw [Nat.ble_eq]; omega
theorem cut_ok {s : ByteArray} (hs : s.size ≤ 3000000) (c : UInt8) : strings_Cut s { data := #[c] } = some (⟨(Lib.cut (bL s) [c]).1.toArray⟩, ⟨(Lib.cut (bL s) [c]).2.1.toArray⟩, (Lib.cut (bL s) [c]).2.2) := by
  unfold strings_Cut cutF
  rw [if_pos (by omega)]
theorem cut_lens {c : UInt8} {l a r : List UInt8} {f : Bool} (h : Lib.cut l [c] = (a, r, f)) : a.length ≤ l.length ∧ r.length ≤ l.length := by
  rcases cut_inv h with ⟨-, rfl, -⟩ | ⟨-, rfl, rfl, -⟩
  · simp only [List.length_append, List.length_cons]; omega
  · simp
theorem spl_one {c : UInt8} {l : List UInt8} (h : (spl c l).length = 1) : spl c l = [l] := by
  have hj := spl_join c l
  cases hs : spl c l with
  | nil => rw [hs] at h; cases h
  | cons x r =>
    cases r with
    | nil =>
      rw [hs, Lib.join_one] at hj
      rw [hj]
    | cons y r => rw [hs] at h; simp at h
theorem map_one {ps : List ByteArray} {x : List UInt8} (h : ps.map bL = [x]) : ∃ p, ps = [p] ∧ bL p = x := by
  cases ps with
  | nil => cases h
  | cons p r =>
    rw [List.map_cons] at h
    injection h with h1 h2
    exact ⟨p, by rw [List.map_eq_nil_iff.1 h2], h1⟩
theorem map_two {ps : List ByteArray} {x y : List UInt8} (h : ps.map bL = [x, y]) : ∃ p q, ps = [p, q] ∧ bL p = x ∧ bL q = y := by
  cases ps with
  | nil => cases h
  | cons p r =>
    rw [List.map_cons] at h
    injection h with h1 h2
    obtain ⟨q, hq, e⟩ := map_one h2
    exact ⟨p, q, by rw [hq], h1, e⟩
theorem no_in_rd {c : UInt8} (hc : ∀ m, m < 10 → c ≠ UInt8.ofNat (48 + m)) {x : List UInt8} (h : 0 ≤ rdL x) : c ∉ x := by
  have e := rdL_inv' h
  rw [← e]
  exact itoa_no h hc
theorem rdL_nil : ¬ 0 ≤ rdL [] := fun h => by
  have e := rdL_inv' h
  exact itoa_ne h e
/-- the text of three numbers -/
def T3 (c1 c2 : UInt8) (x y z : Int) : List UInt8 := Lib.itoa x ++ c1 :: (Lib.itoa y ++ c2 :: Lib.itoa z)
/-- a byte that is no digit -/
def NoDig (c : UInt8) : Prop := ∀ m, m < 10 → c ≠ UInt8.ofNat (48 + m)
theorem noDig_rd {c : UInt8} (hc : NoDig c) {x : List UInt8} (h : 0 ≤ rdL x) : c ∉ x := no_in_rd hc h
structure Tri (c1 c2 : UInt8) (t a r b c : List UInt8) (ok has : Bool) : Prop where
  h1 : Lib.cut t [c1] = (a, r, ok)
  h2 : Lib.cut r [c2] = (b, c, has)
theorem Tri.of (c1 c2 : UInt8) (t : List UInt8) : ∃ a r b c ok has, Tri c1 c2 t a r b c ok has := ⟨_, _, _, _, _, _, ⟨rfl, rfl⟩⟩
/-- what was read -/
def Ok3 (a b c : List UInt8) : Prop := 0 ≤ rdL a ∧ 0 ≤ rdL b ∧ 0 ≤ rdL c
section
variable {c1 c2 : UInt8} (n1 : NoDig c1) (n2 : NoDig c2) (hne : c1 ≠ c2) {t a r b c : List UInt8} {ok has : Bool} (P : Tri c1 c2 t a r b c ok has)
include n1 n2 hne P
theorem Tri.good (g : Ok3 a b c) : T3 c1 c2 (rdL a) (rdL b) (rdL c) = t ∧ t = a ++ c1 :: r ∧ r = b ++ c2 :: c ∧ c1 ∉ a ∧ c1 ∉ r ∧ c2 ∉ b ∧ c2 ∉ c := by
  obtain ⟨g1, g2, g3⟩ := g
  have ea := rdL_inv' g1
  have eb := rdL_inv' g2
  have ec := rdL_inv' g3
  rcases cut_inv P.h2 with ⟨-, e2, -⟩ | ⟨-, -, rfl, -⟩
  · rcases cut_inv P.h1 with ⟨-, e1, -⟩ | ⟨-, -, rfl, -⟩
    · have k1 : c1 ∉ r := by
        rw [e2]
        intro h
        rcases List.mem_append.1 h with h | h
        · exact noDig_rd n1 g2 h
        · rcases List.mem_cons.1 h with h | h
          · exact hne h
          · exact noDig_rd n1 g3 h
      refine ⟨?_, e1, e2, noDig_rd n1 g1, k1, noDig_rd n2 g2, noDig_rd n2 g3⟩
      unfold T3
      rw [ea, eb, ec, e1, e2]
    · cases b with
      | nil => exact absurd g2 rdL_nil
      | cons x l => cases e2
  · exact absurd g3 rdL_nil
end
theorem Tri.back {c1 c2 : UInt8} (n1 : NoDig c1) (n2 : NoDig c2) {x y z : Int} (hx : 0 ≤ x) (hy : 0 ≤ y) {a r b c : List UInt8} {ok has : Bool} (P : Tri c1 c2 (T3 c1 c2 x y z) a r b c ok has) : a = Lib.itoa x ∧ b = Lib.itoa y ∧ c = Lib.itoa z := by
  have e1 : Lib.cut (T3 c1 c2 x y z) [c1] = (Lib.itoa x, Lib.itoa y ++ c2 :: Lib.itoa z, true) := cut_at (itoa_no hx n1)
  have e2 : Lib.cut (Lib.itoa y ++ c2 :: Lib.itoa z) [c2] = (Lib.itoa y, Lib.itoa z, true) := cut_at (itoa_no hy n2)
  have h1 := P.h1
  rw [e1] at h1
  simp only [Prod.mk.injEq] at h1
  obtain ⟨rfl, rfl, -⟩ := h1
  have h2 := P.h2
  rw [e2] at h2
  simp only [Prod.mk.injEq] at h2
  exact ⟨rfl, h2.1.symm, h2.2.1.symm⟩
/-- the reference's splitting, beside the cuts -/
theorem split_two {s : ByteArray} (hs : s.size ≤ 2000000) (c1 : UInt8) {a r : List UInt8} {ok : Bool} (h1 : Lib.cut (bL s) [c1] = (a, r, ok)) :
    ∃ ps, s_l1Split s ((c1.toNat : Nat) : Int) = some ps ∧ (((ps.length : Int) ≠ 2 ∧ ¬ (ok = true ∧ c1 ∉ r)) ∨ ∃ x y, ps = [x, y] ∧ bL x = a ∧ bL y = r) := by
  obtain ⟨ps, p1, p2⟩ := l1Split_ok hs c1
  refine ⟨ps, p1, ?_⟩
  rcases cut_inv h1 with ⟨rfl, e, hn⟩ | ⟨rfl, rfl, rfl, hn⟩
  · rw [e, spl_piece c1 a r hn] at p2
    by_cases hb : (spl c1 r).length = 1
    · rw [spl_one hb] at p2
      exact .inr (map_two p2)
    · refine .inl ⟨?_, fun h => hb (by rw [spl_last c1 r h.2]; rfl)⟩
      have := congrArg List.length p2
      rw [List.length_map, List.length_cons] at this
      omega
  · rw [spl_last c1 _ hn] at p2
    obtain ⟨p, rfl, hp⟩ := map_one p2
    exact .inl ⟨by simp, fun h => by cases h.1⟩
noncomputable def par3 (G : Int → Int → Int → Bool) (a b c : List UInt8) : (Int × Int × Int) × Bool := bif G (rdL a) (rdL b) (rdL c) then ((rdL a, rdL b, rdL c), true) else ((0, 0, 0), false)
theorem par3_not {G : Int → Int → Int → Bool} {a b c : List UInt8} (h : G (rdL a) (rdL b) (rdL c) = true → False) : par3 G a b c = ((0, 0, 0), false) := by
  unfold par3
  cases hg : G (rdL a) (rdL b) (rdL c)
  · rfl
  · exact (h hg).elim
section
variable {G : Int → Int → Int → Bool} (hG : ∀ x y z, G x y z = true → (0 ≤ x ∧ x ≤ 999999) ∧ (0 ≤ y ∧ y ≤ 999999) ∧ (0 ≤ z ∧ z ≤ 999999)) {c1 c2 : UInt8} (n1 : NoDig c1) (n2 : NoDig c2) (hne : c1 ≠ c2)
include hG n1 n2 hne
theorem par3_back {t a r b c : List UInt8} {ok has : Bool} (P : Tri c1 c2 t a r b c ok has) :
    ((par3 G a b c).2 = true → G (par3 G a b c).1.1 (par3 G a b c).1.2.1 (par3 G a b c).1.2.2 = true ∧ T3 c1 c2 (par3 G a b c).1.1 (par3 G a b c).1.2.1 (par3 G a b c).1.2.2 = t) ∧
    (∀ x y z, G x y z = true → T3 c1 c2 x y z = t → (par3 G a b c).1 = (x, y, z) ∧ (par3 G a b c).2 = true) := by
  refine ⟨?_, ?_⟩
  · unfold par3
    cases hc : G (rdL a) (rdL b) (rdL c)
    · intro h; cases h
    · intro _
      obtain ⟨g1, g2, g3⟩ := hG _ _ _ hc
      exact ⟨hc, (P.good n1 n2 hne ⟨g1.1, g2.1, g3.1⟩).1⟩
  · intro x y z g e
    obtain ⟨g1, g2, g3⟩ := hG _ _ _ g
    subst e
    obtain ⟨rfl, rfl, rfl⟩ := Tri.back n1 n2 g1.1 g2.1 P
    unfold par3
    rw [rdL_itoa g1.1 g1.2, rdL_itoa g2.1 g2.2, rdL_itoa g3.1 g3.2, g]
    exact ⟨rfl, rfl⟩
/-- how the reference reads: the pieces, or nothing that is good -/
theorem split_three {s : ByteArray} (hs : s.size ≤ 2000000) {a r b c : List UInt8} {ok has : Bool} (P : Tri c1 c2 (bL s) a r b c ok has) :
    ∃ ps, s_l1Split s ((c1.toNat : Nat) : Int) = some ps ∧ (((ps.length : Int) ≠ 2 ∧ ¬ G (rdL a) (rdL b) (rdL c) = true) ∨ ∃ x y, ps = [x, y] ∧ bL x = a ∧
      ∃ qs, s_l1Split y ((c2.toNat : Nat) : Int) = some qs ∧ (((qs.length : Int) ≠ 2 ∧ ¬ G (rdL a) (rdL b) (rdL c) = true) ∨ ∃ u v, qs = [u, v] ∧ bL u = b ∧ bL v = c)) := by
  obtain ⟨ps, p1, p2⟩ := split_two hs c1 P.h1
  refine ⟨ps, p1, ?_⟩
  rcases p2 with ⟨h1, h2⟩ | ⟨x, y, e, hx, hy⟩
  · refine .inl ⟨h1, fun hg => ?_⟩
    obtain ⟨g1, g2, g3⟩ := hG _ _ _ hg
    obtain ⟨-, k1, -, k3, k4, -⟩ := P.good n1 n2 hne ⟨g1.1, g2.1, g3.1⟩
    refine h2 ⟨?_, k4⟩
    rcases cut_inv P.h1 with ⟨h, -, -⟩ | ⟨-, -, -, hn⟩
    · exact h
    · exact absurd (by rw [k1]; simp : c1 ∈ bL s) hn
  · refine .inr ⟨x, y, e, hx, ?_⟩
    have hl := bL_len s
    obtain ⟨l1, l2⟩ := cut_lens P.h1
    have hys : y.size ≤ 2000000 := by rw [← bL_len, hy]; omega
    obtain ⟨qs, q1, q2⟩ := split_two hys c2 (a := b) (r := c) (ok := has) (by rw [hy]; exact P.h2)
    refine ⟨qs, q1, ?_⟩
    rcases q2 with ⟨h1, h2⟩ | ⟨u, v, e, hu, hv⟩
    · refine .inl ⟨h1, fun hg => ?_⟩
      obtain ⟨g1, g2, g3⟩ := hG _ _ _ hg
      obtain ⟨-, -, k2, -, -, k5, k6⟩ := P.good n1 n2 hne ⟨g1.1, g2.1, g3.1⟩
      refine h2 ⟨?_, k6⟩
      rcases cut_inv P.h2 with ⟨h, -, -⟩ | ⟨-, -, -, hn⟩
      · exact h
      · exact absurd (by rw [k2]; simp : c2 ∈ r) hn
    · exact .inr ⟨u, v, e, hu, hv⟩
end
theorem T3_bytes (c1 c2 : UInt8) (x y z : Int) : itoaB x ++ ⟨#[c1]⟩ ++ itoaB y ++ ⟨#[c2]⟩ ++ itoaB z = ⟨(T3 c1 c2 x y z).toArray⟩ := by
  have e1 : (⟨#[c1]⟩ : ByteArray) = ⟨([c1] : List UInt8).toArray⟩ := rfl
  have e2 : (⟨#[c2]⟩ : ByteArray) = ⟨([c2] : List UInt8).toArray⟩ := rfl
  rw [e1, e2]
  unfold itoaB T3
  simp only [bytes_app]
  simp
theorem itoaB_size (x : Int) : (itoaB x).size = (Lib.itoa x).length := bsz _
/-! ### fractions in lowest terms -/
def frN (n d : Int) : Int := ((n.toNat / Nat.gcd n.toNat d.toNat : Nat) : Int)
def frD (n d : Int) : Int := ((d.toNat / Nat.gcd n.toNat d.toNat : Nat) : Int)
/-- x/y is n/d, in lowest terms -/
structure IsFr (x y n d : Int) : Prop where
  cr : x * d = n * y
  x0 : 0 ≤ x
  xn : x ≤ n
  y1 : 1 ≤ y
  yd : y ≤ d
  d1 : 0 < d
  lo : Nat.gcd x.toNat y.toNat = 1
theorem fr_is {n d : Int} (hn : 0 ≤ n) (hd : 0 < d) : IsFr (frN n d) (frD n d) n d := by
  obtain ⟨m, rfl⟩ : ∃ m : Nat, n = m := ⟨n.toNat, by omega⟩
  obtain ⟨e, rfl⟩ : ∃ e : Nat, d = e := ⟨d.toNat, by omega⟩
  have he : 0 < e := by omega
  have hg : 0 < Nat.gcd m e := Nat.gcd_pos_of_pos_right m he
  have g1 := Nat.gcd_dvd_left m e
  have g2 := Nat.gcd_dvd_right m e
  have e1 := Nat.div_mul_cancel g1
  have e2 := Nat.div_mul_cancel g2
  have b1 : m / Nat.gcd m e ≤ m := Nat.div_le_self _ _
  have b2 : e / Nat.gcd m e ≤ e := Nat.div_le_self _ _
  have b3 : 0 < e / Nat.gcd m e := Nat.div_pos (Nat.le_of_dvd he g2) hg
  unfold frN frD
  simp only [Int.toNat_natCast]
  refine ⟨?_, Int.natCast_nonneg _, Int.ofNat_le.2 b1, Int.ofNat_le.2 b3, Int.ofNat_le.2 b2, by omega, ?_⟩
  · have : m / Nat.gcd m e * e = m * (e / Nat.gcd m e) := by
      generalize m / Nat.gcd m e = p at *
      generalize e / Nat.gcd m e = q at *
      rw [← e1]
      conv => lhs; rw [← e2]
      rw [Nat.mul_assoc, Nat.mul_comm (Nat.gcd m e) q]
    exact_mod_cast this
  · simp only [Int.toNat_natCast]
    exact Nat.coprime_div_gcd_div_gcd hg
theorem fr_mul {n d k : Int} (hk : 0 < k) (hn : 0 ≤ n) (hd : 0 < d) : frN (k * n) (k * d) = frN n d ∧ frD (k * n) (k * d) = frD n d := by
  obtain ⟨m, rfl⟩ : ∃ m : Nat, n = m := ⟨n.toNat, by omega⟩
  obtain ⟨e, rfl⟩ : ∃ e : Nat, d = e := ⟨d.toNat, by omega⟩
  obtain ⟨j, rfl⟩ : ∃ j : Nat, k = j := ⟨k.toNat, by omega⟩
  unfold frN frD
  have e1 : ((j : Int) * (m : Int)).toNat = j * m := by rw [← Int.natCast_mul, Int.toNat_natCast]
  have e2 : ((j : Int) * (e : Int)).toNat = j * e := by rw [← Int.natCast_mul, Int.toNat_natCast]
  rw [e1, e2, Nat.gcd_mul_left]
  simp only [Int.toNat_natCast]
  rw [Nat.mul_div_mul_left _ _ (by omega : 0 < j), Nat.mul_div_mul_left _ _ (by omega : 0 < j)]
  exact ⟨rfl, rfl⟩
theorem fr_one {n : Int} (hn : 0 ≤ n) : frN n 1 = n ∧ frD n 1 = 1 := by
  unfold frN frD
  have e : (1 : Int).toNat = 1 := rfl
  rw [e, Nat.gcd_one_right, Nat.div_one]
  exact ⟨by omega, rfl⟩
theorem fr_den1 {x y n d : Int} (h : IsFr x y n d) : y = 1 ↔ n % d = 0 := by
  have hc := h.cr
  have := h.d1
  constructor
  · rintro rfl
    rw [Int.mul_one] at hc
    rw [← hc]; exact Int.mul_emod_left _ _
  · intro hm
    obtain ⟨q, hq⟩ := Int.dvd_of_emod_eq_zero hm
    have e : x = q * y := by
      apply Int.eq_of_mul_eq_mul_right (show d ≠ 0 by omega)
      rw [hc, hq]; grind
    have hd : (y.toNat) ∣ (x.toNat) := by
      have := h.y1
      have := h.x0
      have hq0 : 0 ≤ q := by
        apply Int.not_lt.1
        intro hneg
        have := Int.mul_neg_of_neg_of_pos hneg (show 0 < y by omega)
        omega
      refine ⟨q.toNat, ?_⟩
      apply Int.ofNat.inj
      show (x.toNat : Int) = ((y.toNat * q.toNat : Nat) : Int)
      rw [Int.natCast_mul, Int.toNat_of_nonneg (by omega), Int.toNat_of_nonneg (by omega), Int.toNat_of_nonneg hq0, e, Int.mul_comm]
    have := h.lo
    rw [Nat.gcd_eq_right hd] at this
    omega
/-- bounds of products -/
theorem mul_bd {a b A B : Int} (h : 0 ≤ a ∧ a ≤ A) (h' : 0 ≤ b ∧ b ≤ B) : 0 ≤ a * b ∧ a * b ≤ A * B :=
  ⟨Int.mul_nonneg h.1 h'.1, Int.mul_le_mul h.2 h'.2 h'.1 (by omega)⟩
theorem canc {a b d : Int} (hd : 0 < d) (h : a * d = b * d) : a = b := Int.eq_of_mul_eq_mul_right (by omega) h
theorem canc_le {a b d : Int} (hd : 0 < d) (h : a * d ≤ b * d) : a ≤ b := Int.le_of_mul_le_mul_right h hd
/-! the laws of the moving stairs, in numbers -/
theorem mv_step {step part V S up down t den : Int} (h1 : IsFr step part ((S + up) * V) (2 * S + up + down)) (h2 : IsFr t den V (2 * S + up + down)) : step * den = (S + up) * t * part := by
  have := h1.d1
  have c1 := h1.cr
  have c2 := h2.cr
  apply canc h1.d1
  grind
theorem mv_two {step part back low V S up down : Int} (h1 : IsFr step part ((S + up) * V) (2 * S + up + down)) (h2 : IsFr back low ((S + down) * V) (2 * S + down + up)) : step * low + back * part = V * part * low := by
  have c1 := h1.cr
  have c2 := h2.cr
  apply canc h1.d1
  grind
theorem mv_catch {when_ low V S slow n d e f : Int} (h1 : IsFr when_ low n d) (h2 : IsFr e f V (S + slow)) (h : (S + slow) * n ≤ V * d) : (S + slow) * when_ ≤ V * low ∧ when_ * f ≤ e * low := by
  have c1 := h1.cr
  have c2 := h2.cr
  have a1 : (S + slow) * when_ ≤ V * low := by
    apply canc_le h1.d1
    have e1 : (S + slow) * when_ * d = (S + slow) * n * low := by grind
    have e2 : V * low * d = V * d * low := by grind
    rw [e1, e2]
    exact Int.mul_le_mul_of_nonneg_right h (by have := h1.y1; omega)
  refine ⟨a1, ?_⟩
  apply canc_le h2.d1
  have e1 : when_ * f * (S + slow) = (S + slow) * when_ * f := by grind
  have e2 : e * low * (S + slow) = V * low * f := by grind
  rw [e1, e2]
  exact Int.mul_le_mul_of_nonneg_right a1 (by have := h2.y1; omega)
theorem mv_catch0 {when_ low V S slow n d : Int} (h1 : IsFr when_ low n d) (h : (S + slow) * n ≤ V * d) : (S + slow) * when_ ≤ V * low := by
  have c1 := h1.cr
  apply canc_le h1.d1
  have e1 : (S + slow) * when_ * d = (S + slow) * n * low := by grind
  have e2 : V * low * d = V * d * low := by grind
  rw [e1, e2]
  exact Int.mul_le_mul_of_nonneg_right h (by have := h1.y1; omega)
theorem mv_rail {lead b t f V S p r : Int} (h1 : IsFr lead b ((r - S - p) * V) (S + p)) (h2 : IsFr t f V (S + p)) : lead * f = (r - S - p) * t * b := by
  have c1 := h1.cr
  have c2 := h2.cr
  apply canc h1.d1
  grind
theorem mv_taken {x y t den V S p : Int} (h1 : IsFr x y (p * V) (S + p)) (h2 : IsFr t den V (S + p)) : x * den = p * t * y := by
  have c1 := h1.cr
  have c2 := h2.cr
  apply canc h1.d1
  grind
theorem mv_round {x y t den V d : Int} (h1 : IsFr x y (2 * V) d) (h2 : IsFr t den V d) : x * den = 2 * t * y := by
  have c1 := h1.cr
  have c2 := h2.cr
  apply canc h1.d1
  grind
theorem mv_pace {x V S p a b : Int} (h1 : IsFr x 1 (p * V) (S + p)) (h2 : IsFr a b (x * S) (V - x)) : a = p * b := by
  have c1 := h1.cr
  have c2 := h2.cr
  apply canc h2.d1
  grind
theorem mv_last {t den V d : Int} (h : IsFr t den V d) : V ≤ d * ((t + den - 1) / den) := by
  have c := h.cr
  have y1 := h.y1
  have e := Int.emod_add_mul_ediv (t + den - 1) den
  have m := Int.emod_lt_of_pos (t + den - 1) (show 0 < den by omega)
  generalize (t + den - 1) / den = q at *
  have hq : t ≤ den * q := by omega
  apply canc_le (show 0 < den by omega)
  rw [← c]
  have e2 : d * q * den = den * q * d := by grind
  rw [e2]
  exact Int.mul_le_mul_of_nonneg_right hq (by have := h.d1; omega)
theorem mv_against {x y back low V S p : Int} (h1 : IsFr x y (p * V) (p - S)) (h2 : IsFr back low V (p - S)) : x * low = p * back * y := by
  have c1 := h1.cr
  have c2 := h2.cr
  apply canc h1.d1
  grind
theorem mv_slower {back low t den V S p : Int} (h1 : IsFr back low V (p - S)) (h2 : IsFr t den V (S + p)) (hS : 0 ≤ S) : t * low ≤ back * den := by
  have c1 := h1.cr
  have c2 := h2.cr
  apply canc_le h2.d1
  have e1 : t * low * (S + p) = V * den * low := by grind
  rw [e1]
  have e2 : V * den * low = back * den * (p - S) := by grind
  rw [e2]
  exact Int.mul_le_mul_of_nonneg_left (by omega) (Int.mul_nonneg h1.x0 (by have := h2.y1; omega))
theorem mv_both {x st n k V S p : Int} (h1 : IsFr x 1 (p * V) (S + p)) (h2 : IsFr st 1 (p * V) (p - S)) (h3 : IsFr n k (2 * x * st) (x + st)) (hp : 0 < p) : n = V * k := by
  have c1 := h1.cr
  have c2 := h2.cr
  have c3 := h3.cr
  apply canc h3.d1
  apply canc hp
  grind
theorem mv_visible {n k fast f x y p q : Int} (h1 : IsFr n k (x * y * (q - p)) (x * q - y * p)) (h2 : IsFr fast f ((y - x) * p * q) (x * q - y * p)) : n * p * f = x * (p * f + fast) * k ∧ n * q * f = y * (q * f + fast) * k := by
  have c1 := h1.cr
  have c2 := h2.cr
  constructor
  · apply canc h1.d1
    grind
  · apply canc h1.d1
    grind
theorem mv_mean {b h w a : Int} (h1 : IsFr b h (2 * w * a) (w + a)) (hw : 0 ≤ w) (ha : w ≤ a) : w * h ≤ b ∧ b ≤ a * h := by
  have c := h1.cr
  have y1 := h1.y1
  constructor
  · apply canc_le h1.d1
    have e : b * (w + a) = w * h * (2 * a) := by grind
    rw [e]
    exact Int.mul_le_mul_of_nonneg_left (by omega) (Int.mul_nonneg hw (by omega))
  · apply canc_le h1.d1
    have e : b * (w + a) = a * h * (2 * w) := by grind
    rw [e]
    exact Int.mul_le_mul_of_nonneg_left (by omega) (Int.mul_nonneg (by omega) (by omega))
theorem mv_walk {w j V S n : Int} (h : IsFr w j (n * S) (V - n)) : w * V = n * (S * j + w) := by
  have c := h.cr
  grind
/-! ### fractions, as they are told -/
theorem low_loop (n d : Int) (hn : 0 ≤ n) (hn' : n ≤ 4000000000000000000) (hd : 0 ≤ d) (hd' : d ≤ 4000000000000000000) : ∀ (b a : Nat), 0 < Nat.gcd a b → Nat.gcd a b ≤ 4000000000000000000 → s_moLow_L1 n d (a : Int) (b : Int) = some (n / ((Nat.gcd a b : Nat) : Int), d / ((Nat.gcd a b : Nat) : Int)) := by
  intro b
  induction b using Nat.strongRecOn with
  | ind b ih =>
    intro a hg hg'
    rw [s_moLow_u1, s_moLow_t1]
    by_cases hb : b = 0
    · subst hb
      rw [Nat.gcd_zero_right] at hg hg' ⊢
      have h0 : ((a : Int) == 0) = false := by rw [beq_eq_false_iff_ne]; omega
      have e1 : n / (a : Int) ≤ n := Int.ediv_le_self _ hn
      have e2 : d / (a : Int) ≤ d := Int.ediv_le_self _ hd
      have e3 : 0 ≤ n / (a : Int) := Int.ediv_nonneg hn (by omega)
      have e4 : 0 ≤ d / (a : Int) := Int.ediv_nonneg hd (by omega)
      rw [decide_eq_false (by omega), h0, Int.tdiv_eq_ediv_of_nonneg hn, Int.tdiv_eq_ediv_of_nonneg hd, wrapI (by omega) (by omega), wrapI (by omega) (by omega)]
      rfl
    · have h0 : ((b : Int) == 0) = false := by rw [beq_eq_false_iff_ne]; omega
      have h2 : Int.tmod (a : Int) (b : Int) = ((a % b : Nat) : Int) := by
        rw [Int.tmod_eq_emod_of_nonneg (by omega)]; rfl
      have e : Nat.gcd a b = Nat.gcd b (a % b) := by rw [Nat.gcd_comm b, ← Nat.gcd_rec, Nat.gcd_comm]
      rw [decide_eq_true (by omega), h0, h2, cond_true, cond_false, e]
      exact ih (a % b) (Nat.mod_lt a (by omega)) b (by rw [← e]; exact hg) (by rw [← e]; exact hg')
theorem moLow_fr {n d : Int} (hn : 0 ≤ n) (hn' : n ≤ 4000000000000000000) (hd : 0 < d) (hd' : d ≤ 4000000000000000000) : s_moLow n d = some (frN n d, frD n d) := by
  obtain ⟨n, rfl⟩ := Int.eq_ofNat_of_zero_le hn
  obtain ⟨d, rfl⟩ := Int.eq_ofNat_of_zero_le (Int.le_of_lt hd)
  have hg : 0 < Nat.gcd n d := Nat.gcd_pos_of_pos_right n (by omega)
  have hg' : Nat.gcd n d ≤ d := Nat.gcd_le_right _ (by omega)
  unfold s_moLow s_moLow_t0 frN frD
  exact low_loop n d (by omega) (by omega) (by omega) (by omega) d n hg (by omega)
theorem part_fr {n d : Int} (hn : 0 ≤ n) (hn' : n ≤ 4000000000000000000) (hd : 0 < d) (hd' : d ≤ 4000000000000000000) : i_part n d = some (frN n d, frD n d, true) := by
  obtain ⟨n, rfl⟩ := Int.eq_ofNat_of_zero_le hn
  obtain ⟨d, rfl⟩ := Int.eq_ofNat_of_zero_le (Int.le_of_lt hd)
  rw [part_eq n d (by omega) (by omega) (by omega)]
  rfl
theorem part_no {n d : Int} (hd : d ≤ 0) : i_part n d = some (0, 0, false) := by
  unfold i_part
  rw [decide_eq_true hd]; rfl
theorem lLow_loop : ∀ (b a : Nat), w_lLow_L1 (a : Int) (b : Int) = some ((((Nat.gcd a b : Nat) : Int)) == 1) := by
  intro b
  induction b using Nat.strongRecOn with
  | ind b ih =>
    intro a
    rw [w_lLow_u1, w_lLow_t1]
    by_cases hb : b = 0
    · subst hb
      rw [decide_eq_false (by omega), Nat.gcd_zero_right]; rfl
    · have h0 : ((b : Int) == 0) = false := by rw [beq_eq_false_iff_ne]; omega
      have h2 : Int.tmod (a : Int) (b : Int) = ((a % b : Nat) : Int) := by
        rw [Int.tmod_eq_emod_of_nonneg (by omega)]; rfl
      have e : Nat.gcd a b = Nat.gcd b (a % b) := by rw [Nat.gcd_comm b, ← Nat.gcd_rec, Nat.gcd_comm]
      rw [decide_eq_true (by omega), h0, h2, cond_true, cond_false, e]
      exact ih (a % b) (Nat.mod_lt a (by omega)) b
theorem lLow_ok {x y n d : Int} (h : IsFr x y n d) : w_lLow x y = some true := by
  obtain ⟨m, rfl⟩ := Int.eq_ofNat_of_zero_le h.x0
  obtain ⟨k, rfl⟩ := Int.eq_ofNat_of_zero_le (Int.le_trans (by decide) h.y1)
  have hy := h.y1
  have hl := h.lo
  simp only [Int.toNat_natCast] at hl
  unfold w_lLow w_lLow_t0
  rw [decide_eq_false (show ¬ (m : Int) < 0 by omega), decide_eq_false (show ¬ (k : Int) < 1 by omega), lLow_loop, hl]; rfl
theorem lIs_ok {x y n d a b : Int} (h : IsFr x y n d) (e : x * b = a * y) : w_lIs x y a b = some true := by
  unfold w_lIs
  rw [lLow_ok h, e]
  simp
/-! ### numbers of which something holds -/
def numF (f : Nat → Bool) (n d : Nat) : List Int := ((List.range' n d).filter f).map (fun k : Nat => (k : Int))
theorem numF_zero (f : Nat → Bool) (n : Nat) : numF f n 0 = [] := rfl
theorem numF_succ (f : Nat → Bool) (n d : Nat) : numF f n (d + 1) = (bif f n then [(n : Int)] else []) ++ numF f (n + 1) d := by
  unfold numF
  rw [List.range'_succ, List.filter_cons]
  cases h : f n
  · simp
  · simp
theorem numF_mem {f : Nat → Bool} {n d : Nat} {x : Int} : x ∈ numF f n d ↔ ∃ k : Nat, (n ≤ k ∧ k < n + d) ∧ f k = true ∧ x = k := by
  unfold numF
  rw [List.mem_map]
  constructor
  · rintro ⟨k, hk, rfl⟩
    obtain ⟨h1, h2⟩ := List.mem_filter.1 hk
    exact ⟨k, List.mem_range'_1.1 h1, h2, rfl⟩
  · rintro ⟨k, h1, h2, rfl⟩
    exact ⟨k, List.mem_filter.2 ⟨List.mem_range'_1.2 h1, h2⟩, rfl⟩
theorem numF_nat {f : Nat → Bool} {n d k : Nat} : (k : Int) ∈ numF f n d ↔ (n ≤ k ∧ k < n + d) ∧ f k = true := by
  rw [numF_mem]
  constructor
  · rintro ⟨j, h1, h2, h3⟩
    rw [show k = j from by omega]; exact ⟨h1, h2⟩
  · rintro ⟨h1, h2⟩
    exact ⟨k, h1, h2, rfl⟩
theorem numF_len (f : Nat → Bool) (n d : Nat) : (numF f n d).length ≤ d := by
  unfold numF
  rw [List.length_map]
  refine Nat.le_trans (List.length_filter_le _ _) ?_
  rw [List.length_range']; exact Nat.le_refl _
theorem numF_pw (f : Nat → Bool) (n d : Nat) : (numF f n d).Pairwise (· < ·) := by
  unfold numF
  rw [List.pairwise_map]
  exact (List.Pairwise.filter _ List.pairwise_lt_range').imp fun {a b} h => by omega
theorem numF_congr {f g : Nat → Bool} {n d : Nat} (h : ∀ k, n ≤ k → k < n + d → f k = g k) : numF f n d = numF g n d := by
  unfold numF
  congr 1
  exact List.filter_congr fun k hk => by have := List.mem_range'_1.1 hk; exact h k this.1 this.2
/-- two lists that rise and have the same members are the same -/
theorem pw_ext : ∀ {l m : List Int}, l.Pairwise (· < ·) → m.Pairwise (· < ·) → (∀ x, x ∈ l ↔ x ∈ m) → l = m
  | [], [], _, _, _ => rfl
  | [], y :: m, _, _, h => absurd ((h y).2 (by simp)) (by simp)
  | x :: l, [], _, _, h => absurd ((h x).1 (by simp)) (by simp)
  | x :: l, y :: m, hl, hm, h => by
    obtain ⟨l1, l2⟩ := List.pairwise_cons.1 hl
    obtain ⟨m1, m2⟩ := List.pairwise_cons.1 hm
    have e : x = y := by
      have a := (h x).1 (by simp)
      have b := (h y).2 (by simp)
      rcases List.mem_cons.1 a with a | a
      · exact a
      · rcases List.mem_cons.1 b with b | b
        · exact b.symm
        · have := m1 x a; have := l1 y b; omega
    subst e
    rw [pw_ext l2 m2 (fun z => ?_)]
    constructor
    · intro hz
      rcases List.mem_cons.1 ((h z).1 (List.mem_cons_of_mem _ hz)) with e | e
      · have := l1 z hz; omega
      · exact e
    · intro hz
      rcases List.mem_cons.1 ((h z).2 (List.mem_cons_of_mem _ hz)) with e | e
      · have := m1 z hz; omega
      · exact e
/-- a row that goes up changes no more often than it rises -/
theorem joins_cnt (g : Nat → Int) : ∀ d : Nat, (∀ i, i < d → g i ≤ g (i + 1)) → (((List.range' 1 d).filter (fun i => !(g i == g (i - 1)))).length : Int) ≤ g d - g 0
  | 0, _ => by simp
  | d + 1, h => by
    have ih := joins_cnt g d (fun i hi => h i (by omega))
    have hd := h d (by omega)
    rw [List.range'_1_concat, List.filter_append, List.length_append]
    rw [show 1 + d = d + 1 from by omega]
    by_cases c : g (d + 1) = g d
    · have : [d + 1].filter (fun i => !(g i == g (i - 1))) = [] := by simp [c]
      rw [this, List.length_nil]; omega
    · have : ([d + 1].filter (fun i => !(g i == g (i - 1)))).length ≤ 1 := List.length_filter_le _ _
      omega
/-! ### whole lines and even risers, in numbers -/
/-- the least whose square is enough -/
structure Sq1 (n l : Int) : Prop where
  l0 : 0 ≤ l
  below : ∀ m : Int, 0 ≤ m → m < l → m * m < n
  up : n ≤ l * l
/-- the greatest whose square is not too much -/
structure Sq2 (n l : Int) : Prop where
  l0 : 0 ≤ l
  low : l * l ≤ n
  above : n < (l + 1) * (l + 1)
theorem sq_mono {a b : Int} (ha : 0 ≤ a) (h : a ≤ b) : a * a ≤ b * b := Int.mul_le_mul h h ha (by omega)
theorem sq_two {n l k : Int} (h1 : Sq1 n l) (h2 : Sq2 n k) : (l * l = n ↔ k * k = n) ∧ (l * l = n → l = k) := by
  have a1 := h1.l0
  have a2 := h2.l0
  have key : l * l = n → l = k := fun e => by
    have b1 : k ≤ l := by
      apply Int.not_lt.1
      intro hn
      have : (l + 1) * (l + 1) ≤ k * k := sq_mono (by omega) (by omega)
      have := h2.low
      have e2 : (l + 1) * (l + 1) = l * l + 2 * l + 1 := by grind
      omega
    have b2 : l < k + 1 := by
      apply Int.not_le.1
      intro hn
      have : (k + 1) * (k + 1) ≤ l * l := sq_mono (by omega) hn
      have := h2.above
      omega
    omega
  refine ⟨⟨fun e => by rw [← key e]; exact e, fun e => ?_⟩, key⟩
  have b1 : l ≤ k := by
    apply Int.not_lt.1
    intro hn
    have := h1.below k a2 hn
    omega
  have := sq_mono a1 b1
  have := h1.up
  omega
open Classical in
noncomputable def lnN (n : Int) : Int × Bool := if h : ∃ l : Int, 0 ≤ l ∧ l * l = n then (h.choose, true) else (0, false)
theorem sq_uniq {a b : Int} (ha : 0 ≤ a) (hb : 0 ≤ b) (h : a * a = b * b) : a = b := by
  rcases Int.lt_trichotomy a b with c | c | c
  · have : (a + 1) * (a + 1) ≤ b * b := sq_mono (by omega) (by omega)
    have e2 : (a + 1) * (a + 1) = a * a + 2 * a + 1 := by grind
    omega
  · exact c
  · have : (b + 1) * (b + 1) ≤ a * a := sq_mono (by omega) (by omega)
    have e2 : (b + 1) * (b + 1) = b * b + 2 * b + 1 := by grind
    omega
theorem lnN_of {n l : Int} (h0 : 0 ≤ l) (h : l * l = n) : lnN n = (l, true) := by
  have hx : ∃ l : Int, 0 ≤ l ∧ l * l = n := ⟨l, h0, h⟩
  unfold lnN
  rw [dif_pos hx]
  have := hx.choose_spec
  rw [sq_uniq this.1 h0 (this.2.trans h.symm)]
theorem lnN_1 {n l : Int} (h : Sq1 n l) (hne : l * l ≠ n) : lnN n = (0, false) := by
  unfold lnN
  rw [dif_neg]
  rintro ⟨m, m0, hm⟩
  have h1 := h.l0
  rcases Int.lt_trichotomy m l with c | c | c
  · have := h.below m m0 c; omega
  · subst c; exact hne hm
  · have : (l + 1) * (l + 1) ≤ m * m := sq_mono (by omega) (by omega)
    have e2 : (l + 1) * (l + 1) = l * l + 2 * l + 1 := by grind
    have := h.up
    omega
theorem lnN_2 {n k : Int} (h : Sq2 n k) (hne : k * k ≠ n) : lnN n = (0, false) := by
  unfold lnN
  rw [dif_neg]
  rintro ⟨m, m0, hm⟩
  have h1 := h.l0
  have h2 := h.low
  have h3 := h.above
  have b1 : k ≤ m := by
    apply Int.not_lt.1
    intro hn
    have : m * m ≤ k * k := sq_mono m0 (by omega)
    omega
  have b2 : m < k + 1 := by
    apply Int.not_le.1
    intro hn
    have : (k + 1) * (k + 1) ≤ m * m := sq_mono (by omega) hn
    omega
  have : m = k := by omega
  subst this; exact hne hm
theorem lnN_sq {n : Int} (h : (lnN n).2 = true) : (lnN n).1 * (lnN n).1 = n := by
  unfold lnN at h ⊢
  split at h
  · rename_i hx
    rw [dif_pos hx]
    exact hx.choose_spec.2
  · cases h
/-- even risers: the rises up to one -/
noncomputable def evL (h r : Int) (k : Nat) : Nat → List Int
  | 0 => []
  | d + 1 => (((k : Int) + 1) * h / r - (k : Int) * h / r) :: evL h r (k + 1) d
theorem evL_len {h r : Int} : ∀ {d k : Nat}, (evL h r k d).length = d
  | 0, _ => rfl
  | d + 1, k => by unfold evL; rw [List.length_cons, evL_len]
theorem evL_get {h r : Int} : ∀ {d k i : Nat} (hi : i < (evL h r k d).length), (evL h r k d)[i] = (((k + i : Nat) : Int) + 1) * h / r - ((k + i : Nat) : Int) * h / r
  | 0, k, i, hi => by simp [evL] at hi
  | d + 1, k, i, hi => by
    cases i with
    | zero => rfl
    | succ i =>
      have := evL_get (d := d) (k := k + 1) (i := i) (by unfold evL at hi; simp at hi; exact hi)
      unfold evL
      rw [List.getElem_cons_succ, this, show k + 1 + i = k + (i + 1) by omega]
theorem evL_snoc {h r : Int} : ∀ {d k : Nat}, evL h r k (d + 1) = evL h r k d ++ [(((k + d : Nat) : Int) + 1) * h / r - ((k + d : Nat) : Int) * h / r]
  | 0, k => rfl
  | d + 1, k => by
    have ih := evL_snoc (h := h) (r := r) (d := d) (k := k + 1)
    rw [show k + 1 + d = k + (d + 1) by omega] at ih
    conv => lhs; unfold evL
    rw [ih]
    conv => rhs; unfold evL
    rfl
theorem evL_take {h r : Int} : ∀ {d k i : Nat}, i ≤ d → (evL h r k d).take i = evL h r k i
  | d, k, 0, _ => by simp [evL]
  | d + 1, k, i + 1, hi => by
    unfold evL
    rw [List.take_succ_cons, evL_take (by omega)]
def sumI : List Int → Int
  | [] => 0
  | x :: l => x + sumI l
theorem evL_sum {h r : Int} : ∀ {d k : Nat}, sumI (evL h r k d) = ((k + d : Nat) : Int) * h / r - (k : Int) * h / r
  | 0, k => by simp [evL, sumI]
  | d + 1, k => by
    have ih := evL_sum (h := h) (r := r) (d := d) (k := k + 1)
    unfold evL sumI
    rw [ih, show k + 1 + d = k + (d + 1) by omega, show ((k + 1 : Nat) : Int) = (k : Int) + 1 by omega]
    omega
/-- one even rise is whole or one more -/
theorem ev_bd {h r k : Int} (hr : 1 ≤ r) (hh : r ≤ h) (hk : 0 ≤ k) : (k + 1) * h / r - k * h / r = h / r ∨ (k + 1) * h / r - k * h / r = h / r + 1 := by
  have e1 := Int.emod_add_mul_ediv ((k + 1) * h) r
  have e2 := Int.emod_add_mul_ediv (k * h) r
  have e3 := Int.emod_add_mul_ediv h r
  have a0 := Int.emod_nonneg ((k + 1) * h) (show r ≠ 0 by omega)
  have a1 := Int.emod_lt_of_pos ((k + 1) * h) (show 0 < r by omega)
  have b0 := Int.emod_nonneg (k * h) (show r ≠ 0 by omega)
  have b1 := Int.emod_lt_of_pos (k * h) (show 0 < r by omega)
  have c0 := Int.emod_nonneg h (show r ≠ 0 by omega)
  have c1 := Int.emod_lt_of_pos h (show 0 < r by omega)
  have e4 : (k + 1) * h = k * h + h := by grind
  generalize (k + 1) * h / r = A at *
  generalize k * h / r = B at *
  generalize h / r = C at *
  have e5 : r * A - r * B - r * C = r * (A - B - C) := by grind
  have lt1 : r * (A - B - C) < r * 2 := by omega
  have gt1 : r * (-1) < r * (A - B - C) := by omega
  have h1 : A - B - C < 2 := Int.lt_of_mul_lt_mul_left lt1 (by omega)
  have h2 : -1 < A - B - C := Int.lt_of_mul_lt_mul_left gt1 (by omega)
  omega
/-! ### texts of flights -/
theorem flight_eq (a b c : Int) : i_IsFlight a b c = s_riGood a b c := by unfold i_IsFlight s_riGood; simp only [within_eq]
structure GoodF (S R r : Int) : Prop where
  s1 : 1 ≤ S
  s2 : S ≤ 100
  r1 : 1 ≤ R
  r2 : R ≤ 250
  h1 : 1 ≤ r
  h2 : r ≤ 500
theorem goodF_iff {S R r : Int} : s_riGood S R r = true ↔ GoodF S R r := by
  unfold s_riGood
  constructor
  · intro h
    cases h1 : s_l1In S 1 100
    · rw [h1] at h; cases h
    · cases h2 : s_l1In R 1 250
      · rw [h1, h2] at h; cases h
      · cases h3 : s_l1In r 1 500
        · rw [h1, h2, h3] at h; cases h
        · have g1 := l1In_iff.1 h1
          have g2 := l1In_iff.1 h2
          have g3 := l1In_iff.1 h3
          exact ⟨g1.1, g1.2, g2.1, g2.2, g3.1, g3.2⟩
  · intro g
    rw [l1In_iff.2 ⟨g.s1, g.s2⟩, l1In_iff.2 ⟨g.r1, g.r2⟩, l1In_iff.2 ⟨g.h1, g.h2⟩]; rfl
theorem riG (S R r : Int) (h : s_riGood S R r = true) : (0 ≤ S ∧ S ≤ 999999) ∧ (0 ≤ R ∧ R ≤ 999999) ∧ (0 ≤ r ∧ r ≤ 999999) := by
  have g := goodF_iff.1 h
  have := g.s1; have := g.s2; have := g.r1; have := g.r2; have := g.h1; have := g.h2
  exact ⟨⟨by omega, by omega⟩, ⟨by omega, by omega⟩, by omega, by omega⟩
theorem n114 : NoDig 114 := by unfold NoDig; decide
theorem n116 : NoDig 116 := by unfold NoDig; decide
theorem riT_len {S R r : Int} (g : GoodF S R r) : (Lib.itoa S).length ≤ 3 ∧ (Lib.itoa R).length ≤ 3 ∧ (Lib.itoa r).length ≤ 3 ∧ (T3 114 116 S R r).length ≤ 11 := by
  have := g.s1; have := g.s2; have := g.r1; have := g.r2; have := g.h1; have := g.h2
  have a := itoa1 (n := S) 2 (by omega) (by omega)
  have b := itoa1 (n := R) 2 (by omega) (by omega)
  have c := itoa1 (n := r) 2 (by omega) (by omega)
  refine ⟨a, b, c, ?_⟩
  unfold T3
  simp only [List.length_append, List.length_cons]; omega
theorem riText_ok {S R r : Int} (g : GoodF S R r) : s_riText S R r = some ⟨(T3 114 116 S R r).toArray⟩ := by
  obtain ⟨l1, l2, l3, -⟩ := riT_len g
  have := g.s1; have := g.s2; have := g.r1; have := g.r2; have := g.h1; have := g.h2
  have z1 : ByteArray.size { data := #[114] } = 1 := rfl
  have z2 : ByteArray.size { data := #[116] } = 1 := rfl
  unfold s_riText
  rw [num_ok (by omega) (by omega), num_ok (by omega) (by omega), num_ok (by omega) (by omega)]
  simp only [Option.bind_some, ByteArray.size_append, itoaB_size, z1, z2]
  rw [ble_b (show (Lib.itoa S).length + 1 ≤ 1000000 by omega), ble_b (show (Lib.itoa S).length + 1 + (Lib.itoa R).length ≤ 1000000 by omega), ble_b (show (Lib.itoa S).length + 1 + (Lib.itoa R).length + 1 ≤ 1000000 by omega), ble_b (show (Lib.itoa S).length + 1 + (Lib.itoa R).length + 1 + (Lib.itoa r).length ≤ 1000000 by omega)]
  simp only [cond_true]
  rw [T3_bytes]
noncomputable def riN (S R r : Int) : ByteArray × Bool := bif s_riGood S R r then (⟨(T3 114 116 S R r).toArray⟩, true) else (⟨#[]⟩, false)
theorem FlightText_two (S R r : Int) : i_FlightText S R r = some (riN S R r) ∧ s_FlightText S R r = some (riN S R r) := by
  unfold i_FlightText s_FlightText riN
  rw [flight_eq]
  cases h : s_riGood S R r
  · exact ⟨rfl, rfl⟩
  · have g := goodF_iff.1 h
    obtain ⟨l1, l2, l3, -⟩ := riT_len g
    have := g.s1; have := g.s2; have := g.r1; have := g.r2; have := g.h1; have := g.h2
    have z1 : ByteArray.size { data := #[114] } = 1 := rfl
    have z2 : ByteArray.size { data := #[116] } = 1 := rfl
    rw [riText_ok g, itoa_ok (by omega) (by omega), itoa_ok (by omega) (by omega), itoa_ok (by omega) (by omega)]
    refine ⟨?_, rfl⟩
    simp only [Option.bind_some, ByteArray.size_append, itoaB_size, z1, z2, Bool.not_true, cond_false]
    rw [ble_b (show (Lib.itoa S).length + 1 ≤ 1000000 by omega), ble_b (show (Lib.itoa S).length + 1 + (Lib.itoa R).length ≤ 1000000 by omega), ble_b (show (Lib.itoa S).length + 1 + (Lib.itoa R).length + 1 ≤ 1000000 by omega), ble_b (show (Lib.itoa S).length + 1 + (Lib.itoa R).length + 1 + (Lib.itoa r).length ≤ 1000000 by omega)]
    simp only [cond_true]
    rw [T3_bytes]
theorem riparse_i {t : ByteArray} (ht : t.size ≤ 2000000) {a r b c : List UInt8} {ok has : Bool} (P : Tri 114 116 (bL t) a r b c ok has) : i_ParseFlight t = some (par3 s_riGood a b c) := by
  have hl := bL_len t
  obtain ⟨l1, l2⟩ := cut_lens P.h1
  obtain ⟨l3, l4⟩ := cut_lens P.h2
  unfold i_ParseFlight
  rw [cut_ok (by omega), P.h1]
  simp only [Option.bind_some]
  rw [cut_ok (by rw [bsz]; omega), bL_mk, P.h2]
  simp only [Option.bind_some]
  rw [num_eq (by rw [bsz]; omega), bL_mk, numL_eq, num_eq (by rw [bsz]; omega), bL_mk, numL_eq, num_eq (by rw [bsz]; omega), bL_mk, numL_eq]
  simp only [Option.bind_some]
  unfold par3
  rw [flight_eq]
  cases s_riGood (rdL a) (rdL b) (rdL c) <;> rfl
theorem riparse_s {t : ByteArray} (ht : t.size ≤ 2000000) {a r b c : List UInt8} {ok has : Bool} (P : Tri 114 116 (bL t) a r b c ok has) : s_ParseFlight t = some (par3 s_riGood a b c) := by
  have hl := bL_len t
  obtain ⟨ps, p1, p2⟩ := split_three riG n114 n116 (by decide) ht P
  have e1 : s_l1Split t 114 = some ps := p1
  unfold s_ParseFlight s_riParse
  rw [e1, Option.bind_some]
  by_cases hz : (t.size : Int) > 12
  · rw [decide_eq_true hz, par3_not (fun hg => by
      have g := goodF_iff.1 hg
      have h1 := (riT_len g).2.2.2
      obtain ⟨g1, g2, g3⟩ := riG _ _ _ hg
      rw [(P.good n114 n116 (by decide) ⟨g1.1, g2.1, g3.1⟩).1] at h1
      omega)]
    rfl
  · rw [decide_eq_false hz, cond_false]
    rcases p2 with ⟨h1, h2⟩ | ⟨x, y, rfl, hx, qs, q1, q2⟩
    · rw [show ((ps.length : Int) != 2) = true from bne_iff_ne.2 h1, par3_not h2]; rfl
    · have e2 : s_l1Split y 116 = some qs := q1
      have c2 : ((([x, y] : List ByteArray).length : Int) != 2) = false := rfl
      have c3 : decide ((1 : Int) < (([x, y] : List ByteArray).length : Int)) = true := rfl
      have c4 : decide ((0 : Int) < (([x, y] : List ByteArray).length : Int)) = true := rfl
      have r1 : rdk kstring [x, y] 1 = y := rfl
      have r0 : rdk kstring [x, y] 0 = x := rfl
      simp only [c2, c3, c4, r1, r0, e2, cond_false, cond_true, Option.bind_some]
      rcases q2 with ⟨h1, h2⟩ | ⟨u, v, rfl, hu, hv⟩
      · rw [show ((qs.length : Int) != 2) = true from bne_iff_ne.2 h1, par3_not h2]; rfl
      · have d2 : ((([u, v] : List ByteArray).length : Int) != 2) = false := rfl
        have d3 : decide ((1 : Int) < (([u, v] : List ByteArray).length : Int)) = true := rfl
        have d4 : decide ((0 : Int) < (([u, v] : List ByteArray).length : Int)) = true := rfl
        have s1 : rdk kstring [u, v] 1 = v := rfl
        have s0 : rdk kstring [u, v] 0 = u := rfl
        simp only [d2, d3, d4, s1, s0, read_ok, hx, hu, hv, cond_false, cond_true, Option.bind_some]
        unfold par3
        cases s_riGood (rdL a) (rdL b) (rdL c) <;> rfl
theorem ParseFlight_full {t : ByteArray} (ht : t.size ≤ 2000000) : ∃ r f, i_ParseFlight t = some (r, f) ∧ s_ParseFlight t = some (r, f) ∧
    (f = true → s_riGood r.1 r.2.1 r.2.2 = true ∧ T3 114 116 r.1 r.2.1 r.2.2 = bL t) ∧ (∀ S R h, s_riGood S R h = true → T3 114 116 S R h = bL t → r = (S, R, h) ∧ f = true) := by
  obtain ⟨a, r, b, c, ok, has, P⟩ := Tri.of 114 116 (bL t)
  obtain ⟨h1, h2⟩ := par3_back riG n114 n116 (by decide) P
  exact ⟨(par3 s_riGood a b c).1, (par3 s_riGood a b c).2, riparse_i ht P, riparse_s ht P, h1, h2⟩
/-! ### what the flights' functions come to -/
theorem mul2 {x y m k : Int} (h0 : 0 ≤ x ∧ x ≤ m) (g0 : 0 ≤ y ∧ y ≤ k) : 0 ≤ x * y ∧ x * y ≤ m * k := ⟨Int.mul_nonneg h0.1 g0.1, Int.mul_le_mul h0.2 g0.2 g0.1 (by omega)⟩
theorem wl_i {n : Int} (n0 : 0 ≤ n) : ∀ (d : Nat) (low top : Int), top - low ≤ d → 0 ≤ low → low ≤ top → top ≤ 100000 → (∀ m : Int, 0 ≤ m → m < low → m * m < n) → n ≤ top * top → i_WholeLine_L1 n low top = some (lnN n)
  | d, low, top, h, h0, h1, h2, b1, b2 => by
    have hm1 : 0 ≤ (low + top) / 2 := by omega
    have hm2 : (low + top) / 2 ≤ 100000 := by omega
    have B := mul2 ⟨hm1, hm2⟩ ⟨hm1, hm2⟩
    have B2 := mul2 (x := low) (y := low) (m := 100000) (k := 100000) ⟨h0, by omega⟩ ⟨h0, by omega⟩
    rw [i_WholeLine_u1, i_WholeLine_t1]
    by_cases c : low < top
    · obtain ⟨d, rfl⟩ : ∃ e, d = e + 1 := ⟨d - 1, by omega⟩
      rw [decide_eq_true c, wrapI (n := low + top) (by omega) (by omega), Int.tdiv_eq_ediv_of_nonneg (by omega), wrapI (n := (low + top) / 2) (by omega) (by omega), wrapI (n := (low + top) / 2 * ((low + top) / 2)) (by omega) (by omega)]
      simp only [cond_true]
      by_cases e : (low + top) / 2 * ((low + top) / 2) < n
      · rw [decide_eq_true e, cond_true, wrapI (n := (low + top) / 2 + 1) (by omega) (by omega)]
        exact wl_i n0 d _ _ (by omega) (by omega) (by omega) h2 (fun m m0 m1 => by
          have := sq_mono m0 (show m ≤ (low + top) / 2 by omega)
          omega) b2
      · rw [decide_eq_false e, cond_false]
        exact wl_i n0 d _ _ (by omega) h0 (by omega) (by omega) b1 (by omega)
    · have : top = low := by omega
      subst this
      rw [decide_eq_false c, wrapI (n := top * top) (by omega) (by omega)]
      simp only [cond_false]
      by_cases e : top * top = n
      · rw [lnN_of h0 e, e, bne_self_eq_false]; rfl
      · rw [lnN_1 ⟨h0, b1, b2⟩ e, show (top * top != n) = true from bne_iff_ne.2 e]; rfl
theorem wl_s {n : Int} (n0 : 0 ≤ n) : ∀ (d : Nat) (low top : Int), top - low ≤ d → 0 ≤ low → low ≤ top → top ≤ 100000 → low * low ≤ n → n < (top + 1) * (top + 1) → s_WholeLine_L1 n low top = some (lnN n)
  | d, low, top, h, h0, h1, h2, b1, b2 => by
    have hm1 : 0 ≤ (low + top + 1) / 2 := by omega
    have hm2 : (low + top + 1) / 2 ≤ 100000 := by omega
    have B := mul2 ⟨hm1, hm2⟩ ⟨hm1, hm2⟩
    have B2 := mul2 (x := low) (y := low) (m := 100000) (k := 100000) ⟨h0, by omega⟩ ⟨h0, by omega⟩
    rw [s_WholeLine_u1, s_WholeLine_t1]
    by_cases c : low < top
    · obtain ⟨d, rfl⟩ : ∃ e, d = e + 1 := ⟨d - 1, by omega⟩
      rw [decide_eq_true c, wrapI (n := low + top) (by omega) (by omega), wrapI (n := low + top + 1) (by omega) (by omega), Int.tdiv_eq_ediv_of_nonneg (by omega), wrapI (n := (low + top + 1) / 2) (by omega) (by omega), wrapI (n := (low + top + 1) / 2 * ((low + top + 1) / 2)) (by omega) (by omega)]
      simp only [cond_true]
      by_cases e : (low + top + 1) / 2 * ((low + top + 1) / 2) ≤ n
      · rw [decide_eq_true e, cond_true]
        exact wl_s n0 d _ _ (by omega) (by omega) (by omega) h2 e b2
      · rw [decide_eq_false e, cond_false, wrapI (n := (low + top + 1) / 2 - 1) (by omega) (by omega)]
        exact wl_s n0 d _ _ (by omega) h0 (by omega) (by omega) b1 (by
          rw [show (low + top + 1) / 2 - 1 + 1 = (low + top + 1) / 2 by omega]; omega)
    · have : top = low := by omega
      subst this
      rw [decide_eq_false c, wrapI (n := top * top) (by omega) (by omega)]
      simp only [cond_false]
      by_cases e : top * top = n
      · rw [lnN_of h0 e, e, bne_self_eq_false]; rfl
      · rw [lnN_2 ⟨h0, b1, b2⟩ e, show (top * top != n) = true from bne_iff_ne.2 e]; rfl
/-! ### whole risers -/
noncomputable def wrB (x lo hi : Int) (k : Nat) : Bool := (x % (k : Int) == 0) && s_l1In (x / (k : Int)) lo hi
noncomputable def wrC (x lo hi : Int) : Bool := s_l1In x 1 6000 && (s_l1In lo 1 250 && s_l1In hi 1 250)
noncomputable def wrN (x lo hi : Int) : List Int × Bool := bif wrC x lo hi then (numF (wrB x lo hi) 1 100, true) else ([], false)
theorem wr_i {x lo hi : Int} (x1 : 1 ≤ x) (x2 : x ≤ 6000) : ∀ (d k : Nat) (acc : List Int), k + d = 101 → 1 ≤ k → acc.length ≤ k → i_WholeRisers_L1 acc x lo hi k = some (acc ++ numF (wrB x lo hi) k d, true)
  | 0, k, acc, hd, hk, ha => by
    rw [i_WholeRisers_u1, i_WholeRisers_t1, decide_eq_false (show ¬ ((k : Int) ≤ 100) by omega), numF_zero, List.append_nil]; rfl
  | d + 1, k, acc, hd, hk, ha => by
    have hz : ((k : Int) == 0) = false := by rw [beq_eq_false_iff_ne]; omega
    have hw : IntKind.wrap .i64 ((k : Int) + 1) = ((k + 1 : Nat) : Int) := by rw [wrapI (by omega) (by omega)]; omega
    have hb : Nat.ble (acc.length + 1) 4294967296 = true := by rw [ble_dec]; exact decide_eq_true (by omega)
    have b1 : 0 ≤ x / (k : Int) := Int.ediv_nonneg (by omega) (by omega)
    have b2 : x / (k : Int) ≤ x := Int.ediv_le_self _ (by omega)
    rw [i_WholeRisers_u1, i_WholeRisers_t1, decide_eq_true (show (k : Int) ≤ 100 by omega), hz, hw, Int.tmod_eq_emod_of_nonneg (by omega), Int.tdiv_eq_ediv_of_nonneg (by omega), hb, numF_succ, wr_i x1 x2 d (k + 1) acc (by omega) (by omega) (by omega), wr_i x1 x2 d (k + 1) (acc ++ [(k : Int)]) (by omega) (by omega) (by simp; omega)]
    simp only [cond_true, cond_false, within_eq]
    rw [wrapI (n := x / k) (by omega) (by omega)]
    unfold wrB
    cases x % (k : Int) == 0
    · rfl
    · cases s_l1In (x / (k : Int)) lo hi
      · rfl
      · simp
theorem wr_s {x lo hi : Int} (x1 : 1 ≤ x) (x2 : x ≤ 6000) : ∀ (d k : Nat) (acc : List Int), k + d = 101 → 1 ≤ k → acc.length ≤ k → s_WholeRisers_L1 acc x lo hi k = some (acc ++ numF (wrB x lo hi) k d, true)
  | 0, k, acc, hd, hk, ha => by
    rw [s_WholeRisers_u1, s_WholeRisers_t1, decide_eq_false (show ¬ ((k : Int) ≤ 100) by omega), numF_zero, List.append_nil]; rfl
  | d + 1, k, acc, hd, hk, ha => by
    have hz : ((k : Int) == 0) = false := by rw [beq_eq_false_iff_ne]; omega
    have hw : IntKind.wrap .i64 ((k : Int) + 1) = ((k + 1 : Nat) : Int) := by rw [wrapI (by omega) (by omega)]; omega
    have hb : Nat.ble (acc.length + 1) 4294967296 = true := by rw [ble_dec]; exact decide_eq_true (by omega)
    have b1 : 0 ≤ x / (k : Int) := Int.ediv_nonneg (by omega) (by omega)
    have b2 : x / (k : Int) ≤ x := Int.ediv_le_self _ (by omega)
    rw [s_WholeRisers_u1, s_WholeRisers_t1, decide_eq_true (show (k : Int) ≤ 100 by omega), hz, hw, Int.tmod_eq_emod_of_nonneg (by omega), Int.tdiv_eq_ediv_of_nonneg (by omega), hb, numF_succ, wr_s x1 x2 d (k + 1) acc (by omega) (by omega) (by omega), wr_s x1 x2 d (k + 1) (acc ++ [(k : Int)]) (by omega) (by omega) (by simp; omega)]
    simp only [cond_true, cond_false]
    rw [wrapI (n := x / k) (by omega) (by omega)]
    unfold wrB
    cases x % (k : Int) == 0
    · rfl
    · cases s_l1In (x / (k : Int)) lo hi
      · rfl
      · simp
theorem isHigh_eq (x : Int) : i_isHigh x = s_l1In x 1 6000 := by unfold i_isHigh; exact within_eq x 1 6000
theorem riHigh_eq (x : Int) : s_riHigh x = s_l1In x 1 6000 := rfl
theorem isSum_eq (x : Int) : i_isSum x = s_l1In x 1 2000 := by unfold i_isSum; exact within_eq x 1 2000
theorem WholeRisers_two (x lo hi : Int) : i_WholeRisers x lo hi = some (wrN x lo hi) ∧ s_WholeRisers x lo hi = some (wrN x lo hi) := by
  unfold i_WholeRisers i_WholeRisers_t0 s_WholeRisers s_WholeRisers_t0 wrN wrC
  rw [isHigh_eq, riHigh_eq, within_eq, within_eq]
  cases hx : s_l1In x 1 6000
  · exact ⟨rfl, rfl⟩
  · have hx := l1In_iff.1 hx
    cases s_l1In lo 1 250
    · exact ⟨rfl, rfl⟩
    · cases s_l1In hi 1 250
      · exact ⟨rfl, rfl⟩
      · exact ⟨wr_i hx.1 hx.2 100 1 [] rfl (by omega) (by simp), wr_s hx.1 hx.2 100 1 [] rfl (by omega) (by simp)⟩
/-! ### flights told -/
theorem IsFlight_s (a b c : Int) : s_IsFlight a b c = s_riGood a b c := rfl
theorem fl_bd {a b c : Int} (g : GoodF a b c) : (0 ≤ a * b ∧ a * b ≤ 100 * 250) ∧ (0 ≤ (a - 1) * c ∧ (a - 1) * c ≤ 99 * 500) := by
  have := g.s1; have := g.s2; have := g.r1; have := g.r2; have := g.h1; have := g.h2
  exact ⟨mul2 ⟨by omega, by omega⟩ ⟨by omega, by omega⟩, mul2 ⟨by omega, by omega⟩ ⟨by omega, by omega⟩⟩
noncomputable def hoN (a b c : Int) : Int × Bool := bif s_riGood a b c then (a * b, true) else (0, false)
noncomputable def roN (a b c : Int) : Int × Bool := bif s_riGood a b c then ((a - 1) * c, true) else (0, false)
noncomputable def paN (a b c : Int) : Int × Bool := bif s_riGood a b c then (2 * b + c, true) else (0, false)
def sqV (a b c : Int) : Int := a * b * (a * b) + (a - 1) * c * ((a - 1) * c)
noncomputable def sqN (a b c : Int) : Int × Bool := bif s_riGood a b c then (sqV a b c, true) else (0, false)
noncomputable def slN (a b c : Int) : Int × Int × Bool := bif s_riGood a b c then (frN b c, frD b c, true) else (0, 0, false)
noncomputable def wlN (a b c : Int) : Int × Bool := bif s_riGood a b c then lnN (sqV a b c) else (0, false)
theorem sq_bd {a b c : Int} (g : GoodF a b c) : (0 ≤ a * b * (a * b) ∧ a * b * (a * b) ≤ 25000 * 25000) ∧ (0 ≤ (a - 1) * c * ((a - 1) * c) ∧ (a - 1) * c * ((a - 1) * c) ≤ 49500 * 49500) := by
  obtain ⟨h1, h2⟩ := fl_bd g
  exact ⟨mul2 ⟨by omega, by omega⟩ ⟨by omega, by omega⟩, mul2 ⟨by omega, by omega⟩ ⟨by omega, by omega⟩⟩
theorem high_eq {a b c : Int} (g : GoodF a b c) : i_Flight_high a b c = a * b := by
  obtain ⟨h1, h2⟩ := fl_bd g
  unfold i_Flight_high
  rw [wrapI (by omega) (by omega)]
theorem run_eq {a b c : Int} (g : GoodF a b c) : i_Flight_run a b c = (a - 1) * c := by
  obtain ⟨h1, h2⟩ := fl_bd g
  have := g.s1; have := g.s2
  unfold i_Flight_run
  rw [wrapI (n := a - 1) (by omega) (by omega), wrapI (by omega) (by omega)]
theorem riSquare_eq {a b c : Int} (g : GoodF a b c) : s_riSquare a b c = sqV a b c := by
  obtain ⟨h1, h2⟩ := fl_bd g
  obtain ⟨h3, h4⟩ := sq_bd g
  have := g.s1; have := g.s2
  unfold s_riSquare sqV
  rw [wrapI (n := a * b) (by omega) (by omega), wrapI (n := a - 1) (by omega) (by omega), wrapI (n := (a - 1) * c) (by omega) (by omega), wrapI (n := a * b * (a * b)) (by omega) (by omega), wrapI (n := (a - 1) * c * ((a - 1) * c)) (by omega) (by omega), wrapI (by omega) (by omega)]
theorem HeightOf_two (a b c : Int) : i_HeightOf a b c = hoN a b c ∧ s_HeightOf a b c = hoN a b c := by
  unfold i_HeightOf s_HeightOf hoN
  rw [flight_eq]
  cases hg : s_riGood a b c
  · exact ⟨rfl, rfl⟩
  · have g := goodF_iff.1 hg
    obtain ⟨h1, h2⟩ := fl_bd g
    rw [high_eq g, wrapI (n := a * b) (by omega) (by omega)]
    exact ⟨rfl, rfl⟩
theorem RunOf_two (a b c : Int) : i_RunOf a b c = roN a b c ∧ s_RunOf a b c = roN a b c := by
  unfold i_RunOf s_RunOf roN
  rw [flight_eq]
  cases hg : s_riGood a b c
  · exact ⟨rfl, rfl⟩
  · have g := goodF_iff.1 hg
    obtain ⟨h1, h2⟩ := fl_bd g
    have := g.s1; have := g.s2
    rw [run_eq g, wrapI (n := a - 1) (by omega) (by omega), wrapI (n := (a - 1) * c) (by omega) (by omega)]
    exact ⟨rfl, rfl⟩
theorem PaceSum_two (a b c : Int) : i_PaceSum a b c = paN a b c ∧ s_PaceSum a b c = paN a b c := by
  unfold i_PaceSum s_PaceSum paN
  rw [flight_eq]
  cases hg : s_riGood a b c
  · exact ⟨rfl, rfl⟩
  · have g := goodF_iff.1 hg
    have := g.r1; have := g.r2; have := g.h1; have := g.h2
    rw [wrapI (n := 2 * b) (by omega) (by omega), wrapI (n := 2 * b + c) (by omega) (by omega)]
    exact ⟨rfl, rfl⟩
theorem LineSquare_two (a b c : Int) : i_LineSquare a b c = sqN a b c ∧ s_LineSquare a b c = sqN a b c := by
  unfold i_LineSquare s_LineSquare sqN
  rw [flight_eq]
  cases hg : s_riGood a b c
  · exact ⟨rfl, rfl⟩
  · have g := goodF_iff.1 hg
    obtain ⟨h3, h4⟩ := sq_bd g
    rw [high_eq g, run_eq g, riSquare_eq g, wrapI (n := a * b * (a * b)) (by omega) (by omega), wrapI (n := (a - 1) * c * ((a - 1) * c)) (by omega) (by omega), wrapI (n := a * b * (a * b) + (a - 1) * c * ((a - 1) * c)) (by omega) (by omega)]
    exact ⟨rfl, rfl⟩
theorem WholeLine_two (a b c : Int) : i_WholeLine a b c = some (wlN a b c) ∧ s_WholeLine a b c = some (wlN a b c) := by
  unfold i_WholeLine i_WholeLine_t0 s_WholeLine s_WholeLine_t0 wlN
  rw [(LineSquare_two a b c).1]
  unfold sqN
  cases hg : s_riGood a b c
  · exact ⟨rfl, rfl⟩
  · have g := goodF_iff.1 hg
    obtain ⟨h3, h4⟩ := sq_bd g
    have n0 : 0 ≤ sqV a b c ∧ sqV a b c ≤ 10000000000 := by unfold sqV; omega
    rw [riSquare_eq g]
    refine ⟨?_, ?_⟩
    · exact wl_i n0.1 100000 0 100000 (by omega) (by omega) (by omega) (by omega) (fun m h1 h2 => by omega) (by omega)
    · exact wl_s n0.1 100000 0 100000 (by omega) (by omega) (by omega) (by omega) (by omega) (by omega)
theorem SlopeOf_two (a b c : Int) : i_SlopeOf a b c = some (slN a b c) ∧ s_SlopeOf a b c = some (slN a b c) := by
  unfold i_SlopeOf s_SlopeOf slN
  rw [flight_eq]
  cases hg : s_riGood a b c
  · exact ⟨rfl, rfl⟩
  · have g := goodF_iff.1 hg
    have := g.r1; have := g.r2; have := g.h1; have := g.h2
    rw [part_fr (by omega) (by omega) (by omega) (by omega), moLow_fr (by omega) (by omega) (by omega) (by omega)]
    exact ⟨rfl, rfl⟩
theorem TreadFor_ok {a b c : Int} (g : GoodF a b c) (h : 2 * b + c ≤ 2000) : i_TreadFor b (2 * b + c) = (c, true) := by
  have := g.r1; have := g.r2; have := g.h1; have := g.h2
  unfold i_TreadFor
  rw [isSum_eq, within_eq, within_eq, wrapI (n := 2 * b) (by omega) (by omega), wrapI (n := 2 * b + c - 2 * b) (by omega) (by omega), show 2 * b + c - 2 * b = c by omega, l1In_iff.2 (⟨by omega, by omega⟩ : 1 ≤ b ∧ b ≤ 250), l1In_iff.2 (⟨by omega, h⟩ : 1 ≤ 2 * b + c ∧ 2 * b + c ≤ 2000), l1In_iff.2 (⟨by omega, by omega⟩ : 1 ≤ c ∧ c ≤ 500)]
  rfl
theorem HeightAt_ok {a b c : Int} (hg : s_riGood a b c = true) : i_HeightAtRun a b c ((a - 1) * c) = some (a * b, true) := by
  have g := goodF_iff.1 hg
  obtain ⟨h1, h2⟩ := fl_bd g
  have s1 := g.s1; have s2 := g.s2; have := g.h1; have := g.h2
  unfold i_HeightAtRun
  rw [flight_eq, hg, run_eq g, wrapI (n := (a - 1) * c + 1000) (by omega) (by omega), within_eq, l1In_iff.2 (⟨by omega, by omega⟩ : -1000 ≤ (a - 1) * c ∧ (a - 1) * c ≤ (a - 1) * c + 1000), decide_eq_false (show ¬ (a - 1) * c < 0 by omega), show (c == 0) = false from beq_eq_false_iff_ne.2 (by omega), Int.tdiv_eq_ediv_of_nonneg (by omega), Int.mul_ediv_cancel _ (show c ≠ 0 by omega), wrapI (n := a - 1) (by omega) (by omega), show a - 1 + 1 = a by omega, wrapI (n := a) (by omega) (by omega)]
  simp only [Bool.not_true, cond_false]
  rw [decide_eq_false (show ¬ a < a by omega), cond_false, wrapI (by omega) (by omega)]
/-! even risers -/
noncomputable def evC (h r : Int) : Bool := s_l1In h 1 6000 && s_l1In r 1 (if h < 100 then h else 100)
noncomputable def evN (h r : Int) : List Int × Bool := bif evC h r then (evL h r 0 r.toNat, true) else ([], false)
theorem evC_of {h r : Int} (c : evC h r = true) : (1 ≤ h ∧ h ≤ 6000) ∧ (1 ≤ r ∧ r ≤ 100) ∧ r ≤ h := by
  unfold evC at c
  simp only [Bool.and_eq_true, l1In_iff] at c
  obtain ⟨c1, c2, c3⟩ := c
  by_cases hh : h < 100
  · rw [if_pos hh] at c3; omega
  · rw [if_neg hh] at c3; omega
theorem evv {h r k : Int} (c : evC h r = true) (hk : 0 ≤ k) (hk2 : k ≤ 100) : IntKind.wrap .i64 (k * h) = k * h ∧ IntKind.wrap .i64 (Int.tdiv (k * h) r) = k * h / r ∧ 0 ≤ k * h / r ∧ k * h / r ≤ 600000 := by
  obtain ⟨⟨h1, h2⟩, ⟨r1, r2⟩, -⟩ := evC_of c
  have B := mul2 (x := k) (y := h) (m := 100) (k := 6000) ⟨hk, hk2⟩ ⟨by omega, h2⟩
  have q0 : 0 ≤ k * h / r := Int.ediv_nonneg B.1 (by omega)
  have q1 : k * h / r ≤ k * h := Int.ediv_le_self _ B.1
  rw [Int.tdiv_eq_ediv_of_nonneg B.1]
  exact ⟨wrapI (by omega) (by omega), wrapI (by omega) (by omega), q0, by omega⟩
theorem ev_i {h r : Int} (c : evC h r = true) : ∀ (d k : Nat) (acc : List Int), (k : Int) + d = r → acc.length ≤ k → i_EvenRisers_L1 acc h r r k = some (acc ++ evL h r k d, true)
  | 0, k, acc, hd, ha => by
    rw [i_EvenRisers_u1, i_EvenRisers_t1, decide_eq_false (by omega)]; simp [evL]
  | d + 1, k, acc, hd, ha => by
    obtain ⟨⟨h1, h2⟩, ⟨r1, r2⟩, -⟩ := evC_of c
    have hw : IntKind.wrap .i64 ((k : Int) + 1) = (k : Int) + 1 := wrapI (by omega) (by omega)
    have e1 : (k : Int) + 1 = ((k + 1 : Nat) : Int) := by omega
    have hb : Nat.ble (acc.length + 1) 4294967296 = true := by rw [ble_dec]; exact decide_eq_true (by omega)
    obtain ⟨a1, a2, a3, a4⟩ := evv (k := k) c (by omega) (by omega)
    obtain ⟨b1, b2, b3, b4⟩ := evv (k := (k : Int) + 1) c (by omega) (by omega)
    rw [i_EvenRisers_u1, i_EvenRisers_t1, decide_eq_true (show (k : Int) < r by omega), show (r == 0) = false from beq_eq_false_iff_ne.2 (by omega), hw, hb, a1, b1, a2, b2, wrapI (n := ((k : Int) + 1) * h / r - (k : Int) * h / r) (by omega) (by omega)]
    simp only [cond_true, cond_false]
    have ih := ev_i c d (k + 1) (acc ++ [((k : Int) + 1) * h / r - (k : Int) * h / r]) (by omega) (by simp; omega)
    rw [← e1] at ih
    rw [ih]
    conv => rhs; unfold evL
    simp
theorem ev_s {h r : Int} (c : evC h r = true) : ∀ (d k : Nat) (acc : List Int), (k : Int) + d = r → acc.length ≤ k → s_EvenRisers_L1 acc h r ((k : Int) + 1) = some (acc ++ evL h r k d, true)
  | 0, k, acc, hd, ha => by
    rw [s_EvenRisers_u1, s_EvenRisers_t1, decide_eq_false (by omega)]; simp [evL]
  | d + 1, k, acc, hd, ha => by
    obtain ⟨⟨h1, h2⟩, ⟨r1, r2⟩, -⟩ := evC_of c
    have hw : IntKind.wrap .i64 ((k : Int) + 1 + 1) = ((k + 1 : Nat) : Int) + 1 := by rw [wrapI (by omega) (by omega)]; omega
    have hv : IntKind.wrap .i64 ((k : Int) + 1 - 1) = (k : Int) := by rw [wrapI (by omega) (by omega)]; omega
    have hb : Nat.ble (acc.length + 1) 4294967296 = true := by rw [ble_dec]; exact decide_eq_true (by omega)
    obtain ⟨a1, a2, a3, a4⟩ := evv (k := k) c (by omega) (by omega)
    obtain ⟨b1, b2, b3, b4⟩ := evv (k := (k : Int) + 1) c (by omega) (by omega)
    rw [s_EvenRisers_u1, s_EvenRisers_t1, decide_eq_true (show (k : Int) + 1 ≤ r by omega), show (r == 0) = false from beq_eq_false_iff_ne.2 (by omega), hw, hv, hb, a1, b1, a2, b2, wrapI (n := ((k : Int) + 1) * h / r - (k : Int) * h / r) (by omega) (by omega)]
    simp only [cond_true, cond_false]
    rw [ev_s c d (k + 1) (acc ++ [((k : Int) + 1) * h / r - (k : Int) * h / r]) (by omega) (by simp; omega)]
    conv => rhs; unfold evL
    simp
theorem Even_two (h r : Int) : i_EvenRisers h r = some (evN h r) ∧ s_EvenRisers h r = some (evN h r) := by
  unfold i_EvenRisers i_EvenRisers_t0 s_EvenRisers s_EvenRisers_t0 evN
  rw [isHigh_eq, riHigh_eq, within_eq]
  have e1 : (bif decide (h < 100) then h else 100) = if h < 100 then h else 100 := by
    by_cases c : h < 100
    · rw [decide_eq_true c, if_pos c]; rfl
    · rw [decide_eq_false c, if_neg c]; rfl
  have e2 : s_l1Least 100 h = if h < 100 then h else 100 := by
    unfold s_l1Least
    by_cases c : h < 100
    · rw [if_pos c, decide_eq_false (by omega)]; rfl
    · rw [if_neg c]
      by_cases c2 : 100 < h
      · rw [decide_eq_true c2]; rfl
      · rw [decide_eq_false c2]; show h = 100; omega
  rw [e1, e2]
  cases hc : evC h r
  · have hc' := hc
    unfold evC at hc'
    cases h1 : s_l1In h 1 6000
    · exact ⟨rfl, rfl⟩
    · rw [h1, Bool.true_and] at hc'
      rw [hc']
      exact ⟨rfl, rfl⟩
  · have hc' := hc
    unfold evC at hc'
    rw [Bool.and_eq_true] at hc'
    obtain ⟨⟨h1, h2⟩, ⟨r1, r2⟩, -⟩ := evC_of hc
    rw [hc'.1, hc'.2]
    exact ⟨ev_i hc r.toNat 0 [] (by simp; omega) (by simp), ev_s hc r.toNat 0 [] (by simp; omega) (by simp)⟩
/-! ### flights for a height, and sums -/
abbrev Fl : Type := Int × Int × Int
noncomputable def flV (x sum n : Int) : Fl := (n, x / n, sum - 2 * (x / n))
noncomputable def okF (x run sum n : Int) : Bool := s_riGood n (x / n) (sum - 2 * (x / n)) && decide ((n - 1) * (sum - 2 * (x / n)) ≤ run)
noncomputable def ffL (x run sum : Int) (l : List Int) : List Fl := (l.filter (okF x run sum)).map (flV x sum)
theorem ffL_cons (x run sum n : Int) (l : List Int) : ffL x run sum (n :: l) = (bif okF x run sum n then [flV x sum n] else []) ++ ffL x run sum l := by
  unfold ffL
  rw [List.filter_cons]
  cases okF x run sum n <;> simp
theorem ffL_len (x run sum : Int) (l : List Int) : (ffL x run sum l).length ≤ l.length := by
  unfold ffL
  rw [List.length_map]
  exact List.length_filter_le _ _
structure FfB (x sum : Int) : Prop where
  x1 : 1 ≤ x
  x2 : x ≤ 6000
  s1 : 1 ≤ sum
  s2 : sum ≤ 2000
theorem ff_one {x sum n : Int} (b : FfB x sum) (hn : 1 ≤ n) : IntKind.wrap .i64 (Int.tdiv x n) = x / n ∧ IntKind.wrap .i64 (2 * (x / n)) = 2 * (x / n) ∧ IntKind.wrap .i64 (sum - 2 * (x / n)) = sum - 2 * (x / n) := by
  have q0 : 0 ≤ x / n := Int.ediv_nonneg (by have := b.x1; omega) (by omega)
  have q1 : x / n ≤ x := Int.ediv_le_self _ (by have := b.x1; omega)
  have := b.x1; have := b.x2; have := b.s1; have := b.s2
  rw [Int.tdiv_eq_ediv_of_nonneg (by omega)]
  exact ⟨wrapI (by omega) (by omega), wrapI (by omega) (by omega), wrapI (by omega) (by omega)⟩
theorem ff_i {x run sum : Int} (b : FfB x sum) (l : List Int) (hl : l.length ≤ 1000) (hm : ∀ n, n ∈ l → 1 ≤ n ∧ n ≤ 100) :
    ∀ acc : List Fl, acc.length ≤ 0 → i_FlightsFor_L1 acc l x run sum (l.length : Int) 0 = some (acc ++ ffL x run sum l, true) := by
  have key : ∀ acc : List Fl, acc.length ≤ ((0 : Nat)) → i_FlightsFor_L1 acc l x run sum (l.length : Int) ((0 : Nat) : Int) = some (acc ++ ffL x run sum l, true) := by
    refine drop_ind l (fun i q => ∀ acc : List Fl, acc.length ≤ i → i_FlightsFor_L1 acc l x run sum (l.length : Int) (i : Int) = some (acc ++ ffL x run sum q, true)) ?_ (fun i hi ih => ?_)
    · intro acc ha
      have : ¬ ((l.length : Int) < l.length) := by omega
      rw [i_FlightsFor_u1, i_FlightsFor_t1, decide_eq_false this]
      simp [ffL]
    · intro acc ha
      obtain ⟨n1, n2⟩ := hm _ (List.getElem_mem hi)
      obtain ⟨e1, e2, e3⟩ := ff_one (n := l[i]) b n1
      have hw : IntKind.wrap .i64 ((i : Int) + 1) = ((i + 1 : Nat) : Int) := by rw [wrapI (by omega) (by omega)]; omega
      have hb : Nat.ble (acc.length + 1) 4294967296 = true := by rw [ble_dec]; exact decide_eq_true (by omega)
      rw [i_FlightsFor_u1, i_FlightsFor_t1, decide_eq_true (show (i : Int) < l.length by omega), decide_eq_true (Int.natCast_nonneg i), rdk_get (k := kint) hi, show (l[i] == 0) = false from beq_eq_false_iff_ne.2 (by omega), e1, e2, e3, hw, hb, flight_eq, ffL_cons, ih acc (by omega), ih (acc ++ [(l[i], x / l[i], sum - 2 * (x / l[i]))]) (by simp; omega)]
      simp only [cond_true, cond_false]
      unfold okF
      cases hg : s_riGood l[i] (x / l[i]) (sum - 2 * (x / l[i]))
      · rfl
      · have g := goodF_iff.1 hg
        rw [run_eq g]
        cases decide ((l[i] - 1) * (sum - 2 * (x / l[i])) ≤ run)
        · rfl
        · simp [flV]
  intro acc ha
  exact key acc ha
theorem ff_s {x run sum : Int} (b : FfB x sum) : ∀ (d k : Nat) (acc : List Fl), k + d = 101 → 1 ≤ k → acc.length ≤ k → s_FlightsFor_L1 acc x run sum (k : Int) = some (acc ++ ffL x run sum (numF (wrB x 1 250) k d), true)
  | 0, k, acc, hd, hk, ha => by
    rw [s_FlightsFor_u1, s_FlightsFor_t1, decide_eq_false (show ¬ ((k : Int) ≤ 100) by omega), numF_zero]; simp [ffL]
  | d + 1, k, acc, hd, hk, ha => by
    have x1 := b.x1
    have hz : ((k : Int) == 0) = false := by rw [beq_eq_false_iff_ne]; omega
    have hw : IntKind.wrap .i64 ((k : Int) + 1) = ((k + 1 : Nat) : Int) := by rw [wrapI (by omega) (by omega)]; omega
    have hb : Nat.ble (acc.length + 1) 4294967296 = true := by rw [ble_dec]; exact decide_eq_true (by omega)
    obtain ⟨e1, e2, e3⟩ := ff_one (n := (k : Int)) b (by omega)
    rw [s_FlightsFor_u1, s_FlightsFor_t1, decide_eq_true (show (k : Int) ≤ 100 by omega), hz, hw, Int.tmod_eq_emod_of_nonneg (by omega), e1, e2, e3, hb, numF_succ, ff_s b d (k + 1) acc (by omega) (by omega) (by omega), ff_s b d (k + 1) (acc ++ [((k : Int), x / (k : Int), sum - 2 * (x / (k : Int)))]) (by omega) (by omega) (by simp; omega)]
    simp only [cond_true, cond_false]
    have no : (s_riGood (k : Int) (x / (k : Int)) (sum - 2 * (x / (k : Int))) && decide (((k : Int) - 1) * (sum - 2 * (x / (k : Int))) ≤ run)) = false → ffL x run sum ((bif wrB x 1 250 k then [(k : Int)] else []) ++ numF (wrB x 1 250) (k + 1) d) = ffL x run sum (numF (wrB x 1 250) (k + 1) d) := fun h => by
      cases wrB x 1 250 k
      · rfl
      · show ffL x run sum ((k : Int) :: _) = _
        rw [ffL_cons]
        have : okF x run sum (k : Int) = false := h
        rw [this]; rfl
    cases hm : x % (k : Int) == 0
    · have : wrB x 1 250 k = false := by unfold wrB; rw [hm]; rfl
      rw [this]; rfl
    · cases hg : s_riGood (k : Int) (x / (k : Int)) (sum - 2 * (x / (k : Int)))
      · rw [no (by rw [hg]; rfl)]; rfl
      · have g := goodF_iff.1 hg
        obtain ⟨f1, f2⟩ := fl_bd g
        rw [wrapI (n := (k : Int) - 1) (by omega) (by omega), wrapI (n := ((k : Int) - 1) * (sum - 2 * (x / (k : Int)))) (by omega) (by omega)]
        cases hd2 : decide (((k : Int) - 1) * (sum - 2 * (x / (k : Int))) ≤ run)
        · rw [no (by rw [hg, hd2]; rfl)]; rfl
        · have hw2 : wrB x 1 250 k = true := by unfold wrB; rw [hm, l1In_iff.2 ⟨g.r1, g.r2⟩]; rfl
          have ho : okF x run sum (k : Int) = true := by unfold okF; rw [hg, hd2]; rfl
          rw [hw2]
          show _ = some (acc ++ ffL x run sum ((k : Int) :: _), true)
          rw [ffL_cons, ho]
          simp [flV]
noncomputable def ffC (x run sum : Int) : Bool := s_l1In x 1 6000 && (s_l1In run 0 50000 && s_l1In sum 1 2000)
noncomputable def ffN (x run sum : Int) : List Fl × Bool := bif ffC x run sum then (ffL x run sum (numF (wrB x 1 250) 1 100), true) else ([], false)
theorem FlightsFor_two (x run sum : Int) : i_FlightsFor x run sum = some (ffN x run sum) ∧ s_FlightsFor x run sum = some (ffN x run sum) := by
  unfold i_FlightsFor i_FlightsFor_t0 s_FlightsFor s_FlightsFor_t0 ffN ffC
  rw [(WholeRisers_two x 1 250).1, riHigh_eq, within_eq, isSum_eq]
  have e1 : s_l1In 1 1 250 = true := l1In_iff.2 ⟨by decide, by decide⟩
  have e2 : s_l1In 250 1 250 = true := l1In_iff.2 ⟨by decide, by decide⟩
  unfold wrN wrC
  rw [e1, e2]
  cases hx : s_l1In x 1 6000
  · exact ⟨rfl, rfl⟩
  · cases hr : s_l1In run 0 50000
    · exact ⟨rfl, rfl⟩
    · cases hs : s_l1In sum 1 2000
      · exact ⟨rfl, rfl⟩
      · have hx := l1In_iff.1 hx
        have hs := l1In_iff.1 hs
        have b : FfB x sum := ⟨hx.1, hx.2, hs.1, hs.2⟩
        have hl := numF_len (wrB x 1 250) 1 100
        refine ⟨?_, ff_s b 100 1 [] rfl (by omega) (by simp)⟩
        exact ff_i b (numF (wrB x 1 250) 1 100) (by omega) (fun n hn => by
          obtain ⟨k, hk, -, rfl⟩ := numF_mem.1 hn
          omega) [] (by simp)
theorem lSum_ok {l : List Int} (hl : l.length ≤ 1000) (hb : ∀ x, x ∈ l → 0 ≤ x ∧ x ≤ 10000) : w_lSum l = some (sumI l) := by
  unfold w_lSum w_lSum_t0
  have key : ∀ s : Int, (0 ≤ s ∧ s ≤ 10000 * ((0 : Nat) : Int)) → w_lSum_L1 l s (l.length : Int) ((0 : Nat) : Int) = some (s + sumI l) := by
    refine drop_ind l (fun i q => ∀ s : Int, (0 ≤ s ∧ s ≤ 10000 * (i : Int)) → w_lSum_L1 l s (l.length : Int) (i : Int) = some (s + sumI q)) ?_ (fun i hi ih => ?_)
    · intro s hs
      have : ¬ ((l.length : Int) < l.length) := by omega
      rw [w_lSum_u1, w_lSum_t1, decide_eq_false this]
      simp [sumI]
    · intro s hs
      have hx := hb _ (List.getElem_mem hi)
      have hw : IntKind.wrap .i64 ((i : Int) + 1) = ((i + 1 : Nat) : Int) := by rw [wrapI (by omega) (by omega)]; omega
      rw [w_lSum_u1, w_lSum_t1, decide_eq_true (show (i : Int) < l.length by omega), decide_eq_true (Int.natCast_nonneg i), rdk_get (k := kint) hi, hw, wrapI (n := s + l[i]) (by omega) (by omega)]
      simp only [cond_true]
      rw [ih (s + l[i]) (by push_cast; omega)]
      rw [Int.add_assoc]
      rfl
  have := key 0 (by simp)
  rw [Int.zero_add] at this
  exact this
theorem lFlights_self {a : List Fl} (ha : a.length ≤ 1000) : w_lFlights a a = some true := by
  unfold w_lFlights w_lFlights_t0
  rw [bne_self_eq_false, cond_false]
  refine drop_ind a (fun i l => w_lFlights_L1 a a (a.length : Int) (i : Int) = some true) ?_ (fun i hi ih => ?_)
  · have : ¬ ((a.length : Int) < a.length) := by omega
    rw [w_lFlights_u1, w_lFlights_t1, decide_eq_false this]; rfl
  · rw [w_lFlights_u1, w_lFlights_t1, decide_eq_true (show (i : Int) < a.length by omega), decide_eq_true (Int.natCast_nonneg i), rdk_get (k := kFlight) hi, wrapI (n := (i : Int) + 1) (by omega) (by omega)]
    simp only [beq_self_eq_true, Bool.and_self, Bool.not_true, cond_true, cond_false]
    exact ih
end Go.Proofs.YtddlajhpdbjapaaGreatDoor.V
