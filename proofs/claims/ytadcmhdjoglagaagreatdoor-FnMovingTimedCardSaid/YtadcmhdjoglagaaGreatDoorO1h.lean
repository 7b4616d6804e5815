/- Functions of the program, as plain functions. No condition. -/
import Derived.Test.YtadcmhdjoglagaaGreatDoorO1
set_option linter.unusedVariables false
set_option linter.unusedSimpArgs false
set_option maxRecDepth 100000
namespace Go.Proofs.YtadcmhdjoglagaaGreatDoor.V
open Go Go.Ev Go.Proofs
/-! ### numbers joined -/
def itoaB (n : Int) : ByteArray := ⟨(Lib.itoa n).toArray⟩
theorem num_ok {n : Int} (h : 0 ≤ n) (h' : n ≤ 4000000000000000000) : s_l1Num_n n = some (itoaB n) := by
  unfold s_l1Num_n
  rw [decide_eq_true h, decide_eq_true h']; rfl
theorem itoa_ok {n : Int} (h : 0 ≤ n) (h' : n ≤ 4000000000000000000) : strconv_Itoa n = some (itoaB n) := by
  unfold strconv_Itoa itoaF
  rw [if_pos (by omega)]; rfl
theorem itoa_len {n : Int} (h : 0 ≤ n) (h' : n ≤ 1000000) : (Lib.itoa n).length ≤ 1000001 := by
  obtain ⟨m, rfl⟩ := Int.eq_ofNat_of_zero_le h
  rw [itoa_nat]
  have := dec_len m; omega
theorem join_snoc (sep : List UInt8) : ∀ (xs : List (List UInt8)) (y : List UInt8), Lib.join (xs ++ [y]) sep = if xs = [] then y else Lib.join xs sep ++ sep ++ y
  | [], y => by rw [if_pos rfl, List.nil_append, Lib.join_one]
  | x :: r, y => by
    rw [if_neg (by simp), List.cons_append, Lib.join_cons, Lib.join_cons]
    unfold Lib.joinTail
    simp [List.append_assoc]
theorem join_len (sep : List UInt8) (xs : List (List UInt8)) : (Lib.join xs sep).length ≤ sep.length * xs.length + Lib.lens xs := by
  cases xs with
  | nil => simp [Lib.join_nil]
  | cons x r =>
    rw [Lib.join_cons, List.length_append, Lib.joinTail_length]
    have : Lib.lens (x :: r) = x.length + Lib.lens r := by simp [Lib.lens]
    rw [this, List.length_cons, Nat.mul_succ]; omega
theorem lens_le {c : Nat} : ∀ {xs : List (List UInt8)}, (∀ x, x ∈ xs → x.length ≤ c) → Lib.lens xs ≤ c * xs.length
  | [], _ => by simp [Lib.lens]
  | x :: r, h => by
    have h1 := h x (by simp)
    have h2 := lens_le (xs := r) (fun y hy => h y (List.mem_cons_of_mem _ hy))
    have : Lib.lens (x :: r) = x.length + Lib.lens r := by simp [Lib.lens]
    rw [this, List.length_cons, Nat.mul_succ]; omega
/-- small numbers -/
structure SmallL (l : List Int) : Prop where
  len : l.length ≤ 10000
  bd : ∀ x, x ∈ l → 0 ≤ x ∧ x ≤ 1000000
theorem join_bd {l : List Int} (h : SmallL l) (sep : List UInt8) (hs : sep.length ≤ 100) : (Lib.join (l.map Lib.itoa) sep).length ≤ 140737488355328 := by
  have h1 := join_len sep (l.map Lib.itoa)
  have h2 := lens_le (c := 1000001) (xs := l.map Lib.itoa) (fun x hx => by
    obtain ⟨n, hn, rfl⟩ := List.mem_map.1 hx
    have := h.bd n hn
    exact itoa_len this.1 this.2)
  rw [List.length_map] at h1 h2
  have h3 : sep.length * l.length ≤ 100 * 10000 := Nat.mul_le_mul hs h.len
  have h4 : 1000001 * l.length ≤ 1000001 * 10000 := Nat.mul_le_mul_left _ h.len
  omega
theorem SmallL.take {l : List Int} (h : SmallL l) (i : Nat) : SmallL (l.take i) := ⟨by rw [List.length_take]; have := h.len; omega, fun x hx => h.bd x (List.mem_of_mem_take hx)⟩
/-! ### numerals -/
theorem decFrom_snoc : ∀ (l : List UInt8) (acc : Nat) (b : UInt8), Lib.decFrom acc (l ++ [b]) = (Lib.decFrom acc l).bind fun m => (Lib.digitVal b).map fun d => m * 10 + d
  | [], acc, b => by
    simp only [List.nil_append, Lib.decFrom, Option.bind_some]
    cases Lib.digitVal b <;> rfl
  | c :: l, acc, b => by
    simp only [List.cons_append, Lib.decFrom]
    cases Lib.digitVal c
    · rfl
    · exact decFrom_snoc l _ b
theorem digit_of {m : Nat} (h : m < 10) : Lib.digitVal (UInt8.ofNat (48 + m)) = some m := by
  unfold Lib.digitVal
  have e : (UInt8.ofNat (48 + m)).toNat = 48 + m := by
    rw [UInt8.toNat_ofNat']; omega
  rw [e, if_pos (by omega)]
  congr 1; omega
theorem digit_inv {b : UInt8} {d : Nat} (h : Lib.digitVal b = some d) : b = UInt8.ofNat (48 + d) ∧ d < 10 := by
  unfold Lib.digitVal at h
  split at h
  · rename_i hb
    cases h
    have e : 48 + (b.toNat - 48) = b.toNat := by omega
    rw [e]
    exact ⟨by simp, by omega⟩
  · cases h
/-- a numeral spells its number -/
theorem dec_spell : ∀ u : Nat, Lib.decFrom 0 (Lib.decDigits u) = some u := by
  intro u
  induction u using Nat.strongRecOn with
  | ind u ih =>
    rw [Lib.decDigits]
    by_cases h : u < 10
    · rw [dif_pos h]
      simp only [Lib.decFrom, digit_of h]
      congr 1; omega
    · rw [dif_neg h, decFrom_snoc, ih (u / 10) (by omega), Option.bind_some, digit_of (Nat.mod_lt u (by omega))]
      simp only [Option.map_some]
      congr 1; omega
theorem dec_ne (u : Nat) : Lib.decDigits u ≠ [] := by
  rw [Lib.decDigits]
  by_cases h : u < 10
  · rw [dif_pos h]; simp
  · rw [dif_neg h]; simp
theorem dec_head : ∀ u : Nat, 0 < u → (Lib.decDigits u).head? ≠ some 48 := by
  intro u
  induction u using Nat.strongRecOn with
  | ind u ih =>
    intro h0
    rw [Lib.decDigits]
    by_cases h : u < 10
    · rw [dif_pos h]
      simp only [List.head?_cons]
      intro e
      have e := Option.some.inj e
      have := congrArg UInt8.toNat e
      rw [UInt8.toNat_ofNat'] at this
      have e48 : (48 : UInt8).toNat = 48 := rfl
      omega
    · rw [dif_neg h, List.head?_append]
      have := ih (u / 10) (by omega) (by omega)
      cases hd : (Lib.decDigits (u / 10)).head? with
      | none => exact absurd (List.head?_eq_none_iff.1 hd) (dec_ne _)
      | some x => rw [hd] at this; simpa using this
theorem dec_len6 (k : Nat) : ∀ u : Nat, u < 10 ^ (k + 1) → (Lib.decDigits u).length ≤ k + 1 := by
  induction k with
  | zero =>
    intro u h
    rw [Lib.decDigits, dif_pos (by simpa using h)]; simp
  | succ k ih =>
    intro u h
    rw [Lib.decDigits]
    by_cases h1 : u < 10
    · rw [dif_pos h1]; simp
    · rw [dif_neg h1, List.length_append, List.length_singleton]
      have := ih (u / 10) (by rw [Nat.pow_succ] at h; omega)
      omega
/-- digits without a zero ahead are their number's numeral -/
theorem dec_of : ∀ (l : List UInt8) (n : Nat), l ≠ [] → (l.head? = some 48 → l.length = 1) → Lib.decFrom 0 l = some n → Lib.decDigits n = l := by
  intro l
  induction hk : l.length using Nat.strongRecOn generalizing l with
  | ind k ih =>
    intro n hne hz hd
    obtain ⟨b, l', rfl⟩ : ∃ b l', l = l' ++ [b] := ⟨l.getLast hne, l.dropLast, (List.dropLast_concat_getLast hne).symm⟩
    rw [decFrom_snoc] at hd
    cases hm : Lib.decFrom 0 l' with
    | none => rw [hm] at hd; cases hd
    | some m =>
      rw [hm, Option.bind_some] at hd
      cases hb : Lib.digitVal b with
      | none => rw [hb] at hd; cases hd
      | some d =>
        rw [hb, Option.map_some] at hd
        have hd := Option.some.inj hd
        obtain ⟨rfl, hd9⟩ := digit_inv hb
        by_cases h0 : l' = []
        · subst h0
          have hm : some 0 = some m := hm
          have hm := Option.some.inj hm
          have : n = d := by omega
          subst this
          rw [Lib.decDigits, dif_pos hd9]; rfl
        · have hz' : l'.head? ≠ some 48 := fun e => by
            have h1 := hz (by rw [List.head?_append, e]; rfl)
            have h2 : l'.length + 1 = k := by rw [← hk]; simp
            have h3 : l'.length ≠ 0 := fun e => h0 (List.eq_nil_of_length_eq_zero e)
            omega
          have e := ih l'.length (by rw [← hk]; simp) l' rfl m h0 (fun e => absurd e hz') hm
          have hm0 : 0 < m := by
            rcases Nat.eq_zero_or_pos m with q | q
            · subst q
              rw [← e] at hz'
              exact absurd (by rw [Lib.decDigits, dif_pos (by omega)]; rfl) hz'
            · exact q
          have e1 : n / 10 = m := by omega
          have e2 : n % 10 = d := by omega
          rw [Lib.decDigits, dif_neg (by omega), e1, e2, e]
theorem decFrom_lt : ∀ (l : List UInt8) (acc n : Nat), Lib.decFrom acc l = some n → n < (acc + 1) * 10 ^ l.length
  | [], acc, n, h => by simp only [Lib.decFrom] at h; have := Option.some.inj h; simp; omega
  | b :: l, acc, n, h => by
    simp only [Lib.decFrom] at h
    cases hb : Lib.digitVal b with
    | none => rw [hb] at h; cases h
    | some d =>
      rw [hb] at h
      have h9 := (digit_inv hb).2
      have := decFrom_lt l _ n h
      have h2 : (acc * 10 + d + 1) * 10 ^ l.length ≤ ((acc + 1) * 10) * 10 ^ l.length := Nat.mul_le_mul_right _ (by omega)
      rw [List.length_cons, Nat.pow_succ, Nat.mul_comm (10 ^ l.length) 10, ← Nat.mul_assoc]
      omega
/-- what the reference reads -/
def rdL (l : List UInt8) : Int :=
  if 1 ≤ l.length ∧ l.length ≤ 6 ∧ (l.head? = some 48 → l.length = 1) then (match Lib.decFrom 0 l with | some n => (n : Int) | none => -1) else -1
theorem rdL_of {l : List UInt8} {v : Nat} (hv : v ≤ 999999) (h : Lib.decDigits v = l) : rdL l = v := by
  subst h
  unfold rdL
  have h1 := dec_len6 5 v (by omega)
  have h2 : 1 ≤ (Lib.decDigits v).length := Nat.pos_of_ne_zero (fun e => dec_ne v (List.eq_nil_of_length_eq_zero e))
  have h3 : (Lib.decDigits v).head? = some 48 → (Lib.decDigits v).length = 1 := fun e => by
    rcases Nat.eq_zero_or_pos v with q | q
    · subst q; rw [Lib.decDigits, dif_pos (by omega)]; rfl
    · exact absurd e (dec_head v q)
  rw [if_pos ⟨h2, h1, h3⟩, dec_spell]
theorem rdL_inv {l : List UInt8} (h : rdL l ≠ -1) : ∃ v : Nat, v ≤ 999999 ∧ Lib.decDigits v = l ∧ rdL l = v := by
  unfold rdL at h ⊢
  split at h
  · rename_i hc
    rw [if_pos hc]
    cases hd : Lib.decFrom 0 l with
    | none => rw [hd] at h; exact absurd rfl h
    | some n =>
      have hlt := decFrom_lt l 0 n hd
      have hp : 10 ^ l.length ≤ 10 ^ 6 := Nat.pow_le_pow_right (by omega) hc.2.1
      refine ⟨n, by omega, dec_of l n (fun e => by rw [e] at hc; simp at hc) hc.2.2 hd, rfl⟩
  · exact absurd rfl h
/-- what the program reads -/
def numL (l : List UInt8) : Int := match Lib.atoiAll l with | .ok v => if 0 ≤ v ∧ v ≤ 999999 ∧ Lib.itoa v = l then v else -1 | _ => -1
theorem atoi_dec {v : Nat} (hv : v ≤ 999999) : Lib.atoiAll (Lib.decDigits v) = .ok (v : Int) := by
  have h1 := dec_len6 5 v (by omega)
  rw [Lib.atoiAll_short _ (by omega)]
  have hs := dec_spell v
  have hne := dec_ne v
  cases hl : Lib.decDigits v with
  | nil => exact absurd hl hne
  | cons b r =>
    rw [hl] at hs
    have hb : ∃ d, Lib.digitVal b = some d := by
      simp only [Lib.decFrom] at hs
      cases hd : Lib.digitVal b with
      | none => rw [hd] at hs; cases hs
      | some d => exact ⟨d, rfl⟩
    obtain ⟨d, hd⟩ := hb
    obtain ⟨rfl, h9⟩ := digit_inv hd
    have e : (UInt8.ofNat (48 + d)).toNat = 48 + d := by rw [UInt8.toNat_ofNat']; omega
    have n1 : (UInt8.ofNat (48 + d) == 45) = false := by
      rw [beq_eq_false_iff_ne]; intro k; have := congrArg UInt8.toNat k; rw [e] at this; have e45 : (45 : UInt8).toNat = 45 := rfl; omega
    have n2 : (UInt8.ofNat (48 + d) == 43) = false := by
      rw [beq_eq_false_iff_ne]; intro k; have := congrArg UInt8.toNat k; rw [e] at this; have e43 : (43 : UInt8).toNat = 43 := rfl; omega
    unfold Lib.atoi
    simp only [n1, n2, Bool.false_eq_true, if_false]
    unfold Lib.decNat
    simp only [List.isEmpty_cons, Bool.false_eq_true, if_false]
    rw [hs]; rfl
theorem numL_eq (l : List UInt8) : numL l = rdL l := by
  by_cases h : rdL l = -1
  · rw [h]
    unfold numL
    cases ha : Lib.atoiAll l with
    | ok v =>
      simp only
      by_cases hc : 0 ≤ v ∧ v ≤ 999999 ∧ Lib.itoa v = l
      · obtain ⟨n, rfl⟩ := Int.eq_ofNat_of_zero_le hc.1
        have := rdL_of (l := l) (v := n) (by omega) (by rw [← hc.2.2, itoa_nat])
        omega
      · rw [if_neg hc]
    | _ => rfl
  · obtain ⟨v, h1, h2, h3⟩ := rdL_inv h
    rw [h3]
    unfold numL
    rw [← h2, atoi_dec h1]
    simp only
    rw [if_pos ⟨by omega, by omega, itoa_nat v⟩]
/-! ### numbers read -/
abbrev bL (s : ByteArray) : List UInt8 := s.data.toList
theorem bL_len (s : ByteArray) : (bL s).length = s.size := by
  show s.data.toList.length = s.data.size
  rw [Array.length_toList]
theorem bt_get {s : ByteArray} {i : Nat} (h : i < (bL s).length) : bt s (i : Int) = ((bL s)[i].toNat : Int) := by
  unfold bt
  rw [Int.toNat_natCast, List.getD_eq_getElem?_getD, List.getElem?_eq_getElem h]; rfl
theorem bL_inj {a b : ByteArray} (h : bL a = bL b) : a = b := by
  obtain ⟨⟨x⟩⟩ := a
  obtain ⟨⟨y⟩⟩ := b
  have h : x = y := h
  rw [h]
def ofDec : Option Nat → Int | some n => (n : Int) | none => -1
theorem num_eq {s : ByteArray} (hs : s.size ≤ 281474976710656) : i_num s = some (numL (bL s)) := by
  unfold i_num strconv_Atoi atoiF
  rw [if_pos hs, Option.bind_some]
  unfold atoiV numL
  cases ha : Lib.atoiAll (bL s) with
  | ok v =>
    simp only [Bool.not_true, cond_false]
    by_cases h1 : v < 0
    · rw [decide_eq_true h1, cond_true, if_neg (by omega)]
    · by_cases h2 : v > 999999
      · rw [decide_eq_false h1, decide_eq_true h2, cond_false, cond_true, if_neg (by omega)]
      · rw [decide_eq_false h1, decide_eq_false h2, cond_false, cond_false]
        unfold strconv_Itoa itoaF
        rw [if_pos (by omega), Option.bind_some]
        have e1 : ByteArray.toList (⟨(Lib.itoa v).toArray⟩ : ByteArray) = Lib.itoa v := by rw [ByteArray.toList_eq]
        have e2 : ByteArray.toList s = bL s := ByteArray.toList_eq s
        rw [e1, e2]
        by_cases h3 : Lib.itoa v = bL s
        · rw [if_pos ⟨by omega, by omega, h3⟩, h3, beq_self_eq_true]; rfl
        · rw [if_neg (fun c => h3 c.2.2), show (Lib.itoa v == bL s) = false from beq_eq_false_iff_ne.2 h3]; rfl
  | _ => rfl
/-! ### texts split -/
def spl (c : UInt8) : List UInt8 → List (List UInt8)
  | [] => [[]]
  | b :: r => if b = c then [] :: spl c r else match spl c r with | h :: t => (b :: h) :: t | [] => [[b]]
theorem spl_ne (c : UInt8) : ∀ l : List UInt8, spl c l ≠ []
  | [] => by simp [spl]
  | b :: r => by
    unfold spl
    split
    · simp
    · split <;> simp
theorem spl_join (c : UInt8) : ∀ l : List UInt8, Lib.join (spl c l) [c] = l
  | [] => rfl
  | b :: r => by
    have ih := spl_join c r
    unfold spl
    by_cases h : b = c
    · rw [if_pos h, h]
      cases hs : spl c r with
      | nil => exact absurd hs (spl_ne c r)
      | cons x t =>
        rw [hs, Lib.join_cons] at ih
        rw [Lib.join_cons]
        simp [Lib.joinTail] at ih ⊢
        exact ih
    · rw [if_neg h]
      cases hs : spl c r with
      | nil => exact absurd hs (spl_ne c r)
      | cons x t =>
        rw [hs, Lib.join_cons] at ih
        simp only
        rw [Lib.join_cons, List.cons_append, ih]
/-- a piece without the byte, then the byte -/
theorem spl_piece (c : UInt8) : ∀ (p r : List UInt8), c ∉ p → spl c (p ++ c :: r) = p :: spl c r
  | [], r, _ => by simp [spl]
  | b :: p, r, h => by
    have hb : ¬ b = c := fun e => h (by rw [e]; exact List.mem_cons_self)
    have ih := spl_piece c p r (fun m => h (List.mem_cons_of_mem _ m))
    rw [List.cons_append]
    conv => lhs; unfold spl
    rw [if_neg hb, ih]
theorem spl_last (c : UInt8) : ∀ p : List UInt8, c ∉ p → spl c p = [p]
  | [], _ => rfl
  | b :: p, h => by
    have hb : ¬ b = c := fun e => h (by rw [e]; exact List.mem_cons_self)
    have ih := spl_last c p (fun m => h (List.mem_cons_of_mem _ m))
    unfold spl
    rw [if_neg hb, ih]
theorem split_spl (c : UInt8) : ∀ l : List UInt8, Lib.splitK [c] 0 (Lib.count l [c]) l = spl c l
  | [] => by
    have h : Lib.count [] [c] = 0 := by rw [Lib.count_one]; rfl
    rw [h]; rfl
  | b :: r => by
    have ih := split_spl c r
    by_cases h : b = c
    · subst h
      have hix : Lib.index (b :: r) [b] = 0 := by rw [Lib.index]; simp [List.isPrefixOf]
      rw [Lib.count_cons_eq, Nat.add_comm, Lib.splitK, hix]
      unfold spl
      rw [if_pos rfl, ← ih]
      simp
    · rw [Lib.count_cons_ne b c r h]
      unfold spl
      rw [if_neg h, ← ih]
      have hp : ([c] : List UInt8).isPrefixOf (b :: r) = false := by simp [List.isPrefixOf, Ne.symm h]
      have hix : Lib.index (b :: r) [c] = if Lib.index r [c] == -1 then -1 else Lib.index r [c] + 1 := by rw [Lib.index, hp]; simp
      cases hk : Lib.count r [c] with
      | zero => rfl
      | succ k =>
        by_cases hm : Lib.index r [c] = -1
        · have := Lib.count_miss hm
          omega
        · have hge := Lib.index_ge r [c]
          obtain ⟨j, hj⟩ : ∃ j : Nat, Lib.index r [c] = j := ⟨(Lib.index r [c]).toNat, by omega⟩
          have hne : (Lib.index r [c] == -1) = false := beq_eq_false_iff_ne.2 hm
          have hne2 : (((j : Int) + 1) == -1) = false := beq_eq_false_iff_ne.2 (by omega)
          have hne3 : ((j : Int) == -1) = false := beq_eq_false_iff_ne.2 (by omega)
          rw [Lib.splitK, Lib.splitK, hix, hne]
          simp only [Bool.false_eq_true, if_false, hj, hne2, hne3]
          have e1 : ((j : Int) + 1).toNat = j + 1 := by omega
          rw [e1, Int.toNat_natCast]
          simp [Nat.add_comm]
          rw [Nat.add_comm 1 (j + 1)]
          rfl
theorem bt_eq {s : ByteArray} {i : Nat} (h : i < (bL s).length) (c : UInt8) : (bt s (i : Int) == ((c.toNat : Nat) : Int)) = decide ((bL s)[i] = c) := by
  rw [bt_get h]
  by_cases e : (bL s)[i] = c
  · rw [e, decide_eq_true rfl, beq_self_eq_true]
  · rw [decide_eq_false e, beq_eq_false_iff_ne]
    intro k
    exact e (UInt8.toNat_inj.1 (by omega))
theorem ext_bL (s : ByteArray) (a b : Nat) : bL (s.extract a b) = ((bL s).drop a).take (b - a) := Lib.extract_data s a b
/-! ### numbers between -/
theorem spl_len (c : UInt8) : ∀ (l : List UInt8), (∀ x, x ∈ spl c l → x.length ≤ l.length) ∧ (spl c l).length ≤ l.length + 1
  | [] => by simp [spl]
  | b :: r => by
    obtain ⟨h1, h2⟩ := spl_len c r
    unfold spl
    by_cases h : b = c
    · rw [if_pos h]
      refine ⟨fun x hx => ?_, by simp only [List.length_cons]; omega⟩
      rcases List.mem_cons.1 hx with e | e
      · subst e; simp
      · have := h1 x e; simp only [List.length_cons]; omega
    · rw [if_neg h]
      cases hs : spl c r with
      | nil => exact absurd hs (spl_ne c r)
      | cons y t =>
        rw [hs] at h1 h2
        simp only
        refine ⟨fun x hx => ?_, by simp only [List.length_cons] at h2 ⊢; omega⟩
        rcases List.mem_cons.1 hx with e | e
        · subst e; have := h1 y (by simp); simp only [List.length_cons]; omega
        · have := h1 x (List.mem_cons_of_mem _ e); simp only [List.length_cons]; omega
theorem pieces_bd {s : ByteArray} {c : UInt8} {ps : List ByteArray} (h : ps.map bL = spl c (bL s)) : (∀ p, p ∈ ps → p.size ≤ s.size) ∧ ps.length ≤ s.size + 1 := by
  obtain ⟨h1, h2⟩ := spl_len c (bL s)
  have e : ps.length = (spl c (bL s)).length := by rw [← h, List.length_map]
  rw [bL_len] at h1 h2
  refine ⟨fun p hp => ?_, by omega⟩
  have := h1 (bL p) (by rw [← h]; exact List.mem_map_of_mem hp)
  rw [bL_len] at this; exact this
abbrev rd (p : ByteArray) : Int := rdL (bL p)
abbrev okP (p : ByteArray) : Bool := decide (0 ≤ rd p)
theorem rdL_bd (l : List UInt8) : -1 ≤ rdL l ∧ rdL l ≤ 999999 := by
  by_cases h : rdL l = -1
  · omega
  · obtain ⟨v, h1, _, h3⟩ := rdL_inv h; omega
theorem rd_text {p : ByteArray} (h : 0 ≤ rd p) : Lib.itoa (rd p) = bL p := by
  obtain ⟨v, h1, h2, h3⟩ := rdL_inv (l := bL p) (by unfold rd at h; omega)
  unfold rd
  rw [h3, itoa_nat, h2]
/-! ### numerals and pieces, put together and read back -/
theorem dec_mem : ∀ (u : Nat) (b : UInt8), b ∈ Lib.decDigits u → ∃ m, m < 10 ∧ b = UInt8.ofNat (48 + m) := by
  intro u
  induction u using Nat.strongRecOn with
  | _ u ih =>
    intro b h
    rw [Lib.decDigits] at h
    by_cases h1 : u < 10
    · rw [dif_pos h1, List.mem_singleton] at h
      exact ⟨u, h1, h⟩
    · rw [dif_neg h1, List.mem_append, List.mem_singleton] at h
      rcases h with h | h
      · exact ih (u / 10) (by omega) b h
      · exact ⟨u % 10, by omega, h⟩
theorem itoa_no {n : Int} (h0 : 0 ≤ n) {c : UInt8} (hc : ∀ m, m < 10 → c ≠ UInt8.ofNat (48 + m)) : c ∉ Lib.itoa n := by
  obtain ⟨m, rfl⟩ := Int.eq_ofNat_of_zero_le h0
  rw [itoa_nat]
  intro hm
  obtain ⟨d, h1, h2⟩ := dec_mem m c hm
  exact hc d h1 h2
theorem no46 : ∀ m, m < 10 → (46 : UInt8) ≠ UInt8.ofNat (48 + m) := by decide
theorem no44 : ∀ m, m < 10 → (44 : UInt8) ≠ UInt8.ofNat (48 + m) := by decide
theorem rdL_itoa {n : Int} (h0 : 0 ≤ n) (h1 : n ≤ 999999) : rdL (Lib.itoa n) = n := by
  obtain ⟨m, rfl⟩ := Int.eq_ofNat_of_zero_le h0
  rw [itoa_nat]
  exact rdL_of (by omega) rfl
theorem itoa_ne {n : Int} (h0 : 0 ≤ n) : Lib.itoa n ≠ [] := by
  obtain ⟨m, rfl⟩ := Int.eq_ofNat_of_zero_le h0
  rw [itoa_nat]
  exact dec_ne m
theorem spl_of_join (c : UInt8) : ∀ (p : List UInt8) (ps : List (List UInt8)), (∀ q, q ∈ p :: ps → c ∉ q) → spl c (Lib.join (p :: ps) [c]) = p :: ps
  | p, [], h => by rw [Lib.join_one]; exact spl_last c p (h p (by simp))
  | p, q :: r, h => by
    have ih := spl_of_join c q r (fun x hx => h x (List.mem_cons_of_mem _ hx))
    have e : Lib.join (p :: q :: r) [c] = p ++ c :: Lib.join (q :: r) [c] := by
      rw [Lib.join_cons, Lib.join_cons]; simp [Lib.joinTail]
    rw [e, spl_piece c p _ (h p (by simp)), ih]
/-! ### texts cut at a byte -/
theorem cut_spl (c : UInt8) : ∀ l : List UInt8, Lib.cut l [c] = match spl c l with | [] => (l, [], false) | [_] => (l, [], false) | a :: r => (a, Lib.join r [c], true)
  | [] => rfl
  | b :: r => by
    have ih := cut_spl c r
    unfold spl
    by_cases h : b = c
    · subst h
      have hix : Lib.index (b :: r) [b] = 0 := by rw [Lib.index]; simp [List.isPrefixOf]
      rw [if_pos rfl]
      have hj := spl_join b r
      cases hs : spl b r with
      | nil => exact absurd hs (spl_ne b r)
      | cons x t =>
        rw [hs] at hj
        unfold Lib.cut
        rw [hix]
        simp [hj]
    · rw [if_neg h]
      have hp : ([c] : List UInt8).isPrefixOf (b :: r) = false := by simp [List.isPrefixOf, Ne.symm h]
      have hix : Lib.index (b :: r) [c] = if Lib.index r [c] == -1 then -1 else Lib.index r [c] + 1 := by rw [Lib.index, hp]; simp
      have hge := Lib.index_ge r [c]
      unfold Lib.cut at ih ⊢
      rw [hix]
      by_cases hm : Lib.index r [c] = -1
      · rw [hm] at ih ⊢
        simp only [beq_self_eq_true, if_true] at ih ⊢
        rw [if_neg (by omega)] at ih ⊢
        cases hs : spl c r with
        | nil => exact absurd hs (spl_ne c r)
        | cons x t =>
          rw [hs] at ih
          cases t with
          | nil => rfl
          | cons y t => simp at ih
      · obtain ⟨j, hj⟩ : ∃ j : Nat, Lib.index r [c] = j := ⟨(Lib.index r [c]).toNat, by omega⟩
        rw [hj] at ih ⊢
        have hne : (((j : Nat) : Int) == -1) = false := beq_eq_false_iff_ne.2 (by omega)
        rw [hne]
        simp only [Bool.false_eq_true, if_false]
        rw [if_pos (by omega)] at ih ⊢
        rw [show ((j : Int) + 1).toNat = j + 1 from by omega]
        rw [Int.toNat_natCast] at ih
        cases hs : spl c r with
        | nil => exact absurd hs (spl_ne c r)
        | cons x t =>
          rw [hs] at ih
          cases t with
          | nil => simp at ih
          | cons y t =>
            simp only [Prod.mk.injEq, and_true] at ih
            simp only [List.take_succ_cons]
            rw [ih.1]
            refine Prod.ext rfl (Prod.ext ?_ rfl)
            simp only
            rw [← ih.2, show j + 1 + ([c] : List UInt8).length = (j + ([c] : List UInt8).length) + 1 from by omega, List.drop_succ_cons]
theorem cut_none {c : UInt8} {l : List UInt8} (h : c ∉ l) : Lib.cut l [c] = (l, [], false) := by
  rw [cut_spl, spl_last c l h]
theorem cut_at {c : UInt8} {a r : List UInt8} (h : c ∉ a) : Lib.cut (a ++ c :: r) [c] = (a, r, true) := by
  have hj := spl_join c r
  rw [cut_spl, spl_piece c a r h]
  cases hs : spl c r with
  | nil => exact absurd hs (spl_ne c r)
  | cons x t => rw [hs] at hj; simp only; rw [hj]
/-- what a text cut tells -/
theorem cut_inv {c : UInt8} {l a r : List UInt8} {f : Bool} (h : Lib.cut l [c] = (a, r, f)) : (f = true ∧ l = a ++ c :: r ∧ c ∉ a) ∨ (f = false ∧ a = l ∧ r = [] ∧ c ∉ l) := by
  by_cases hc : c ∈ l
  · left
    obtain ⟨s, t, rfl⟩ := List.append_of_mem hc
    have : ∀ (s t : List UInt8), ∃ s' t', s ++ c :: t = s' ++ c :: t' ∧ c ∉ s' := by
      intro s
      induction s with
      | nil => intro t; exact ⟨[], t, rfl, by simp⟩
      | cons x s ih =>
        intro t
        by_cases hx : x = c
        · subst hx; exact ⟨[], s ++ x :: t, rfl, by simp⟩
        · obtain ⟨s', t', h1, h2⟩ := ih t
          exact ⟨x :: s', t', by rw [List.cons_append, h1]; rfl, by simp only [List.mem_cons, not_or]; exact ⟨fun e => hx e.symm, h2⟩⟩
    obtain ⟨s', t', h1, h2⟩ := this s t
    rw [h1, cut_at h2] at h
    cases h
    exact ⟨rfl, h1, h2⟩
  · right
    rw [cut_none hc] at h
    cases h
    exact ⟨rfl, rfl, rfl, hc⟩
/-! ### stairs' texts -/
def numsT (l : List Int) : List UInt8 := Lib.join (l.map Lib.itoa) [44]
def tS (N : Int) (D B : List Int) : List UInt8 := Lib.itoa N ++ 115 :: (numsT D ++ if B = [] then [] else 120 :: numsT B)
theorem join_two (p q : List UInt8) (r : List (List UInt8)) (c : UInt8) : Lib.join (p :: q :: r) [c] = p ++ c :: Lib.join (q :: r) [c] := by
  rw [Lib.join_cons, Lib.join_cons]; simp [Lib.joinTail]
theorem numsT_no {c : UInt8} (hc : ∀ m, m < 10 → c ≠ UInt8.ofNat (48 + m)) (h44 : c ≠ 44) : ∀ {l : List Int}, (∀ x, x ∈ l → 0 ≤ x) → c ∉ numsT l
  | [], _ => by unfold numsT; simp [Lib.join]
  | [x], h => by
    unfold numsT
    rw [List.map_cons, List.map_nil, Lib.join_one]
    exact itoa_no (h x (by simp)) hc
  | x :: y :: l, h => by
    have ih := numsT_no hc h44 (l := y :: l) (fun z hz => h z (List.mem_cons_of_mem _ hz))
    have h1 := itoa_no (h x (by simp)) hc
    unfold numsT at ih ⊢
    rw [List.map_cons, List.map_cons, join_two]
    simp only [List.mem_append, List.mem_cons, not_or]
    rw [List.map_cons] at ih
    exact ⟨h1, h44, ih⟩
theorem numsT_spl {l : List Int} (hl : l ≠ []) (h : ∀ x, x ∈ l → 0 ≤ x) : spl 44 (numsT l) = l.map Lib.itoa := by
  cases l with
  | nil => exact absurd rfl hl
  | cons x l =>
    unfold numsT
    rw [List.map_cons]
    refine spl_of_join 44 _ _ (fun q hq => ?_)
    rw [← List.map_cons] at hq
    obtain ⟨z, hz, rfl⟩ := List.mem_map.1 hq
    exact itoa_no (h z hz) no44
theorem rdL_map {l : List Int} (h : ∀ x, x ∈ l → 0 ≤ x ∧ x ≤ 999999) : (l.map Lib.itoa).map rdL = l := by
  rw [List.map_map]
  have : l.map (rdL ∘ Lib.itoa) = l.map id := List.map_congr_left fun x hx => rdL_itoa (h x hx).1 (h x hx).2
  rw [this, List.map_id]
theorem rdL_inv' {x : List UInt8} (h : 0 ≤ rdL x) : Lib.itoa (rdL x) = x := by
  obtain ⟨v, h1, h2, h3⟩ := rdL_inv (l := x) (by omega)
  rw [h3, itoa_nat, h2]
/-- numbers read are the text's -/
theorem nums_back {x : List UInt8} (h : ∀ q, q ∈ spl 44 x → 0 ≤ rdL q) : numsT ((spl 44 x).map rdL) = x := by
  have e : ((spl 44 x).map rdL).map Lib.itoa = spl 44 x := by
    rw [List.map_map]
    have : (spl 44 x).map (Lib.itoa ∘ rdL) = (spl 44 x).map id := List.map_congr_left fun q hq => rdL_inv' (h q hq)
    rw [this, List.map_id]
  unfold numsT
  rw [e, spl_join]
theorem no115 : ∀ m, m < 10 → (115 : UInt8) ≠ UInt8.ofNat (48 + m) := by decide
theorem no120 : ∀ m, m < 10 → (120 : UInt8) ≠ UInt8.ofNat (48 + m) := by decide
/-- the numbers that a text stands for, if it has -/
def stR (a d b : List UInt8) (has : Bool) : Int × List Int × List Int := (rdL a, (spl 44 d).map rdL, bif has then (spl 44 b).map rdL else [])
theorem spl_map_ne (x : List UInt8) : (spl 44 x).map rdL ≠ [] := fun e => spl_ne 44 x (List.map_eq_nil_iff.1 e)
/-- parts whose numbers are none below nought are the text of their numbers -/
theorem st_text {a d b : List UInt8} {has : Bool} (ha : 0 ≤ rdL a) (hd : ∀ q, q ∈ spl 44 d → 0 ≤ rdL q) (hb : has = true → ∀ q, q ∈ spl 44 b → 0 ≤ rdL q) :
    tS (stR a d b has).1 (stR a d b has).2.1 (stR a d b has).2.2 = a ++ 115 :: (d ++ bif has then 120 :: b else []) := by
  unfold tS stR
  simp only
  rw [rdL_inv' ha, nums_back hd]
  cases has
  · simp
  · simp only [cond_true]
    rw [if_neg (spl_map_ne b), nums_back (hb rfl)]
theorem itoa1 {n : Int} (k : Nat) (h0 : 0 ≤ n) (h1 : n < 10 ^ (k + 1)) : (Lib.itoa n).length ≤ k + 1 := by
  obtain ⟨m, rfl⟩ := Int.eq_ofNat_of_zero_le h0
  rw [itoa_nat]
  exact dec_len6 k m (by exact_mod_cast h1)
/-! ### divisors and fractions -/
theorem within_eq (x lo hi : Int) : i_within x lo hi = s_l1In x lo hi := by unfold i_within s_l1In; simp
theorem l1In_iff {x lo hi : Int} : s_l1In x lo hi = true ↔ lo ≤ x ∧ x ≤ hi := by
  unfold s_l1In
  by_cases h1 : lo ≤ x <;> by_cases h2 : x ≤ hi <;> simp [h1, h2]
theorem l1In_not {x lo hi : Int} (h : s_l1In x lo hi = false) : ¬ (lo ≤ x ∧ x ≤ hi) := fun k => by rw [l1In_iff.2 k] at h; cases h
theorem gcd_loop : ∀ (b a : Nat), i_gcd_L1 (a : Int) (b : Int) = some ((Nat.gcd a b : Nat) : Int) := by
  intro b
  induction b using Nat.strongRecOn with
  | ind b ih =>
    intro a
    rw [i_gcd_u1, i_gcd_t1]
    by_cases hb : b = 0
    · subst hb
      simp
    · have h0 : ((b : Int) == 0) = false := by rw [beq_eq_false_iff_ne]; omega
      have h1 : ((b : Int) != 0) = true := by rw [bne, h0]; rfl
      have h2 : Int.tmod (a : Int) (b : Int) = ((a % b : Nat) : Int) := by
        rw [Int.tmod_eq_emod_of_nonneg (by omega)]; rfl
      rw [h0, h1, h2]
      simp only [cond_true, cond_false]
      rw [ih (a % b) (Nat.mod_lt a (by omega)) b]
      congr 2
      rw [Nat.gcd_comm b, ← Nat.gcd_rec, Nat.gcd_comm]
theorem gcd_eq (a b : Nat) : i_gcd (a : Int) (b : Int) = some ((Nat.gcd a b : Nat) : Int) := gcd_loop b a
theorem part_eq (n d : Nat) (hd : 0 < d) (hn : n ≤ 4000000000000000000) (hd' : d ≤ 4000000000000000000) : i_part (n : Int) (d : Int) = some (((n / Nat.gcd n d : Nat) : Int), ((d / Nat.gcd n d : Nat) : Int), true) := by
  unfold i_part
  have h1 : ¬ ((d : Int) ≤ 0) := by omega
  have hg : 0 < Nat.gcd n d := Nat.gcd_pos_of_pos_right n hd
  have h2 : (((Nat.gcd n d : Nat) : Int) == 0) = false := by rw [beq_eq_false_iff_ne]; omega
  have e1 : Int.tdiv (n : Int) ((Nat.gcd n d : Nat) : Int) = ((n / Nat.gcd n d : Nat) : Int) := by rw [Int.tdiv_eq_ediv_of_nonneg (by omega)]; rfl
  have e2 : Int.tdiv (d : Int) ((Nat.gcd n d : Nat) : Int) = ((d / Nat.gcd n d : Nat) : Int) := by rw [Int.tdiv_eq_ediv_of_nonneg (by omega)]; rfl
  have b1 : n / Nat.gcd n d ≤ n := Nat.div_le_self _ _
  have b2 : d / Nat.gcd n d ≤ d := Nat.div_le_self _ _
  rw [decide_eq_false h1, gcd_eq]
  have w : ∀ q : Nat, q ≤ 4000000000000000000 → IntKind.wrap .i64 (q : Int) = q := fun q hq => wrapI (by omega) (by omega)
  simp only [cond_false, Option.bind_some, h2, e1, e2]
  rw [w _ (by omega), w _ (by omega)]
theorem part_mul (n d k : Nat) (hk : 0 < k) : (k * n) / Nat.gcd (k * n) (k * d) = n / Nat.gcd n d ∧ (k * d) / Nat.gcd (k * n) (k * d) = d / Nat.gcd n d := by
  rw [Nat.gcd_mul_left]
  exact ⟨Nat.mul_div_mul_left _ _ hk, Nat.mul_div_mul_left _ _ hk⟩
/-! ### texts of moving stairs -/
theorem bsz (l : List UInt8) : (⟨l.toArray⟩ : ByteArray).size = l.length := by show l.toArray.size = _; simp
theorem bL_mk (l : List UInt8) : bL ⟨l.toArray⟩ = l := by show l.toArray.toList = l; simp
theorem ble_b {m : Nat} (h : m ≤ 1000000) : Nat.ble m 9223372036854775807 = true := by rw [Nat.ble_eq]; omega
theorem cut_ok {s : ByteArray} (hs : s.size ≤ 3000000) (c : UInt8) : strings_Cut s { data := #[c] } = some (⟨(Lib.cut (bL s) [c]).1.toArray⟩, ⟨(Lib.cut (bL s) [c]).2.1.toArray⟩, (Lib.cut (bL s) [c]).2.2) := by
  unfold strings_Cut cutF
  rw [if_pos (by omega)]
theorem cut_lens {c : UInt8} {l a r : List UInt8} {f : Bool} (h : Lib.cut l [c] = (a, r, f)) : a.length ≤ l.length ∧ r.length ≤ l.length := by
  rcases cut_inv h with ⟨-, rfl, -⟩ | ⟨-, rfl, rfl, -⟩
  · simp only [List.length_append, List.length_cons]; omega
  · simp
theorem spl_one {c : UInt8} {l : List UInt8} (h : (spl c l).length = 1) : spl c l = [l] := by
  have hj := spl_join c l
  cases hs : spl c l with
  | nil => rw [hs] at h; cases h
  | cons x r =>
    cases r with
    | nil =>
      rw [hs, Lib.join_one] at hj
      rw [hj]
    | cons y r => rw [hs] at h; simp at h
theorem map_one {ps : List ByteArray} {x : List UInt8} (h : ps.map bL = [x]) : ∃ p, ps = [p] ∧ bL p = x := by
  cases ps with
  | nil => cases h
  | cons p r =>
    rw [List.map_cons] at h
    injection h with h1 h2
    exact ⟨p, by rw [List.map_eq_nil_iff.1 h2], h1⟩
theorem map_two {ps : List ByteArray} {x y : List UInt8} (h : ps.map bL = [x, y]) : ∃ p q, ps = [p, q] ∧ bL p = x ∧ bL q = y := by
  cases ps with
  | nil => cases h
  | cons p r =>
    rw [List.map_cons] at h
    injection h with h1 h2
    obtain ⟨q, hq, e⟩ := map_one h2
    exact ⟨p, q, by rw [hq], h1, e⟩
theorem moGood_iff {V S : Int} : s_moGood V S = true ↔ (1 ≤ V ∧ V ≤ 500) ∧ (0 ≤ S ∧ S ≤ 20) := by
  rw [← l1In_iff, ← l1In_iff]
  unfold s_moGood
  cases s_l1In V 1 500 <;> cases s_l1In S 0 20 <;> simp
theorem IsMoving_eq (V S : Int) : i_IsMoving V S = s_moGood V S := by
  unfold i_IsMoving s_moGood
  rw [within_eq, within_eq]
def mT (V S : Int) : List UInt8 := Lib.itoa V ++ 118 :: Lib.itoa S
theorem mT_len {V S : Int} (h : s_moGood V S = true) : (Lib.itoa V).length ≤ 3 ∧ (Lib.itoa S).length ≤ 2 ∧ (mT V S).length ≤ 6 := by
  obtain ⟨⟨h1, h2⟩, h3, h4⟩ := moGood_iff.1 h
  have a := itoa1 (n := V) 2 (by omega) (by omega)
  have b := itoa1 (n := S) 1 (by omega) (by omega)
  refine ⟨a, b, ?_⟩
  unfold mT
  rw [List.length_append, List.length_cons]; omega
theorem moText_ok {V S : Int} (h : s_moGood V S = true) : s_moText V S = some ⟨(mT V S).toArray⟩ := by
  obtain ⟨⟨h1, h2⟩, h3, h4⟩ := moGood_iff.1 h
  obtain ⟨l1, l2, l3⟩ := mT_len h
  have e118 : ({ data := #[118] } : ByteArray) = ⟨([118] : List UInt8).toArray⟩ := rfl
  unfold s_moText
  rw [num_ok (by omega) (by omega), num_ok (by omega) (by omega), e118]
  simp only [Option.bind_some]
  unfold itoaB
  simp only [bytes_app, bsz, List.length_append, List.length_cons, List.length_nil, Nat.zero_add]
  rw [ble_b (show (Lib.itoa V).length + 1 ≤ 1000000 by omega), ble_b (show (Lib.itoa V).length + 1 + (Lib.itoa S).length ≤ 1000000 by omega)]
  simp only [cond_true]
  unfold mT
  simp
noncomputable def mtN (V S : Int) : ByteArray × Bool := bif s_moGood V S then (⟨(mT V S).toArray⟩, true) else (⟨#[]⟩, false)
theorem MovingText_i (V S : Int) : i_MovingText V S = some (mtN V S) := by
  unfold i_MovingText mtN
  rw [IsMoving_eq]
  cases h : s_moGood V S
  · rfl
  · obtain ⟨⟨h1, h2⟩, h3, h4⟩ := moGood_iff.1 h
    obtain ⟨l1, l2, l3⟩ := mT_len h
    have e118 : ({ data := #[118] } : ByteArray) = ⟨([118] : List UInt8).toArray⟩ := rfl
    rw [itoa_ok (by omega) (by omega), itoa_ok (by omega) (by omega), e118]
    simp only [Option.bind_some, Bool.not_true, cond_false]
    unfold itoaB
    simp only [bytes_app, bsz, List.length_append, List.length_cons, List.length_nil, Nat.zero_add]
    rw [ble_b (show (Lib.itoa V).length + 1 ≤ 1000000 by omega), ble_b (show (Lib.itoa V).length + 1 + (Lib.itoa S).length ≤ 1000000 by omega)]
    simp only [cond_true]
    unfold mT
    simp
theorem no118 : ∀ m, m < 10 → (118 : UInt8) ≠ UInt8.ofNat (48 + m) := by decide
theorem no_in_rd {c : UInt8} (hc : ∀ m, m < 10 → c ≠ UInt8.ofNat (48 + m)) {x : List UInt8} (h : 0 ≤ rdL x) : c ∉ x := by
  have e := rdL_inv' h
  rw [← e]
  exact itoa_no h hc
theorem rdL_nil : ¬ 0 ≤ rdL [] := fun h => by
  have e := rdL_inv' h
  exact itoa_ne h e
noncomputable def parM (a b : List UInt8) : (Int × Int) × Bool := bif s_moGood (rdL a) (rdL b) then ((rdL a, rdL b), true) else ((0, 0), false)
theorem parM_not {a b : List UInt8} (h : s_moGood (rdL a) (rdL b) = true → False) : parM a b = ((0, 0), false) := by
  unfold parM
  cases hg : s_moGood (rdL a) (rdL b)
  · rfl
  · exact (h hg).elim
theorem mparse_i {t : ByteArray} (ht : t.size ≤ 2000000) {a b : List UInt8} {ok : Bool} (h1 : Lib.cut (bL t) [118] = (a, b, ok)) : i_ParseMoving t = some (parM a b) := by
  have hl := bL_len t
  obtain ⟨l1, l2⟩ := cut_lens h1
  unfold i_ParseMoving
  rw [cut_ok (by omega), h1]
  simp only [Option.bind_some]
  rw [num_eq (by rw [bsz]; omega), bL_mk, numL_eq, num_eq (by rw [bsz]; omega), bL_mk, numL_eq]
  simp only [Option.bind_some]
  unfold parM
  rw [IsMoving_eq]
  cases s_moGood (rdL a) (rdL b) <;> rfl
theorem good_mT {a b : List UInt8} (h : s_moGood (rdL a) (rdL b) = true) : mT (rdL a) (rdL b) = a ++ 118 :: b ∧ (a ++ 118 :: b).length ≤ 6 ∧ (118 : UInt8) ∉ a ∧ (118 : UInt8) ∉ b := by
  obtain ⟨⟨h1, h2⟩, h3, h4⟩ := moGood_iff.1 h
  have ea := rdL_inv' (x := a) (by omega)
  have eb := rdL_inv' (x := b) h3
  have e : mT (rdL a) (rdL b) = a ++ 118 :: b := by unfold mT; rw [ea, eb]
  exact ⟨e, by rw [← e]; exact (mT_len h).2.2, no_in_rd no118 (by omega), no_in_rd no118 h3⟩
theorem parM_back {t : ByteArray} {a b : List UInt8} {ok : Bool} (h1 : Lib.cut (bL t) [118] = (a, b, ok)) :
    ((parM a b).2 = true → s_moGood (parM a b).1.1 (parM a b).1.2 = true ∧ mT (parM a b).1.1 (parM a b).1.2 = bL t) ∧ (∀ V S, s_moGood V S = true → mT V S = bL t → (parM a b).1 = (V, S) ∧ (parM a b).2 = true) := by
  refine ⟨?_, ?_⟩
  · unfold parM
    cases hc : s_moGood (rdL a) (rdL b)
    · intro h; cases h
    · intro _
      refine ⟨hc, ?_⟩
      rcases cut_inv h1 with ⟨-, e, -⟩ | ⟨-, -, rfl, -⟩
      · rw [e]; exact (good_mT hc).1
      · exact absurd (moGood_iff.1 hc).2.1 rdL_nil
  · intro V S G e
    obtain ⟨⟨g1, g2⟩, g3, g4⟩ := moGood_iff.1 G
    have hc : Lib.cut (bL t) [118] = (Lib.itoa V, Lib.itoa S, true) := by
      rw [← e]
      exact cut_at (itoa_no (by omega) no118)
    rw [h1] at hc
    simp only [Prod.mk.injEq] at hc
    obtain ⟨rfl, rfl, rfl⟩ := hc
    unfold parM
    rw [rdL_itoa (by omega) (by omega), rdL_itoa (by omega) (by omega), G]
    exact ⟨rfl, rfl⟩
theorem parse_told {V S : Int} (h : s_moGood V S = true) : i_ParseMoving ⟨(mT V S).toArray⟩ = some ((V, S), true) := by
  obtain ⟨a, b, ok, h1⟩ : ∃ a b ok, Lib.cut (bL ⟨(mT V S).toArray⟩) [118] = (a, b, ok) := ⟨_, _, _, rfl⟩
  have hl := (mT_len h).2.2
  rw [mparse_i (by rw [bsz]; omega) h1]
  obtain ⟨h2, h3⟩ := (parM_back h1).2 V S h (bL_mk _).symm
  rw [show parM a b = ((parM a b).1, (parM a b).2) from rfl, h2, h3]
/-! ### fractions in lowest terms -/
def frN (n d : Int) : Int := ((n.toNat / Nat.gcd n.toNat d.toNat : Nat) : Int)
def frD (n d : Int) : Int := ((d.toNat / Nat.gcd n.toNat d.toNat : Nat) : Int)
/-- x/y is n/d, in lowest terms -/
structure IsFr (x y n d : Int) : Prop where
  cr : x * d = n * y
  x0 : 0 ≤ x
  xn : x ≤ n
  y1 : 1 ≤ y
  yd : y ≤ d
  d1 : 0 < d
  lo : Nat.gcd x.toNat y.toNat = 1
theorem fr_is {n d : Int} (hn : 0 ≤ n) (hd : 0 < d) : IsFr (frN n d) (frD n d) n d := by
  obtain ⟨m, rfl⟩ : ∃ m : Nat, n = m := ⟨n.toNat, by omega⟩
  obtain ⟨e, rfl⟩ : ∃ e : Nat, d = e := ⟨d.toNat, by omega⟩
  have he : 0 < e := by omega
  have hg : 0 < Nat.gcd m e := Nat.gcd_pos_of_pos_right m he
  have g1 := Nat.gcd_dvd_left m e
  have g2 := Nat.gcd_dvd_right m e
  have e1 := Nat.div_mul_cancel g1
  have e2 := Nat.div_mul_cancel g2
  have b1 : m / Nat.gcd m e ≤ m := Nat.div_le_self _ _
  have b2 : e / Nat.gcd m e ≤ e := Nat.div_le_self _ _
  have b3 : 0 < e / Nat.gcd m e := Nat.div_pos (Nat.le_of_dvd he g2) hg
  unfold frN frD
  simp only [Int.toNat_natCast]
  refine ⟨?_, Int.natCast_nonneg _, Int.ofNat_le.2 b1, Int.ofNat_le.2 b3, Int.ofNat_le.2 b2, by omega, ?_⟩
  · have : m / Nat.gcd m e * e = m * (e / Nat.gcd m e) := by
      generalize m / Nat.gcd m e = p at *
      generalize e / Nat.gcd m e = q at *
      rw [← e1]
      conv => lhs; rw [← e2]
      rw [Nat.mul_assoc, Nat.mul_comm (Nat.gcd m e) q]
    exact_mod_cast this
  · simp only [Int.toNat_natCast]
    exact Nat.coprime_div_gcd_div_gcd hg
theorem fr_mul {n d k : Int} (hk : 0 < k) (hn : 0 ≤ n) (hd : 0 < d) : frN (k * n) (k * d) = frN n d ∧ frD (k * n) (k * d) = frD n d := by
  obtain ⟨m, rfl⟩ : ∃ m : Nat, n = m := ⟨n.toNat, by omega⟩
  obtain ⟨e, rfl⟩ : ∃ e : Nat, d = e := ⟨d.toNat, by omega⟩
  obtain ⟨j, rfl⟩ : ∃ j : Nat, k = j := ⟨k.toNat, by omega⟩
  unfold frN frD
  have e1 : ((j : Int) * (m : Int)).toNat = j * m := by rw [← Int.natCast_mul, Int.toNat_natCast]
  have e2 : ((j : Int) * (e : Int)).toNat = j * e := by rw [← Int.natCast_mul, Int.toNat_natCast]
  rw [e1, e2, Nat.gcd_mul_left]
  simp only [Int.toNat_natCast]
  rw [Nat.mul_div_mul_left _ _ (by omega : 0 < j), Nat.mul_div_mul_left _ _ (by omega : 0 < j)]
  exact ⟨rfl, rfl⟩
theorem fr_one {n : Int} (hn : 0 ≤ n) : frN n 1 = n ∧ frD n 1 = 1 := by
  unfold frN frD
  have e : (1 : Int).toNat = 1 := rfl
  rw [e, Nat.gcd_one_right, Nat.div_one]
  exact ⟨by omega, rfl⟩
theorem fr_den1 {x y n d : Int} (h : IsFr x y n d) : y = 1 ↔ n % d = 0 := by
  have hc := h.cr
  have := h.d1
  constructor
  · rintro rfl
    rw [Int.mul_one] at hc
    rw [← hc]; exact Int.mul_emod_left _ _
  · intro hm
    obtain ⟨q, hq⟩ := Int.dvd_of_emod_eq_zero hm
    have e : x = q * y := by
      apply Int.eq_of_mul_eq_mul_right (show d ≠ 0 by omega)
      rw [hc, hq]; grind
    have hd : (y.toNat) ∣ (x.toNat) := by
      have := h.y1
      have := h.x0
      have hq0 : 0 ≤ q := by
        apply Int.not_lt.1
        intro hneg
        have := Int.mul_neg_of_neg_of_pos hneg (show 0 < y by omega)
        omega
      refine ⟨q.toNat, ?_⟩
      apply Int.ofNat.inj
      show (x.toNat : Int) = ((y.toNat * q.toNat : Nat) : Int)
      rw [Int.natCast_mul, Int.toNat_of_nonneg (by omega), Int.toNat_of_nonneg (by omega), Int.toNat_of_nonneg hq0, e, Int.mul_comm]
    have := h.lo
    rw [Nat.gcd_eq_right hd] at this
    omega
/-- bounds of products -/
theorem mul_bd {a b A B : Int} (h : 0 ≤ a ∧ a ≤ A) (h' : 0 ≤ b ∧ b ≤ B) : 0 ≤ a * b ∧ a * b ≤ A * B :=
  ⟨Int.mul_nonneg h.1 h'.1, Int.mul_le_mul h.2 h'.2 h'.1 (by omega)⟩
theorem canc {a b d : Int} (hd : 0 < d) (h : a * d = b * d) : a = b := Int.eq_of_mul_eq_mul_right (by omega) h
theorem canc_le {a b d : Int} (hd : 0 < d) (h : a * d ≤ b * d) : a ≤ b := Int.le_of_mul_le_mul_right h hd
/-! the laws of the moving stairs, in numbers -/
theorem mv_step {step part V S up down t den : Int} (h1 : IsFr step part ((S + up) * V) (2 * S + up + down)) (h2 : IsFr t den V (2 * S + up + down)) : step * den = (S + up) * t * part := by
  have := h1.d1
  have c1 := h1.cr
  have c2 := h2.cr
  apply canc h1.d1
  grind
theorem mv_two {step part back low V S up down : Int} (h1 : IsFr step part ((S + up) * V) (2 * S + up + down)) (h2 : IsFr back low ((S + down) * V) (2 * S + down + up)) : step * low + back * part = V * part * low := by
  have c1 := h1.cr
  have c2 := h2.cr
  apply canc h1.d1
  grind
theorem mv_catch {when_ low V S slow n d e f : Int} (h1 : IsFr when_ low n d) (h2 : IsFr e f V (S + slow)) (h : (S + slow) * n ≤ V * d) : (S + slow) * when_ ≤ V * low ∧ when_ * f ≤ e * low := by
  have c1 := h1.cr
  have c2 := h2.cr
  have a1 : (S + slow) * when_ ≤ V * low := by
    apply canc_le h1.d1
    have e1 : (S + slow) * when_ * d = (S + slow) * n * low := by grind
    have e2 : V * low * d = V * d * low := by grind
    rw [e1, e2]
    exact Int.mul_le_mul_of_nonneg_right h (by have := h1.y1; omega)
  refine ⟨a1, ?_⟩
  apply canc_le h2.d1
  have e1 : when_ * f * (S + slow) = (S + slow) * when_ * f := by grind
  have e2 : e * low * (S + slow) = V * low * f := by grind
  rw [e1, e2]
  exact Int.mul_le_mul_of_nonneg_right a1 (by have := h2.y1; omega)
theorem mv_catch0 {when_ low V S slow n d : Int} (h1 : IsFr when_ low n d) (h : (S + slow) * n ≤ V * d) : (S + slow) * when_ ≤ V * low := by
  have c1 := h1.cr
  apply canc_le h1.d1
  have e1 : (S + slow) * when_ * d = (S + slow) * n * low := by grind
  have e2 : V * low * d = V * d * low := by grind
  rw [e1, e2]
  exact Int.mul_le_mul_of_nonneg_right h (by have := h1.y1; omega)
theorem mv_rail {lead b t f V S p r : Int} (h1 : IsFr lead b ((r - S - p) * V) (S + p)) (h2 : IsFr t f V (S + p)) : lead * f = (r - S - p) * t * b := by
  have c1 := h1.cr
  have c2 := h2.cr
  apply canc h1.d1
  grind
theorem mv_taken {x y t den V S p : Int} (h1 : IsFr x y (p * V) (S + p)) (h2 : IsFr t den V (S + p)) : x * den = p * t * y := by
  have c1 := h1.cr
  have c2 := h2.cr
  apply canc h1.d1
  grind
theorem mv_round {x y t den V d : Int} (h1 : IsFr x y (2 * V) d) (h2 : IsFr t den V d) : x * den = 2 * t * y := by
  have c1 := h1.cr
  have c2 := h2.cr
  apply canc h1.d1
  grind
theorem mv_pace {x V S p a b : Int} (h1 : IsFr x 1 (p * V) (S + p)) (h2 : IsFr a b (x * S) (V - x)) : a = p * b := by
  have c1 := h1.cr
  have c2 := h2.cr
  apply canc h2.d1
  grind
theorem mv_last {t den V d : Int} (h : IsFr t den V d) : V ≤ d * ((t + den - 1) / den) := by
  have c := h.cr
  have y1 := h.y1
  have e := Int.emod_add_mul_ediv (t + den - 1) den
  have m := Int.emod_lt_of_pos (t + den - 1) (show 0 < den by omega)
  generalize (t + den - 1) / den = q at *
  have hq : t ≤ den * q := by omega
  apply canc_le (show 0 < den by omega)
  rw [← c]
  have e2 : d * q * den = den * q * d := by grind
  rw [e2]
  exact Int.mul_le_mul_of_nonneg_right hq (by have := h.d1; omega)
theorem mv_against {x y back low V S p : Int} (h1 : IsFr x y (p * V) (p - S)) (h2 : IsFr back low V (p - S)) : x * low = p * back * y := by
  have c1 := h1.cr
  have c2 := h2.cr
  apply canc h1.d1
  grind
theorem mv_slower {back low t den V S p : Int} (h1 : IsFr back low V (p - S)) (h2 : IsFr t den V (S + p)) (hS : 0 ≤ S) : t * low ≤ back * den := by
  have c1 := h1.cr
  have c2 := h2.cr
  apply canc_le h2.d1
  have e1 : t * low * (S + p) = V * den * low := by grind
  rw [e1]
  have e2 : V * den * low = back * den * (p - S) := by grind
  rw [e2]
  exact Int.mul_le_mul_of_nonneg_left (by omega) (Int.mul_nonneg h1.x0 (by have := h2.y1; omega))
theorem mv_both {x st n k V S p : Int} (h1 : IsFr x 1 (p * V) (S + p)) (h2 : IsFr st 1 (p * V) (p - S)) (h3 : IsFr n k (2 * x * st) (x + st)) (hp : 0 < p) : n = V * k := by
  have c1 := h1.cr
  have c2 := h2.cr
  have c3 := h3.cr
  apply canc h3.d1
  apply canc hp
  grind
theorem mv_visible {n k fast f x y p q : Int} (h1 : IsFr n k (x * y * (q - p)) (x * q - y * p)) (h2 : IsFr fast f ((y - x) * p * q) (x * q - y * p)) : n * p * f = x * (p * f + fast) * k ∧ n * q * f = y * (q * f + fast) * k := by
  have c1 := h1.cr
  have c2 := h2.cr
  constructor
  · apply canc h1.d1
    grind
  · apply canc h1.d1
    grind
theorem mv_mean {b h w a : Int} (h1 : IsFr b h (2 * w * a) (w + a)) (hw : 0 ≤ w) (ha : w ≤ a) : w * h ≤ b ∧ b ≤ a * h := by
  have c := h1.cr
  have y1 := h1.y1
  constructor
  · apply canc_le h1.d1
    have e : b * (w + a) = w * h * (2 * a) := by grind
    rw [e]
    exact Int.mul_le_mul_of_nonneg_left (by omega) (Int.mul_nonneg hw (by omega))
  · apply canc_le h1.d1
    have e : b * (w + a) = a * h * (2 * w) := by grind
    rw [e]
    exact Int.mul_le_mul_of_nonneg_left (by omega) (Int.mul_nonneg (by omega) (by omega))
theorem mv_walk {w j V S n : Int} (h : IsFr w j (n * S) (V - n)) : w * V = n * (S * j + w) := by
  have c := h.cr
  grind
/-! ### numbers of which something holds -/
def numF (f : Nat → Bool) (n d : Nat) : List Int := ((List.range' n d).filter f).map (fun k : Nat => (k : Int))
theorem numF_zero (f : Nat → Bool) (n : Nat) : numF f n 0 = [] := rfl
theorem numF_succ (f : Nat → Bool) (n d : Nat) : numF f n (d + 1) = (bif f n then [(n : Int)] else []) ++ numF f (n + 1) d := by
  unfold numF
  rw [List.range'_succ, List.filter_cons]
  cases h : f n
  · simp
  · simp
theorem numF_mem {f : Nat → Bool} {n d : Nat} {x : Int} : x ∈ numF f n d ↔ ∃ k : Nat, (n ≤ k ∧ k < n + d) ∧ f k = true ∧ x = k := by
  unfold numF
  rw [List.mem_map]
  constructor
  · rintro ⟨k, hk, rfl⟩
    obtain ⟨h1, h2⟩ := List.mem_filter.1 hk
    exact ⟨k, List.mem_range'_1.1 h1, h2, rfl⟩
  · rintro ⟨k, h1, h2, rfl⟩
    exact ⟨k, List.mem_filter.2 ⟨List.mem_range'_1.2 h1, h2⟩, rfl⟩
theorem numF_nat {f : Nat → Bool} {n d k : Nat} : (k : Int) ∈ numF f n d ↔ (n ≤ k ∧ k < n + d) ∧ f k = true := by
  rw [numF_mem]
  constructor
  · rintro ⟨j, h1, h2, h3⟩
    rw [show k = j from by omega]; exact ⟨h1, h2⟩
  · rintro ⟨h1, h2⟩
    exact ⟨k, h1, h2, rfl⟩
theorem numF_len (f : Nat → Bool) (n d : Nat) : (numF f n d).length ≤ d := by
  unfold numF
  rw [List.length_map]
  refine Nat.le_trans (List.length_filter_le _ _) ?_
  rw [List.length_range']; exact Nat.le_refl _
theorem numF_pw (f : Nat → Bool) (n d : Nat) : (numF f n d).Pairwise (· < ·) := by
  unfold numF
  rw [List.pairwise_map]
  exact (List.Pairwise.filter _ List.pairwise_lt_range').imp fun {a b} h => by omega
theorem numF_congr {f g : Nat → Bool} {n d : Nat} (h : ∀ k, n ≤ k → k < n + d → f k = g k) : numF f n d = numF g n d := by
  unfold numF
  congr 1
  exact List.filter_congr fun k hk => by have := List.mem_range'_1.1 hk; exact h k this.1 this.2
/-- two lists that rise and have the same members are the same -/
theorem pw_ext : ∀ {l m : List Int}, l.Pairwise (· < ·) → m.Pairwise (· < ·) → (∀ x, x ∈ l ↔ x ∈ m) → l = m
  | [], [], _, _, _ => rfl
  | [], y :: m, _, _, h => absurd ((h y).2 (by simp)) (by simp)
  | x :: l, [], _, _, h => absurd ((h x).1 (by simp)) (by simp)
  | x :: l, y :: m, hl, hm, h => by
    obtain ⟨l1, l2⟩ := List.pairwise_cons.1 hl
    obtain ⟨m1, m2⟩ := List.pairwise_cons.1 hm
    have e : x = y := by
      have a := (h x).1 (by simp)
      have b := (h y).2 (by simp)
      rcases List.mem_cons.1 a with a | a
      · exact a
      · rcases List.mem_cons.1 b with b | b
        · exact b.symm
        · have := m1 x a; have := l1 y b; omega
    subst e
    rw [pw_ext l2 m2 (fun z => ?_)]
    constructor
    · intro hz
      rcases List.mem_cons.1 ((h z).1 (List.mem_cons_of_mem _ hz)) with e | e
      · have := l1 z hz; omega
      · exact e
    · intro hz
      rcases List.mem_cons.1 ((h z).2 (List.mem_cons_of_mem _ hz)) with e | e
      · have := m1 z hz; omega
      · exact e
/-- a row that goes up changes no more often than it rises -/
theorem joins_cnt (g : Nat → Int) : ∀ d : Nat, (∀ i, i < d → g i ≤ g (i + 1)) → (((List.range' 1 d).filter (fun i => !(g i == g (i - 1)))).length : Int) ≤ g d - g 0
  | 0, _ => by simp
  | d + 1, h => by
    have ih := joins_cnt g d (fun i hi => h i (by omega))
    have hd := h d (by omega)
    rw [List.range'_1_concat, List.filter_append, List.length_append]
    rw [show 1 + d = d + 1 from by omega]
    by_cases c : g (d + 1) = g d
    · have : [d + 1].filter (fun i => !(g i == g (i - 1))) = [] := by simp [c]
      rw [this, List.length_nil]; omega
    · have : ([d + 1].filter (fun i => !(g i == g (i - 1)))).length ≤ 1 := List.length_filter_le _ _
      omega
/-! ### what the moving stairs' functions come to -/
theorem low_loop (n d : Int) (hn : 0 ≤ n) (hn' : n ≤ 4000000000000000000) (hd : 0 ≤ d) (hd' : d ≤ 4000000000000000000) : ∀ (b a : Nat), 0 < Nat.gcd a b → Nat.gcd a b ≤ 4000000000000000000 → s_moLow_L1 n d (a : Int) (b : Int) = some (n / ((Nat.gcd a b : Nat) : Int), d / ((Nat.gcd a b : Nat) : Int)) := by
  intro b
  induction b using Nat.strongRecOn with
  | ind b ih =>
    intro a hg hg'
    rw [s_moLow_u1, s_moLow_t1]
    by_cases hb : b = 0
    · subst hb
      rw [Nat.gcd_zero_right] at hg hg' ⊢
      have h0 : ((a : Int) == 0) = false := by rw [beq_eq_false_iff_ne]; omega
      have e1 : n / (a : Int) ≤ n := Int.ediv_le_self _ hn
      have e2 : d / (a : Int) ≤ d := Int.ediv_le_self _ hd
      have e3 : 0 ≤ n / (a : Int) := Int.ediv_nonneg hn (by omega)
      have e4 : 0 ≤ d / (a : Int) := Int.ediv_nonneg hd (by omega)
      rw [decide_eq_false (by omega), h0, Int.tdiv_eq_ediv_of_nonneg hn, Int.tdiv_eq_ediv_of_nonneg hd, wrapI (by omega) (by omega), wrapI (by omega) (by omega)]
      rfl
    · have h0 : ((b : Int) == 0) = false := by rw [beq_eq_false_iff_ne]; omega
      have h2 : Int.tmod (a : Int) (b : Int) = ((a % b : Nat) : Int) := by
        rw [Int.tmod_eq_emod_of_nonneg (by omega)]; rfl
      have e : Nat.gcd a b = Nat.gcd b (a % b) := by rw [Nat.gcd_comm b, ← Nat.gcd_rec, Nat.gcd_comm]
      rw [decide_eq_true (by omega), h0, h2, cond_true, cond_false, e]
      exact ih (a % b) (Nat.mod_lt a (by omega)) b (by rw [← e]; exact hg) (by rw [← e]; exact hg')
theorem moLow_fr {n d : Int} (hn : 0 ≤ n) (hn' : n ≤ 4000000000000000000) (hd : 0 < d) (hd' : d ≤ 4000000000000000000) : s_moLow n d = some (frN n d, frD n d) := by
  obtain ⟨n, rfl⟩ := Int.eq_ofNat_of_zero_le hn
  obtain ⟨d, rfl⟩ := Int.eq_ofNat_of_zero_le (Int.le_of_lt hd)
  have hg : 0 < Nat.gcd n d := Nat.gcd_pos_of_pos_right n (by omega)
  have hg' : Nat.gcd n d ≤ d := Nat.gcd_le_right _ (by omega)
  unfold s_moLow s_moLow_t0 frN frD
  exact low_loop n d (by omega) (by omega) (by omega) (by omega) d n hg (by omega)
theorem part_fr {n d : Int} (hn : 0 ≤ n) (hn' : n ≤ 4000000000000000000) (hd : 0 < d) (hd' : d ≤ 4000000000000000000) : i_part n d = some (frN n d, frD n d, true) := by
  obtain ⟨n, rfl⟩ := Int.eq_ofNat_of_zero_le hn
  obtain ⟨d, rfl⟩ := Int.eq_ofNat_of_zero_le (Int.le_of_lt hd)
  rw [part_eq n d (by omega) (by omega) (by omega)]
  rfl
theorem part_no {n d : Int} (hd : d ≤ 0) : i_part n d = some (0, 0, false) := by
  unfold i_part
  rw [decide_eq_true hd]; rfl
/-- a fraction, if it is told -/
noncomputable def frF (c : Bool) (n d : Int) : Int × Int × Bool := bif c then (frN n d, frD n d, true) else (0, 0, false)
theorem frF_no (n d : Int) : frF false n d = (0, 0, false) := rfl
theorem frF_yes (n d : Int) : frF true n d = (frN n d, frD n d, true) := rfl
theorem frF_of {c : Bool} {n d : Int} (h : (frF c n d).2.2 = true) : c = true ∧ frF c n d = (frN n d, frD n d, true) := by
  cases c
  · cases h
  · exact ⟨rfl, rfl⟩
theorem lLow_loop : ∀ (b a : Nat), w_lLow_L1 (a : Int) (b : Int) = some ((((Nat.gcd a b : Nat) : Int)) == 1) := by
  intro b
  induction b using Nat.strongRecOn with
  | ind b ih =>
    intro a
    rw [w_lLow_u1, w_lLow_t1]
    by_cases hb : b = 0
    · subst hb
      rw [decide_eq_false (by omega), Nat.gcd_zero_right]; rfl
    · have h0 : ((b : Int) == 0) = false := by rw [beq_eq_false_iff_ne]; omega
      have h2 : Int.tmod (a : Int) (b : Int) = ((a % b : Nat) : Int) := by
        rw [Int.tmod_eq_emod_of_nonneg (by omega)]; rfl
      have e : Nat.gcd a b = Nat.gcd b (a % b) := by rw [Nat.gcd_comm b, ← Nat.gcd_rec, Nat.gcd_comm]
      rw [decide_eq_true (by omega), h0, h2, cond_true, cond_false, e]
      exact ih (a % b) (Nat.mod_lt a (by omega)) b
theorem lLow_ok {x y n d : Int} (h : IsFr x y n d) : w_lLow x y = some true := by
  obtain ⟨m, rfl⟩ := Int.eq_ofNat_of_zero_le h.x0
  obtain ⟨k, rfl⟩ := Int.eq_ofNat_of_zero_le (Int.le_trans (by decide) h.y1)
  have hy := h.y1
  have hl := h.lo
  simp only [Int.toNat_natCast] at hl
  unfold w_lLow w_lLow_t0
  rw [decide_eq_false (show ¬ (m : Int) < 0 by omega), decide_eq_false (show ¬ (k : Int) < 1 by omega), lLow_loop, hl]; rfl
theorem lIs_ok {x y n d a b : Int} (h : IsFr x y n d) (e : x * b = a * y) : w_lIs x y a b = some true := by
  unfold w_lIs
  rw [lLow_ok h, e]
  simp
/-- what is asked: a moving stair and a pace -/
noncomputable def askM (V S p : Int) : Bool := s_moGood V S && s_l1In p 0 20
theorem moAsked_eq (V S p : Int) : s_moAsked V S p = askM V S p := by
  unfold s_moAsked askM
  cases s_moGood V S <;> rfl
theorem isPace_eq (p : Int) : i_isPace p = s_l1In p 0 20 := by
  unfold i_isPace
  exact within_eq p 0 20
structure AskM (V S p : Int) : Prop where
  v1 : 1 ≤ V
  v2 : V ≤ 500
  s1 : 0 ≤ S
  s2 : S ≤ 20
  p1 : 0 ≤ p
  p2 : p ≤ 20
theorem ask_of {V S p : Int} (h : askM V S p = true) : AskM V S p := by
  unfold askM at h
  rw [Bool.and_eq_true] at h
  obtain ⟨⟨h1, h2⟩, h3, h4⟩ := moGood_iff.1 h.1
  have h5 := l1In_iff.1 h.2
  exact ⟨h1, h2, h3, h4, h5.1, h5.2⟩
theorem ask_mul {V S p : Int} (a : AskM V S p) : 0 ≤ p * V ∧ p * V ≤ 20 * 500 := mul_bd ⟨a.p1, a.p2⟩ ⟨by have := a.v1; omega, a.v2⟩
/-! ### moving stairs: what both laws ask -/
theorem ask_no {V S p : Int} (h : s_moGood V S = false) : askM V S p = false := by unfold askM; rw [h]; rfl
theorem ask_no2 {V S p : Int} (h : s_l1In p 0 20 = false) : askM V S p = false := by unfold askM; rw [h, Bool.and_false]
theorem ask_yes {V S p : Int} (h : s_moGood V S = true) (h' : s_l1In p 0 20 = true) : askM V S p = true := by unfold askM; rw [h, h']; rfl
theorem way_bd {V S u : Int} (a : AskM V S u) : 0 ≤ (S + u) * V ∧ (S + u) * V ≤ 40 * 500 := mul_bd (by have := a.s1; have := a.s2; have := a.p1; have := a.p2; omega) (by have := a.v1; have := a.v2; omega)
theorem TimeWith_i (V S p : Int) : i_TimeWith V S p = some (frF (askM V S p && decide (0 < S + p)) V (S + p)) := by
  unfold i_TimeWith
  rw [IsMoving_eq, isPace_eq]
  cases hg : s_moGood V S
  · rw [ask_no hg]; rfl
  · cases hu : s_l1In p 0 20
    · rw [ask_no2 hu]; rfl
    · have A := ask_of (ask_yes hg hu)
      have v1 := A.v1; have v2 := A.v2; have s1 := A.s1; have s2 := A.s2; have p1 := A.p1; have p2 := A.p2
      rw [ask_yes hg hu]
      simp only [Bool.not_true, cond_false, Bool.true_and]
      rw [wrapI (by omega) (by omega)]
      by_cases h : 0 < S + p
      · rw [part_fr (by omega) (by omega) h (by omega), decide_eq_true h]; rfl
      · rw [part_no (by omega), decide_eq_false h]; rfl
noncomputable def plN (V S p t : Int) : Int × Bool := bif askM V S p && s_l1In t 0 1000 then ((if (S + p) * t < V then (S + p) * t else V), true) else (0, false)
theorem pl_bd {V S p t : Int} (a : AskM V S p) (h : 0 ≤ t ∧ t ≤ 1000) : 0 ≤ (S + p) * t ∧ (S + p) * t ≤ 40 * 1000 := mul_bd (by have := a.s1; have := a.s2; have := a.p1; have := a.p2; omega) h
theorem PlaceAt_i (V S p t : Int) : i_PlaceAt V S p t = plN V S p t := by
  unfold i_PlaceAt plN
  rw [IsMoving_eq, isPace_eq, within_eq]
  cases hg : s_moGood V S
  · rw [ask_no hg]; rfl
  · cases hu : s_l1In p 0 20
    · rw [ask_no2 hu]; rfl
    · rw [ask_yes hg hu]
      cases ht : s_l1In t 0 1000
      · rfl
      · have A := ask_of (ask_yes hg hu)
        have ht := l1In_iff.1 ht
        have B := pl_bd A ht
        have v1 := A.v1; have v2 := A.v2; have s1 := A.s1; have s2 := A.s2; have p1 := A.p1; have p2 := A.p2
        rw [wrapI (n := S + p) (by omega) (by omega), wrapI (by omega) (by omega)]
        by_cases h : (S + p) * t < V
        · rw [decide_eq_true h, if_pos h]; rfl
        · rw [decide_eq_false h, if_neg h]; rfl
/-! ### moving stairs that are timed -/
theorem MovingText_s (V S : Int) : s_MovingText V S = some (mtN V S) := by
  unfold s_MovingText mtN
  cases h : s_moGood V S
  · rfl
  · rw [moText_ok h]; rfl
theorem IsMoving_s (V S : Int) : s_IsMoving V S = s_moGood V S := rfl
theorem TimeWith_s (V S p : Int) : s_TimeWith V S p = some (frF (askM V S p && decide (0 < S + p)) V (S + p)) := by
  unfold s_TimeWith
  rw [moAsked_eq]
  cases ha : askM V S p
  · rfl
  · have A := ask_of ha
    have v1 := A.v1; have v2 := A.v2; have s1 := A.s1; have s2 := A.s2; have p1 := A.p1; have p2 := A.p2
    simp only [Bool.not_true, cond_false, Bool.true_and]
    rw [wrapI (by omega) (by omega)]
    by_cases h : 0 < S + p
    · rw [moLow_fr (by omega) (by omega) h (by omega), decide_eq_true h, show (S + p == 0) = false from beq_eq_false_iff_ne.2 (by omega)]; rfl
    · rw [decide_eq_false h, show (S + p == 0) = true from beq_iff_eq.2 (by omega)]; rfl
theorem StepsWith_two (V S p : Int) : i_StepsWith V S p = some (frF (askM V S p && decide (0 < S + p)) (p * V) (S + p)) ∧ s_StepsWith V S p = some (frF (askM V S p && decide (0 < S + p)) (p * V) (S + p)) := by
  unfold i_StepsWith s_StepsWith
  rw [IsMoving_eq, isPace_eq, moAsked_eq]
  cases hg : s_moGood V S
  · rw [ask_no hg]; exact ⟨rfl, rfl⟩
  · cases hu : s_l1In p 0 20
    · rw [ask_no2 hu]; exact ⟨rfl, rfl⟩
    · have A := ask_of (ask_yes hg hu)
      have W := ask_mul A
      have v1 := A.v1; have v2 := A.v2; have s1 := A.s1; have s2 := A.s2; have p1 := A.p1; have p2 := A.p2
      rw [ask_yes hg hu]
      simp only [Bool.not_true, cond_false, Bool.true_and]
      rw [wrapI (n := S + p) (by omega) (by omega), Int.mul_comm V p, wrapI (n := p * V) (by omega) (by omega)]
      by_cases h : 0 < S + p
      · rw [part_fr (by omega) (by omega) h (by omega), moLow_fr (by omega) (by omega) h (by omega), decide_eq_true h, show (S + p == 0) = false from beq_eq_false_iff_ne.2 (by omega)]; exact ⟨rfl, rfl⟩
      · rw [part_no (by omega), decide_eq_false h, show (S + p == 0) = true from beq_iff_eq.2 (by omega)]; exact ⟨rfl, rfl⟩
theorem RoundTrip_two (V S p : Int) : i_RoundTrip V S p = some (frF (askM V S p && decide (0 < S + p)) (2 * V) (S + p)) ∧ s_RoundTrip V S p = some (frF (askM V S p && decide (0 < S + p)) (2 * V) (S + p)) := by
  unfold i_RoundTrip s_RoundTrip
  rw [IsMoving_eq, isPace_eq, moAsked_eq]
  cases hg : s_moGood V S
  · rw [ask_no hg]; exact ⟨rfl, rfl⟩
  · cases hu : s_l1In p 0 20
    · rw [ask_no2 hu]; exact ⟨rfl, rfl⟩
    · have A := ask_of (ask_yes hg hu)
      have v1 := A.v1; have v2 := A.v2; have s1 := A.s1; have s2 := A.s2; have p1 := A.p1; have p2 := A.p2
      rw [ask_yes hg hu]
      simp only [Bool.not_true, cond_false, Bool.true_and]
      rw [wrapI (n := S + p) (by omega) (by omega), wrapI (n := 2 * V) (by omega) (by omega)]
      by_cases h : 0 < S + p
      · rw [part_fr (by omega) (by omega) h (by omega), moLow_fr (by omega) (by omega) h (by omega), decide_eq_true h, show (S + p == 0) = false from beq_eq_false_iff_ne.2 (by omega)]; exact ⟨rfl, rfl⟩
      · rw [part_no (by omega), decide_eq_false h, show (S + p == 0) = true from beq_iff_eq.2 (by omega)]; exact ⟨rfl, rfl⟩
theorem TimeAgainst_two (V S p : Int) : i_TimeAgainst V S p = some (frF (askM V S p && decide (S < p)) V (p - S)) ∧ s_TimeAgainst V S p = some (frF (askM V S p && decide (S < p)) V (p - S)) := by
  unfold i_TimeAgainst s_TimeAgainst
  rw [IsMoving_eq, isPace_eq, moAsked_eq]
  cases hg : s_moGood V S
  · rw [ask_no hg]; exact ⟨rfl, rfl⟩
  · cases hu : s_l1In p 0 20
    · rw [ask_no2 hu]; exact ⟨rfl, rfl⟩
    · have A := ask_of (ask_yes hg hu)
      have v1 := A.v1; have v2 := A.v2; have s1 := A.s1; have s2 := A.s2; have p1 := A.p1; have p2 := A.p2
      rw [ask_yes hg hu]
      simp only [Bool.not_true, cond_false, Bool.true_and]
      rw [wrapI (n := p - S) (by omega) (by omega)]
      by_cases h : S < p
      · rw [part_fr (by omega) (by omega) (by omega) (by omega), moLow_fr (by omega) (by omega) (by omega) (by omega), decide_eq_true h, decide_eq_false (show ¬ p ≤ S by omega)]; exact ⟨rfl, rfl⟩
      · rw [part_no (by omega), decide_eq_false h, decide_eq_true (show p ≤ S by omega)]; exact ⟨rfl, rfl⟩
theorem StepsAgainst_two (V S p : Int) : i_StepsAgainst V S p = some (frF (askM V S p && decide (S < p)) (p * V) (p - S)) ∧ s_StepsAgainst V S p = some (frF (askM V S p && decide (S < p)) (p * V) (p - S)) := by
  unfold i_StepsAgainst s_StepsAgainst
  rw [IsMoving_eq, isPace_eq, moAsked_eq]
  cases hg : s_moGood V S
  · rw [ask_no hg]; exact ⟨rfl, rfl⟩
  · cases hu : s_l1In p 0 20
    · rw [ask_no2 hu]; exact ⟨rfl, rfl⟩
    · have A := ask_of (ask_yes hg hu)
      have W := ask_mul A
      have v1 := A.v1; have v2 := A.v2; have s1 := A.s1; have s2 := A.s2; have p1 := A.p1; have p2 := A.p2
      rw [ask_yes hg hu]
      simp only [Bool.not_true, cond_false, Bool.true_and]
      rw [wrapI (n := p - S) (by omega) (by omega), Int.mul_comm V p, wrapI (n := p * V) (by omega) (by omega)]
      by_cases h : S < p
      · rw [part_fr (by omega) (by omega) (by omega) (by omega), moLow_fr (by omega) (by omega) (by omega) (by omega), decide_eq_true h, decide_eq_false (show ¬ p ≤ S by omega)]; exact ⟨rfl, rfl⟩
      · rw [part_no (by omega), decide_eq_false h, decide_eq_true (show p ≤ S by omega)]; exact ⟨rfl, rfl⟩
noncomputable def psC (V S k : Int) : Bool := s_moGood V S && (s_l1In k 0 (V - 1) && decide (0 < S))
theorem psC_of {V S k : Int} (h : psC V S k = true) : ((1 ≤ V ∧ V ≤ 500) ∧ (0 ≤ S ∧ S ≤ 20)) ∧ (0 ≤ k ∧ k ≤ V - 1) ∧ 0 < S := by
  unfold psC at h
  simp only [Bool.and_eq_true, l1In_iff, decide_eq_true_eq] at h
  exact ⟨moGood_iff.1 h.1, h.2.1, h.2.2⟩
theorem PaceForSteps_two (V S k : Int) : i_PaceForSteps V S k = some (frF (psC V S k) (k * S) (V - k)) ∧ s_PaceForSteps V S k = some (frF (psC V S k) (k * S) (V - k)) := by
  unfold i_PaceForSteps s_PaceForSteps psC
  rw [IsMoving_eq, within_eq]
  cases hg : s_moGood V S
  · exact ⟨rfl, rfl⟩
  · obtain ⟨⟨v1, v2⟩, s1, s2⟩ := moGood_iff.1 hg
    rw [wrapI (n := V - 1) (by omega) (by omega)]
    cases hk : s_l1In k 0 (V - 1)
    · exact ⟨rfl, rfl⟩
    · have hk := l1In_iff.1 hk
      have B : 0 ≤ k * S ∧ k * S ≤ 500 * 20 := mul_bd ⟨by omega, by omega⟩ ⟨by omega, by omega⟩
      simp only [Bool.not_true, cond_false, Bool.true_and]
      by_cases h : 0 < S
      · rw [wrapI (n := k * S) (by omega) (by omega), wrapI (n := V - k) (by omega) (by omega), part_fr (by omega) (by omega) (by omega) (by omega), moLow_fr (by omega) (by omega) (by omega) (by omega), decide_eq_true h, show (S == 0) = false from beq_eq_false_iff_ne.2 (by omega)]; exact ⟨rfl, rfl⟩
      · rw [decide_eq_false h, show (S == 0) = true from beq_iff_eq.2 (by omega)]; exact ⟨rfl, rfl⟩
theorem isCount_eq (n : Int) : i_isCount n = s_l1In n 1 10000 := by
  unfold i_isCount
  exact within_eq n 1 10000
noncomputable def vbC (p w a : Int) : Bool := s_l1In p 1 20 && (s_l1In w 1 10000 && s_l1In a w 10000)
theorem vbC_iff {p w a : Int} : vbC p w a = true ↔ (1 ≤ p ∧ p ≤ 20) ∧ (1 ≤ w ∧ w ≤ 10000) ∧ w ≤ a ∧ a ≤ 10000 := by
  unfold vbC
  simp only [Bool.and_eq_true, l1In_iff]
theorem VisibleFromBoth_two (p w a : Int) : i_VisibleFromBoth p w a = some (frF (vbC p w a) (2 * w * a) (w + a)) ∧ s_VisibleFromBoth p w a = some (frF (vbC p w a) (2 * w * a) (w + a)) := by
  unfold i_VisibleFromBoth s_VisibleFromBoth vbC
  rw [within_eq, isCount_eq, isCount_eq]
  cases hp : s_l1In p 1 20
  · exact ⟨rfl, rfl⟩
  · cases hw : s_l1In w 1 10000
    · exact ⟨rfl, rfl⟩
    · have hw := l1In_iff.1 hw
      cases ha : s_l1In a w 10000
      · refine ⟨?_, rfl⟩
        have ha : ¬ (w ≤ a ∧ a ≤ 10000) := fun h => by rw [l1In_iff.2 h] at ha; cases ha
        cases hc : s_l1In a 1 10000
        · rfl
        · have hc := l1In_iff.1 hc
          rw [decide_eq_true (show a < w by omega)]; rfl
      · have ha := l1In_iff.1 ha
        have B : 0 ≤ 2 * w * a ∧ 2 * w * a ≤ 20000 * 10000 := mul_bd ⟨by omega, by omega⟩ ⟨by omega, by omega⟩
        rw [l1In_iff.2 (⟨by omega, by omega⟩ : 1 ≤ a ∧ a ≤ 10000), decide_eq_false (show ¬ a < w by omega)]
        simp only [Bool.not_true, cond_false, Bool.true_and]
        rw [wrapI (n := 2 * w) (by omega) (by omega), wrapI (n := 2 * w * a) (by omega) (by omega), wrapI (n := w + a) (by omega) (by omega), part_fr (by omega) (by omega) (by omega) (by omega), moLow_fr (by omega) (by omega) (by omega) (by omega)]
        exact ⟨rfl, rfl⟩
/-- what two tell -/
noncomputable def twA (p x q y : Int) : Bool := s_l1In p 1 20 && (s_l1In q (p + 1) 20 && (s_l1In x 1 10000 && s_l1In y (x + 1) 10000))
theorem twA_iff {p x q y : Int} : twA p x q y = true ↔ (1 ≤ p ∧ p ≤ 20) ∧ (p + 1 ≤ q ∧ q ≤ 20) ∧ (1 ≤ x ∧ x ≤ 10000) ∧ x + 1 ≤ y ∧ y ≤ 10000 := by
  unfold twA
  simp only [Bool.and_eq_true, l1In_iff]
theorem areTwo_eq (p x q y : Int) : i_areTwo p x q y = twA p x q y := by
  rw [Bool.eq_iff_iff, twA_iff]
  unfold i_areTwo
  rw [within_eq, isPace_eq, isCount_eq, isCount_eq]
  simp only [Bool.cond_eq_ite, Bool.if_false_right, Bool.and_eq_true, decide_eq_true_eq, l1In_iff]
  omega
noncomputable def twC (p x q y : Int) : Bool := twA p x q y && decide (0 < x * q - y * p)
theorem tw_bd {p x q y : Int} (h : twA p x q y = true) : (0 ≤ x * q ∧ x * q ≤ 10000 * 20) ∧ (0 ≤ y * p ∧ y * p ≤ 10000 * 20) ∧ (0 ≤ (y - x) * p ∧ (y - x) * p ≤ 10000 * 20) ∧ (0 ≤ (y - x) * p * q ∧ (y - x) * p * q ≤ 200000 * 20) ∧ (0 ≤ x * y ∧ x * y ≤ 10000 * 10000) ∧ (0 ≤ x * y * (q - p) ∧ x * y * (q - p) ≤ 100000000 * 20) := by
  obtain ⟨⟨p1, p2⟩, ⟨q1, q2⟩, ⟨x1, x2⟩, y1, y2⟩ := twA_iff.1 h
  have b1 : 0 ≤ x * q ∧ x * q ≤ 10000 * 20 := mul_bd ⟨by omega, by omega⟩ ⟨by omega, by omega⟩
  have b2 : 0 ≤ y * p ∧ y * p ≤ 10000 * 20 := mul_bd ⟨by omega, by omega⟩ ⟨by omega, by omega⟩
  have b3 : 0 ≤ (y - x) * p ∧ (y - x) * p ≤ 10000 * 20 := mul_bd ⟨by omega, by omega⟩ ⟨by omega, by omega⟩
  have b4 : 0 ≤ (y - x) * p * q ∧ (y - x) * p * q ≤ 200000 * 20 := mul_bd ⟨by omega, by omega⟩ ⟨by omega, by omega⟩
  have b5 : 0 ≤ x * y ∧ x * y ≤ 10000 * 10000 := mul_bd ⟨by omega, by omega⟩ ⟨by omega, by omega⟩
  have b6 : 0 ≤ x * y * (q - p) ∧ x * y * (q - p) ≤ 100000000 * 20 := mul_bd ⟨by omega, by omega⟩ ⟨by omega, by omega⟩
  exact ⟨b1, b2, b3, b4, b5, b6⟩
theorem moTwo_eq (p x q y : Int) : s_moTwo p x q y = bif twC p x q y then ((y - x) * p * q, x * q - y * p, true) else (0, 0, false) := by
  unfold s_moTwo twC
  cases h1 : s_l1In p 1 20
  · unfold twA; rw [h1]; rfl
  · have g1 := l1In_iff.1 h1
    rw [wrapI (n := p + 1) (by omega) (by omega)]
    cases h2 : s_l1In q (p + 1) 20
    · unfold twA; rw [h1, h2]; rfl
    · have g2 := l1In_iff.1 h2
      cases h3 : s_l1In x 1 10000
      · unfold twA; rw [h1, h2, h3]; rfl
      · have g3 := l1In_iff.1 h3
        rw [wrapI (n := x + 1) (by omega) (by omega)]
        cases h4 : s_l1In y (x + 1) 10000
        · unfold twA; rw [h1, h2, h3, h4]; rfl
        · have g4 := l1In_iff.1 h4
          have hA : twA p x q y = true := by unfold twA; rw [h1, h2, h3, h4]; rfl
          obtain ⟨b1, b2, b3, b4, b5, b6⟩ := tw_bd hA
          rw [hA]
          simp only [Bool.not_true, cond_false, Bool.true_and]
          rw [wrapI (n := x * q) (by omega) (by omega), wrapI (n := y * p) (by omega) (by omega), wrapI (n := x * q - y * p) (by omega) (by omega), wrapI (n := y - x) (by omega) (by omega), wrapI (n := (y - x) * p) (by omega) (by omega), wrapI (n := (y - x) * p * q) (by omega) (by omega)]
          by_cases h : 0 < x * q - y * p
          · rw [decide_eq_true h, decide_eq_false (show ¬ x * q - y * p ≤ 0 by omega)]; rfl
          · rw [decide_eq_false h, decide_eq_true (show x * q - y * p ≤ 0 by omega)]; rfl
theorem SpeedFromTwo_two (p x q y : Int) : i_SpeedFromTwo p x q y = some (frF (twC p x q y) ((y - x) * p * q) (x * q - y * p)) ∧ s_SpeedFromTwo p x q y = some (frF (twC p x q y) ((y - x) * p * q) (x * q - y * p)) := by
  unfold i_SpeedFromTwo s_SpeedFromTwo
  rw [moTwo_eq, areTwo_eq]
  unfold twC
  cases hA : twA p x q y
  · exact ⟨rfl, rfl⟩
  · obtain ⟨b1, b2, b3, b4, b5, b6⟩ := tw_bd hA
    obtain ⟨⟨p1, p2⟩, ⟨q1, q2⟩, ⟨x1, x2⟩, y1, y2⟩ := twA_iff.1 hA
    simp only [Bool.not_true, cond_false, Bool.true_and]
    rw [wrapI (n := x * q) (by omega) (by omega), wrapI (n := y * p) (by omega) (by omega), wrapI (n := x * q - y * p) (by omega) (by omega), wrapI (n := y - x) (by omega) (by omega), wrapI (n := (y - x) * p) (by omega) (by omega), wrapI (n := (y - x) * p * q) (by omega) (by omega)]
    by_cases h : 0 < x * q - y * p
    · rw [decide_eq_true h, part_fr (by omega) (by omega) h (by omega)]
      simp only [cond_true, Bool.not_true, cond_false]
      rw [moLow_fr (by omega) (by omega) h (by omega)]
      exact ⟨rfl, rfl⟩
    · rw [decide_eq_false h, part_no (by omega)]
      exact ⟨rfl, rfl⟩
theorem VisibleFromTwo_two (p x q y : Int) : i_VisibleFromTwo p x q y = some (frF (twC p x q y) (x * y * (q - p)) (x * q - y * p)) ∧ s_VisibleFromTwo p x q y = some (frF (twC p x q y) (x * y * (q - p)) (x * q - y * p)) := by
  unfold i_VisibleFromTwo s_VisibleFromTwo
  rw [moTwo_eq, areTwo_eq]
  unfold twC
  cases hA : twA p x q y
  · exact ⟨rfl, rfl⟩
  · obtain ⟨b1, b2, b3, b4, b5, b6⟩ := tw_bd hA
    obtain ⟨⟨p1, p2⟩, ⟨q1, q2⟩, ⟨x1, x2⟩, y1, y2⟩ := twA_iff.1 hA
    simp only [Bool.not_true, cond_false, Bool.true_and]
    rw [wrapI (n := x * y) (by omega) (by omega), wrapI (n := q - p) (by omega) (by omega), wrapI (n := x * y * (q - p)) (by omega) (by omega), wrapI (n := x * q) (by omega) (by omega), wrapI (n := y * p) (by omega) (by omega), wrapI (n := x * q - y * p) (by omega) (by omega)]
    by_cases h : 0 < x * q - y * p
    · have c1 : 0 ≤ p * (x * q - y * p) ∧ p * (x * q - y * p) ≤ 20 * 200000 := mul_bd ⟨by omega, by omega⟩ ⟨by omega, by omega⟩
      have c2 : x * (p * (x * q - y * p) + (y - x) * p * q) = p * (x * y * (q - p)) := by grind
      have c3 : 0 ≤ p * (x * y * (q - p)) ∧ p * (x * y * (q - p)) ≤ 20 * 2000000000 := mul_bd ⟨by omega, by omega⟩ ⟨by omega, by omega⟩
      have hp : 0 < p * (x * q - y * p) := Int.mul_pos (by omega) h
      rw [decide_eq_true h, part_fr (by omega) (by omega) h (by omega)]
      simp only [cond_true, Bool.not_true, cond_false]
      rw [wrapI (n := p * (x * q - y * p)) (by omega) (by omega), wrapI (n := p * (x * q - y * p) + (y - x) * p * q) (by omega) (by omega), c2, wrapI (n := p * (x * y * (q - p))) (by omega) (by omega), moLow_fr (by omega) (by omega) hp (by omega), (fr_mul (by omega) b6.1 h).1, (fr_mul (by omega) b6.1 h).2]
      exact ⟨rfl, rfl⟩
    · rw [decide_eq_false h, part_no (by omega)]
      exact ⟨rfl, rfl⟩
noncomputable def wtB (V S : Int) (k : Nat) : Bool := decide (0 < S + (k : Int)) && (V % (S + (k : Int)) == 0)
noncomputable def wtN (V S : Int) : List Int × Bool := bif s_moGood V S then (numF (wtB V S) 0 21, true) else ([], false)
theorem wt_i {V S : Int} (g : s_moGood V S = true) : ∀ (d i : Nat) (r : List Int), i + d = 21 → r.length ≤ i → i_WholeTimes_L1 V S r (i : Int) = some (r ++ numF (wtB V S) i d, true)
  | 0, i, r, h, hr => by
    rw [i_WholeTimes_u1, i_WholeTimes_t1, decide_eq_false (show ¬ (i : Int) < 21 by omega), numF_zero, List.append_nil]; rfl
  | d + 1, i, r, h, hr => by
    obtain ⟨⟨v1, v2⟩, s1, s2⟩ := moGood_iff.1 g
    have hw : IntKind.wrap .i64 ((i : Int) + 1) = ((i + 1 : Nat) : Int) := by rw [wrapI (by omega) (by omega)]; omega
    have hb : Nat.ble (r.length + 1) 4294967296 = true := by rw [Nat.ble_eq]; omega
    rw [i_WholeTimes_u1, i_WholeTimes_t1, decide_eq_true (show (i : Int) < 21 by omega), wrapI (n := S + (i : Int)) (by omega) (by omega), hw, hb, numF_succ, wt_i g d (i + 1) r (by omega) (by omega), wt_i g d (i + 1) (r ++ [(i : Int)]) (by omega) (by simp; omega)]
    unfold wtB
    by_cases c : 0 < S + (i : Int)
    · rw [decide_eq_true c, show (S + (i : Int) == 0) = false from beq_eq_false_iff_ne.2 (by omega), Int.tmod_eq_emod_of_nonneg (by omega)]
      cases V % (S + (i : Int)) == 0
      · rfl
      · simp
    · rw [decide_eq_false c]; rfl
theorem wt_s {V S : Int} (g : s_moGood V S = true) : ∀ (d i : Nat) (r : List Int), i + d = 21 → r.length ≤ i → s_WholeTimes_L1 V S r (i : Int) = some (r ++ numF (wtB V S) i d, true)
  | 0, i, r, h, hr => by
    rw [s_WholeTimes_u1, s_WholeTimes_t1, decide_eq_false (show ¬ (i : Int) ≤ 20 by omega), numF_zero, List.append_nil]; rfl
  | d + 1, i, r, h, hr => by
    obtain ⟨⟨v1, v2⟩, s1, s2⟩ := moGood_iff.1 g
    have hw : IntKind.wrap .i64 ((i : Int) + 1) = ((i + 1 : Nat) : Int) := by rw [wrapI (by omega) (by omega)]; omega
    have hb : Nat.ble (r.length + 1) 4294967296 = true := by rw [Nat.ble_eq]; omega
    rw [s_WholeTimes_u1, s_WholeTimes_t1, decide_eq_true (show (i : Int) ≤ 20 by omega), wrapI (n := S + (i : Int)) (by omega) (by omega), hw, hb, numF_succ, wt_s g d (i + 1) r (by omega) (by omega), wt_s g d (i + 1) (r ++ [(i : Int)]) (by omega) (by simp; omega)]
    unfold wtB
    by_cases c : 0 < S + (i : Int)
    · rw [decide_eq_true c, show (S + (i : Int) == 0) = false from beq_eq_false_iff_ne.2 (by omega), Int.tmod_eq_emod_of_nonneg (by omega)]
      cases V % (S + (i : Int)) == 0
      · rfl
      · simp
    · rw [decide_eq_false c]; rfl
theorem WholeTimes_two (V S : Int) : i_WholeTimes V S = some (wtN V S) ∧ s_WholeTimes V S = some (wtN V S) := by
  unfold i_WholeTimes i_WholeTimes_t0 s_WholeTimes s_WholeTimes_t0 wtN
  rw [IsMoving_eq]
  cases g : s_moGood V S
  · exact ⟨rfl, rfl⟩
  · exact ⟨wt_i g 21 0 [] rfl (Nat.le_refl _), wt_s g 21 0 [] rfl (Nat.le_refl _)⟩
end Go.Proofs.YtadcmhdjoglagaaGreatDoor.V
