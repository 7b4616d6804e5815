/- Functions of the program, as plain functions. No condition. -/
import Derived.Test.YtoldoplpnkojdaaGreatDoorK4
set_option linter.unusedVariables false
set_option linter.unusedSimpArgs false
set_option maxRecDepth 100000
namespace Go.Proofs.YtoldoplpnkojdaaGreatDoor.V
open Go Go.Ev Go.Proofs
/-! a name of another seat -/
abbrev kwClue := kClue
/-! ### numbers joined -/
def itoaB (n : Int) : ByteArray := ⟨(Lib.itoa n).toArray⟩
theorem num_ok {n : Int} (h : 0 ≤ n) (h' : n ≤ 4000000000000000000) : s_l1Num_n n = some (itoaB n) := by
  unfold s_l1Num_n
  rw [decide_eq_true h, decide_eq_true h']; rfl
theorem itoa_ok {n : Int} (h : 0 ≤ n) (h' : n ≤ 4000000000000000000) : strconv_Itoa n = some (itoaB n) := by
  unfold strconv_Itoa itoaF
  rw [if_pos (by omega)]; rfl
theorem itoa_len {n : Int} (h : 0 ≤ n) (h' : n ≤ 1000000) : (Lib.itoa n).length ≤ 1000001 := by
  obtain ⟨m, rfl⟩ := Int.eq_ofNat_of_zero_le h
  rw [itoa_nat]
  have := dec_len m; omega
theorem join_snoc (sep : List UInt8) : ∀ (xs : List (List UInt8)) (y : List UInt8), Lib.join (xs ++ [y]) sep = if xs = [] then y else Lib.join xs sep ++ sep ++ y
  | [], y => by rw [if_pos rfl, List.nil_append, Lib.join_one]
  | x :: r, y => by
    rw [if_neg (by simp), List.cons_append, Lib.join_cons, Lib.join_cons]
    unfold Lib.joinTail
    simp [List.append_assoc]
theorem join_len (sep : List UInt8) (xs : List (List UInt8)) : (Lib.join xs sep).length ≤ sep.length * xs.length + Lib.lens xs := by
  cases xs with
  | nil => simp [Lib.join_nil]
  | cons x r =>
    rw [Lib.join_cons, List.length_append, Lib.joinTail_length]
    have : Lib.lens (x :: r) = x.length + Lib.lens r := by simp [Lib.lens]
    rw [this, List.length_cons, Nat.mul_succ]; omega
theorem lens_le {c : Nat} : ∀ {xs : List (List UInt8)}, (∀ x, x ∈ xs → x.length ≤ c) → Lib.lens xs ≤ c * xs.length
  | [], _ => by simp [Lib.lens]
  | x :: r, h => by
    have h1 := h x (by simp)
    have h2 := lens_le (xs := r) (fun y hy => h y (List.mem_cons_of_mem _ hy))
    have : Lib.lens (x :: r) = x.length + Lib.lens r := by simp [Lib.lens]
    rw [this, List.length_cons, Nat.mul_succ]; omega
/-- small numbers -/
structure SmallL (l : List Int) : Prop where
  len : l.length ≤ 10000
  bd : ∀ x, x ∈ l → 0 ≤ x ∧ x ≤ 1000000
theorem join_bd {l : List Int} (h : SmallL l) (sep : List UInt8) (hs : sep.length ≤ 100) : (Lib.join (l.map Lib.itoa) sep).length ≤ 140737488355328 := by
  have h1 := join_len sep (l.map Lib.itoa)
  have h2 := lens_le (c := 1000001) (xs := l.map Lib.itoa) (fun x hx => by
    obtain ⟨n, hn, rfl⟩ := List.mem_map.1 hx
    have := h.bd n hn
    exact itoa_len this.1 this.2)
  rw [List.length_map] at h1 h2
  have h3 : sep.length * l.length ≤ 100 * 10000 := Nat.mul_le_mul hs h.len
  have h4 : 1000001 * l.length ≤ 1000001 * 10000 := Nat.mul_le_mul_left _ h.len
  omega
theorem SmallL.take {l : List Int} (h : SmallL l) (i : Nat) : SmallL (l.take i) := ⟨by rw [List.length_take]; have := h.len; omega, fun x hx => h.bd x (List.mem_of_mem_take hx)⟩
/-! ### numbers joined by the program -/
theorem joined_ok {l : List Int} (h : SmallL l) (sep : ByteArray) (hs : sep.data.toList.length ≤ 100) : i_joined l sep = some ⟨(Lib.join (l.map Lib.itoa) sep.data.toList).toArray⟩ := by
  unfold i_joined i_joined_t0
  have hlen := h.len
  have main : ∀ (d i : Nat), i + d = l.length → i_joined_L1 ((l.take i).map itoaB) l sep (l.length : Int) (i : Int) = some ⟨(Lib.join (l.map Lib.itoa) sep.data.toList).toArray⟩ := by
    intro d
    induction d with
    | zero =>
      intro i hi
      have hi : i = l.length := by omega
      subst hi
      rw [i_joined_u1, i_joined_t1, decide_eq_false (by omega), cond_false, List.take_length]
      unfold strings_Join joinF
      have em : (l.map itoaB).map (·.data.toList) = l.map Lib.itoa := by
        rw [List.map_map]; rfl
      rw [em, if_pos ⟨by rw [List.length_map]; omega, join_bd h _ hs⟩]; rfl
    | succ d ih =>
      intro i hi
      have hil : i < l.length := by omega
      have hb := h.bd l[i] (List.getElem_mem hil)
      rw [i_joined_u1, i_joined_t1, decide_eq_true (show (i : Int) < l.length by omega), decide_eq_true (Int.natCast_nonneg i), rdk_get (k := kint) hil, itoa_ok hb.1 (by omega), wrapS hil (by rw [maxLen_eq]; omega), ble_dec, decide_eq_true (by rw [List.length_map, List.length_take]; omega)]
      simp only [cond_true, Option.bind_some]
      have := ih (i + 1) (by omega)
      rw [List.take_add_one, List.getElem?_eq_getElem hil, List.map_append] at this
      exact this
  exact main l.length 0 (by omega)
/-! ### puzzles' texts -/
def cT (c : Int × Int × Int) : List UInt8 := Lib.join [Lib.itoa c.1, Lib.itoa c.2.1, Lib.itoa c.2.2] [46]
structure GoodC (c : Int × Int × Int) : Prop where
  k0 : 0 ≤ c.1
  k1 : c.1 ≤ 1000000
  a0 : 0 ≤ c.2.1
  a1 : c.2.1 ≤ 1000000
  b0 : 0 ≤ c.2.2
  b1 : c.2.2 ≤ 1000000
structure GoodP (l : List (Int × Int × Int)) : Prop where
  len : l.length ≤ 1000
  bd : ∀ c, c ∈ l → GoodC c
theorem cT_eq (c : Int × Int × Int) : cT c = Lib.itoa c.1 ++ [46] ++ Lib.itoa c.2.1 ++ [46] ++ Lib.itoa c.2.2 := by
  unfold cT
  rw [Lib.join_cons]
  simp [Lib.joinTail]
theorem cT_len {c : Int × Int × Int} (h : GoodC c) : (cT c).length ≤ 4000000 := by
  have h1 := itoa_len h.k0 h.k1
  have h2 := itoa_len h.a0 h.a1
  have h3 := itoa_len h.b0 h.b1
  rw [cT_eq]
  simp only [List.length_append, List.length_singleton]; omega
theorem pz_bd {l : List (Int × Int × Int)} (h : GoodP l) : (Lib.join (l.map cT) [44]).length ≤ 140737488355328 := by
  have h1 := join_len [44] (l.map cT)
  have h2 := lens_le (c := 4000000) (xs := l.map cT) (fun x hx => by
    obtain ⟨n, hn, rfl⟩ := List.mem_map.1 hx
    exact cT_len (h.bd n hn))
  rw [List.length_map] at h1 h2
  have h4 : 4000000 * l.length ≤ 4000000 * 1000 := Nat.mul_le_mul_left _ h.len
  have := h.len
  simp only [List.length_singleton, Nat.one_mul] at h1
  omega
theorem GoodP.take {l : List (Int × Int × Int)} (h : GoodP l) (i : Nat) : GoodP (l.take i) := ⟨by rw [List.length_take]; have := h.len; omega, fun x hx => h.bd x (List.mem_of_mem_take hx)⟩
theorem puzzle_s {l : List (Int × Int × Int)} (h : GoodP l) : s_pzText l = some ⟨(Lib.join (l.map cT) [44]).toArray⟩ := by
  unfold s_pzText s_pzText_t0
  have hlen := h.len
  have e44 : ({ data := #[44] } : ByteArray) = ⟨([44] : List UInt8).toArray⟩ := rfl
  have e46 : ({ data := #[46] } : ByteArray) = ⟨([46] : List UInt8).toArray⟩ := rfl
  have main : ∀ (d i : Nat), i + d = l.length → s_pzText_L1 l ⟨(Lib.join ((l.take i).map cT) [44]).toArray⟩ (l.length : Int) (i : Int) = some ⟨(Lib.join (l.map cT) [44]).toArray⟩ := by
    intro d
    induction d with
    | zero =>
      intro i hi
      have hi : i = l.length := by omega
      subst hi
      rw [s_pzText_u1, s_pzText_t1, decide_eq_false (by omega), cond_false, List.take_length]
    | succ d ih =>
      intro i hi
      have hil : i < l.length := by omega
      have hb := h.bd l[i] (List.getElem_mem hil)
      have hj := pz_bd (h.take i)
      have n1 := itoa_len hb.k0 hb.k1
      have n2 := itoa_len hb.a0 hb.a1
      have n3 := itoa_len hb.b0 hb.b1
      have hh := ih (i + 1) (by omega)
      rw [List.take_add_one, List.getElem?_eq_getElem hil, List.map_append] at hh
      replace hh : s_pzText_L1 l ⟨(Lib.join ((l.take i).map cT ++ [cT l[i]]) [44]).toArray⟩ (l.length : Int) ((i + 1 : Nat) : Int) = _ := hh
      rw [join_snoc, cT_eq] at hh
      have bl : ∀ a b : List UInt8, a.length + b.length ≤ 9223372036854775807 → Nat.ble (ByteArray.size ⟨a.toArray⟩ + ByteArray.size ⟨b.toArray⟩) 9223372036854775807 = true := fun a b hab => by
        rw [ble_dec, decide_eq_true]
        show a.toArray.size + b.toArray.size ≤ _
        simp only [List.size_toArray]; exact hab
      rw [s_pzText_u1, s_pzText_t1, decide_eq_true (show (i : Int) < l.length by omega), decide_eq_true (Int.natCast_nonneg i), rdk_get (k := kwClue) hil, num_ok hb.k0 (by have := hb.k1; omega), num_ok hb.a0 (by have := hb.a1; omega), num_ok hb.b0 (by have := hb.b1; omega), wrapS hil (by rw [maxLen_eq]; omega), e44, e46]
      simp only [cond_true, Option.bind_some]
      unfold itoaB
      by_cases h0 : i = 0
      · subst h0
        rw [decide_eq_false (show ¬ ((0 : Nat) : Int) > 0 by omega), cond_false, bl _ _ (by simp only [List.length_singleton]; omega), cond_true, bytes_app, bl _ _ (by simp only [List.length_append, List.length_singleton]; omega), cond_true, bytes_app, bl _ _ (by simp only [List.length_append, List.length_singleton]; omega), cond_true, bytes_app, bl _ _ (by simp only [List.length_append, List.length_singleton]; omega), cond_true, bytes_app, bl _ _ (by simp only [List.length_append, List.length_singleton]; omega), cond_true, bytes_app]
        rw [if_pos (by simp)] at hh
        exact hh
      · rw [decide_eq_true (show (i : Int) > 0 by omega), cond_true, bl _ _ (by simp only [List.length_singleton]; omega), cond_true, bytes_app, bl _ _ (by simp only [List.length_singleton]; omega), cond_true, bytes_app, bl _ _ (by simp only [List.length_append, List.length_singleton]; omega), cond_true, bytes_app, bl _ _ (by simp only [List.length_append, List.length_singleton]; omega), cond_true, bytes_app, bl _ _ (by simp only [List.length_append, List.length_singleton]; omega), cond_true, bytes_app, bl _ _ (by simp only [List.length_append, List.length_singleton]; omega), cond_true, bytes_app]
        rw [if_neg (by intro e; have := congrArg List.length e; simp only [List.length_map, List.length_take, List.length_nil] at this; omega)] at hh
        exact hh
  exact main l.length 0 (by omega)
/-! ### puzzles' texts by the program -/
theorem clue_joined {c : Int × Int × Int} (h : GoodC c) : i_joined [c.1, c.2.1, c.2.2] { data := #[46] } = some ⟨(cT c).toArray⟩ :=
  joined_ok (l := [c.1, c.2.1, c.2.2]) ⟨by simp, fun x hx => by
    simp only [List.mem_cons, List.not_mem_nil, or_false] at hx
    rcases hx with rfl | rfl | rfl
    · exact ⟨h.k0, h.k1⟩
    · exact ⟨h.a0, h.a1⟩
    · exact ⟨h.b0, h.b1⟩⟩ _ (by simp)
theorem puzzle_i {l : List (Int × Int × Int)} (h : GoodP l) : i_PuzzleText_L1 [] l (l.length : Int) 0 = some (⟨(Lib.join (l.map cT) [44]).toArray⟩, true) := by
  have hlen := h.len
  have main : ∀ (d i : Nat), i + d = l.length → i_PuzzleText_L1 ((l.take i).map fun c => (⟨(cT c).toArray⟩ : ByteArray)) l (l.length : Int) (i : Int) = some (⟨(Lib.join (l.map cT) [44]).toArray⟩, true) := by
    intro d
    induction d with
    | zero =>
      intro i hi
      have hi : i = l.length := by omega
      subst hi
      rw [i_PuzzleText_u1, i_PuzzleText_t1, decide_eq_false (by omega), cond_false, List.take_length]
      unfold strings_Join joinF
      have em : (l.map fun c => (⟨(cT c).toArray⟩ : ByteArray)).map (·.data.toList) = l.map cT := by rw [List.map_map]; rfl
      have e44 : ({ data := #[44] } : ByteArray).data.toList = [44] := rfl
      rw [em, e44, if_pos ⟨by rw [List.length_map]; omega, pz_bd h⟩]; rfl
    | succ d ih =>
      intro i hi
      have hil : i < l.length := by omega
      have hb := h.bd l[i] (List.getElem_mem hil)
      have hh := ih (i + 1) (by omega)
      rw [List.take_add_one, List.getElem?_eq_getElem hil, List.map_append] at hh
      rw [i_PuzzleText_u1, i_PuzzleText_t1, decide_eq_true (show (i : Int) < l.length by omega), decide_eq_true (Int.natCast_nonneg i), rdk_get (k := kwClue) hil, clue_joined hb, wrapS hil (by rw [maxLen_eq]; omega), ble_dec, decide_eq_true (by rw [List.length_map, List.length_take]; omega)]
      simp only [cond_true, Option.bind_some]
      exact hh
  exact main l.length 0 (by omega)
/-! ### puzzles are small -/
theorem l1In_ifP {x lo hi : Int} : s_l1In x lo hi = true ↔ lo ≤ x ∧ x ≤ hi := by
  unfold s_l1In
  by_cases h1 : lo ≤ x <;> by_cases h2 : x ≤ hi <;> simp [h1, h2]
theorem clue_bd {c : Int × Int × Int} (h : s_pzClue c.1 c.2.1 c.2.2 = true) : (0 ≤ c.1 ∧ c.1 ≤ 5) ∧ (0 ≤ c.2.1 ∧ c.2.1 ≤ 7) ∧ (0 ≤ c.2.2 ∧ c.2.2 ≤ 60) := by
  obtain ⟨k, a, b⟩ := c
  unfold s_pzClue at h
  show (0 ≤ k ∧ k ≤ 5) ∧ (0 ≤ a ∧ a ≤ 7) ∧ (0 ≤ b ∧ b ≤ 60)
  have main : (0 ≤ k ∧ k ≤ 5) ∧ (0 ≤ a ∧ a ≤ 7) ∧ (0 ≤ b ∧ b ≤ 60) := by
    cases hb : s_l1In b 0 60
    · simp only [hb, Bool.not_false, cond_true] at h; cases h
    · have gb := l1In_ifP.1 hb
      simp only [hb, Bool.not_true, cond_false] at h
      by_cases h0 : k = 0
      · subst h0; simp at h; omega
      · by_cases h1 : k = 1
        · subst h1; simp at h; omega
        · by_cases h4 : k = 4
          · subst h4; simp at h; omega
          · by_cases h5 : k = 5
            · subst h5; simp at h; omega
            · simp only [show (k == 0) = false from beq_eq_false_iff_ne.2 h0, show (k == 1) = false from beq_eq_false_iff_ne.2 h1, show (k == 4) = false from beq_eq_false_iff_ne.2 h4, show (k == 5) = false from beq_eq_false_iff_ne.2 h5, cond_false] at h
              by_cases h2 : k = 2
              · subst h2
                cases ha : s_l1In a 1 3
                · simp [ha] at h
                · have := l1In_ifP.1 ha; omega
              · by_cases h3 : k = 3
                · subst h3
                  cases ha : s_l1In a 1 7
                  · simp [ha] at h
                  · have := l1In_ifP.1 ha; omega
                · simp only [show (k == 2) = false from beq_eq_false_iff_ne.2 h2, show (k == 3) = false from beq_eq_false_iff_ne.2 h3, cond_false] at h
                  cases h
  exact main
theorem clue_good {c : Int × Int × Int} (h : s_pzClue c.1 c.2.1 c.2.2 = true) : GoodC c := by
  obtain ⟨h1, h2, h3⟩ := clue_bd h
  constructor <;> omega
theorem puzzle_good {l : List (Int × Int × Int)} (h : s_pzGood_n l = true) : GoodP l := by
  refine ⟨by have := s_pzGood_len h; omega, fun c hc => ?_⟩
  unfold s_pzGood_n at h
  cases hl : decide ((l.length : Int) > 6)
  · rw [hl, cond_false] at h
    cases ha : l.any (fun c => !s_pzClue c.1 c.2.1 c.2.2)
    · have := List.any_eq_false.1 ha c hc
      exact clue_good (by simpa using this)
    · rw [ha] at h; cases h
  · rw [hl] at h; cases h
/-! ### numerals -/
theorem decFrom_snoc : ∀ (l : List UInt8) (acc : Nat) (b : UInt8), Lib.decFrom acc (l ++ [b]) = (Lib.decFrom acc l).bind fun m => (Lib.digitVal b).map fun d => m * 10 + d
  | [], acc, b => by
    simp only [List.nil_append, Lib.decFrom, Option.bind_some]
    cases Lib.digitVal b <;> rfl
  | c :: l, acc, b => by
    simp only [List.cons_append, Lib.decFrom]
    cases Lib.digitVal c
    · rfl
    · exact decFrom_snoc l _ b
theorem digit_of {m : Nat} (h : m < 10) : Lib.digitVal (UInt8.ofNat (48 + m)) = some m := by
  unfold Lib.digitVal
  have e : (UInt8.ofNat (48 + m)).toNat = 48 + m := by
    rw [UInt8.toNat_ofNat']; omega
  rw [e, if_pos (by omega)]
  congr 1; omega
theorem digit_inv {b : UInt8} {d : Nat} (h : Lib.digitVal b = some d) : b = UInt8.ofNat (48 + d) ∧ d < 10 := by
  unfold Lib.digitVal at h
  split at h
  · rename_i hb
    cases h
    have e : 48 + (b.toNat - 48) = b.toNat := by omega
    rw [e]
    exact ⟨by simp, by omega⟩
  · cases h
/-- a numeral spells its number -/
theorem dec_spell : ∀ u : Nat, Lib.decFrom 0 (Lib.decDigits u) = some u := by
  intro u
  induction u using Nat.strongRecOn with
  | ind u ih =>
    rw [Lib.decDigits]
    by_cases h : u < 10
    · rw [dif_pos h]
      simp only [Lib.decFrom, digit_of h]
      congr 1; omega
    · rw [dif_neg h, decFrom_snoc, ih (u / 10) (by omega), Option.bind_some, digit_of (Nat.mod_lt u (by omega))]
      simp only [Option.map_some]
      congr 1; omega
theorem dec_ne (u : Nat) : Lib.decDigits u ≠ [] := by
  rw [Lib.decDigits]
  by_cases h : u < 10
  · rw [dif_pos h]; simp
  · rw [dif_neg h]; simp
theorem dec_head : ∀ u : Nat, 0 < u → (Lib.decDigits u).head? ≠ some 48 := by
  intro u
  induction u using Nat.strongRecOn with
  | ind u ih =>
    intro h0
    rw [Lib.decDigits]
    by_cases h : u < 10
    · rw [dif_pos h]
      simp only [List.head?_cons]
      intro e
      have e := Option.some.inj e
      have := congrArg UInt8.toNat e
      rw [UInt8.toNat_ofNat'] at this
      have e48 : (48 : UInt8).toNat = 48 := rfl
      omega
    · rw [dif_neg h, List.head?_append]
      have := ih (u / 10) (by omega) (by omega)
      cases hd : (Lib.decDigits (u / 10)).head? with
      | none => exact absurd (List.head?_eq_none_iff.1 hd) (dec_ne _)
      | some x => rw [hd] at this; simpa using this
theorem dec_len6 (k : Nat) : ∀ u : Nat, u < 10 ^ (k + 1) → (Lib.decDigits u).length ≤ k + 1 := by
  induction k with
  | zero =>
    intro u h
    rw [Lib.decDigits, dif_pos (by simpa using h)]; simp
  | succ k ih =>
    intro u h
    rw [Lib.decDigits]
    by_cases h1 : u < 10
    · rw [dif_pos h1]; simp
    · rw [dif_neg h1, List.length_append, List.length_singleton]
      have := ih (u / 10) (by rw [Nat.pow_succ] at h; omega)
      omega
/-- digits without a zero ahead are their number's numeral -/
theorem dec_of : ∀ (l : List UInt8) (n : Nat), l ≠ [] → (l.head? = some 48 → l.length = 1) → Lib.decFrom 0 l = some n → Lib.decDigits n = l := by
  intro l
  induction hk : l.length using Nat.strongRecOn generalizing l with
  | ind k ih =>
    intro n hne hz hd
    obtain ⟨b, l', rfl⟩ : ∃ b l', l = l' ++ [b] := ⟨l.getLast hne, l.dropLast, (List.dropLast_concat_getLast hne).symm⟩
    rw [decFrom_snoc] at hd
    cases hm : Lib.decFrom 0 l' with
    | none => rw [hm] at hd; cases hd
    | some m =>
      rw [hm, Option.bind_some] at hd
      cases hb : Lib.digitVal b with
      | none => rw [hb] at hd; cases hd
      | some d =>
        rw [hb, Option.map_some] at hd
        have hd := Option.some.inj hd
        obtain ⟨rfl, hd9⟩ := digit_inv hb
        by_cases h0 : l' = []
        · subst h0
          have hm : some 0 = some m := hm
          have hm := Option.some.inj hm
          have : n = d := by omega
          subst this
          rw [Lib.decDigits, dif_pos hd9]; rfl
        · have hz' : l'.head? ≠ some 48 := fun e => by
            have h1 := hz (by rw [List.head?_append, e]; rfl)
            have h2 : l'.length + 1 = k := by rw [← hk]; simp
            have h3 : l'.length ≠ 0 := fun e => h0 (List.eq_nil_of_length_eq_zero e)
            omega
          have e := ih l'.length (by rw [← hk]; simp) l' rfl m h0 (fun e => absurd e hz') hm
          have hm0 : 0 < m := by
            rcases Nat.eq_zero_or_pos m with q | q
            · subst q
              rw [← e] at hz'
              exact absurd (by rw [Lib.decDigits, dif_pos (by omega)]; rfl) hz'
            · exact q
          have e1 : n / 10 = m := by omega
          have e2 : n % 10 = d := by omega
          rw [Lib.decDigits, dif_neg (by omega), e1, e2, e]
theorem decFrom_lt : ∀ (l : List UInt8) (acc n : Nat), Lib.decFrom acc l = some n → n < (acc + 1) * 10 ^ l.length
  | [], acc, n, h => by simp only [Lib.decFrom] at h; have := Option.some.inj h; simp; omega
  | b :: l, acc, n, h => by
    simp only [Lib.decFrom] at h
    cases hb : Lib.digitVal b with
    | none => rw [hb] at h; cases h
    | some d =>
      rw [hb] at h
      have h9 := (digit_inv hb).2
      have := decFrom_lt l _ n h
      have h2 : (acc * 10 + d + 1) * 10 ^ l.length ≤ ((acc + 1) * 10) * 10 ^ l.length := Nat.mul_le_mul_right _ (by omega)
      rw [List.length_cons, Nat.pow_succ, Nat.mul_comm (10 ^ l.length) 10, ← Nat.mul_assoc]
      omega
/-- what the reference reads -/
def rdL (l : List UInt8) : Int :=
  if 1 ≤ l.length ∧ l.length ≤ 6 ∧ (l.head? = some 48 → l.length = 1) then (match Lib.decFrom 0 l with | some n => (n : Int) | none => -1) else -1
theorem rdL_of {l : List UInt8} {v : Nat} (hv : v ≤ 999999) (h : Lib.decDigits v = l) : rdL l = v := by
  subst h
  unfold rdL
  have h1 := dec_len6 5 v (by omega)
  have h2 : 1 ≤ (Lib.decDigits v).length := Nat.pos_of_ne_zero (fun e => dec_ne v (List.eq_nil_of_length_eq_zero e))
  have h3 : (Lib.decDigits v).head? = some 48 → (Lib.decDigits v).length = 1 := fun e => by
    rcases Nat.eq_zero_or_pos v with q | q
    · subst q; rw [Lib.decDigits, dif_pos (by omega)]; rfl
    · exact absurd e (dec_head v q)
  rw [if_pos ⟨h2, h1, h3⟩, dec_spell]
theorem rdL_inv {l : List UInt8} (h : rdL l ≠ -1) : ∃ v : Nat, v ≤ 999999 ∧ Lib.decDigits v = l ∧ rdL l = v := by
  unfold rdL at h ⊢
  split at h
  · rename_i hc
    rw [if_pos hc]
    cases hd : Lib.decFrom 0 l with
    | none => rw [hd] at h; exact absurd rfl h
    | some n =>
      have hlt := decFrom_lt l 0 n hd
      have hp : 10 ^ l.length ≤ 10 ^ 6 := Nat.pow_le_pow_right (by omega) hc.2.1
      refine ⟨n, by omega, dec_of l n (fun e => by rw [e] at hc; simp at hc) hc.2.2 hd, rfl⟩
  · exact absurd rfl h
/-- what the program reads -/
def numL (l : List UInt8) : Int := match Lib.atoiAll l with | .ok v => if 0 ≤ v ∧ v ≤ 999999 ∧ Lib.itoa v = l then v else -1 | _ => -1
theorem atoi_dec {v : Nat} (hv : v ≤ 999999) : Lib.atoiAll (Lib.decDigits v) = .ok (v : Int) := by
  have h1 := dec_len6 5 v (by omega)
  rw [Lib.atoiAll_short _ (by omega)]
  have hs := dec_spell v
  have hne := dec_ne v
  cases hl : Lib.decDigits v with
  | nil => exact absurd hl hne
  | cons b r =>
    rw [hl] at hs
    have hb : ∃ d, Lib.digitVal b = some d := by
      simp only [Lib.decFrom] at hs
      cases hd : Lib.digitVal b with
      | none => rw [hd] at hs; cases hs
      | some d => exact ⟨d, rfl⟩
    obtain ⟨d, hd⟩ := hb
    obtain ⟨rfl, h9⟩ := digit_inv hd
    have e : (UInt8.ofNat (48 + d)).toNat = 48 + d := by rw [UInt8.toNat_ofNat']; omega
    have n1 : (UInt8.ofNat (48 + d) == 45) = false := by
      rw [beq_eq_false_iff_ne]; intro k; have := congrArg UInt8.toNat k; rw [e] at this; have e45 : (45 : UInt8).toNat = 45 := rfl; omega
    have n2 : (UInt8.ofNat (48 + d) == 43) = false := by
      rw [beq_eq_false_iff_ne]; intro k; have := congrArg UInt8.toNat k; rw [e] at this; have e43 : (43 : UInt8).toNat = 43 := rfl; omega
    unfold Lib.atoi
    simp only [n1, n2, Bool.false_eq_true, if_false]
    unfold Lib.decNat
    simp only [List.isEmpty_cons, Bool.false_eq_true, if_false]
    rw [hs]; rfl
theorem numL_eq (l : List UInt8) : numL l = rdL l := by
  by_cases h : rdL l = -1
  · rw [h]
    unfold numL
    cases ha : Lib.atoiAll l with
    | ok v =>
      simp only
      by_cases hc : 0 ≤ v ∧ v ≤ 999999 ∧ Lib.itoa v = l
      · obtain ⟨n, rfl⟩ := Int.eq_ofNat_of_zero_le hc.1
        have := rdL_of (l := l) (v := n) (by omega) (by rw [← hc.2.2, itoa_nat])
        omega
      · rw [if_neg hc]
    | _ => rfl
  · obtain ⟨v, h1, h2, h3⟩ := rdL_inv h
    rw [h3]
    unfold numL
    rw [← h2, atoi_dec h1]
    simp only
    rw [if_pos ⟨by omega, by omega, itoa_nat v⟩]
/-! ### numbers read -/
abbrev bL (s : ByteArray) : List UInt8 := s.data.toList
theorem bL_len (s : ByteArray) : (bL s).length = s.size := by
  show s.data.toList.length = s.data.size
  rw [Array.length_toList]
theorem bt_get {s : ByteArray} {i : Nat} (h : i < (bL s).length) : bt s (i : Int) = ((bL s)[i].toNat : Int) := by
  unfold bt
  rw [Int.toNat_natCast, List.getD_eq_getElem?_getD, List.getElem?_eq_getElem h]; rfl
theorem bL_inj {a b : ByteArray} (h : bL a = bL b) : a = b := by
  obtain ⟨⟨x⟩⟩ := a
  obtain ⟨⟨y⟩⟩ := b
  have h : x = y := h
  rw [h]
def ofDec : Option Nat → Int | some n => (n : Int) | none => -1
theorem read_loop (s : ByteArray) (hs : s.size ≤ 6) : ∀ (d i n : Nat), i + d = (bL s).length → n < 10 ^ i → s_l1Read_L1 s (n : Int) (i : Int) = some (ofDec (Lib.decFrom n ((bL s).drop i)))
  | 0, i, n, h, hn => by
    have hl := bL_len s
    rw [s_l1Read_u1, s_l1Read_t1, decide_eq_false (by omega), cond_false, List.drop_of_length_le (by omega)]; rfl
  | d + 1, i, n, h, hn => by
    have hl := bL_len s
    have hi : i < (bL s).length := by omega
    have hp : 10 ^ i ≤ 10 ^ 6 := Nat.pow_le_pow_right (by omega) (by omega)
    rw [s_l1Read_u1, s_l1Read_t1, decide_eq_true (show (i : Int) < (s.size : Int) by omega), decide_eq_true (Int.natCast_nonneg i), bt_get hi, List.drop_eq_getElem_cons hi]
    simp only [cond_true, Lib.decFrom]
    unfold Lib.digitVal
    by_cases h1 : ((bL s)[i].toNat : Int) < 48
    · rw [decide_eq_true h1, if_neg (by omega)]; rfl
    · by_cases h2 : ((bL s)[i].toNat : Int) > 57
      · rw [decide_eq_false h1, decide_eq_true h2, if_neg (by omega)]; rfl
      · rw [decide_eq_false h1, decide_eq_false h2, if_pos (by omega)]
        simp only [cond_false]
        rw [wrapU8 (n := ((bL s)[i].toNat : Int) - 48) (by omega) (by omega), wrapI (n := ((bL s)[i].toNat : Int) - 48) (by omega) (by omega), wrapI (n := 10 * (n : Int)) (by omega) (by omega), wrapI (n := 10 * (n : Int) + _) (by omega) (by omega), wrapI (n := (i : Int) + 1) (by omega) (by omega)]
        have e1 : 10 * (n : Int) + (((bL s)[i].toNat : Int) - 48) = ((n * 10 + ((bL s)[i].toNat - 48) : Nat) : Int) := by omega
        rw [e1, show (i : Int) + 1 = ((i + 1 : Nat) : Int) by omega]
        exact read_loop s hs d (i + 1) _ (by omega) (by rw [Nat.pow_succ]; omega)
theorem read_ok (s : ByteArray) : s_l1Read s = some (rdL (bL s)) := by
  have hl := bL_len s
  unfold s_l1Read s_l1Read_t0 rdL
  by_cases h : 1 ≤ s.size ∧ s.size ≤ 6
  · have h1 : s_l1In (s.size : Int) 1 6 = true := by
      unfold s_l1In
      rw [decide_eq_true (by omega), decide_eq_true (by omega)]; rfl
    have h0 : 0 < (bL s).length := by omega
    have hh : (bL s).head? = some (bL s)[0] := by rw [List.head?_eq_getElem?, List.getElem?_eq_getElem h0]
    have hb : bt s 0 = ((bL s)[0].toNat : Int) := bt_get (i := 0) h0
    have lp := read_loop s h.2 (bL s).length 0 0 (by omega) (by simp)
    have lp : s_l1Read_L1 s 0 0 = some (ofDec (Lib.decFrom 0 (bL s))) := lp
    rw [h1, decide_eq_true (show (0 : Int) < (s.size : Int) by omega), hb, hh, lp]
    simp only [Bool.not_true, cond_false, cond_true]
    by_cases hz : (bL s)[0] = 48
    · rw [hz]
      have e48 : (((48 : UInt8).toNat : Int) == 48) = true := rfl
      rw [e48, cond_true]
      by_cases h2 : s.size = 1
      · rw [decide_eq_false (show ¬ (s.size : Int) > 1 by omega), cond_false, if_pos ⟨by omega, by omega, fun _ => by omega⟩]
        unfold ofDec; rfl
      · rw [decide_eq_true (show (s.size : Int) > 1 by omega), cond_true, if_neg]
        intro hc
        have := hc.2.2 rfl
        omega
    · have e48 : (((bL s)[0].toNat : Int) == 48) = false := by
        rw [beq_eq_false_iff_ne]
        intro e
        apply hz
        apply UInt8.toNat_inj.1
        have : (48 : UInt8).toNat = 48 := rfl
        omega
      rw [e48, cond_false, if_pos ⟨by omega, by omega, fun e => absurd (Option.some.inj e) hz⟩]
      unfold ofDec; rfl
  · have h1 : s_l1In (s.size : Int) 1 6 = false := by
      unfold s_l1In
      by_cases h2 : (s.size : Int) ≥ 1
      · rw [decide_eq_true h2, cond_true, decide_eq_false (by omega)]
      · rw [decide_eq_false h2]; rfl
    rw [h1, if_neg (by omega)]; rfl
theorem num_eq {s : ByteArray} (hs : s.size ≤ 281474976710656) : i_num s = some (numL (bL s)) := by
  unfold i_num strconv_Atoi atoiF
  rw [if_pos hs, Option.bind_some]
  unfold atoiV numL
  cases ha : Lib.atoiAll (bL s) with
  | ok v =>
    simp only [Bool.not_true, cond_false]
    by_cases h1 : v < 0
    · rw [decide_eq_true h1, cond_true, if_neg (by omega)]
    · by_cases h2 : v > 999999
      · rw [decide_eq_false h1, decide_eq_true h2, cond_false, cond_true, if_neg (by omega)]
      · rw [decide_eq_false h1, decide_eq_false h2, cond_false, cond_false]
        unfold strconv_Itoa itoaF
        rw [if_pos (by omega), Option.bind_some]
        have e1 : ByteArray.toList (⟨(Lib.itoa v).toArray⟩ : ByteArray) = Lib.itoa v := by rw [ByteArray.toList_eq]
        have e2 : ByteArray.toList s = bL s := ByteArray.toList_eq s
        rw [e1, e2]
        by_cases h3 : Lib.itoa v = bL s
        · rw [if_pos ⟨by omega, by omega, h3⟩, h3, beq_self_eq_true]; rfl
        · rw [if_neg (fun c => h3 c.2.2), show (Lib.itoa v == bL s) = false from beq_eq_false_iff_ne.2 h3]; rfl
  | _ => rfl
/-! ### texts split -/
def spl (c : UInt8) : List UInt8 → List (List UInt8)
  | [] => [[]]
  | b :: r => if b = c then [] :: spl c r else match spl c r with | h :: t => (b :: h) :: t | [] => [[b]]
theorem spl_ne (c : UInt8) : ∀ l : List UInt8, spl c l ≠ []
  | [] => by simp [spl]
  | b :: r => by
    unfold spl
    split
    · simp
    · split <;> simp
theorem spl_join (c : UInt8) : ∀ l : List UInt8, Lib.join (spl c l) [c] = l
  | [] => rfl
  | b :: r => by
    have ih := spl_join c r
    unfold spl
    by_cases h : b = c
    · rw [if_pos h, h]
      cases hs : spl c r with
      | nil => exact absurd hs (spl_ne c r)
      | cons x t =>
        rw [hs, Lib.join_cons] at ih
        rw [Lib.join_cons]
        simp [Lib.joinTail] at ih ⊢
        exact ih
    · rw [if_neg h]
      cases hs : spl c r with
      | nil => exact absurd hs (spl_ne c r)
      | cons x t =>
        rw [hs, Lib.join_cons] at ih
        simp only
        rw [Lib.join_cons, List.cons_append, ih]
/-- a piece without the byte, then the byte -/
theorem spl_piece (c : UInt8) : ∀ (p r : List UInt8), c ∉ p → spl c (p ++ c :: r) = p :: spl c r
  | [], r, _ => by simp [spl]
  | b :: p, r, h => by
    have hb : ¬ b = c := fun e => h (by rw [e]; exact List.mem_cons_self)
    have ih := spl_piece c p r (fun m => h (List.mem_cons_of_mem _ m))
    rw [List.cons_append]
    conv => lhs; unfold spl
    rw [if_neg hb, ih]
theorem spl_last (c : UInt8) : ∀ p : List UInt8, c ∉ p → spl c p = [p]
  | [], _ => rfl
  | b :: p, h => by
    have hb : ¬ b = c := fun e => h (by rw [e]; exact List.mem_cons_self)
    have ih := spl_last c p (fun m => h (List.mem_cons_of_mem _ m))
    unfold spl
    rw [if_neg hb, ih]
theorem split_spl (c : UInt8) : ∀ l : List UInt8, Lib.splitK [c] 0 (Lib.count l [c]) l = spl c l
  | [] => by
    have h : Lib.count [] [c] = 0 := by rw [Lib.count_one]; rfl
    rw [h]; rfl
  | b :: r => by
    have ih := split_spl c r
    by_cases h : b = c
    · subst h
      have hix : Lib.index (b :: r) [b] = 0 := by rw [Lib.index]; simp [List.isPrefixOf]
      rw [Lib.count_cons_eq, Nat.add_comm, Lib.splitK, hix]
      unfold spl
      rw [if_pos rfl, ← ih]
      simp
    · rw [Lib.count_cons_ne b c r h]
      unfold spl
      rw [if_neg h, ← ih]
      have hp : ([c] : List UInt8).isPrefixOf (b :: r) = false := by simp [List.isPrefixOf, Ne.symm h]
      have hix : Lib.index (b :: r) [c] = if Lib.index r [c] == -1 then -1 else Lib.index r [c] + 1 := by rw [Lib.index, hp]; simp
      cases hk : Lib.count r [c] with
      | zero => rfl
      | succ k =>
        by_cases hm : Lib.index r [c] = -1
        · have := Lib.count_miss hm
          omega
        · have hge := Lib.index_ge r [c]
          obtain ⟨j, hj⟩ : ∃ j : Nat, Lib.index r [c] = j := ⟨(Lib.index r [c]).toNat, by omega⟩
          have hne : (Lib.index r [c] == -1) = false := beq_eq_false_iff_ne.2 hm
          have hne2 : (((j : Int) + 1) == -1) = false := beq_eq_false_iff_ne.2 (by omega)
          have hne3 : ((j : Int) == -1) = false := beq_eq_false_iff_ne.2 (by omega)
          rw [Lib.splitK, Lib.splitK, hix, hne]
          simp only [Bool.false_eq_true, if_false, hj, hne2, hne3]
          have e1 : ((j : Int) + 1).toNat = j + 1 := by omega
          rw [e1, Int.toNat_natCast]
          simp [Nat.add_comm]
          rw [Nat.add_comm 1 (j + 1)]
          rfl
theorem split_ok {s : ByteArray} (hs : s.size < 4294967281) (c : UInt8) : ∃ ps : List ByteArray, strings_Split s ⟨#[c]⟩ = some ps ∧ ps.map bL = spl c (bL s) := by
  unfold strings_Split splitF
  have h1 : (⟨#[c]⟩ : ByteArray).size = 1 := rfl
  rw [if_pos ⟨hs, by omega⟩]
  exact ⟨_, rfl, (Lib.splitB_data _ _ _ _).trans (split_spl c (bL s))⟩
theorem bt_eq {s : ByteArray} {i : Nat} (h : i < (bL s).length) (c : UInt8) : (bt s (i : Int) == ((c.toNat : Nat) : Int)) = decide ((bL s)[i] = c) := by
  rw [bt_get h]
  by_cases e : (bL s)[i] = c
  · rw [e, decide_eq_true rfl, beq_self_eq_true]
  · rw [decide_eq_false e, beq_eq_false_iff_ne]
    intro k
    exact e (UInt8.toNat_inj.1 (by omega))
theorem ext_bL (s : ByteArray) (a b : Nat) : bL (s.extract a b) = ((bL s).drop a).take (b - a) := Lib.extract_data s a b
/-- the reference's splitting -/
theorem l1Split_loop (s : ByteArray) (hs : s.size ≤ 1000000) (c : UInt8) : ∀ (d i f : Nat) (r : List ByteArray), i + d = (bL s).length → f ≤ i → c ∉ ((bL s).drop f).take (i - f) → r.length ≤ i →
    ∃ ps : List ByteArray, s_l1Split_L1 r s ((c.toNat : Nat) : Int) (f : Int) (i : Int) = some (r ++ ps) ∧ ps.map bL = spl c ((bL s).drop f)
  | 0, i, f, r, h, hf, hc, hr => by
    have hl := bL_len s
    refine ⟨[s.extract f s.size], ?_, ?_⟩
    · rw [s_l1Split_u1, s_l1Split_t1, decide_eq_false (by omega), cond_false, decide_eq_true (Int.natCast_nonneg f), decide_eq_true (show (f : Int) ≤ (s.size : Int) by omega), ble_dec, decide_eq_true (by omega), Int.toNat_natCast, Int.toNat_natCast]
      rfl
    · have e : ((bL s).drop f).take (i - f) = (bL s).drop f := List.take_of_length_le (by rw [List.length_drop]; omega)
      rw [e] at hc
      rw [spl_last c _ hc, List.map_cons, List.map_nil, ext_bL]
      congr 1
      exact List.take_of_length_le (by rw [List.length_drop]; omega)
  | d + 1, i, f, r, h, hf, hc, hr => by
    have hl := bL_len s
    have hi : i < (bL s).length := by omega
    have hsplit : (bL s).drop f = ((bL s).drop f).take (i - f) ++ (bL s)[i] :: (bL s).drop (i + 1) := by
      have e := List.take_append_drop (i - f) ((bL s).drop f)
      rw [List.drop_drop, show f + (i - f) = i by omega, List.drop_eq_getElem_cons hi] at e
      exact e.symm
    rw [s_l1Split_u1, s_l1Split_t1, decide_eq_true (show (i : Int) < (s.size : Int) by omega), decide_eq_true (Int.natCast_nonneg i), bt_eq hi, decide_eq_true (show (i : Int) ≤ (s.size : Int) by omega), decide_eq_true (Int.natCast_nonneg f), decide_eq_true (show (f : Int) ≤ (i : Int) by omega), ble_dec, decide_eq_true (show r.length + 1 ≤ 4294967296 by omega), wrapI (n := (i : Int) + 1) (by omega) (by omega), Int.toNat_natCast, Int.toNat_natCast, show (i : Int) + 1 = ((i + 1 : Nat) : Int) by omega]
    simp only [cond_true]
    by_cases e : (bL s)[i] = c
    · rw [decide_eq_true e, cond_true]
      obtain ⟨ps, h1, h2⟩ := l1Split_loop s hs c d (i + 1) (i + 1) (r ++ [s.extract f i]) (by omega) (Nat.le_refl _) (by simp) (by simp; omega)
      refine ⟨s.extract f i :: ps, ?_, ?_⟩
      · rw [h1, List.append_assoc]; rfl
      · rw [List.map_cons, h2, ext_bL, hsplit, e, spl_piece c _ _ hc]
        congr 1
        rw [← e, ← hsplit]
    · rw [decide_eq_false e, cond_false]
      refine l1Split_loop s hs c d (i + 1) f r (by omega) (by omega) ?_ (by omega)
      rw [hsplit, show i + 1 - f = (i - f) + 1 by omega]
      intro m
      rw [List.take_append, List.mem_append] at m
      rcases m with m | m
      · exact hc (List.mem_of_mem_take m)
      · have hlen : (((bL s).drop f).take (i - f)).length = i - f := by rw [List.length_take, List.length_drop]; omega
        rw [hlen, show i - f + 1 - (i - f) = 1 by omega] at m
        simp at m
        exact e m.symm
theorem l1Split_ok {s : ByteArray} (hs : s.size ≤ 1000000) (c : UInt8) : ∃ ps : List ByteArray, s_l1Split s ((c.toNat : Nat) : Int) = some ps ∧ ps.map bL = spl c (bL s) := by
  unfold s_l1Split s_l1Split_t0
  obtain ⟨ps, h1, h2⟩ := l1Split_loop s hs c (bL s).length 0 0 [] (by omega) (Nat.le_refl _) (by simp) (Nat.le_refl _)
  exact ⟨ps, h1, h2⟩
/-! ### numbers between -/
theorem spl_len (c : UInt8) : ∀ (l : List UInt8), (∀ x, x ∈ spl c l → x.length ≤ l.length) ∧ (spl c l).length ≤ l.length + 1
  | [] => by simp [spl]
  | b :: r => by
    obtain ⟨h1, h2⟩ := spl_len c r
    unfold spl
    by_cases h : b = c
    · rw [if_pos h]
      refine ⟨fun x hx => ?_, by simp only [List.length_cons]; omega⟩
      rcases List.mem_cons.1 hx with e | e
      · subst e; simp
      · have := h1 x e; simp only [List.length_cons]; omega
    · rw [if_neg h]
      cases hs : spl c r with
      | nil => exact absurd hs (spl_ne c r)
      | cons y t =>
        rw [hs] at h1 h2
        simp only
        refine ⟨fun x hx => ?_, by simp only [List.length_cons] at h2 ⊢; omega⟩
        rcases List.mem_cons.1 hx with e | e
        · subst e; have := h1 y (by simp); simp only [List.length_cons]; omega
        · have := h1 x (List.mem_cons_of_mem _ e); simp only [List.length_cons]; omega
theorem pieces_bd {s : ByteArray} {c : UInt8} {ps : List ByteArray} (h : ps.map bL = spl c (bL s)) : (∀ p, p ∈ ps → p.size ≤ s.size) ∧ ps.length ≤ s.size + 1 := by
  obtain ⟨h1, h2⟩ := spl_len c (bL s)
  have e : ps.length = (spl c (bL s)).length := by rw [← h, List.length_map]
  rw [bL_len] at h1 h2
  refine ⟨fun p hp => ?_, by omega⟩
  have := h1 (bL p) (by rw [← h]; exact List.mem_map_of_mem hp)
  rw [bL_len] at this; exact this
abbrev rd (p : ByteArray) : Int := rdL (bL p)
abbrev okP (p : ByteArray) : Bool := decide (0 ≤ rd p)
theorem rdL_bd (l : List UInt8) : -1 ≤ rdL l ∧ rdL l ≤ 999999 := by
  by_cases h : rdL l = -1
  · omega
  · obtain ⟨v, h1, _, h3⟩ := rdL_inv h; omega
theorem rd_text {p : ByteArray} (h : 0 ≤ rd p) : Lib.itoa (rd p) = bL p := by
  obtain ⟨v, h1, h2, h3⟩ := rdL_inv (l := bL p) (by unfold rd at h; omega)
  unfold rd
  rw [h3, itoa_nat, h2]
theorem nums_ok {s : ByteArray} (hs : s.size ≤ 2000000) (c : UInt8) : ∃ ps : List ByteArray, ps.map bL = spl c (bL s) ∧ i_nums s ⟨#[c]⟩ = some (bif ps.all okP then (ps.map rd, true) else ([], false)) := by
  obtain ⟨ps, h1, h2⟩ := split_ok (s := s) (by omega) c
  obtain ⟨b1, b2⟩ := pieces_bd h2
  refine ⟨ps, h2, ?_⟩
  unfold i_nums i_nums_t0
  rw [h1, Option.bind_some]
  have main : ∀ (d i : Nat), i + d = ps.length → i_nums_L1 ((ps.take i).map rd) ps (ps.length : Int) (i : Int) = some (bif (ps.drop i).all okP then (ps.map rd, true) else ([], false)) := by
    intro d
    induction d with
    | zero =>
      intro i hi
      have hi : i = ps.length := by omega
      subst hi
      rw [i_nums_u1, i_nums_t1, decide_eq_false (by omega), cond_false, List.take_length, List.drop_length]; rfl
    | succ d ih =>
      intro i hi
      have hil : i < ps.length := by omega
      have hb := b1 ps[i] (List.getElem_mem hil)
      have hh := ih (i + 1) (by omega)
      rw [List.take_add_one, List.getElem?_eq_getElem hil, List.map_append] at hh
      rw [i_nums_u1, i_nums_t1, decide_eq_true (show (i : Int) < ps.length by omega), decide_eq_true (Int.natCast_nonneg i), rdk_get (k := kstring) hil, num_eq (by omega), numL_eq, wrapS hil (by rw [maxLen_eq]; omega), ble_dec, decide_eq_true (by rw [List.length_map, List.length_take]; omega), List.drop_eq_getElem_cons hil, List.all_cons]
      simp only [cond_true, Option.bind_some]
      by_cases hn : rd ps[i] < 0
      · rw [decide_eq_true hn, show okP ps[i] = false from decide_eq_false (by omega)]; rfl
      · rw [decide_eq_false hn, show okP ps[i] = true from decide_eq_true (by omega)]
        exact hh
  exact main ps.length 0 (by omega)
/-! ### puzzles read back -/
def clOf (l : List Int) : Int × Int × Int := (l.getD 0 0, l.getD 1 0, l.getD 2 0)
/-- the pieces of a piece -/
def sub46 (p : ByteArray) : List (List UInt8) := spl 46 (bL p)
/-- what a piece tells -/
def clR (p : ByteArray) : Int × Int × Int := clOf ((sub46 p).map rdL)
def pOk (p : ByteArray) : Bool := (sub46 p).all (fun x => decide (0 ≤ rdL x)) && decide ((sub46 p).length = 3)
theorem three {α : Type} {l : List α} (h : l.length = 3) : ∃ a b c, l = [a, b, c] := by
  match l, h with
  | [a, b, c], _ => exact ⟨a, b, c, rfl⟩
theorem clue_text {p : ByteArray} (h : pOk p = true) : cT (clR p) = bL p := by
  unfold pOk at h
  rw [Bool.and_eq_true, decide_eq_true_eq] at h
  obtain ⟨a, b, c, e⟩ := three h.2
  have hj := spl_join 46 (bL p)
  have ho := h.1
  unfold clR
  unfold sub46 at e ho ⊢
  rw [e] at hj ho ⊢
  simp only [List.all_cons, List.all_nil, Bool.and_true, Bool.and_eq_true, decide_eq_true_eq] at ho
  have tx : ∀ x : List UInt8, 0 ≤ rdL x → Lib.itoa (rdL x) = x := fun x hx => by
    obtain ⟨v, h1, h2, h3⟩ := rdL_inv (l := x) (by omega)
    rw [h3, itoa_nat, h2]
  show Lib.join [Lib.itoa (rdL a), Lib.itoa (rdL b), Lib.itoa (rdL c)] [46] = bL p
  rw [tx a ho.1, tx b ho.2.1, tx c ho.2.2]
  exact hj
theorem clue_nums {p : ByteArray} (hp : p.size ≤ 2000000) : i_nums p { data := #[46] } = some (bif (sub46 p).all (fun x => decide (0 ≤ rdL x)) then ((sub46 p).map rdL, true) else ([], false)) := by
  obtain ⟨ps, h1, h2⟩ := nums_ok hp 46
  have e46 : (⟨#[46]⟩ : ByteArray) = { data := #[46] } := rfl
  rw [e46] at h2
  rw [h2]
  unfold sub46
  rw [← h1, List.map_map, List.all_map]
  rfl
theorem puzzle_iP {ps : List ByteArray} (hps : ∀ p, p ∈ ps → p.size ≤ 2000000) (hl : ps.length ≤ 3000000) : i_ParsePuzzle_L1 ps [] [] (ps.length : Int) 0 = some (bif ps.all pOk then (bif s_pzGood_n (ps.map clR) then (ps.map clR, true) else ([], false)) else ([], false)) := by
  have main : ∀ (d i : Nat), i + d = ps.length → i_ParsePuzzle_L1 ps [] ((ps.take i).map clR) (ps.length : Int) (i : Int) = some (bif (ps.drop i).all pOk then (bif s_pzGood_n (ps.map clR) then (ps.map clR, true) else ([], false)) else ([], false)) := by
    intro d
    induction d with
    | zero =>
      intro i hi
      have hi : i = ps.length := by omega
      subst hi
      rw [i_ParsePuzzle_u1, i_ParsePuzzle_t1, decide_eq_false (by omega), cond_false, List.take_length, List.drop_length, IsPuzzle_eq]
      cases s_pzGood_n (ps.map clR) <;> rfl
    | succ d ih =>
      intro i hi
      have hil : i < ps.length := by omega
      have hb := hps ps[i] (List.getElem_mem hil)
      have hh := ih (i + 1) (by omega)
      rw [List.take_add_one, List.getElem?_eq_getElem hil, List.map_append] at hh
      rw [i_ParsePuzzle_u1, i_ParsePuzzle_t1, decide_eq_true (show (i : Int) < ps.length by omega), decide_eq_true (Int.natCast_nonneg i), rdk_get (k := kstring) hil, clue_nums hb, wrapS hil (by rw [maxLen_eq]; omega), ble_dec, decide_eq_true (by rw [List.length_map, List.length_take]; omega), List.drop_eq_getElem_cons hil, List.all_cons]
      simp only [cond_true, Option.bind_some]
      have ep : pOk ps[i] = ((sub46 ps[i]).all (fun x => decide (0 ≤ rdL x)) && decide ((sub46 ps[i]).length = 3)) := rfl
      rw [ep]
      cases ho : (sub46 ps[i]).all (fun x => decide (0 ≤ rdL x))
      · rfl
      · simp only [cond_true, Bool.not_true, cond_false, Bool.true_and, List.length_map]
        by_cases h3 : (sub46 ps[i]).length = 3
        · rw [show (((sub46 ps[i]).length : Int) != 3) = false from by rw [bne_eq_false_iff_eq]; omega, decide_eq_true h3, decide_eq_true (show (0 : Int) < ((sub46 ps[i]).length : Int) by omega), decide_eq_true (show (1 : Int) < ((sub46 ps[i]).length : Int) by omega), decide_eq_true (show (2 : Int) < ((sub46 ps[i]).length : Int) by omega)]
          simp only [cond_true, cond_false, Bool.true_and]
          exact hh
        · rw [show (((sub46 ps[i]).length : Int) != 3) = true from by rw [bne_iff_ne]; omega, decide_eq_false h3]; rfl
  exact main ps.length 0 (by omega)
/-! ### puzzles by the reference -/
def all3 (ps : List ByteArray) : Bool := ps.all fun p => decide ((sub46 p).length = 3)
theorem puzzle_sP {t : ByteArray} {qs : List ByteArray} (hps : ∀ p, p ∈ qs → p.size ≤ 1000000) (hl : qs.length ≤ 1000000) :
    ∃ X f, s_pzParse_L1 qs [] [] t (qs.length : Int) 0 = some (X, f) ∧ f = (all3 qs && (s_pzGood_n (qs.map clR) && (Lib.join ((qs.map clR).map cT) [44] == bL t))) ∧ (f = true → X = qs.map clR) := by
  have main : ∀ (d i : Nat), i + d = qs.length → ∃ X f, s_pzParse_L1 qs [] ((qs.take i).map clR) t (qs.length : Int) (i : Int) = some (X, f) ∧ f = (all3 (qs.drop i) && (s_pzGood_n (qs.map clR) && (Lib.join ((qs.map clR).map cT) [44] == bL t))) ∧ (f = true → X = qs.map clR) := by
    intro d
    induction d with
    | zero =>
      intro i hi
      have hi : i = qs.length := by omega
      subst hi
      rw [s_pzParse_u1, s_pzParse_t1, decide_eq_false (by omega), cond_false, List.take_length, List.drop_length]
      cases hg : s_pzGood_n (qs.map clR)
      · exact ⟨_, _, rfl, by simp, fun h => by cases h⟩
      · rw [cond_true, puzzle_s (puzzle_good hg), Option.bind_some]
        have e1 : ByteArray.toList (⟨(Lib.join ((qs.map clR).map cT) [44]).toArray⟩ : ByteArray) = Lib.join ((qs.map clR).map cT) [44] := ByteArray.toList_eq _
        have e2 : ByteArray.toList t = bL t := ByteArray.toList_eq t
        rw [e1, e2]
        exact ⟨_, _, rfl, by simp [all3], fun _ => rfl⟩
    | succ d ih =>
      intro i hi
      have hil : i < qs.length := by omega
      have hb := hps qs[i] (List.getElem_mem hil)
      obtain ⟨X, f, h1, h2, h3⟩ := ih (i + 1) (by omega)
      rw [List.take_add_one, List.getElem?_eq_getElem hil, List.map_append] at h1
      obtain ⟨rs, r1, r2⟩ := l1Split_ok hb 46
      have e : ((46 : UInt8).toNat : Int) = 46 := rfl
      rw [e] at r1
      have r2 : rs.map bL = sub46 qs[i] := r2
      have rl : rs.length = (sub46 qs[i]).length := by rw [← r2, List.length_map]
      rw [s_pzParse_u1, s_pzParse_t1, decide_eq_true (show (i : Int) < qs.length by omega), decide_eq_true (Int.natCast_nonneg i), rdk_get (k := kstring) hil, r1, wrapS hil (by rw [maxLen_eq]; omega), ble_dec, decide_eq_true (by rw [List.length_map, List.length_take]; omega), List.drop_eq_getElem_cons hil]
      simp only [cond_true, Option.bind_some]
      have ea : all3 (qs[i] :: qs.drop (i + 1)) = (decide ((sub46 qs[i]).length = 3) && all3 (qs.drop (i + 1))) := rfl
      rw [ea]
      by_cases hn : (sub46 qs[i]).length = 3
      · obtain ⟨a, b, c, er⟩ := three (l := rs) (by omega)
        subst er
        have ec : clR qs[i] = (rdL (bL a), rdL (bL b), rdL (bL c)) := by
          unfold clR
          rw [← r2]; rfl
        have e0 : rdk kstring [a, b, c] 0 = a := rfl
        have e1 : rdk kstring [a, b, c] 1 = b := rfl
        have e2 : rdk kstring [a, b, c] 2 = c := rfl
        have el : ((([a, b, c] : List ByteArray).length : Nat) : Int) = 3 := rfl
        rw [e0, e1, e2, el, read_ok, read_ok, read_ok, decide_eq_true hn]
        simp only [bne_self_eq_false, cond_false, Option.bind_some, Bool.true_and]
        have d0 : decide ((0 : Int) < 3) = true := rfl
        have d1 : decide ((1 : Int) < 3) = true := rfl
        have d2 : decide ((2 : Int) < 3) = true := rfl
        rw [d0, d1, d2]
        simp only [cond_true]
        refine ⟨X, f, ?_, h2, h3⟩
        rw [← h1]
        show s_pzParse_L1 qs [] ((qs.take i).map clR ++ [(rdL (bL a), rdL (bL b), rdL (bL c))]) t _ _ = s_pzParse_L1 qs [] ((qs.take i).map clR ++ [clR qs[i]]) t _ _
        rw [ec]
      · rw [show ((rs.length : Int) != 3) = true from by rw [bne_iff_ne]; omega, decide_eq_false hn]
        exact ⟨_, _, rfl, rfl, fun h => by cases h⟩
  exact main qs.length 0 (by omega)
theorem itoa1 {n : Int} (k : Nat) (h0 : 0 ≤ n) (h1 : n < 10 ^ (k + 1)) : (Lib.itoa n).length ≤ k + 1 := by
  obtain ⟨m, rfl⟩ := Int.eq_ofNat_of_zero_le h0
  rw [itoa_nat]
  exact dec_len6 k m (by exact_mod_cast h1)
theorem clue_small {c : Int × Int × Int} (h : s_pzClue c.1 c.2.1 c.2.2 = true) : (cT c).length ≤ 6 := by
  obtain ⟨h1, h2, h3⟩ := clue_bd h
  have a := itoa1 0 h1.1 (by simp; omega)
  have b := itoa1 0 h2.1 (by simp; omega)
  have d := itoa1 1 h3.1 (by simp; omega)
  rw [cT_eq]
  simp only [List.length_append, List.length_singleton]; omega
theorem good_clues {l : List (Int × Int × Int)} (h : s_pzGood_n l = true) : ∀ c, c ∈ l → s_pzClue c.1 c.2.1 c.2.2 = true := by
  intro c hc
  unfold s_pzGood_n at h
  cases hl : decide ((l.length : Int) > 6)
  · rw [hl, cond_false] at h
    cases ha : l.any (fun c => !s_pzClue c.1 c.2.1 c.2.2)
    · have := List.any_eq_false.1 ha c hc
      simpa using this
    · rw [ha] at h; cases h
  · rw [hl] at h; cases h
theorem ParsePuzzle_both {t : ByteArray} (ht : t.size ≤ 2000000) : ∃ l f, i_ParsePuzzle t = some (l, f) ∧ s_ParsePuzzle t = some (l, f) ∧ l.length ≤ 100 := by
  have e2 : ByteArray.toList t = bL t := ByteArray.toList_eq t
  have e0 : ByteArray.toList ({ data := #[] } : ByteArray) = [] := ByteArray.toList_eq _
  unfold i_ParsePuzzle i_ParsePuzzle_t0 s_ParsePuzzle s_pzParse s_pzParse_t0
  rw [e2, e0]
  by_cases hz : bL t = []
  · have hl := bL_len t
    rw [hz] at hl
    have hl : t.size = 0 := hl.symm
    rw [hz, decide_eq_false (show ¬ (t.size : Int) > 60 by omega)]
    exact ⟨[], true, rfl, rfl, by simp⟩
  · have hne : (bL t == ([] : List UInt8)) = false := beq_eq_false_iff_ne.2 hz
    obtain ⟨ps, p1, p2⟩ := split_ok (s := t) (by omega) 44
    have e44 : (⟨#[44]⟩ : ByteArray) = { data := #[44] } := rfl
    rw [e44] at p1
    obtain ⟨b1, b2⟩ := pieces_bd p2
    rw [hne, cond_false, cond_false, p1, Option.bind_some, puzzle_iP (fun p hp => by have := b1 p hp; omega) (by omega)]
    -- what is good
    have back : ps.all pOk = true → Lib.join ((ps.map clR).map cT) [44] = bL t := fun ho => by
      have e : (ps.map clR).map cT = ps.map bL := by
        rw [List.map_map]
        exact List.map_congr_left fun p hp => clue_text (List.all_eq_true.1 ho p hp)
      rw [e, p2, spl_join]
    have short : ps.all pOk = true → s_pzGood_n (ps.map clR) = true → t.size ≤ 60 ∧ ps.length ≤ 6 := fun ho hg => by
      have hb := back ho
      have h6 := s_pzGood_len hg
      have l1 := join_len [44] ((ps.map clR).map cT)
      have l2 := lens_le (c := 6) (xs := (ps.map clR).map cT) (fun x hx => by
        obtain ⟨c, hc, rfl⟩ := List.mem_map.1 hx
        exact clue_small (good_clues hg c hc))
      rw [hb, bL_len] at l1
      rw [List.length_map] at l1 l2
      have l3 : ([44] : List UInt8).length * (ps.map clR).length ≤ 1 * 6 := Nat.mul_le_mul (by simp) h6
      have l4 : 6 * (ps.map clR).length ≤ 6 * 6 := Nat.mul_le_mul_left _ h6
      rw [List.length_map] at h6
      exact ⟨by omega, h6⟩
    by_cases hs : t.size > 60
    · rw [decide_eq_true (show (t.size : Int) > 60 by omega)]
      refine ⟨[], false, ?_, rfl, by simp⟩
      cases ho : ps.all pOk
      · rfl
      · cases hg : s_pzGood_n (ps.map clR)
        · rfl
        · have := (short ho hg).1; omega
    · rw [decide_eq_false (show ¬ (t.size : Int) > 60 by omega), cond_false]
      obtain ⟨qs, q1, q2⟩ := l1Split_ok (s := t) (by omega) 44
      have e : ((44 : UInt8).toNat : Int) = 44 := rfl
      rw [e] at q1
      have hqp : qs = ps := by
        have : qs.map bL = ps.map bL := by rw [q2, p2]
        exact (List.map_inj_right (f := bL) (fun a b h => bL_inj h)).1 this
      subst hqp
      rw [q1, Option.bind_some]
      obtain ⟨X, f, h1, h2, h3⟩ := puzzle_sP (t := t) (qs := qs) (fun p hp => by have := b1 p hp; omega) (by omega)
      rw [h1, Option.bind_some]
      have hf : f = (qs.all pOk && s_pzGood_n (qs.map clR)) := by
        rw [h2, Bool.eq_iff_iff, Bool.and_eq_true, Bool.and_eq_true, Bool.and_eq_true, beq_iff_eq]
        constructor
        · rintro ⟨ha, hg, _⟩
          refine ⟨List.all_eq_true.2 fun p hp => ?_, hg⟩
          have g := puzzle_good hg
          have gc := g.bd (clR p) (List.mem_map_of_mem hp)
          have h3p := of_decide_eq_true (List.all_eq_true.1 ha p hp)
          unfold pOk
          rw [decide_eq_true h3p, Bool.and_true]
          obtain ⟨a, b, c, er⟩ := three h3p
          have ek : clR p = (rdL a, rdL b, rdL c) := by unfold clR; rw [er]; rfl
          rw [ek] at gc
          rw [er]
          have k0 := gc.k0
          have a0 := gc.a0
          have b0 := gc.b0
          simp only at k0 a0 b0
          simp [k0, a0, b0]
        · rintro ⟨ho, hg⟩
          refine ⟨List.all_eq_true.2 fun p hp => ?_, hg, back ho⟩
          have := List.all_eq_true.1 ho p hp
          unfold pOk at this
          rw [Bool.and_eq_true] at this
          exact this.2
      cases hff : f
      · refine ⟨[], false, ?_, rfl, by simp⟩
        rw [hff] at hf
        cases ho : qs.all pOk
        · rfl
        · rw [ho, Bool.true_and] at hf
          rw [← hf]; rfl
      · have hX := h3 hff
        rw [hff] at hf
        have hf := hf.symm
        rw [Bool.and_eq_true] at hf
        rw [hf.1, hf.2, hX]
        have := (short hf.1 hf.2).2
        exact ⟨qs.map clR, true, rfl, rfl, by rw [List.length_map]; omega⟩
/-! ### numerals and pieces, put together and read back -/
theorem dec_mem : ∀ (u : Nat) (b : UInt8), b ∈ Lib.decDigits u → ∃ m, m < 10 ∧ b = UInt8.ofNat (48 + m) := by
  intro u
  induction u using Nat.strongRecOn with
  | _ u ih =>
    intro b h
    rw [Lib.decDigits] at h
    by_cases h1 : u < 10
    · rw [dif_pos h1, List.mem_singleton] at h
      exact ⟨u, h1, h⟩
    · rw [dif_neg h1, List.mem_append, List.mem_singleton] at h
      rcases h with h | h
      · exact ih (u / 10) (by omega) b h
      · exact ⟨u % 10, by omega, h⟩
theorem itoa_no {n : Int} (h0 : 0 ≤ n) {c : UInt8} (hc : ∀ m, m < 10 → c ≠ UInt8.ofNat (48 + m)) : c ∉ Lib.itoa n := by
  obtain ⟨m, rfl⟩ := Int.eq_ofNat_of_zero_le h0
  rw [itoa_nat]
  intro hm
  obtain ⟨d, h1, h2⟩ := dec_mem m c hm
  exact hc d h1 h2
theorem no46 : ∀ m, m < 10 → (46 : UInt8) ≠ UInt8.ofNat (48 + m) := by decide
theorem no44 : ∀ m, m < 10 → (44 : UInt8) ≠ UInt8.ofNat (48 + m) := by decide
theorem rdL_itoa {n : Int} (h0 : 0 ≤ n) (h1 : n ≤ 999999) : rdL (Lib.itoa n) = n := by
  obtain ⟨m, rfl⟩ := Int.eq_ofNat_of_zero_le h0
  rw [itoa_nat]
  exact rdL_of (by omega) rfl
theorem itoa_ne {n : Int} (h0 : 0 ≤ n) : Lib.itoa n ≠ [] := by
  obtain ⟨m, rfl⟩ := Int.eq_ofNat_of_zero_le h0
  rw [itoa_nat]
  exact dec_ne m
theorem spl_of_join (c : UInt8) : ∀ (p : List UInt8) (ps : List (List UInt8)), (∀ q, q ∈ p :: ps → c ∉ q) → spl c (Lib.join (p :: ps) [c]) = p :: ps
  | p, [], h => by rw [Lib.join_one]; exact spl_last c p (h p (by simp))
  | p, q :: r, h => by
    have ih := spl_of_join c q r (fun x hx => h x (List.mem_cons_of_mem _ hx))
    have e : Lib.join (p :: q :: r) [c] = p ++ c :: Lib.join (q :: r) [c] := by
      rw [Lib.join_cons, Lib.join_cons]; simp [Lib.joinTail]
    rw [e, spl_piece c p _ (h p (by simp)), ih]
/-! ### puzzles read back, told whole -/
theorem cT_no44 {c : Int × Int × Int} (h : GoodC c) : (44 : UInt8) ∉ cT c := by
  have h1 := itoa_no h.k0 no44
  have h2 := itoa_no h.a0 no44
  have h3 := itoa_no h.b0 no44
  rw [cT_eq]
  simp only [List.mem_append, List.mem_singleton, not_or]
  exact ⟨⟨⟨⟨h1, by decide⟩, h2⟩, by decide⟩, h3⟩
theorem cT_spl {c : Int × Int × Int} (h : GoodC c) : spl 46 (cT c) = [Lib.itoa c.1, Lib.itoa c.2.1, Lib.itoa c.2.2] := by
  unfold cT
  refine spl_of_join 46 _ _ (fun q hq => ?_)
  simp only [List.mem_cons, List.not_mem_nil, or_false] at hq
  rcases hq with rfl | rfl | rfl
  · exact itoa_no h.k0 no46
  · exact itoa_no h.a0 no46
  · exact itoa_no h.b0 no46
theorem cT_ne {c : Int × Int × Int} (h : GoodC c) : cT c ≠ [] := by
  intro e
  have := itoa_ne h.k0
  rw [cT_eq] at e
  simp at e
structure SmallC (c : Int × Int × Int) : Prop where
  k0 : 0 ≤ c.1
  k1 : c.1 ≤ 999999
  a0 : 0 ≤ c.2.1
  a1 : c.2.1 ≤ 999999
  b0 : 0 ≤ c.2.2
  b1 : c.2.2 ≤ 999999
theorem SmallC.good {c : Int × Int × Int} (h : SmallC c) : GoodC c := by
  obtain ⟨h1, h2, h3, h4, h5, h6⟩ := h
  constructor <;> omega
theorem piece_of {p : ByteArray} {c : Int × Int × Int} (h : SmallC c) (e : bL p = cT c) : pOk p = true ∧ clR p = c := by
  have e1 : sub46 p = [Lib.itoa c.1, Lib.itoa c.2.1, Lib.itoa c.2.2] := by
    unfold sub46
    rw [e, cT_spl h.good]
  have r1 := rdL_itoa h.k0 h.k1
  have r2 := rdL_itoa h.a0 h.a1
  have r3 := rdL_itoa h.b0 h.b1
  unfold pOk clR
  rw [e1]
  refine ⟨?_, ?_⟩
  · simp only [List.all_cons, List.all_nil, r1, r2, r3, decide_eq_true h.k0, decide_eq_true h.a0, decide_eq_true h.b0, Bool.and_true, Bool.true_and]
    rfl
  · unfold clOf
    simp only [List.map_cons, List.map_nil, r1, r2, r3]
    rfl
theorem pieces_of : ∀ {ps : List ByteArray} {l : List (Int × Int × Int)}, ps.map bL = l.map cT → (∀ c, c ∈ l → SmallC c) → ps.all pOk = true ∧ ps.map clR = l
  | [], [], _, _ => ⟨rfl, rfl⟩
  | [], _ :: _, e, _ => by cases e
  | _ :: _, [], e, _ => by cases e
  | p :: ps, c :: l, e, h => by
    rw [List.map_cons, List.map_cons, List.cons.injEq] at e
    obtain ⟨h1, h2⟩ := piece_of (h c List.mem_cons_self) e.1
    obtain ⟨h3, h4⟩ := pieces_of e.2 (fun x hx => h x (List.mem_cons_of_mem _ hx))
    exact ⟨by rw [List.all_cons, h1, h3]; rfl, by rw [List.map_cons, h2, h4]⟩
theorem pzGood_small {l : List (Int × Int × Int)} (h : s_pzGood_n l = true) : ∀ c, c ∈ l → SmallC c := fun c hc => by
  obtain ⟨h1, h2, h3⟩ := clue_bd (good_clues h c hc)
  constructor <;> omega
theorem ParsePuzzle_full {t : ByteArray} (ht : t.size ≤ 2000000) : ∃ l f, i_ParsePuzzle t = some (l, f) ∧ s_ParsePuzzle t = some (l, f) ∧ l.length ≤ 100 ∧ (f = true → s_pzGood_n l = true ∧ Lib.join (l.map cT) [44] = bL t) ∧ (∀ m, s_pzGood_n m = true → Lib.join (m.map cT) [44] = bL t → l = m ∧ f = true) := by
  have e2 : ByteArray.toList t = bL t := ByteArray.toList_eq t
  have e0 : ByteArray.toList ({ data := #[] } : ByteArray) = [] := ByteArray.toList_eq _
  unfold i_ParsePuzzle i_ParsePuzzle_t0 s_ParsePuzzle s_pzParse s_pzParse_t0
  rw [e2, e0]
  by_cases hz : bL t = []
  · have hl := bL_len t
    rw [hz] at hl
    have hl : t.size = 0 := hl.symm
    rw [hz, decide_eq_false (show ¬ (t.size : Int) > 60 by omega)]
    refine ⟨[], true, rfl, rfl, by simp, fun _ => ⟨rfl, rfl⟩, fun m hm e => ⟨?_, rfl⟩⟩
    cases m with
    | nil => rfl
    | cons c m =>
      rw [List.map_cons, Lib.join_cons] at e
      exact absurd (List.append_eq_nil_iff.1 e).1 (cT_ne (puzzle_good hm |>.bd c List.mem_cons_self))
  · have hne : (bL t == ([] : List UInt8)) = false := beq_eq_false_iff_ne.2 hz
    obtain ⟨ps, p1, p2⟩ := split_ok (s := t) (by omega) 44
    have e44 : (⟨#[44]⟩ : ByteArray) = { data := #[44] } := rfl
    rw [e44] at p1
    obtain ⟨b1, b2⟩ := pieces_bd p2
    rw [hne, cond_false, cond_false, p1, Option.bind_some, puzzle_iP (fun p hp => by have := b1 p hp; omega) (by omega)]
    have only : ∀ m, s_pzGood_n m = true → Lib.join (m.map cT) [44] = bL t → ps.all pOk = true ∧ ps.map clR = m := fun m hm e => by
      cases m with
      | nil => exact absurd e.symm hz
      | cons c m =>
        have hg := puzzle_good hm
        have e2 : spl 44 (bL t) = (c :: m).map cT := by
          rw [← e, List.map_cons]
          refine spl_of_join 44 _ _ (fun q hq => ?_)
          rw [← List.map_cons] at hq
          obtain ⟨x, hx, rfl⟩ := List.mem_map.1 hq
          exact cT_no44 (hg.bd x hx)
        exact pieces_of (by rw [p2, e2]) (pzGood_small hm)
    have back : ps.all pOk = true → Lib.join ((ps.map clR).map cT) [44] = bL t := fun ho => by
      have e : (ps.map clR).map cT = ps.map bL := by
        rw [List.map_map]
        exact List.map_congr_left fun p hp => clue_text (List.all_eq_true.1 ho p hp)
      rw [e, p2, spl_join]
    have short : ps.all pOk = true → s_pzGood_n (ps.map clR) = true → t.size ≤ 60 ∧ ps.length ≤ 6 := fun ho hg => by
      have hb := back ho
      have h6 := s_pzGood_len hg
      have l1 := join_len [44] ((ps.map clR).map cT)
      have l2 := lens_le (c := 6) (xs := (ps.map clR).map cT) (fun x hx => by
        obtain ⟨c, hc, rfl⟩ := List.mem_map.1 hx
        exact clue_small (good_clues hg c hc))
      rw [hb, bL_len] at l1
      rw [List.length_map] at l1 l2
      have l3 : ([44] : List UInt8).length * (ps.map clR).length ≤ 1 * 6 := Nat.mul_le_mul (by simp) h6
      have l4 : 6 * (ps.map clR).length ≤ 6 * 6 := Nat.mul_le_mul_left _ h6
      rw [List.length_map] at h6
      exact ⟨by omega, h6⟩
    by_cases hs : t.size > 60
    · rw [decide_eq_true (show (t.size : Int) > 60 by omega)]
      refine ⟨[], false, ?_, rfl, by simp, (by intro h; cases h), fun m hm e => by
        obtain ⟨o1, o2⟩ := only m hm e
        have := (short o1 (by rw [o2]; exact hm)).1; omega⟩
      cases ho : ps.all pOk
      · rfl
      · cases hg : s_pzGood_n (ps.map clR)
        · rfl
        · have := (short ho hg).1; omega
    · rw [decide_eq_false (show ¬ (t.size : Int) > 60 by omega), cond_false]
      obtain ⟨qs, q1, q2⟩ := l1Split_ok (s := t) (by omega) 44
      have e : ((44 : UInt8).toNat : Int) = 44 := rfl
      rw [e] at q1
      have hqp : qs = ps := by
        have : qs.map bL = ps.map bL := by rw [q2, p2]
        exact (List.map_inj_right (f := bL) (fun a b h => bL_inj h)).1 this
      subst hqp
      rw [q1, Option.bind_some]
      obtain ⟨X, f, h1, h2, h3⟩ := puzzle_sP (t := t) (qs := qs) (fun p hp => by have := b1 p hp; omega) (by omega)
      rw [h1, Option.bind_some]
      have hf : f = (qs.all pOk && s_pzGood_n (qs.map clR)) := by
        rw [h2, Bool.eq_iff_iff, Bool.and_eq_true, Bool.and_eq_true, Bool.and_eq_true, beq_iff_eq]
        constructor
        · rintro ⟨ha, hg, _⟩
          refine ⟨List.all_eq_true.2 fun p hp => ?_, hg⟩
          have g := puzzle_good hg
          have gc := g.bd (clR p) (List.mem_map_of_mem hp)
          have h3p := of_decide_eq_true (List.all_eq_true.1 ha p hp)
          unfold pOk
          rw [decide_eq_true h3p, Bool.and_true]
          obtain ⟨a, b, c, er⟩ := three h3p
          have ek : clR p = (rdL a, rdL b, rdL c) := by unfold clR; rw [er]; rfl
          rw [ek] at gc
          rw [er]
          have k0 := gc.k0
          have a0 := gc.a0
          have b0 := gc.b0
          simp only at k0 a0 b0
          simp [k0, a0, b0]
        · rintro ⟨ho, hg⟩
          refine ⟨List.all_eq_true.2 fun p hp => ?_, hg, back ho⟩
          have := List.all_eq_true.1 ho p hp
          unfold pOk at this
          rw [Bool.and_eq_true] at this
          exact this.2
      cases hff : f
      · refine ⟨[], false, ?_, rfl, by simp, (by intro h; cases h), fun m hm e => by
          obtain ⟨o1, o2⟩ := only m hm e
          rw [hff, o1, o2, hm] at hf; cases hf⟩
        rw [hff] at hf
        cases ho : qs.all pOk
        · rfl
        · rw [ho, Bool.true_and] at hf
          rw [← hf]; rfl
      · have hX := h3 hff
        rw [hff] at hf
        have hf := hf.symm
        rw [Bool.and_eq_true] at hf
        rw [hf.1, hf.2, hX]
        have := (short hf.1 hf.2).2
        exact ⟨qs.map clR, true, rfl, rfl, by rw [List.length_map]; omega, fun _ => ⟨hf.2, back hf.1⟩, fun m hm e => ⟨(only m hm e).2, rfl⟩⟩
end Go.Proofs.YtoldoplpnkojdaaGreatDoor.V
