/- Functions of the program, as plain functions. No condition. -/
import Derived.Test.YtlffgllmjjkfdaaDoorI1
set_option linter.unusedVariables false
set_option linter.unusedSimpArgs false
set_option maxRecDepth 100000
namespace Go.Proofs.YtlffgllmjjkfdaaDoor.V
open Go Go.Ev Go.Proofs
/-! ### numbers joined -/
def itoaB (n : Int) : ByteArray := ⟨(Lib.itoa n).toArray⟩
theorem num_ok {n : Int} (h : 0 ≤ n) (h' : n ≤ 4000000000000000000) : s_l1Num_n n = some (itoaB n) := by
  unfold s_l1Num_n
  rw [decide_eq_true h, decide_eq_true h']; rfl
theorem itoa_ok {n : Int} (h : 0 ≤ n) (h' : n ≤ 4000000000000000000) : strconv_Itoa n = some (itoaB n) := by
  unfold strconv_Itoa itoaF
  rw [if_pos (by omega)]; rfl
theorem itoa_len {n : Int} (h : 0 ≤ n) (h' : n ≤ 1000000) : (Lib.itoa n).length ≤ 1000001 := by
  obtain ⟨m, rfl⟩ := Int.eq_ofNat_of_zero_le h
  rw [itoa_nat]
  have := dec_len m; omega
theorem join_snoc (sep : List UInt8) : ∀ (xs : List (List UInt8)) (y : List UInt8), Lib.join (xs ++ [y]) sep = if xs = [] then y else Lib.join xs sep ++ sep ++ y
  | [], y => by rw [if_pos rfl, List.nil_append, Lib.join_one]
  | x :: r, y => by
    rw [if_neg (by simp), List.cons_append, Lib.join_cons, Lib.join_cons]
    unfold Lib.joinTail
    simp [List.append_assoc]
theorem join_len (sep : List UInt8) (xs : List (List UInt8)) : (Lib.join xs sep).length ≤ sep.length * xs.length + Lib.lens xs := by
  cases xs with
  | nil => simp [Lib.join_nil]
  | cons x r =>
    rw [Lib.join_cons, List.length_append, Lib.joinTail_length]
    have : Lib.lens (x :: r) = x.length + Lib.lens r := by simp [Lib.lens]
    rw [this, List.length_cons, Nat.mul_succ]; omega
theorem lens_le {c : Nat} : ∀ {xs : List (List UInt8)}, (∀ x, x ∈ xs → x.length ≤ c) → Lib.lens xs ≤ c * xs.length
  | [], _ => by simp [Lib.lens]
  | x :: r, h => by
    have h1 := h x (by simp)
    have h2 := lens_le (xs := r) (fun y hy => h y (List.mem_cons_of_mem _ hy))
    have : Lib.lens (x :: r) = x.length + Lib.lens r := by simp [Lib.lens]
    rw [this, List.length_cons, Nat.mul_succ]; omega
/-- small numbers -/
structure SmallL (l : List Int) : Prop where
  len : l.length ≤ 10000
  bd : ∀ x, x ∈ l → 0 ≤ x ∧ x ≤ 1000000
theorem join_bd {l : List Int} (h : SmallL l) (sep : List UInt8) (hs : sep.length ≤ 100) : (Lib.join (l.map Lib.itoa) sep).length ≤ 140737488355328 := by
  have h1 := join_len sep (l.map Lib.itoa)
  have h2 := lens_le (c := 1000001) (xs := l.map Lib.itoa) (fun x hx => by
    obtain ⟨n, hn, rfl⟩ := List.mem_map.1 hx
    have := h.bd n hn
    exact itoa_len this.1 this.2)
  rw [List.length_map] at h1 h2
  have h3 : sep.length * l.length ≤ 100 * 10000 := Nat.mul_le_mul hs h.len
  have h4 : 1000001 * l.length ≤ 1000001 * 10000 := Nat.mul_le_mul_left _ h.len
  omega
theorem SmallL.take {l : List Int} (h : SmallL l) (i : Nat) : SmallL (l.take i) := ⟨by rw [List.length_take]; have := h.len; omega, fun x hx => h.bd x (List.mem_of_mem_take hx)⟩
theorem joined_ok {l : List Int} (h : SmallL l) (sep : ByteArray) (hs : sep.data.toList.length ≤ 100) : i_joined l sep = some ⟨(Lib.join (l.map Lib.itoa) sep.data.toList).toArray⟩ := by
  unfold i_joined i_joined_t0
  have hlen := h.len
  have main : ∀ (d i : Nat), i + d = l.length → i_joined_L1 ((l.take i).map itoaB) l sep (l.length : Int) (i : Int) = some ⟨(Lib.join (l.map Lib.itoa) sep.data.toList).toArray⟩ := by
    intro d
    induction d with
    | zero =>
      intro i hi
      have hi : i = l.length := by omega
      subst hi
      rw [i_joined_u1, i_joined_t1, decide_eq_false (by omega), cond_false, List.take_length]
      unfold strings_Join joinF
      have em : (l.map itoaB).map (·.data.toList) = l.map Lib.itoa := by
        rw [List.map_map]; rfl
      rw [em, if_pos ⟨by rw [List.length_map]; omega, join_bd h _ hs⟩]; rfl
    | succ d ih =>
      intro i hi
      have hil : i < l.length := by omega
      have hb := h.bd l[i] (List.getElem_mem hil)
      rw [i_joined_u1, i_joined_t1, decide_eq_true (show (i : Int) < l.length by omega), decide_eq_true (Int.natCast_nonneg i), rdk_get (k := kint) hil, itoa_ok hb.1 (by omega), wrapS hil (by rw [maxLen_eq]; omega), ble_dec, decide_eq_true (by rw [List.length_map, List.length_take]; omega)]
      simp only [cond_true, Option.bind_some]
      have := ih (i + 1) (by omega)
      rw [List.take_add_one, List.getElem?_eq_getElem hil, List.map_append] at this
      exact this
  exact main l.length 0 (by omega)
/-! ### puzzles' texts -/
def cT (c : Int × Int × Int) : List UInt8 := Lib.join [Lib.itoa c.1, Lib.itoa c.2.1, Lib.itoa c.2.2] [46]
structure GoodC (c : Int × Int × Int) : Prop where
  k0 : 0 ≤ c.1
  k1 : c.1 ≤ 1000000
  a0 : 0 ≤ c.2.1
  a1 : c.2.1 ≤ 1000000
  b0 : 0 ≤ c.2.2
  b1 : c.2.2 ≤ 1000000
structure GoodP (l : List (Int × Int × Int)) : Prop where
  len : l.length ≤ 1000
  bd : ∀ c, c ∈ l → GoodC c
theorem cT_eq (c : Int × Int × Int) : cT c = Lib.itoa c.1 ++ [46] ++ Lib.itoa c.2.1 ++ [46] ++ Lib.itoa c.2.2 := by
  unfold cT
  rw [Lib.join_cons]
  simp [Lib.joinTail]
theorem cT_len {c : Int × Int × Int} (h : GoodC c) : (cT c).length ≤ 4000000 := by
  have h1 := itoa_len h.k0 h.k1
  have h2 := itoa_len h.a0 h.a1
  have h3 := itoa_len h.b0 h.b1
  rw [cT_eq]
  simp only [List.length_append, List.length_singleton]; omega
theorem clue_joined {c : Int × Int × Int} (h : GoodC c) : i_joined [c.1, c.2.1, c.2.2] { data := #[46] } = some ⟨(cT c).toArray⟩ :=
  joined_ok (l := [c.1, c.2.1, c.2.2]) ⟨by simp, fun x hx => by
    simp only [List.mem_cons, List.not_mem_nil, or_false] at hx
    rcases hx with rfl | rfl | rfl
    · exact ⟨h.k0, h.k1⟩
    · exact ⟨h.a0, h.a1⟩
    · exact ⟨h.b0, h.b1⟩⟩ _ (by simp)
theorem pz_bd {l : List (Int × Int × Int)} (h : GoodP l) : (Lib.join (l.map cT) [44]).length ≤ 140737488355328 := by
  have h1 := join_len [44] (l.map cT)
  have h2 := lens_le (c := 4000000) (xs := l.map cT) (fun x hx => by
    obtain ⟨n, hn, rfl⟩ := List.mem_map.1 hx
    exact cT_len (h.bd n hn))
  rw [List.length_map] at h1 h2
  have h4 : 4000000 * l.length ≤ 4000000 * 1000 := Nat.mul_le_mul_left _ h.len
  have := h.len
  simp only [List.length_singleton, Nat.one_mul] at h1
  omega
theorem GoodP.take {l : List (Int × Int × Int)} (h : GoodP l) (i : Nat) : GoodP (l.take i) := ⟨by rw [List.length_take]; have := h.len; omega, fun x hx => h.bd x (List.mem_of_mem_take hx)⟩
theorem puzzle_i {l : List (Int × Int × Int)} (h : GoodP l) : i_PuzzleText_L1 [] l (l.length : Int) 0 = some (⟨(Lib.join (l.map cT) [44]).toArray⟩, true) := by
  have hlen := h.len
  have main : ∀ (d i : Nat), i + d = l.length → i_PuzzleText_L1 ((l.take i).map fun c => (⟨(cT c).toArray⟩ : ByteArray)) l (l.length : Int) (i : Int) = some (⟨(Lib.join (l.map cT) [44]).toArray⟩, true) := by
    intro d
    induction d with
    | zero =>
      intro i hi
      have hi : i = l.length := by omega
      subst hi
      rw [i_PuzzleText_u1, i_PuzzleText_t1, decide_eq_false (by omega), cond_false, List.take_length]
      unfold strings_Join joinF
      have em : (l.map fun c => (⟨(cT c).toArray⟩ : ByteArray)).map (·.data.toList) = l.map cT := by rw [List.map_map]; rfl
      have e44 : ({ data := #[44] } : ByteArray).data.toList = [44] := rfl
      rw [em, e44, if_pos ⟨by rw [List.length_map]; omega, pz_bd h⟩]; rfl
    | succ d ih =>
      intro i hi
      have hil : i < l.length := by omega
      have hb := h.bd l[i] (List.getElem_mem hil)
      have hh := ih (i + 1) (by omega)
      rw [List.take_add_one, List.getElem?_eq_getElem hil, List.map_append] at hh
      rw [i_PuzzleText_u1, i_PuzzleText_t1, decide_eq_true (show (i : Int) < l.length by omega), decide_eq_true (Int.natCast_nonneg i), rdk_get (k := kwClue) hil, clue_joined hb, wrapS hil (by rw [maxLen_eq]; omega), ble_dec, decide_eq_true (by rw [List.length_map, List.length_take]; omega)]
      simp only [cond_true, Option.bind_some]
      exact hh
  exact main l.length 0 (by omega)
theorem puzzle_s {l : List (Int × Int × Int)} (h : GoodP l) : s_pzText l = some ⟨(Lib.join (l.map cT) [44]).toArray⟩ := by
  unfold s_pzText s_pzText_t0
  have hlen := h.len
  have e44 : ({ data := #[44] } : ByteArray) = ⟨([44] : List UInt8).toArray⟩ := rfl
  have e46 : ({ data := #[46] } : ByteArray) = ⟨([46] : List UInt8).toArray⟩ := rfl
  have main : ∀ (d i : Nat), i + d = l.length → s_pzText_L1 l ⟨(Lib.join ((l.take i).map cT) [44]).toArray⟩ (l.length : Int) (i : Int) = some ⟨(Lib.join (l.map cT) [44]).toArray⟩ := by
    intro d
    induction d with
    | zero =>
      intro i hi
      have hi : i = l.length := by omega
      subst hi
      rw [s_pzText_u1, s_pzText_t1, decide_eq_false (by omega), cond_false, List.take_length]
    | succ d ih =>
      intro i hi
      have hil : i < l.length := by omega
      have hb := h.bd l[i] (List.getElem_mem hil)
      have hj := pz_bd (h.take i)
      have n1 := itoa_len hb.k0 hb.k1
      have n2 := itoa_len hb.a0 hb.a1
      have n3 := itoa_len hb.b0 hb.b1
      have hh := ih (i + 1) (by omega)
      rw [List.take_add_one, List.getElem?_eq_getElem hil, List.map_append] at hh
      replace hh : s_pzText_L1 l ⟨(Lib.join ((l.take i).map cT ++ [cT l[i]]) [44]).toArray⟩ (l.length : Int) ((i + 1 : Nat) : Int) = _ := hh
      rw [join_snoc, cT_eq] at hh
      have bl : ∀ a b : List UInt8, a.length + b.length ≤ 9223372036854775807 → Nat.ble (ByteArray.size ⟨a.toArray⟩ + ByteArray.size ⟨b.toArray⟩) 9223372036854775807 = true := fun a b hab => by
        rw [ble_dec, decide_eq_true]
        show a.toArray.size + b.toArray.size ≤ _
        simp only [List.size_toArray]; exact hab
      rw [s_pzText_u1, s_pzText_t1, decide_eq_true (show (i : Int) < l.length by omega), decide_eq_true (Int.natCast_nonneg i), rdk_get (k := kwClue) hil, num_ok hb.k0 (by have := hb.k1; omega), num_ok hb.a0 (by have := hb.a1; omega), num_ok hb.b0 (by have := hb.b1; omega), wrapS hil (by rw [maxLen_eq]; omega), e44, e46]
      simp only [cond_true, Option.bind_some]
      unfold itoaB
      by_cases h0 : i = 0
      · subst h0
        rw [decide_eq_false (show ¬ ((0 : Nat) : Int) > 0 by omega), cond_false, bl _ _ (by simp only [List.length_singleton]; omega), cond_true, bytes_app, bl _ _ (by simp only [List.length_append, List.length_singleton]; omega), cond_true, bytes_app, bl _ _ (by simp only [List.length_append, List.length_singleton]; omega), cond_true, bytes_app, bl _ _ (by simp only [List.length_append, List.length_singleton]; omega), cond_true, bytes_app, bl _ _ (by simp only [List.length_append, List.length_singleton]; omega), cond_true, bytes_app]
        rw [if_pos (by simp)] at hh
        exact hh
      · rw [decide_eq_true (show (i : Int) > 0 by omega), cond_true, bl _ _ (by simp only [List.length_singleton]; omega), cond_true, bytes_app, bl _ _ (by simp only [List.length_singleton]; omega), cond_true, bytes_app, bl _ _ (by simp only [List.length_append, List.length_singleton]; omega), cond_true, bytes_app, bl _ _ (by simp only [List.length_append, List.length_singleton]; omega), cond_true, bytes_app, bl _ _ (by simp only [List.length_append, List.length_singleton]; omega), cond_true, bytes_app, bl _ _ (by simp only [List.length_append, List.length_singleton]; omega), cond_true, bytes_app]
        rw [if_neg (by intro e; have := congrArg List.length e; simp only [List.length_map, List.length_take, List.length_nil] at this; omega)] at hh
        exact hh
  exact main l.length 0 (by omega)
end Go.Proofs.YtlffgllmjjkfdaaDoor.V
