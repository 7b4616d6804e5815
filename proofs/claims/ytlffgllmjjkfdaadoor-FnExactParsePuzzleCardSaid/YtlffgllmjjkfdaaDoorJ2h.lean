/- Functions of the program, as plain functions. No condition. -/
import Derived.Test.YtlffgllmjjkfdaaDoorJ1h
import Derived.Test.YtlffgllmjjkfdaaDoorJ2
set_option linter.unusedVariables false
set_option linter.unusedSimpArgs false
set_option maxRecDepth 100000
namespace Go.Proofs.YtlffgllmjjkfdaaDoor.V
open Go Go.Ev Go.Proofs
/-! ### puzzles' texts -/
def cT (c : Int × Int × Int) : List UInt8 := Lib.join [Lib.itoa c.1, Lib.itoa c.2.1, Lib.itoa c.2.2] [46]
structure GoodC (c : Int × Int × Int) : Prop where
  k0 : 0 ≤ c.1
  k1 : c.1 ≤ 1000000
  a0 : 0 ≤ c.2.1
  a1 : c.2.1 ≤ 1000000
  b0 : 0 ≤ c.2.2
  b1 : c.2.2 ≤ 1000000
structure GoodP (l : List (Int × Int × Int)) : Prop where
  len : l.length ≤ 1000
  bd : ∀ c, c ∈ l → GoodC c
theorem cT_eq (c : Int × Int × Int) : cT c = Lib.itoa c.1 ++ [46] ++ Lib.itoa c.2.1 ++ [46] ++ Lib.itoa c.2.2 := by
  unfold cT
  rw [Lib.join_cons]
  simp [Lib.joinTail]
theorem cT_len {c : Int × Int × Int} (h : GoodC c) : (cT c).length ≤ 4000000 := by
  have h1 := itoa_len h.k0 h.k1
  have h2 := itoa_len h.a0 h.a1
  have h3 := itoa_len h.b0 h.b1
  rw [cT_eq]
  simp only [List.length_append, List.length_singleton]; omega
theorem pz_bd {l : List (Int × Int × Int)} (h : GoodP l) : (Lib.join (l.map cT) [44]).length ≤ 140737488355328 := by
  have h1 := join_len [44] (l.map cT)
  have h2 := lens_le (c := 4000000) (xs := l.map cT) (fun x hx => by
    obtain ⟨n, hn, rfl⟩ := List.mem_map.1 hx
    exact cT_len (h.bd n hn))
  rw [List.length_map] at h1 h2
  have h4 : 4000000 * l.length ≤ 4000000 * 1000 := Nat.mul_le_mul_left _ h.len
  have := h.len
  simp only [List.length_singleton, Nat.one_mul] at h1
  omega
theorem GoodP.take {l : List (Int × Int × Int)} (h : GoodP l) (i : Nat) : GoodP (l.take i) := ⟨by rw [List.length_take]; have := h.len; omega, fun x hx => h.bd x (List.mem_of_mem_take hx)⟩
theorem puzzle_s {l : List (Int × Int × Int)} (h : GoodP l) : s_pzText l = some ⟨(Lib.join (l.map cT) [44]).toArray⟩ := by
  unfold s_pzText s_pzText_t0
  have hlen := h.len
  have e44 : ({ data := #[44] } : ByteArray) = ⟨([44] : List UInt8).toArray⟩ := rfl
  have e46 : ({ data := #[46] } : ByteArray) = ⟨([46] : List UInt8).toArray⟩ := rfl
  have main : ∀ (d i : Nat), i + d = l.length → s_pzText_L1 l ⟨(Lib.join ((l.take i).map cT) [44]).toArray⟩ (l.length : Int) (i : Int) = some ⟨(Lib.join (l.map cT) [44]).toArray⟩ := by
    intro d
    induction d with
    | zero =>
      intro i hi
      have hi : i = l.length := by omega
      subst hi
      rw [s_pzText_u1, s_pzText_t1, decide_eq_false (by omega), cond_false, List.take_length]
    | succ d ih =>
      intro i hi
      have hil : i < l.length := by omega
      have hb := h.bd l[i] (List.getElem_mem hil)
      have hj := pz_bd (h.take i)
      have n1 := itoa_len hb.k0 hb.k1
      have n2 := itoa_len hb.a0 hb.a1
      have n3 := itoa_len hb.b0 hb.b1
      have hh := ih (i + 1) (by omega)
      rw [List.take_add_one, List.getElem?_eq_getElem hil, List.map_append] at hh
      replace hh : s_pzText_L1 l ⟨(Lib.join ((l.take i).map cT ++ [cT l[i]]) [44]).toArray⟩ (l.length : Int) ((i + 1 : Nat) : Int) = _ := hh
      rw [join_snoc, cT_eq] at hh
      have bl : ∀ a b : List UInt8, a.length + b.length ≤ 9223372036854775807 → Nat.ble (ByteArray.size ⟨a.toArray⟩ + ByteArray.size ⟨b.toArray⟩) 9223372036854775807 = true := fun a b hab => by
        rw [ble_dec, decide_eq_true]
        show a.toArray.size + b.toArray.size ≤ _
        simp only [List.size_toArray]; exact hab
      rw [s_pzText_u1, s_pzText_t1, decide_eq_true (show (i : Int) < l.length by omega), decide_eq_true (Int.natCast_nonneg i), rdk_get (k := kwClue) hil, num_ok hb.k0 (by have := hb.k1; omega), num_ok hb.a0 (by have := hb.a1; omega), num_ok hb.b0 (by have := hb.b1; omega), wrapS hil (by rw [maxLen_eq]; omega), e44, e46]
      simp only [cond_true, Option.bind_some]
      unfold itoaB
      by_cases h0 : i = 0
      · subst h0
        rw [decide_eq_false (show ¬ ((0 : Nat) : Int) > 0 by omega), cond_false, bl _ _ (by simp only [List.length_singleton]; omega), cond_true, bytes_app, bl _ _ (by simp only [List.length_append, List.length_singleton]; omega), cond_true, bytes_app, bl _ _ (by simp only [List.length_append, List.length_singleton]; omega), cond_true, bytes_app, bl _ _ (by simp only [List.length_append, List.length_singleton]; omega), cond_true, bytes_app, bl _ _ (by simp only [List.length_append, List.length_singleton]; omega), cond_true, bytes_app]
        rw [if_pos (by simp)] at hh
        exact hh
      · rw [decide_eq_true (show (i : Int) > 0 by omega), cond_true, bl _ _ (by simp only [List.length_singleton]; omega), cond_true, bytes_app, bl _ _ (by simp only [List.length_singleton]; omega), cond_true, bytes_app, bl _ _ (by simp only [List.length_append, List.length_singleton]; omega), cond_true, bytes_app, bl _ _ (by simp only [List.length_append, List.length_singleton]; omega), cond_true, bytes_app, bl _ _ (by simp only [List.length_append, List.length_singleton]; omega), cond_true, bytes_app, bl _ _ (by simp only [List.length_append, List.length_singleton]; omega), cond_true, bytes_app]
        rw [if_neg (by intro e; have := congrArg List.length e; simp only [List.length_map, List.length_take, List.length_nil] at this; omega)] at hh
        exact hh
  exact main l.length 0 (by omega)
/-! ### puzzles are small -/
theorem l1In_ifP {x lo hi : Int} : s_l1In x lo hi = true ↔ lo ≤ x ∧ x ≤ hi := by
  unfold s_l1In
  by_cases h1 : lo ≤ x <;> by_cases h2 : x ≤ hi <;> simp [h1, h2]
theorem clue_bd {c : Int × Int × Int} (h : s_pzClue c.1 c.2.1 c.2.2 = true) : (0 ≤ c.1 ∧ c.1 ≤ 5) ∧ (0 ≤ c.2.1 ∧ c.2.1 ≤ 7) ∧ (0 ≤ c.2.2 ∧ c.2.2 ≤ 60) := by
  obtain ⟨k, a, b⟩ := c
  unfold s_pzClue at h
  show (0 ≤ k ∧ k ≤ 5) ∧ (0 ≤ a ∧ a ≤ 7) ∧ (0 ≤ b ∧ b ≤ 60)
  have main : (0 ≤ k ∧ k ≤ 5) ∧ (0 ≤ a ∧ a ≤ 7) ∧ (0 ≤ b ∧ b ≤ 60) := by
    cases hb : s_l1In b 0 60
    · simp only [hb, Bool.not_false, cond_true] at h; cases h
    · have gb := l1In_ifP.1 hb
      simp only [hb, Bool.not_true, cond_false] at h
      by_cases h0 : k = 0
      · subst h0; simp at h; omega
      · by_cases h1 : k = 1
        · subst h1; simp at h; omega
        · by_cases h4 : k = 4
          · subst h4; simp at h; omega
          · by_cases h5 : k = 5
            · subst h5; simp at h; omega
            · simp only [show (k == 0) = false from beq_eq_false_iff_ne.2 h0, show (k == 1) = false from beq_eq_false_iff_ne.2 h1, show (k == 4) = false from beq_eq_false_iff_ne.2 h4, show (k == 5) = false from beq_eq_false_iff_ne.2 h5, cond_false] at h
              by_cases h2 : k = 2
              · subst h2
                cases ha : s_l1In a 1 3
                · simp [ha] at h
                · have := l1In_ifP.1 ha; omega
              · by_cases h3 : k = 3
                · subst h3
                  cases ha : s_l1In a 1 7
                  · simp [ha] at h
                  · have := l1In_ifP.1 ha; omega
                · simp only [show (k == 2) = false from beq_eq_false_iff_ne.2 h2, show (k == 3) = false from beq_eq_false_iff_ne.2 h3, cond_false] at h
                  cases h
  exact main
theorem clue_good {c : Int × Int × Int} (h : s_pzClue c.1 c.2.1 c.2.2 = true) : GoodC c := by
  obtain ⟨h1, h2, h3⟩ := clue_bd h
  constructor <;> omega
theorem puzzle_good {l : List (Int × Int × Int)} (h : s_pzGood_n l = true) : GoodP l := by
  refine ⟨by have := s_pzGood_len h; omega, fun c hc => ?_⟩
  unfold s_pzGood_n at h
  cases hl : decide ((l.length : Int) > 6)
  · rw [hl, cond_false] at h
    cases ha : l.any (fun c => !s_pzClue c.1 c.2.1 c.2.2)
    · have := List.any_eq_false.1 ha c hc
      exact clue_good (by simpa using this)
    · rw [ha] at h; cases h
  · rw [hl] at h; cases h
/-! ### puzzles read back -/
def clOf (l : List Int) : Int × Int × Int := (l.getD 0 0, l.getD 1 0, l.getD 2 0)
/-- the pieces of a piece -/
def sub46 (p : ByteArray) : List (List UInt8) := spl 46 (bL p)
/-- what a piece tells -/
def clR (p : ByteArray) : Int × Int × Int := clOf ((sub46 p).map rdL)
def pOk (p : ByteArray) : Bool := (sub46 p).all (fun x => decide (0 ≤ rdL x)) && decide ((sub46 p).length = 3)
theorem three {α : Type} {l : List α} (h : l.length = 3) : ∃ a b c, l = [a, b, c] := by
  match l, h with
  | [a, b, c], _ => exact ⟨a, b, c, rfl⟩
theorem clue_text {p : ByteArray} (h : pOk p = true) : cT (clR p) = bL p := by
  unfold pOk at h
  rw [Bool.and_eq_true, decide_eq_true_eq] at h
  obtain ⟨a, b, c, e⟩ := three h.2
  have hj := spl_join 46 (bL p)
  have ho := h.1
  unfold clR
  unfold sub46 at e ho ⊢
  rw [e] at hj ho ⊢
  simp only [List.all_cons, List.all_nil, Bool.and_true, Bool.and_eq_true, decide_eq_true_eq] at ho
  have tx : ∀ x : List UInt8, 0 ≤ rdL x → Lib.itoa (rdL x) = x := fun x hx => by
    obtain ⟨v, h1, h2, h3⟩ := rdL_inv (l := x) (by omega)
    rw [h3, itoa_nat, h2]
  show Lib.join [Lib.itoa (rdL a), Lib.itoa (rdL b), Lib.itoa (rdL c)] [46] = bL p
  rw [tx a ho.1, tx b ho.2.1, tx c ho.2.2]
  exact hj
theorem clue_nums {p : ByteArray} (hp : p.size ≤ 2000000) : i_nums p { data := #[46] } = some (bif (sub46 p).all (fun x => decide (0 ≤ rdL x)) then ((sub46 p).map rdL, true) else ([], false)) := by
  obtain ⟨ps, h1, h2⟩ := nums_ok hp 46
  have e46 : (⟨#[46]⟩ : ByteArray) = { data := #[46] } := rfl
  rw [e46] at h2
  rw [h2]
  unfold sub46
  rw [← h1, List.map_map, List.all_map]
  rfl
theorem puzzle_iP {ps : List ByteArray} (hps : ∀ p, p ∈ ps → p.size ≤ 2000000) (hl : ps.length ≤ 3000000) : i_ParsePuzzle_L1 ps [] [] (ps.length : Int) 0 = some (bif ps.all pOk then (bif s_pzGood_n (ps.map clR) then (ps.map clR, true) else ([], false)) else ([], false)) := by
  have main : ∀ (d i : Nat), i + d = ps.length → i_ParsePuzzle_L1 ps [] ((ps.take i).map clR) (ps.length : Int) (i : Int) = some (bif (ps.drop i).all pOk then (bif s_pzGood_n (ps.map clR) then (ps.map clR, true) else ([], false)) else ([], false)) := by
    intro d
    induction d with
    | zero =>
      intro i hi
      have hi : i = ps.length := by omega
      subst hi
      rw [i_ParsePuzzle_u1, i_ParsePuzzle_t1, decide_eq_false (by omega), cond_false, List.take_length, List.drop_length, IsPuzzle_eq]
      cases s_pzGood_n (ps.map clR) <;> rfl
    | succ d ih =>
      intro i hi
      have hil : i < ps.length := by omega
      have hb := hps ps[i] (List.getElem_mem hil)
      have hh := ih (i + 1) (by omega)
      rw [List.take_add_one, List.getElem?_eq_getElem hil, List.map_append] at hh
      rw [i_ParsePuzzle_u1, i_ParsePuzzle_t1, decide_eq_true (show (i : Int) < ps.length by omega), decide_eq_true (Int.natCast_nonneg i), rdk_get (k := kstring) hil, clue_nums hb, wrapS hil (by rw [maxLen_eq]; omega), ble_dec, decide_eq_true (by rw [List.length_map, List.length_take]; omega), List.drop_eq_getElem_cons hil, List.all_cons]
      simp only [cond_true, Option.bind_some]
      have ep : pOk ps[i] = ((sub46 ps[i]).all (fun x => decide (0 ≤ rdL x)) && decide ((sub46 ps[i]).length = 3)) := rfl
      rw [ep]
      cases ho : (sub46 ps[i]).all (fun x => decide (0 ≤ rdL x))
      · rfl
      · simp only [cond_true, Bool.not_true, cond_false, Bool.true_and, List.length_map]
        by_cases h3 : (sub46 ps[i]).length = 3
        · rw [show (((sub46 ps[i]).length : Int) != 3) = false from by rw [bne_eq_false_iff_eq]; omega, decide_eq_true h3, decide_eq_true (show (0 : Int) < ((sub46 ps[i]).length : Int) by omega), decide_eq_true (show (1 : Int) < ((sub46 ps[i]).length : Int) by omega), decide_eq_true (show (2 : Int) < ((sub46 ps[i]).length : Int) by omega)]
          simp only [cond_true, cond_false, Bool.true_and]
          exact hh
        · rw [show (((sub46 ps[i]).length : Int) != 3) = true from by rw [bne_iff_ne]; omega, decide_eq_false h3]; rfl
  exact main ps.length 0 (by omega)
/-! ### puzzles by the reference -/
def all3 (ps : List ByteArray) : Bool := ps.all fun p => decide ((sub46 p).length = 3)
theorem puzzle_sP {t : ByteArray} {qs : List ByteArray} (hps : ∀ p, p ∈ qs → p.size ≤ 1000000) (hl : qs.length ≤ 1000000) :
    ∃ X f, s_pzParse_L1 qs [] [] t (qs.length : Int) 0 = some (X, f) ∧ f = (all3 qs && (s_pzGood_n (qs.map clR) && (Lib.join ((qs.map clR).map cT) [44] == bL t))) ∧ (f = true → X = qs.map clR) := by
  have main : ∀ (d i : Nat), i + d = qs.length → ∃ X f, s_pzParse_L1 qs [] ((qs.take i).map clR) t (qs.length : Int) (i : Int) = some (X, f) ∧ f = (all3 (qs.drop i) && (s_pzGood_n (qs.map clR) && (Lib.join ((qs.map clR).map cT) [44] == bL t))) ∧ (f = true → X = qs.map clR) := by
    intro d
    induction d with
    | zero =>
      intro i hi
      have hi : i = qs.length := by omega
      subst hi
      rw [s_pzParse_u1, s_pzParse_t1, decide_eq_false (by omega), cond_false, List.take_length, List.drop_length]
      cases hg : s_pzGood_n (qs.map clR)
      · exact ⟨_, _, rfl, by simp, fun h => by cases h⟩
      · rw [cond_true, puzzle_s (puzzle_good hg), Option.bind_some]
        have e1 : ByteArray.toList (⟨(Lib.join ((qs.map clR).map cT) [44]).toArray⟩ : ByteArray) = Lib.join ((qs.map clR).map cT) [44] := ByteArray.toList_eq _
        have e2 : ByteArray.toList t = bL t := ByteArray.toList_eq t
        rw [e1, e2]
        exact ⟨_, _, rfl, by simp [all3], fun _ => rfl⟩
    | succ d ih =>
      intro i hi
      have hil : i < qs.length := by omega
      have hb := hps qs[i] (List.getElem_mem hil)
      obtain ⟨X, f, h1, h2, h3⟩ := ih (i + 1) (by omega)
      rw [List.take_add_one, List.getElem?_eq_getElem hil, List.map_append] at h1
      obtain ⟨rs, r1, r2⟩ := l1Split_ok hb 46
      have e : ((46 : UInt8).toNat : Int) = 46 := rfl
      rw [e] at r1
      have r2 : rs.map bL = sub46 qs[i] := r2
      have rl : rs.length = (sub46 qs[i]).length := by rw [← r2, List.length_map]
      rw [s_pzParse_u1, s_pzParse_t1, decide_eq_true (show (i : Int) < qs.length by omega), decide_eq_true (Int.natCast_nonneg i), rdk_get (k := kstring) hil, r1, wrapS hil (by rw [maxLen_eq]; omega), ble_dec, decide_eq_true (by rw [List.length_map, List.length_take]; omega), List.drop_eq_getElem_cons hil]
      simp only [cond_true, Option.bind_some]
      have ea : all3 (qs[i] :: qs.drop (i + 1)) = (decide ((sub46 qs[i]).length = 3) && all3 (qs.drop (i + 1))) := rfl
      rw [ea]
      by_cases hn : (sub46 qs[i]).length = 3
      · obtain ⟨a, b, c, er⟩ := three (l := rs) (by omega)
        subst er
        have ec : clR qs[i] = (rdL (bL a), rdL (bL b), rdL (bL c)) := by
          unfold clR
          rw [← r2]; rfl
        have e0 : rdk kstring [a, b, c] 0 = a := rfl
        have e1 : rdk kstring [a, b, c] 1 = b := rfl
        have e2 : rdk kstring [a, b, c] 2 = c := rfl
        have el : ((([a, b, c] : List ByteArray).length : Nat) : Int) = 3 := rfl
        rw [e0, e1, e2, el, read_ok, read_ok, read_ok, decide_eq_true hn]
        simp only [bne_self_eq_false, cond_false, Option.bind_some, Bool.true_and]
        have d0 : decide ((0 : Int) < 3) = true := rfl
        have d1 : decide ((1 : Int) < 3) = true := rfl
        have d2 : decide ((2 : Int) < 3) = true := rfl
        rw [d0, d1, d2]
        simp only [cond_true]
        refine ⟨X, f, ?_, h2, h3⟩
        rw [← h1]
        show s_pzParse_L1 qs [] ((qs.take i).map clR ++ [(rdL (bL a), rdL (bL b), rdL (bL c))]) t _ _ = s_pzParse_L1 qs [] ((qs.take i).map clR ++ [clR qs[i]]) t _ _
        rw [ec]
      · rw [show ((rs.length : Int) != 3) = true from by rw [bne_iff_ne]; omega, decide_eq_false hn]
        exact ⟨_, _, rfl, rfl, fun h => by cases h⟩
  exact main qs.length 0 (by omega)
theorem itoa1 {n : Int} (k : Nat) (h0 : 0 ≤ n) (h1 : n < 10 ^ (k + 1)) : (Lib.itoa n).length ≤ k + 1 := by
  obtain ⟨m, rfl⟩ := Int.eq_ofNat_of_zero_le h0
  rw [itoa_nat]
  exact dec_len6 k m (by exact_mod_cast h1)
theorem clue_small {c : Int × Int × Int} (h : s_pzClue c.1 c.2.1 c.2.2 = true) : (cT c).length ≤ 6 := by
  obtain ⟨h1, h2, h3⟩ := clue_bd h
  have a := itoa1 0 h1.1 (by simp; omega)
  have b := itoa1 0 h2.1 (by simp; omega)
  have d := itoa1 1 h3.1 (by simp; omega)
  rw [cT_eq]
  simp only [List.length_append, List.length_singleton]; omega
theorem good_clues {l : List (Int × Int × Int)} (h : s_pzGood_n l = true) : ∀ c, c ∈ l → s_pzClue c.1 c.2.1 c.2.2 = true := by
  intro c hc
  unfold s_pzGood_n at h
  cases hl : decide ((l.length : Int) > 6)
  · rw [hl, cond_false] at h
    cases ha : l.any (fun c => !s_pzClue c.1 c.2.1 c.2.2)
    · have := List.any_eq_false.1 ha c hc
      simpa using this
    · rw [ha] at h; cases h
  · rw [hl] at h; cases h
theorem ParsePuzzle_both {t : ByteArray} (ht : t.size ≤ 2000000) : ∃ l f, i_ParsePuzzle t = some (l, f) ∧ s_ParsePuzzle t = some (l, f) ∧ l.length ≤ 100 := by
  have e2 : ByteArray.toList t = bL t := ByteArray.toList_eq t
  have e0 : ByteArray.toList ({ data := #[] } : ByteArray) = [] := ByteArray.toList_eq _
  unfold i_ParsePuzzle i_ParsePuzzle_t0 s_ParsePuzzle s_pzParse s_pzParse_t0
  rw [e2, e0]
  by_cases hz : bL t = []
  · have hl := bL_len t
    rw [hz] at hl
    have hl : t.size = 0 := hl.symm
    rw [hz, decide_eq_false (show ¬ (t.size : Int) > 60 by omega)]
    exact ⟨[], true, rfl, rfl, by simp⟩
  · have hne : (bL t == ([] : List UInt8)) = false := beq_eq_false_iff_ne.2 hz
    obtain ⟨ps, p1, p2⟩ := split_ok (s := t) (by omega) 44
    have e44 : (⟨#[44]⟩ : ByteArray) = { data := #[44] } := rfl
    rw [e44] at p1
    obtain ⟨b1, b2⟩ := pieces_bd p2
    rw [hne, cond_false, cond_false, p1, Option.bind_some, puzzle_iP (fun p hp => by have := b1 p hp; omega) (by omega)]
    -- what is good
    have back : ps.all pOk = true → Lib.join ((ps.map clR).map cT) [44] = bL t := fun ho => by
      have e : (ps.map clR).map cT = ps.map bL := by
        rw [List.map_map]
        exact List.map_congr_left fun p hp => clue_text (List.all_eq_true.1 ho p hp)
      rw [e, p2, spl_join]
    have short : ps.all pOk = true → s_pzGood_n (ps.map clR) = true → t.size ≤ 60 ∧ ps.length ≤ 6 := fun ho hg => by
      have hb := back ho
      have h6 := s_pzGood_len hg
      have l1 := join_len [44] ((ps.map clR).map cT)
      have l2 := lens_le (c := 6) (xs := (ps.map clR).map cT) (fun x hx => by
        obtain ⟨c, hc, rfl⟩ := List.mem_map.1 hx
        exact clue_small (good_clues hg c hc))
      rw [hb, bL_len] at l1
      rw [List.length_map] at l1 l2
      have l3 : ([44] : List UInt8).length * (ps.map clR).length ≤ 1 * 6 := Nat.mul_le_mul (by simp) h6
      have l4 : 6 * (ps.map clR).length ≤ 6 * 6 := Nat.mul_le_mul_left _ h6
      rw [List.length_map] at h6
      exact ⟨by omega, h6⟩
    by_cases hs : t.size > 60
    · rw [decide_eq_true (show (t.size : Int) > 60 by omega)]
      refine ⟨[], false, ?_, rfl, by simp⟩
      cases ho : ps.all pOk
      · rfl
      · cases hg : s_pzGood_n (ps.map clR)
        · rfl
        · have := (short ho hg).1; omega
    · rw [decide_eq_false (show ¬ (t.size : Int) > 60 by omega), cond_false]
      obtain ⟨qs, q1, q2⟩ := l1Split_ok (s := t) (by omega) 44
      have e : ((44 : UInt8).toNat : Int) = 44 := rfl
      rw [e] at q1
      have hqp : qs = ps := by
        have : qs.map bL = ps.map bL := by rw [q2, p2]
        exact (List.map_inj_right (f := bL) (fun a b h => bL_inj h)).1 this
      subst hqp
      rw [q1, Option.bind_some]
      obtain ⟨X, f, h1, h2, h3⟩ := puzzle_sP (t := t) (qs := qs) (fun p hp => by have := b1 p hp; omega) (by omega)
      rw [h1, Option.bind_some]
      have hf : f = (qs.all pOk && s_pzGood_n (qs.map clR)) := by
        rw [h2, Bool.eq_iff_iff, Bool.and_eq_true, Bool.and_eq_true, Bool.and_eq_true, beq_iff_eq]
        constructor
        · rintro ⟨ha, hg, _⟩
          refine ⟨List.all_eq_true.2 fun p hp => ?_, hg⟩
          have g := puzzle_good hg
          have gc := g.bd (clR p) (List.mem_map_of_mem hp)
          have h3p := of_decide_eq_true (List.all_eq_true.1 ha p hp)
          unfold pOk
          rw [decide_eq_true h3p, Bool.and_true]
          obtain ⟨a, b, c, er⟩ := three h3p
          have ek : clR p = (rdL a, rdL b, rdL c) := by unfold clR; rw [er]; rfl
          rw [ek] at gc
          rw [er]
          have k0 := gc.k0
          have a0 := gc.a0
          have b0 := gc.b0
          simp only at k0 a0 b0
          simp [k0, a0, b0]
        · rintro ⟨ho, hg⟩
          refine ⟨List.all_eq_true.2 fun p hp => ?_, hg, back ho⟩
          have := List.all_eq_true.1 ho p hp
          unfold pOk at this
          rw [Bool.and_eq_true] at this
          exact this.2
      cases hff : f
      · refine ⟨[], false, ?_, rfl, by simp⟩
        rw [hff] at hf
        cases ho : qs.all pOk
        · rfl
        · rw [ho, Bool.true_and] at hf
          rw [← hf]; rfl
      · have hX := h3 hff
        rw [hff] at hf
        have hf := hf.symm
        rw [Bool.and_eq_true] at hf
        rw [hf.1, hf.2, hX]
        have := (short hf.1 hf.2).2
        exact ⟨qs.map clR, true, rfl, rfl, by rw [List.length_map]; omega⟩
end Go.Proofs.YtlffgllmjjkfdaaDoor.V
