/- The plain law of FnCarpetsLook: the plain function answers true. No condition. -/
import Derived.Test.YthenlapjhlljnaaC3h
set_option linter.unusedVariables false
set_option linter.unusedSimpArgs false
set_option maxRecDepth 100000
namespace Go.Proofs.Ythenlapjhlljnaa.V
open Go Go.Ev Go.Proofs
theorem hc6 : w_FnCarpetsLook_L6 = some true := by rw [w_FnCarpetsLook_u6]; rfl
theorem colN_mod {s : ByteArray} (w q : Nat) : colN s w (q % (w * s.size)) = colN s w q := by
  unfold colN
  rw [Nat.mod_mul_right_div_self, Nat.mod_mod]
noncomputable def caOk (t : ByteArray) (w q : Int) : Bool := strOk t && (s_l1In w 1 100 && s_l1In q 0 2000)
theorem hc5 {t : ByteArray} (ht : t.size ≤ 10000000) (w q : Int) (c : ByteArray) (e : Bool) (h : e = true → caOk t w q = true ∧ c = strOf [colN t w.toNat q.toNat]) : w_FnCarpetsLook_L5 t w q c e = some true := by
  rw [w_FnCarpetsLook_u5, w_FnCarpetsLook_t5, hc6]
  cases e
  · rfl
  · obtain ⟨h1, rfl⟩ := h rfl
    unfold caOk at h1
    simp only [Bool.and_eq_true] at h1
    obtain ⟨k1, k2, k3⟩ := h1
    have hS := strOk_iff k1
    have g2 := l1In_iff.1 k2
    have g3 := l1In_iff.1 k3
    obtain ⟨w, rfl⟩ := nat_of (x := w) (by omega)
    obtain ⟨q, rfl⟩ := nat_of (x := q) (by omega)
    have hlo := hS.lo
    have hhi := hS.hi
    have hb := mul_bd (a := (w : Int)) (b := (t.size : Int)) (by omega) (by omega)
    have e1 : IntKind.wrap .i64 ((w : Int) * (t.size : Int)) = ((w * t.size : Nat) : Int) := by rw [wrapI (by omega) (by omega)]; push_cast; rfl
    have hp : 0 < w * t.size := Nat.mul_pos (by omega) (by omega)
    have hz : (((w * t.size : Nat) : Int) == 0) = false := by rw [beq_eq_false_iff_ne]; omega
    have hle := Nat.mod_le q (w * t.size)
    have k4 : s_l1In ((q % (w * t.size) : Nat) : Int) 0 2000 = true := l1In_iff.2 ⟨Int.natCast_nonneg _, by
      generalize q % (w * t.size) = z at *
      omega⟩
    rw [e1, hz, tmod_nat, ColourAt_i t ht, k1, k2, k4]
    simp only [cond_true, cond_false, Bool.and_self, Option.bind_some, Int.toNat_natCast, colN_mod, strOf_size, Bool.not_true, beq_self_eq_true]
    rfl
theorem colAt_ok {s : ByteArray} (hs : strOk s = true) {w q : Nat} (hw : 1 ≤ w ∧ w ≤ 100) (hq : q ≤ 2000) : i_ColourAt s (w : Int) (q : Int) = some (strOf [colN s w q], true) := by
  have hh := (strOk_iff hs).hi
  rw [ColourAt_i s (by omega), hs, l1In_iff.2 (show (1 : Int) ≤ (w : Int) ∧ (w : Int) ≤ 100 by omega), l1In_iff.2 (show (0 : Int) ≤ (q : Int) ∧ (q : Int) ≤ 2000 by omega)]
  rfl
theorem hc9 {s : ByteArray} (hs : strOk s = true) {w n st k : Nat} (hw : 1 ≤ w ∧ w ≤ 100) (hn : n ≤ 100) (hk : k + 1 ≤ st) (hst : st ≤ 100) (hsz : st * n ≤ 2001) (r : List Int) (t : ByteArray) (w8 q : Int) (c : ByteArray) (e : Bool) (len : Int) (i : Nat) (hi : i ≤ 100) :
    ∀ d j : Nat, j + d = n → alk s w n k j d = true → w_FnCarpetsLook_L9 r s (w : Int) (n : Int) (st : Int) t w8 q c e ((k : Int) + 1) (j : Int) len (i : Int) = w_FnCarpetsLook_L8 r s (w : Int) (n : Int) (st : Int) t w8 q c e len ((i + 1 : Nat) : Int)
  | 0, j, h1, _ => by
    have : ¬ ((j : Int) < n) := by omega
    have hw1 : IntKind.wrap .i64 ((i : Int) + 1) = ((i + 1 : Nat) : Int) := by rw [wrapI (by omega) (by omega)]; omega
    rw [w_FnCarpetsLook_u9, w_FnCarpetsLook_t9, decide_eq_false this, hw1]; rfl
  | d + 1, j, h1, h2 => by
    rw [alk_succ, Bool.and_eq_true] at h2
    have c0 : (j : Int) < n := by omega
    have hm : (k + 1) * n ≤ st * n := Nat.mul_le_mul hk (Nat.le_refl n)
    have hm2 : (k + 1) * n = k * n + n := Nat.succ_mul k n
    have hw1 : IntKind.wrap .i64 ((j : Int) + 1) = ((j + 1 : Nat) : Int) := by rw [wrapI (by omega) (by omega)]; omega
    have e0 : IntKind.wrap .i64 ((k : Int) + 1 - 1) = (k : Int) := by rw [wrapI (by omega) (by omega)]; omega
    have e1 : IntKind.wrap .i64 ((k : Int) * n) = ((k * n : Nat) : Int) := by
      rw [show (k : Int) * n = ((k * n : Nat) : Int) from by push_cast; rfl]
      generalize k * n = z at *
      exact wrapI (by omega) (by omega)
    have e2 : IntKind.wrap .i64 (((k * n : Nat) : Int) + (j : Int)) = ((k * n + j : Nat) : Int) := by
      generalize k * n = z at *
      rw [wrapI (by omega) (by omega)]; omega
    rw [w_FnCarpetsLook_u9, w_FnCarpetsLook_t9, decide_eq_true c0, hw1, e0, e1, e2, colAt_ok hs hw (by omega), colAt_ok hs hw (by omega), beq_iff_eq.1 h2.1]
    simp only [cond_true, Option.bind_some, Bool.not_true, cond_false, beq_self_eq_true]
    exact hc9 hs hw hn hk hst hsz r t w8 q c e len i hi d (j + 1) (by omega) h2.2
theorem alkR_mem {s : ByteArray} {w n k d : Nat} {x : Int} (h : x ∈ alkR s w n k d) : ∃ q : Nat, k ≤ q ∧ q < k + d ∧ x = (q : Int) + 1 ∧ alk s w n q 0 n = true := by
  unfold alkR at h
  obtain ⟨q, hq, hx⟩ := List.mem_flatMap.1 h
  rw [List.mem_range'_1] at hq
  cases ha : alk s w n q 0 n
  · rw [ha] at hx; cases hx
  · rw [ha] at hx
    refine ⟨q, hq.1, hq.2, ?_, ha⟩
    simpa using hx
theorem alkR_len {s : ByteArray} {w n : Nat} : ∀ d k : Nat, (alkR s w n k d).length ≤ d
  | 0, k => by simp [alkR]
  | d + 1, k => by
    rw [alkR_succ, List.length_append]
    have := alkR_len (s := s) (w := w) (n := n) d (k + 1)
    cases alk s w n k 0 n <;> simp <;> omega
theorem hc8 {s : ByteArray} (hs : strOk s = true) {w n st : Nat} (hw : 1 ≤ w ∧ w ≤ 100) (hn : n ≤ 100) (hst : 1 ≤ st ∧ st ≤ 100) (hsz : st * n ≤ 2001) (t : ByteArray) (w8 q : Int) (c : ByteArray) (e : Bool) (h5 : w_FnCarpetsLook_L5 t w8 q c e = some true) :
    w_FnCarpetsLook_L8 (alkR s w n 1 (st - 1)) s (w : Int) (n : Int) (st : Int) t w8 q c e ((alkR s w n 1 (st - 1)).length : Int) 0 = some true := by
  have hl := alkR_len (s := s) (w := w) (n := n) (st - 1) 1
  refine drop_ind (alkR s w n 1 (st - 1)) (fun i l => w_FnCarpetsLook_L8 (alkR s w n 1 (st - 1)) s (w : Int) (n : Int) (st : Int) t w8 q c e ((alkR s w n 1 (st - 1)).length : Int) (i : Int) = some true) ?_ (fun i hi ih => ?_)
  · have : ¬ (((alkR s w n 1 (st - 1)).length : Int) < ((alkR s w n 1 (st - 1)).length : Int)) := by omega
    rw [w_FnCarpetsLook_u8, w_FnCarpetsLook_t8, decide_eq_false this]
    exact h5
  · obtain ⟨k, k1, k2, k3, k4⟩ := alkR_mem (List.getElem_mem hi)
    have c0 : (i : Int) < ((alkR s w n 1 (st - 1)).length : Int) := by omega
    rw [w_FnCarpetsLook_u8, w_FnCarpetsLook_t8, decide_eq_true c0, decide_eq_true (Int.natCast_nonneg i), rdk_get (k := kint) hi, k3, decide_eq_false (show ¬ ((k : Int) + 1 < 2) by omega), decide_eq_false (show ¬ ((k : Int) + 1 > (st : Int)) by omega),
      decide_eq_true (show (k : Int) + 1 ≥ 2 by omega), decide_eq_true (show (k : Int) + 1 ≤ (st : Int) by omega)]
    simp only [cond_true, cond_false]
    cases decide ((i : Int) > 20)
    · rw [cond_false]
      refine Eq.trans (hc9 hs hw hn (by omega) hst.2 hsz (alkR s w n 1 (st - 1)) t w8 q c e _ i (by omega) n 0 (by omega) k4) ih
    · rfl
theorem rises_of {l : List Int} (h : l.Pairwise (· < ·)) : ∀ i (hi : i + 1 < l.length), l[i] < l[i + 1] := fun i hi => List.pairwise_iff_getElem.1 h i (i + 1) (by omega) hi (by omega)
theorem alkR_pw {s : ByteArray} {w n : Nat} : ∀ d k : Nat, (alkR s w n k d).Pairwise (· < ·)
  | 0, k => by simp [alkR]
  | d + 1, k => by
    rw [alkR_succ]
    cases alk s w n k 0 n
    · exact alkR_pw d (k + 1)
    · refine List.pairwise_cons.2 ⟨fun x hx => ?_, alkR_pw d (k + 1)⟩
      obtain ⟨q, q1, q2, q3, q4⟩ := alkR_mem hx
      omega
theorem wholR_mem {n p : Int} {k d : Nat} {x : Int} (h : x ∈ wholR n p k d) : ∃ q : Nat, k ≤ q ∧ q < k + d ∧ x = (q : Int) + 1 ∧ (patF n p q == 0) = true := by
  unfold wholR at h
  obtain ⟨q, hq, hx⟩ := List.mem_flatMap.1 h
  rw [List.mem_range'_1] at hq
  unfold wholF at hx
  cases ha : patF n p q == 0
  · rw [ha] at hx; cases hx
  · rw [ha] at hx
    refine ⟨q, hq.1, hq.2, ?_, ha⟩
    simpa using hx
theorem wholR_pw {n p : Int} : ∀ d k : Nat, (wholR n p k d).Pairwise (· < ·)
  | 0, k => by simp [wholR]
  | d + 1, k => by
    rw [wholR_succ]
    unfold wholF
    cases patF n p k == 0
    · exact wholR_pw d (k + 1)
    · refine List.pairwise_cons.2 ⟨fun x hx => ?_, wholR_pw d (k + 1)⟩
      obtain ⟨q, q1, q2, q3, q4⟩ := wholR_mem hx
      omega
theorem strOf_at {l : List Int} {i : Nat} (h : i < l.length) : ((strOf l).extract i (i + 1)).toList = (strOf [l[i]]).toList := by
  have e := strOf_list l
  rw [ByteArray.toList_eq] at e
  rw [ByteArray.toList_eq, ByteArray.data_extract, Array.toList_extract, e, List.extract_eq_take_drop, strOf_list, List.drop_eq_getElem_cons (by rw [List.length_map]; exact h), show i + 1 - i = 1 from by omega]
  simp
theorem cosL_len (s : ByteArray) (a d : Nat) : (cosL s a d).length = d := by unfold cosL; simp
theorem cosL_get {s : ByteArray} {a d i : Nat} (h : i < (cosL s a d).length) : (cosL s a d)[i] = bt s (((a + i) % s.size : Nat) : Int) := by unfold cosL; simp
theorem hc4 {s : ByteArray} (w n st : Int) (t : ByteArray) (w8 q : Int) (c : ByteArray) (e : Bool) (col : ByteArray) (ok : Bool) (r : List Int) (h5 : w_FnCarpetsLook_L5 t w8 q c e = some true)
    (h : ok = true → stOk s w n st = true ∧ col = strOf (stepL s w.toNat n.toNat st.toNat) ∧ r = akV s w n st) :
    w_FnCarpetsLook_L4 r s w n st col ok t w8 q c e = some true := by
  rw [w_FnCarpetsLook_u4, w_FnCarpetsLook_t4, h5]
  cases ok
  · rfl
  · obtain ⟨k, rfl, rfl⟩ := h rfl
    unfold stOk at k
    simp only [Bool.and_eq_true] at k
    obtain ⟨k1, k2, k3, k4⟩ := k
    have g2 := l1In_iff.1 k2
    have g3 := l1In_iff.1 k3
    have g4 := l1In_iff.1 k4
    obtain ⟨w, rfl⟩ := nat_of (x := w) (by omega)
    obtain ⟨n, rfl⟩ := nat_of (x := n) (by omega)
    obtain ⟨st, rfl⟩ := nat_of (x := st) (by omega)
    have hS := strOk_iff k1
    have hz1 : ((w : Int) == 0) = false := by rw [beq_eq_false_iff_ne]; omega
    have hm : st * n ≤ 10000 := Nat.mul_le_mul (show st ≤ 100 by omega) (show n ≤ 100 by omega)
    have hp : 1 ≤ st * n := Nat.mul_pos (by omega) (by omega)
    have hsm : (st - 1) * n + n = st * n := by rw [← Nat.succ_mul]; congr 1; omega
    have e0 : IntKind.wrap .i64 ((st : Int) - 1) = ((st - 1 : Nat) : Int) := by rw [wrapI (by omega) (by omega)]; omega
    have e1 : IntKind.wrap .i64 (((st - 1 : Nat) : Int) * n) = (((st - 1) * n : Nat) : Int) := by
      rw [show ((st - 1 : Nat) : Int) * n = (((st - 1) * n : Nat) : Int) from by push_cast; rfl]
      exact wrapI (by omega) (by omega)
    have e2 : IntKind.wrap .i64 ((st : Int) * n) = ((st * n : Nat) : Int) := by
      rw [show (st : Int) * n = ((st * n : Nat) : Int) from by push_cast; rfl]
      exact wrapI (by omega) (by omega)
    have e3 : IntKind.wrap .i64 (((st * n : Nat) : Int) - 1) = ((st * n - 1 : Nat) : Int) := by rw [wrapI (by omega) (by omega)]; omega
    have hle := step_le (w := w) (n := n) (st := st) (by omega) (by omega)
    have hA := Nat.div_le_self ((st - 1) * n) w
    have hB := Nat.div_le_self (st * n - 1) w
    have d1 : Int.tdiv (((st - 1) * n : Nat) : Int) (w : Int) = (((st - 1) * n / w : Nat) : Int) := by rw [Int.tdiv_eq_ediv_of_nonneg (by omega)]; rfl
    have d2 : Int.tdiv ((st * n - 1 : Nat) : Int) (w : Int) = (((st * n - 1) / w : Nat) : Int) := by rw [Int.tdiv_eq_ediv_of_nonneg (by omega)]; rfl
    have hlen : (stepL s w n st).length = (st * n - 1) / w + 1 - (st - 1) * n / w := cosL_len _ _ _
    have f1 : ∀ h0 : 0 < (stepL s w n st).length, (stepL s w n st)[0] = colN s w ((st - 1) * n) := fun h0 => by
      unfold stepL at h0 ⊢; rw [cosL_get]; rfl
    have f2 : ∀ i (h0 : i < (stepL s w n st).length), i + 1 = (stepL s w n st).length → (stepL s w n st)[i] = colN s w (st * n - 1) := fun i h0 hi => by
      rw [hlen] at hi
      unfold stepL at h0 ⊢; rw [cosL_get]
      unfold colN
      congr 3
      omega
    have hL0 : 0 < (stepL s w n st).length := by omega
    obtain ⟨i, hi⟩ : ∃ i, i + 1 = (stepL s w n st).length := ⟨(stepL s w n st).length - 1, by omega⟩
    have F1 := f1 hL0
    have F2 := f2 i (by omega) hi
    have x1 := strOf_at hL0
    have x2 := strOf_at (show i < (stepL s w n st).length by omega)
    rw [F1] at x1
    rw [F2, hi] at x2
    have hwr : w_wRises (akV s (w : Int) (n : Int) (st : Int)) = some true := wRises_ok (by have := alkR_len (s := s) (w := w) (n := n) (st - 1) 1; unfold akV; simp only [Int.toNat_natCast]; omega) (rises_of (alkR_pw _ _))
    have h8 := fun hsz => hc8 k1 (w := w) (n := n) (st := st) (by omega) (by omega) (by omega) hsz t w8 q c e h5
    simp only [Int.toNat_natCast, e0, e1, e2, e3, d1, d2, hz1, hwr, strOf_size, cond_true, cond_false, Option.bind_some, Bool.not_true]
    clear f1 f2 F1 F2
    generalize stepL s w n st = L at *
    generalize (st - 1) * n / w = A at *
    generalize (st * n - 1) / w = B at *
    rw [wrapI (n := (B : Int)) (by omega) (by omega), wrapI (n := (A : Int)) (by omega) (by omega), wrapI (n := (B : Int) - A) (by omega) (by omega), wrapI (n := (B : Int) - A + 1) (by omega) (by omega), show (B : Int) - A + 1 = (L.length : Int) from by omega, bne_self_eq_false, cond_false]
    by_cases hz : ((st * n - 1 : Nat) : Int) ≤ 2000
    · rw [decide_eq_true hz, cond_true, colAt_ok k1 (by omega) (by omega), colAt_ok k1 (by omega) (by omega), wrapI (n := (L.length : Int) - 1) (by omega) (by omega), show (L.length : Int) - 1 = (i : Int) from by omega]
      have y1 : (1 : Int) ≤ (L.length : Int) := by omega
      have y2 : (i : Int) ≤ (L.length : Int) := by omega
      simp only [Option.bind_some, Bool.not_true, cond_false, cond_true, decide_eq_true y1, decide_eq_true y2, decide_eq_true (Int.natCast_nonneg i), Int.toNat_natCast, x2, beq_self_eq_true]
      rw [show (Int.toNat 0) = 0 from rfl, show Int.toNat 1 = 0 + 1 from rfl, x1, beq_self_eq_true]
      exact h8 (by omega)
    · rw [decide_eq_false hz]; rfl
theorem hc3 {more : List Int} (hmore : Bytes more) : w_FnCarpetsLook_L3 more = some true := by
  obtain ⟨⟨s, w, n, st⟩, e1, hs⟩ := s_DrawColoursOfStep_ok hmore
  obtain ⟨⟨t, w8, q⟩, e2, ht⟩ := s_DrawColourAt_ok hmore
  replace hs : s.size ≤ 10000000 := hs
  replace ht : t.size ≤ 10000000 := ht
  obtain ⟨X, hX⟩ : ∃ X, X = (bif stOk s w n st then (strOf (stepL s w.toNat n.toNat st.toNat), true) else ((⟨#[]⟩ : ByteArray), false)) := ⟨_, rfl⟩
  obtain ⟨Y, hY⟩ : ∃ Y, Y = (bif stOk s w n st then (akV s w n st, true) else (([] : List Int), false)) := ⟨_, rfl⟩
  obtain ⟨Z, hZ⟩ : ∃ Z, Z = (bif strOk t && (s_l1In w8 1 100 && s_l1In q 0 2000) then (strOf [colN t w8.toNat q.toNat], true) else ((⟨#[]⟩ : ByteArray), false)) := ⟨_, rfl⟩
  have x1 : X.2 = stOk s w n st := by rw [hX]; cases stOk s w n st <;> rfl
  have y1 : Y.2 = stOk s w n st := by rw [hY]; cases stOk s w n st <;> rfl
  have z5 : Z.2 = true → caOk t w8 q = true ∧ Z.1 = strOf [colN t w8.toNat q.toNat] := by
    rw [hZ]; unfold caOk
    cases (strOk t && (s_l1In w8 1 100 && s_l1In q 0 2000))
    · intro h; cases h
    · intro _; exact ⟨rfl, rfl⟩
  have y3 : Y.1.length ≤ 100000 := by
    rw [hY]
    cases hk : stOk s w n st
    · simp
    · unfold stOk at hk
      simp only [Bool.and_eq_true] at hk
      have g := l1In_iff.1 hk.2.2.2
      have := alkR_len (s := s) (w := w.toNat) (n := n.toNat) (st.toNat - 1) 1
      show (akV s w n st).length ≤ 100000
      unfold akV
      omega
  have h5 := hc5 ht w8 q Z.1 Z.2 z5
  have h4 := hc4 (s := s) w n st t w8 q Z.1 Z.2 X.1 X.2 Y.1 h5 (fun e => by
    rw [x1] at e
    rw [hX, hY, e]
    exact ⟨rfl, rfl, rfl⟩)
  rw [w_FnCarpetsLook_u3, w_FnCarpetsLook_t3, e1, e2]
  simp only [Option.bind_some]
  rw [ColoursOfStep_i s hs, ColoursOfStep_s s hs, AlikeSteps_i s hs, AlikeSteps_s s hs, ColourAt_i t ht, ColourAt_s t ht, IsStriped_i hs, IsStriped_s hs, IsStriped_i ht, IsStriped_s ht, ← hX, ← hY, ← hZ]
  simp only [Option.bind_some, x1, y1, beq_self_eq_true, Bool.not_true, cond_false, wSame_self y3]
  rw [x1] at h4
  cases hk : stOk s w n st
  · rw [hk] at h4; exact h4
  · rw [hk] at h4
    unfold stOk at hk
    simp only [Bool.and_eq_true] at hk
    rw [hk.1]
    exact h4
theorem wp_facts {n p : Int} (hn : 1 ≤ n ∧ n ≤ 100) (hp : 1 ≤ p ∧ p ≤ 2000) : n ≤ wpV n p ∧ wpV n p ≤ n + p - 1 := by
  unfold wpV
  have h1 := Int.emod_nonneg (n + p - 1) (show p ≠ 0 by omega)
  have h2 := Int.emod_lt_of_pos (n + p - 1) (show 0 < p by omega)
  have h3 := Int.mul_ediv_add_emod (n + p - 1) p
  rw [Int.mul_comm] at h3
  omega
theorem hc2 {more : List Int} (hmore : Bytes more) (n p per wh cut : Int) (three : Bool)
    (h : three = true → (s_l1In n 1 100 = true ∧ s_l1In p 1 2000 = true) ∧ per = perV n p ∧ wh = wpV n p ∧ cut = wpV n p - n) : w_FnCarpetsLook_L2 more n p per three wh cut = some true := by
  rw [w_FnCarpetsLook_u2, w_FnCarpetsLook_t2, hc3 hmore]
  cases three
  · rfl
  · obtain ⟨⟨k1, k2⟩, rfl, rfl, rfl⟩ := h rfl
    have g1 := l1In_iff.1 k1
    have g2 := l1In_iff.1 k2
    have hw := wp_facts g1 g2
    have hm : Int.tmod (wpV n p) p = 0 := Int.mul_tmod_left _ _
    generalize wpV n p = wh at *
    obtain ⟨n, rfl⟩ := nat_of (x := n) (by omega)
    obtain ⟨p, rfl⟩ := nat_of (x := p) (by omega)
    have hP := perN_pos (n := n) (p := p) (by omega)
    have hL := perN_le n p
    have hb := mul_bd (a := (perN n p : Int)) (b := (n : Int)) (by omega) (by omega)
    have hd := patF_zero (n := n) (p := p) (by omega) (perN n p)
    rw [decide_eq_true ⟨1, by omega⟩] at hd
    unfold patF at hd
    have hz : ((p : Int) == 0) = false := by rw [beq_eq_false_iff_ne]; omega
    have e : perV (n : Int) (p : Int) = (perN n p : Int) := rfl
    have ew : IntKind.wrap .i64 (wh - (n : Int)) = wh - (n : Int) := wrapI (by omega) (by omega)
    rw [e, wrapI (n := (perN n p : Int) * n) (by omega) (by omega), ew, decide_eq_false (show ¬ ((perN n p : Int) < 1) by omega), decide_eq_false (show ¬ ((perN n p : Int) > (p : Int)) by omega), hz,
      decide_eq_false (show ¬ (wh < (n : Int)) by omega), decide_eq_false (show ¬ (wh - (n : Int) < 0) by omega), decide_eq_false (show ¬ (wh - (n : Int) ≥ (p : Int)) by omega), hm, bne_self_eq_false, bne_self_eq_false, bne, hd]
    rfl
theorem wholR_iff {n p : Int} {m i : Nat} (hi : i < m) : decide ((i : Int) + 1 ∈ wholR n p 0 m) = (patF n p i == 0) := by
  cases h : patF n p i == 0
  · rw [decide_eq_false]
    intro hm
    obtain ⟨q, _, _, q3, q4⟩ := wholR_mem hm
    obtain rfl : q = i := by omega
    rw [h] at q4; cases q4
  · rw [decide_eq_true]
    unfold wholR
    refine List.mem_flatMap.2 ⟨i, List.mem_range'_1.2 (by omega), ?_⟩
    unfold wholF
    rw [h]
    simp
theorem wholR_len {n p : Int} : ∀ d k : Nat, (wholR n p k d).length ≤ d
  | 0, k => by simp [wholR]
  | d + 1, k => by
    rw [wholR_succ, List.length_append]
    have := wholR_len (n := n) (p := p) d (k + 1)
    unfold wholF
    cases patF n p k == 0 <;> simp <;> omega
theorem pat_step {n p j : Nat} (hp : 0 < p) : Int.tmod ((((j + 1) * n % p : Nat) : Int) - ((j * n % p : Nat) : Int) - (n : Int)) (p : Int) = 0 := by
  apply Int.tmod_eq_zero_of_dvd
  have h1 := Nat.div_add_mod ((j + 1) * n) p
  have h2 := Nat.div_add_mod (j * n) p
  have h3 : (j + 1) * n = j * n + n := Nat.succ_mul j n
  refine ⟨((j * n / p : Nat) : Int) - (((j + 1) * n / p : Nat) : Int), ?_⟩
  rw [Int.mul_sub]
  have e1 : (p : Int) * ((j * n / p : Nat) : Int) = ((p * (j * n / p) : Nat) : Int) := by push_cast; rfl
  have e2 : (p : Int) * (((j + 1) * n / p : Nat) : Int) = ((p * ((j + 1) * n / p) : Nat) : Int) := by push_cast; rfl
  rw [e1, e2]
  omega
theorem pat_back {n p i : Nat} (hp : 0 < p) (h : perN n p ≤ i) : (i - perN n p) * n % p = i * n % p := by
  obtain ⟨c, hc⟩ := (perN_dvd (n := n) hp (perN n p)).2 ⟨1, by omega⟩
  have : i * n = (i - perN n p) * n + p * c := by rw [← hc, ← Nat.add_mul]; congr 1; omega
  rw [this, Nat.add_mul_mod_self_left]
theorem hc7 {m n p : Nat} (hm : 1 ≤ m ∧ m ≤ 100) (hn : 1 ≤ n ∧ n ≤ 100) (hp : 1 ≤ p ∧ p ≤ 2000) (more : List Int) (three : Bool) (wh cut : Int)
    (h2 : w_FnCarpetsLook_L2 more (n : Int) (p : Int) (perN n p : Int) three wh cut = some true) :
    w_FnCarpetsLook_L7 more (patL (m : Int) (n : Int) (p : Int)) (wholR (n : Int) (p : Int) 0 m) (n : Int) (p : Int) (perN n p : Int) three wh cut (m : Int) 0 = some true := by
  have hl : (patL (m : Int) (n : Int) (p : Int)).length = m := by rw [patL_len]; rfl
  have hwl := wholR_len (n := (n : Int)) (p := (p : Int)) m 0
  have hP := perN_pos (n := n) (p := p) (by omega)
  have hL := perN_le n p
  have hz : ((p : Int) == 0) = false := by rw [beq_eq_false_iff_ne]; omega
  have hz2 : ((perN n p : Int) == 0) = false := by rw [beq_eq_false_iff_ne]; omega
  refine drop_ind (patL (m : Int) (n : Int) (p : Int)) (fun i l => w_FnCarpetsLook_L7 more (patL (m : Int) (n : Int) (p : Int)) (wholR (n : Int) (p : Int) 0 m) (n : Int) (p : Int) (perN n p : Int) three wh cut (m : Int) (i : Int) = some true) ?_ (fun i hi ih => ?_)
  · rw [hl]
    have : ¬ ((m : Int) < (m : Int)) := by omega
    rw [w_FnCarpetsLook_u7, w_FnCarpetsLook_t7, decide_eq_false this]
    exact h2
  · have hi' : i < m := by rw [hl] at hi; exact hi
    have c1 : (i : Int) < (m : Int) := by omega
    have hw1 : IntKind.wrap .i64 ((i : Int) + 1) = (i : Int) + 1 := wrapI (by omega) (by omega)
    have hv := Nat.mod_lt (i * n) (show p > 0 by omega)
    have hH : w_wHas (wholR (n : Int) (p : Int) 0 m) ((i : Int) + 1) = some (patF (n : Int) (p : Int) i == 0) := by rw [wHas_eq (by omega), wholR_iff hi']
    have E : (Int.tmod (i : Int) (perN n p : Int) == 0) = (patF (n : Int) (p : Int) i == 0) := by
      rw [patF_zero (by omega), tmod_nat]
      by_cases hd : perN n p ∣ i
      · rw [decide_eq_true hd, beq_iff_eq, Nat.dvd_iff_mod_eq_zero.1 hd]; rfl
      · rw [decide_eq_false hd, beq_eq_false_iff_ne]
        intro h0
        exact hd (Nat.dvd_iff_mod_eq_zero.2 (by omega))
    have ih' : w_FnCarpetsLook_L7 more (patL (m : Int) (n : Int) (p : Int)) (wholR (n : Int) (p : Int) 0 m) (n : Int) (p : Int) (perN n p : Int) three wh cut (m : Int) ((i : Int) + 1) = some true := ih
    have v1 : ¬ (patF (n : Int) (p : Int) i < 0) := by rw [patF_nat]; omega
    have v2 : ¬ (patF (n : Int) (p : Int) i ≥ (p : Int)) := by rw [patF_nat]; omega
    have tail : ∀ X : Option Bool, X = some true → (bif decide ((i : Int) ≥ (perN n p : Int)) then bif decide (0 ≤ IntKind.wrap .i64 ((i : Int) - (perN n p : Int))) then bif decide (IntKind.wrap .i64 ((i : Int) - (perN n p : Int)) < (m : Int)) then bif patF (n : Int) (p : Int) i != rdk kint (patL (m : Int) (n : Int) (p : Int)) (IntKind.wrap .i64 ((i : Int) - (perN n p : Int))) then some false else X else none else none else X) = some true := by
      intro X hX
      by_cases hper : perN n p ≤ i
      · have e0 : IntKind.wrap .i64 ((i : Int) - (perN n p : Int)) = ((i - perN n p : Nat) : Int) := by rw [wrapI (by omega) (by omega)]; omega
        have c2 : ((i - perN n p : Nat) : Int) < (m : Int) := by omega
        have e1 : patF (n : Int) (p : Int) (i - perN n p) = patF (n : Int) (p : Int) i := by rw [patF_nat, patF_nat, pat_back (by omega) hper]
        rw [decide_eq_true (show (i : Int) ≥ (perN n p : Int) by omega), e0, decide_eq_true (Int.natCast_nonneg _), decide_eq_true c2, rdk_get (k := kint) (show i - perN n p < (patL (m : Int) (n : Int) (p : Int)).length by omega), patL_get, e1, bne_self_eq_false]
        exact hX
      · rw [decide_eq_false (show ¬ ((i : Int) ≥ (perN n p : Int)) by omega)]
        exact hX
    rw [w_FnCarpetsLook_u7, w_FnCarpetsLook_t7, hl, decide_eq_true c1, decide_eq_true (Int.natCast_nonneg i), rdk_get (k := kint) hi, patL_get, decide_eq_false v1, decide_eq_false v2, hw1, hH, hz, hz2, E]
    simp only [cond_true, cond_false, Option.bind_some, beq_self_eq_true, Bool.not_true]
    rw [tail _ ih']
    by_cases h0 : i = 0
    · subst h0; rfl
    · obtain ⟨j, rfl⟩ : ∃ j, i = j + 1 := ⟨i - 1, by omega⟩
      have e0 : IntKind.wrap .i64 (((j + 1 : Nat) : Int) - 1) = (j : Int) := by rw [wrapI (by omega) (by omega)]; omega
      have hv2 := Nat.mod_lt (j * n) (show p > 0 by omega)
      have hst := pat_step (n := n) (j := j) (show 0 < p by omega)
      rw [decide_eq_true (show ((j + 1 : Nat) : Int) > 0 by omega), e0, decide_eq_true (Int.natCast_nonneg j), decide_eq_true (show (j : Int) < (m : Int) by omega), rdk_get (k := kint) (show j < (patL (m : Int) (n : Int) (p : Int)).length by omega), patL_get, patF_nat, patF_nat,
        wrapI (n := (((j + 1) * n % p : Nat) : Int) - ((j * n % p : Nat) : Int)) (by omega) (by omega), wrapI (n := (((j + 1) * n % p : Nat) : Int) - ((j * n % p : Nat) : Int) - (n : Int)) (by omega) (by omega), hst, bne_self_eq_false]
      rfl
theorem hc1 {more : List Int} (r0 r1 : List Int) (m n p per wh cut : Int) (ok three : Bool)
    (h2 : w_FnCarpetsLook_L2 more n p per three wh cut = some true)
    (h : ok = true → patOk m n p = true ∧ per = perV n p ∧ r0 = patL m n p ∧ r1 = whV m n p) : w_FnCarpetsLook_L1 more r0 r1 m n p ok per three wh cut = some true := by
  rw [w_FnCarpetsLook_u1, w_FnCarpetsLook_t1, h2]
  cases ok
  · rfl
  · obtain ⟨k, rfl, rfl, rfl⟩ := h rfl
    unfold patOk at k
    simp only [Bool.and_eq_true] at k
    obtain ⟨k1, k2, k3⟩ := k
    have g1 := l1In_iff.1 k1
    have g2 := l1In_iff.1 k2
    have g3 := l1In_iff.1 k3
    obtain ⟨m, rfl⟩ := nat_of (x := m) (by omega)
    obtain ⟨n, rfl⟩ := nat_of (x := n) (by omega)
    obtain ⟨p, rfl⟩ := nat_of (x := p) (by omega)
    have hl : (patL (m : Int) (n : Int) (p : Int)).length = m := by rw [patL_len]; rfl
    have hwl := wholR_len (n := (n : Int)) (p := (p : Int)) m 0
    have e : whV (m : Int) (n : Int) (p : Int) = wholR (n : Int) (p : Int) 0 m := rfl
    have hr : w_wRises (wholR (n : Int) (p : Int) 0 m) = some true := wRises_ok (by omega) (rises_of (wholR_pw _ _))
    have h0 : 0 < (patL (m : Int) (n : Int) (p : Int)).length := by omega
    have f0 : rdk kint (patL (m : Int) (n : Int) (p : Int)) 0 = 0 := by
      have := rdk_get (k := kint) h0
      rw [patL_get, patF_nat] at this
      simpa using this
    rw [e, hl, hr, f0, bne_self_eq_false, bne_self_eq_false]
    simp only [cond_true, cond_false, Option.bind_some, Bool.not_true, decide_eq_true (show (0 : Int) < (m : Int) by omega)]
    exact hc7 (m := m) (n := n) (p := p) (by omega) (by omega) (by omega) more three wh cut h2
theorem pure_FnCarpetsLook (code : List Int) (hc : Wf kSuint8 code) (more : List Int) (hmo : Wf kSuint8 more) : F_w_FnCarpetsLook (code, more, ()) = some true := by
  show w_FnCarpetsLook code more = some true
  have hmore := bytes_wf hmo
  unfold w_FnCarpetsLook w_FnCarpetsLook_t0
  cases w_big code more
  rotate_left
  · rfl
  obtain ⟨⟨m, n, p⟩, e1, -⟩ := s_DrawPatternStarts_ok (bytes_wf hc)
  simp only [cond_false, e1, Option.bind_some]
  rw [PatternStarts_i, PatternStarts_s, WholeStarts_i, WholeStarts_s, PatternPeriod_i, PatternPeriod_s, WithPattern_eq, WithPattern_s]
  have hl : patOk m n p = true → (patL m n p).length ≤ 100000 ∧ (whV m n p).length ≤ 100000 := fun k => by
    unfold patOk at k
    simp only [Bool.and_eq_true] at k
    have g1 := l1In_iff.1 k.1
    have := wholR_len (n := n) (p := p) m.toNat 0
    rw [patL_len]; unfold whV
    omega
  have hA : patOk m n p = true → (s_l1In n 1 100 && s_l1In p 1 2000) = true := fun k => by
    unfold patOk at k
    exact (Bool.and_eq_true _ _ ▸ k).2
  cases hk : patOk m n p
  · cases ha : (s_l1In n 1 100 && s_l1In p 1 2000)
    · have h2 := hc2 hmore n p 0 0 0 false (fun e => by cases e)
      have h1 := hc1 (more := more) [] [] m n p 0 0 0 false false h2 (fun e => by cases e)
      simp only [cond_false, Option.bind_some, beq_self_eq_true, Bool.not_true, wSame_self (a := []) (by simp), bne_self_eq_false, h1]
    · have h2 := hc2 hmore n p (perV n p) (wpV n p) (wpV n p - n) true (fun _ => ⟨by simpa using ha, rfl, rfl, rfl⟩)
      have h1 := hc1 (more := more) [] [] m n p (perV n p) (wpV n p) (wpV n p - n) false true h2 (fun e => by cases e)
      simp only [cond_false, cond_true, Option.bind_some, beq_self_eq_true, Bool.not_true, wSame_self (a := []) (by simp), bne_self_eq_false, h1]
  · have ha := hA hk
    have h2 := hc2 hmore n p (perV n p) (wpV n p) (wpV n p - n) true (fun _ => ⟨by simpa using ha, rfl, rfl, rfl⟩)
    have h1 := hc1 (more := more) (patL m n p) (whV m n p) m n p (perV n p) (wpV n p) (wpV n p - n) true true h2 (fun _ => ⟨hk, rfl, rfl, rfl⟩)
    rw [ha]
    simp only [cond_false, cond_true, Option.bind_some, beq_self_eq_true, Bool.not_true, wSame_self (hl hk).1, wSame_self (hl hk).2, bne_self_eq_false, h1]
end Go.Proofs.Ythenlapjhlljnaa.V
