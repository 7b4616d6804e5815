/- The plain law of FnBallsGo: the plain function answers true. No condition. -/
import Derived.Test.YthenlapjhlljnaaC5h
set_option linter.unusedVariables false
set_option linter.unusedSimpArgs false
set_option maxRecDepth 100000
namespace Go.Proofs.Ythenlapjhlljnaa.V
open Go Go.Ev Go.Proofs
theorem hb10 : w_FnBallsGo_L10 = some true := by rw [w_FnBallsGo_u10]; rfl
theorem hb13 {two one : List Int} {same : Int} (h1 : two.length ≤ 1000) (h2 : one.length ≤ 1000) (h : fsL two one = some same) : w_FnBallsGo_L13 two one same (one.length : Int) 0 = some true := by
  refine drop_ind one (fun i l => fsL two l = some same → w_FnBallsGo_L13 two one same (one.length : Int) (i : Int) = some true) (fun hn => by cases hn) (fun i hi ih => ?_) h
  intro hs
  have c1 : (i : Int) < one.length := by omega
  rw [w_FnBallsGo_u13, w_FnBallsGo_t13, decide_eq_true c1, decide_eq_true (Int.natCast_nonneg i), rdk_get (k := kint) hi, wrapI (n := (i : Int) + 1) (by omega) (by omega), hb10, lHas_eq (by omega)]
  simp only [cond_true, Option.bind_some]
  unfold fsL at hs
  by_cases hm : one[i] ∈ two
  · rw [if_pos hm] at hs
    rw [show (one[i] == same) = true from beq_iff_eq.2 (Option.some.inj hs)]; rfl
  · rw [if_neg hm] at hs
    rw [decide_eq_false hm, ← show ((i + 1 : Nat) : Int) = (i : Int) + 1 from by omega, ih hs]
    cases one[i] == same <;> rfl
theorem hb9 {J : List Int} {a b : Int} {m q : Nat} (ha : s_baStep J a = true) (hb : s_baStep J b = true) (P : Pth J a m) (Q : Pth J b q) (i1 : i_path J a = some (itL J a m, itJ J a m)) (i2 : i_path J b = some (itL J b q, itJ J b q)) :
    w_FnBallsGo_L9 J a b (fsV (fsL (itL J b q) (itL J a m))).1 (fsV (fsL (itL J b q) (itL J a m))).2 = some true := by
  obtain ⟨g, _⟩ := step_iff ha
  have hh := g.hi
  have hm := P.le
  have hq := Q.le
  rw [w_FnBallsGo_u9, w_FnBallsGo_t9, hb10]
  cases hf : fsL (itL J b q) (itL J a m) with
  | none => rfl
  | some x =>
    unfold i_PathOfBall
    rw [have1, have1, ha, hb, i1, i2]
    simp only [fsV, Option.bind_some, Bool.not_true, cond_false, cond_true]
    rw [lHas_eq (by rw [itL_len]; omega), decide_eq_true (fsL_mem hf)]
    simp only [Option.bind_some, Bool.not_true, cond_false]
    exact hb13 (by rw [itL_len]; omega) (by rw [itL_len]; omega) hf
theorem hb8 {J : List Int} {a b : Int} {m q k : Nat} (ha : s_baStep J a = true) (hb : s_baStep J b = true) (hab : a ≠ b) (P : Pth J a m) (Q : Pth J b q) (i1 : i_path J a = some (itL J a m, itJ J a m)) (i2 : i_path J b = some (itL J b q, itJ J b q))
    (M : Meet J a b k) (hk : k ≤ 900) {same : Int} {th : Bool} (h9 : w_FnBallsGo_L9 J a b same th = some true) : w_FnBallsGo_L8 J a b (k : Int) (itJ J a k) true same th = some true := by
  have hp := M.pos
  obtain ⟨_, ga⟩ := step_iff ha
  obtain ⟨_, gb⟩ := step_iff hb
  have hA := M.all_in ga
  have hB := M.swap.all_in gb
  have hw : IntKind.wrap .i64 ((k : Int) - 1) = ((k - 1 : Nat) : Int) := by rw [wrapI (by omega) (by omega)]; omega
  have hne : itJ J a (k - 1) ≠ itJ J b (k - 1) := by
    by_cases h0 : k - 1 = 0
    · rw [h0]; exact hab
    · exact (M.goes (k - 1) (by omega) (by omega)).2.2
  have hback : i_BallsMeet J b a = some ((k : Int), itJ J b k, true) := by
    rw [(BallsMeet_run hb ha (fun e => hab e.symm)).1, run_meet hp (show k ≤ 1800 by omega) M.swap.goes M.swap.ins M.swap.eq, show 1 + k - 1 = k from by omega]
  have t1 : s_l1In (k : Int) 0 1000000000000 = true := l1In_iff.2 (by omega)
  have t2 : s_l1In ((k - 1 : Nat) : Int) 0 1000000000000 = true := l1In_iff.2 (by omega)
  rw [w_FnBallsGo_u8, w_FnBallsGo_t8, hw, PlaceAfter_i ha P i1, PlaceAfter_i hb Q i2, PlaceAfter_i ha P i1, PlaceAfter_i hb Q i2, t1, t2, hback]
  simp only [cond_true, Option.bind_some, Int.toNat_natCast]
  rw [plc_in hA, plc_in hB, plc_in (fun j hj => hA j (by omega)), plc_in (fun j hj => hB j (by omega)), decide_eq_false (show ¬ ((k : Int) < 1) by omega), ← M.eq, show (itJ J a (k - 1) == itJ J b (k - 1)) = false from beq_eq_false_iff_ne.2 hne]
  simp only [Bool.not_true, cond_false, bne_self_eq_false]
  exact h9
theorem hb5 {more : List Int} (hmore : Bytes more) : w_FnBallsGo_L5 more = some true := by
  obtain ⟨⟨J, a, b⟩, e1, -⟩ := s_DrawBallsMeet_ok hmore
  rw [w_FnBallsGo_u5, w_FnBallsGo_t5, e1]
  simp only [Option.bind_some]
  cases hab : (s_baStep J a && s_baStep J b)
  · obtain ⟨m1, m2⟩ := BallsMeet_no (.inl hab)
    obtain ⟨f1, f2⟩ := FirstSame_no hab
    have h9 : w_FnBallsGo_L9 J a b 0 false = some true := by rw [w_FnBallsGo_u9, w_FnBallsGo_t9, hb10]; rfl
    have h8 : w_FnBallsGo_L8 J a b 0 0 false 0 false = some true := by rw [w_FnBallsGo_u8, w_FnBallsGo_t8, h9]; rfl
    rw [m1, m2, f1, f2]
    exact h8
  · simp only [Bool.and_eq_true] at hab
    obtain ⟨ha, hb⟩ := hab
    obtain ⟨g, ga⟩ := step_iff ha
    obtain ⟨_, gb⟩ := step_iff hb
    have hh := g.hi
    obtain ⟨m, P, i1, s1⟩ := path_ex g ga
    obtain ⟨q, Q, i2, s2⟩ := path_ex g gb
    have hm := P.le
    have hq := Q.le
    obtain ⟨f1, f2⟩ := FirstSame_yes ha hb (by omega) i1 i2 s1 s2
    have h9 := hb9 ha hb P Q i1 i2
    have no : ∀ {x y : Int}, w_FnBallsGo_L8 J a b x y false (fsV (fsL (itL J b q) (itL J a m))).1 (fsV (fsL (itL J b q) (itL J a m))).2 = some true := by
      intro x y
      rw [w_FnBallsGo_u8, w_FnBallsGo_t8, h9]; rfl
    by_cases hne : a = b
    · obtain ⟨m1, m2⟩ := BallsMeet_no (J := J) (.inr hne)
      rw [m1, m2, f1, f2]
      simp only [Option.bind_some, beq_self_eq_true, bne_self_eq_false, Bool.not_true, cond_false, no]
    · rcases BallsMeet_both ha hb hne with ⟨k, M, hk, m1, m2⟩ | ⟨m1, m2⟩
      · have h8 := hb8 ha hb hne P Q i1 i2 M hk h9
        have hin1 := it_mem P (M.all_in ga)
        have hin2 := it_mem Q (M.swap.all_in gb)
        rw [← M.eq] at hin2
        obtain ⟨y, hy⟩ := fsL_some hin1 hin2
        rw [m1, m2, f1, f2]
        rw [hy] at h8 ⊢
        simp only [Option.bind_some, beq_self_eq_true, bne_self_eq_false, Bool.not_true, cond_false, cond_true, h8, fsV]
        exact h8
      · rw [m1, m2, f1, f2]
        simp only [Option.bind_some, beq_self_eq_true, bne_self_eq_false, Bool.not_true, cond_false, no]
/-! one ball -/
theorem rotL_len (a : Nat → Int) (c k : Nat) : (rotL a c k).length = c := by
  unfold rotL
  rw [List.length_append, List.length_drop, List.length_take, fL_len]
  omega
theorem rotL_get {a : Nat → Int} {c k i : Nat} (hk : k < c) (hi : i < (rotL a c k).length) : (rotL a c k)[i] = a ((k + i) % c) := by
  have hc := rotL_len a c k
  have hl : ((fL a c).drop k).length = c - k := by rw [List.length_drop, fL_len]
  have hi' : i < ((fL a c).drop k ++ (fL a c).take k).length := hi
  refine (show (rotL a c k)[i] = ((fL a c).drop k ++ (fL a c).take k)[i]'hi' from rfl).trans ?_
  by_cases h : i < c - k
  · rw [List.getElem_append_left (by omega), List.getElem_drop, fL_get, Nat.mod_eq_of_lt (by omega)]
  · rw [List.getElem_append_right (by omega), List.getElem_take, fL_get, hl]
    congr 1
    rw [Nat.mod_eq_sub_mod (by omega), Nat.mod_eq_of_lt (by omega)]
    omega
theorem rotL_mem {a : Nat → Int} {c k : Nat} {x : Int} : x ∈ rotL a c k ↔ ∃ i, i < c ∧ a i = x := by
  unfold rotL
  rw [List.mem_append, or_comm, ← List.mem_append, List.take_append_drop]
  unfold fL
  simp [List.mem_map]
def CtxB (J : List Int) (p : Int) (m : Nat) (lp : List Int) (five : Bool) (until_ : Int) : Prop :=
  (InJ J (itJ J p m) ∧ five = true ∧ ∃ f k, Loop J p m f k ∧ lp = lpL J p m f k ∧ until_ = (f : Int)) ∨ (¬ InJ J (itJ J p m) ∧ five = false ∧ lp = [] ∧ until_ = 0)
theorem lp_len {J : List Int} {p : Int} {m f k : Nat} : (lpL J p m f k).length = m - f := rotL_len _ _ _
theorem lp_has {J : List Int} {p : Int} {m f k t : Nat} (L : Loop J p m f k) (ht : f ≤ t) : itJ J p t ∈ lpL J p m f k := by
  unfold lpL
  rw [rotL_mem]
  refine ⟨(t - f) % (m - f), Nat.mod_lt _ (by have := L.f_lt; omega), ?_⟩
  show itJ J p (f + (t - f) % (m - f)) = _
  rw [← it_per L.f_lt L.back, show f + (t - f) = t from by omega]
section
variable {J : List Int} {p : Int} {m : Nat} {lp more : List Int} {five : Bool} {until_ t : Int}
theorem hb7 (h : s_baStep J p = true) (P : Pth J p m) (i1 : i_path J p = some (itL J p m, itJ J p m)) (C : CtxB J p m lp five until_) (h5 : w_FnBallsGo_L5 more = some true) (ht : s_l1In t 0 1000000000000 = true) :
    w_FnBallsGo_L7 more J lp p t (plcV J p m t.toNat) (endV J (itJ J p m)) until_ = some true := by
  obtain ⟨g, hp⟩ := step_iff h
  have hh := g.hi
  have hm := P.le
  have ht := l1In_iff.1 ht
  rw [w_FnBallsGo_u7, w_FnBallsGo_t7, h5, endV_l]
  rcases C with ⟨c1, _, f, k, L, rfl, rfl⟩ | ⟨c1, _, rfl, rfl⟩
  · have hf := L.f_lt
    rw [decide_eq_true c1.1, decide_eq_true c1.2, lp_len]
    simp only [Bool.and_self, cond_true]
    obtain ⟨t, rfl⟩ : ∃ k : Nat, t = k := ⟨t.toNat, by omega⟩
    by_cases hu : (t : Int) ≥ (f : Int)
    · rw [decide_eq_true hu, wrapI (by omega) (by omega)]
      by_cases hx : (t : Int) + ((m - f : Nat) : Int) ≤ 1000000000000
      · rw [decide_eq_true hx, show (t : Int) + ((m - f : Nat) : Int) = ((t + (m - f) : Nat) : Int) from by omega, PlaceAfter_i h P i1, show s_l1In ((t + (m - f) : Nat) : Int) 0 1000000000000 = true from l1In_iff.2 (by omega)]
        have e : plcV J p m (t + (m - f)) = plcV J p m t := by
          have per : itJ J p (t + (m - f)) = itJ J p t := by
            have h1 := it_per (J := J) (p := p) hf L.back (t - f + (m - f))
            have h2 := it_per (J := J) (p := p) hf L.back (t - f)
            rw [Nat.add_mod_right, ← h2] at h1
            rw [show f + (t - f + (m - f)) = t + (m - f) from by omega, show f + (t - f) = t from by omega] at h1
            exact h1
          have hv : ∀ q, plcV J p m q = itJ J p q := fun q => by
            unfold plcV
            by_cases c : q < m
            · rw [if_pos c]
            · rw [if_neg c, if_neg (fun hn => hn c1)]
          rw [hv, hv, per]
        simp only [cond_true, Option.bind_some, Int.toNat_natCast, Bool.not_true, cond_false, e, bne_self_eq_false]
      · rw [decide_eq_false hx]; rfl
    · rw [decide_eq_false hu]; rfl
  · have : (decide (0 ≤ itJ J p m) && decide (itJ J p m < (J.length : Int))) = false := inQ_no c1
    rw [this]; rfl
theorem hb6 (h : s_baStep J p = true) (P : Pth J p m) (i1 : i_path J p = some (itL J p m, itJ J p m)) (C : CtxB J p m lp five until_) (h5 : w_FnBallsGo_L5 more = some true) (ht : s_l1In t 0 1000000000000 = true) :
    w_FnBallsGo_L6 more J (itL J p m) lp p t (plcV J p m t.toNat) (endV J (itJ J p m)) until_ = some true := by
  obtain ⟨g, hp⟩ := step_iff h
  have hh := g.hi
  have hm := P.le
  have h7 := hb7 h P i1 C h5 ht
  have ht := l1In_iff.1 ht
  obtain ⟨t, rfl⟩ : ∃ k : Nat, t = k := ⟨t.toNat, by omega⟩
  rw [w_FnBallsGo_u6, w_FnBallsGo_t6, h7, itL_len, endV_a, endV_b, endV_l]
  by_cases c0 : (t : Int) ≥ (m : Int)
  · rw [decide_eq_true c0, cond_true, Int.toNat_natCast]
    have hbd := itJ_bd hp m
    rcases C with ⟨c1, _, f, k, L, rfl, rfl⟩ | ⟨c1, _, rfl, rfl⟩
    · have hf := L.f_lt
      have d1 := c1.1
      have d2 := c1.2
      have hv : plcV J p m t = itJ J p t := by unfold plcV; rw [if_neg (by omega), if_neg (fun hn => hn c1)]
      have hl : w_lHas (lpL J p m f k) (plcV J p m t) = some true := by
        rw [lHas_eq (by rw [lp_len]; omega), hv, decide_eq_true (lp_has L (by omega))]
      rw [decide_eq_false (show ¬ itJ J p m < 0 by omega), decide_eq_false (show ¬ itJ J p m ≥ (J.length : Int) by omega), decide_eq_true d1, decide_eq_true d2, hl]
      rfl
    · have hv : plcV J p m t = itJ J p m := by unfold plcV; rw [if_neg (by omega), if_pos (show ¬ (0 ≤ itJ J p m ∧ itJ J p m < (J.length : Int)) from c1)]
      have : (decide (0 ≤ itJ J p m) && decide (itJ J p m < (J.length : Int))) = false := inQ_no c1
      rw [this, hv]
      by_cases c2 : itJ J p m < 0
      · rw [decide_eq_true c2, decide_eq_false (show ¬ itJ J p m ≥ (J.length : Int) by omega), show itJ J p m = -1 from by omega]; rfl
      · have c3 : itJ J p m = (J.length : Int) := by
          by_cases c4 : itJ J p m < (J.length : Int)
          · exact absurd ⟨by omega, c4⟩ c1
          · omega
        rw [decide_eq_false c2, c3, decide_eq_true (Int.le_refl _), bne_self_eq_false]; rfl
  · rw [decide_eq_false c0]; rfl
theorem hb4 (h : s_baStep J p = true) (P : Pth J p m) (i1 : i_path J p = some (itL J p m, itJ J p m)) (C : CtxB J p m lp five until_) (h5 : w_FnBallsGo_L5 more = some true) {place : Int} {ok : Bool} (hok : ok = true → s_l1In t 0 1000000000000 = true ∧ place = plcV J p m t.toNat) :
    w_FnBallsGo_L4 more J (itL J p m) lp p t place ok (endV J (itJ J p m)) until_ = some true := by
  obtain ⟨g, hp⟩ := step_iff h
  have hm := P.le
  rw [w_FnBallsGo_u4, w_FnBallsGo_t4, h5]
  cases ok
  · rfl
  · obtain ⟨k1, rfl⟩ := hok rfl
    have h6 := hb6 h P i1 C h5 k1
    have ht := l1In_iff.1 k1
    rw [h6, itL_len]
    obtain ⟨t, rfl⟩ : ∃ k : Nat, t = k := ⟨t.toNat, by omega⟩
    by_cases c : (t : Int) < (m : Int)
    · have hv : plcV J p m t = itJ J p t := by unfold plcV; rw [if_pos (by omega)]
      rw [decide_eq_true c, decide_eq_true (Int.natCast_nonneg t), rdk_get (k := kint) (show t < (itL J p m).length by rw [itL_len]; omega), itL_get, Int.toNat_natCast, hv, bne_self_eq_false]; rfl
    · rw [decide_eq_false c]; rfl
theorem hb12 (h : s_baStep J p = true) (P : Pth J p m) {f k : Nat} (L : Loop J p m f k) (hin : InJ J (itJ J p m)) {place : Int} {ok : Bool}
    (h4 : w_FnBallsGo_L4 more J (itL J p m) (lpL J p m f k) p t place ok (endV J (itJ J p m)) until_ = some true) :
    w_FnBallsGo_L12 more J (itL J p m) (lpL J p m f k) p t place ok (endV J (itJ J p m)) until_ ((m - f : Nat) : Int) 0 = some true := by
  obtain ⟨g, hp⟩ := step_iff h
  have hh := g.hi
  have hm := P.le
  have hf := L.f_lt
  have hk := L.fa.lt
  have hall : ∀ q, InJ J (itJ J p (f + q % (m - f))) := fun q => P.ins _ (by have := Nat.mod_lt q (show m - f > 0 by omega); omega)
  have ll : (lpL J p m f k).length = m - f := lp_len
  have get : ∀ i (hi : i < m - f), rdk kint (lpL J p m f k) (i : Int) = itJ J p (f + (k + i) % (m - f)) := fun i hi => by
    rw [rdk_get (k := kint) (show i < (lpL J p m f k).length by omega)]
    exact rotL_get hk _
  have z : ∀ i, i < m - f → itJ J p (f + k) ≤ itJ J p (f + (k + i) % (m - f)) := fun i hi => L.fa.least _ (Nat.mod_lt _ (by omega))
  have g0 : rdk kint (lpL J p m f k) 0 = itJ J p (f + k) := by
    have := get 0 (by omega)
    rw [Nat.add_zero, Nat.mod_eq_of_lt hk] at this
    exact this
  have go : ∀ d i : Nat, i + d = m - f → w_FnBallsGo_L12 more J (itL J p m) (lpL J p m f k) p t place ok (endV J (itJ J p m)) until_ ((m - f : Nat) : Int) (i : Int) = some true := by
    intro d
    induction d with
    | zero =>
      intro i hi
      rw [w_FnBallsGo_u12, w_FnBallsGo_t12, decide_eq_false (show ¬ ((i : Int) < ((m - f : Nat) : Int)) by omega)]
      exact h4
    | succ d ih =>
      intro i hi
      have hI := hall (k + i)
      have e1 : IntKind.wrap .i64 ((i : Int) + 1) = ((i + 1 : Nat) : Int) := by rw [wrapI (by omega) (by omega)]; omega
      have e2 : Int.tmod ((i + 1 : Nat) : Int) ((m - f : Nat) : Int) = (((i + 1) % (m - f) : Nat) : Int) := by rw [Int.tmod_eq_emod_of_nonneg (by omega)]; rfl
      have hlt := Nat.mod_lt (i + 1) (show m - f > 0 by omega)
      have hnx : itJ J p (f + (k + (i + 1) % (m - f)) % (m - f)) = nx J (itJ J p (f + (k + i) % (m - f))) := by
        have h1 : nx J (itJ J p (f + (k + i) % (m - f))) = itJ J p (f + ((k + i) % (m - f) + 1)) := rfl
        rw [h1, it_per hf L.back ((k + i) % (m - f) + 1), Nat.mod_add_mod, Nat.add_mod_mod, Nat.add_assoc]
      have hnI : InJ J (nx J (itJ J p (f + (k + i) % (m - f)))) := by rw [← hnx]; exact hall _
      have hb := nx_in hnI
      have hmem : itJ J p (f + (k + i) % (m - f)) ∈ itL J p m := itL_mem.2 ⟨_, by have := Nat.mod_lt (k + i) (show m - f > 0 by omega); omega, rfl⟩
      have hz := z i (by omega)
      rw [w_FnBallsGo_u12, w_FnBallsGo_t12, ll, e1, e2, get i (by omega), g0, get _ hlt, hnx, hb, ih (i + 1) (by omega), lHas_eq (by rw [itL_len]; omega), decide_eq_true hmem]
      have hr := rdk_bd g hI
      have hI1 := hI.1
      have hI2 := hI.2
      rw [jm_eq J (itJ J p (f + (k + i) % (m - f))), wrapI (n := itJ J p (f + (k + i) % (m - f)) + jm J (itJ J p (f + (k + i) % (m - f)))) (by omega) (by omega)]
      rw [decide_eq_true (show (i : Int) < ((m - f : Nat) : Int) by omega), decide_eq_true (Int.natCast_nonneg i), decide_eq_true (show (0 : Int) < ((m - f : Nat) : Int) by omega), decide_eq_false (show ¬ itJ J p (f + (k + i) % (m - f)) < itJ J p (f + k) by omega),
        show (((m - f : Nat) : Int) == 0) = false from by rw [beq_eq_false_iff_ne]; omega, decide_eq_true (Int.natCast_nonneg _), decide_eq_true (show (((i + 1) % (m - f) : Nat) : Int) < ((m - f : Nat) : Int) by omega), decide_eq_true hI1, decide_eq_true hI2]
      unfold bhd
      rw [bne_self_eq_false]
      rfl
  exact go (m - f) 0 (by omega)
theorem hb2 (h : s_baStep J p = true) (P : Pth J p m) (i1 : i_path J p = some (itL J p m, itJ J p m)) (C : CtxB J p m lp five until_) (h5 : w_FnBallsGo_L5 more = some true) {place : Int} {ok : Bool} (hok : ok = true → s_l1In t 0 1000000000000 = true ∧ place = plcV J p m t.toNat) :
    w_FnBallsGo_L2 more J (itL J p m) lp p t place ok (endV J (itJ J p m)) five until_ = some true := by
  have h4 := hb4 h P i1 C h5 hok
  rw [w_FnBallsGo_u2, w_FnBallsGo_t2]
  rcases C with ⟨c1, rfl, f, k, L, rfl, rfl⟩ | ⟨c1, rfl, rfl, rfl⟩
  · rw [lp_len, cond_true]
    exact hb12 h P L c1 h4
  · exact h4
theorem hb3 (h : s_baStep J p = true) (P : Pth J p m) (i1 : i_path J p = some (itL J p m, itJ J p m)) (C : CtxB J p m lp five until_) (h5 : w_FnBallsGo_L5 more = some true) {place : Int} {ok : Bool} (hok : ok = true → s_l1In t 0 1000000000000 = true ∧ place = plcV J p m t.toNat) (hbh : InJ J (itJ J p m) → itJ J p m = bhd J (itJ J p (m - 1))) :
    w_FnBallsGo_L3 more J (itL J p m) lp p t place ok (endV J (itJ J p m)) five until_ (bhd J (itJ J p (m - 1))) = some true := by
  obtain ⟨g, hp⟩ := step_iff h
  have hh := g.hi
  have hm := P.le
  have h2 := hb2 h P i1 C h5 hok
  rw [w_FnBallsGo_u3, w_FnBallsGo_t3, h2]
  rcases C with ⟨c1, rfl, f, k, L, rfl, rfl⟩ | ⟨c1, rfl, rfl, rfl⟩
  · have hf := L.f_lt
    rw [lp_len, itL_len, ← hbh c1, rdk_get (k := kint) (show f < (itL J p m).length by rw [itL_len]; exact hf), itL_get, L.back, bne_self_eq_false, lHas_eq (by rw [lp_len]; omega), decide_eq_true (lp_has L (by omega)),
      wrapI (n := (f : Int) + ((m - f : Nat) : Int)) (by omega) (by omega), show (f : Int) + ((m - f : Nat) : Int) = (m : Int) from by omega, bne_self_eq_false, decide_eq_false (show ¬ ((m - f : Nat) : Int) < 1 by omega), decide_eq_false (show ¬ (f : Int) < 0 by omega),
      decide_eq_true (Int.natCast_nonneg f), decide_eq_true (show (f : Int) < (m : Int) by omega)]
    rfl
  · rfl
theorem hb11 (h : s_baStep J p = true) (P : Pth J p m) (i1 : i_path J p = some (itL J p m, itJ J p m)) (C : CtxB J p m lp five until_) (h5 : w_FnBallsGo_L5 more = some true) {place : Int} {ok : Bool} (hok : ok = true → s_l1In t 0 1000000000000 = true ∧ place = plcV J p m t.toNat) :
    w_FnBallsGo_L11 more J (itL J p m) lp p t place ok (endV J (itJ J p m)) five until_ (nx J p) (m : Int) 0 = some true := by
  obtain ⟨g, hp⟩ := step_iff h
  have hh := g.hi
  have hm := P.le
  have hm1 := P.pos
  obtain ⟨q, rfl⟩ : ∃ q, m = q + 1 := ⟨m - 1, by omega⟩
  have hq := P.ins q (by omega)
  have hlast : itJ J p (q + 1) = nx J (itJ J p q) := rfl
  have hbh : InJ J (itJ J p (q + 1)) → itJ J p (q + 1) = bhd J (itJ J p q) := fun hi => nx_in hi
  have h3 := hb3 h P i1 C h5 hok hbh
  have go : ∀ d i : Nat, i + d = q + 1 → w_FnBallsGo_L11 more J (itL J p (q + 1)) lp p t place ok (endV J (itJ J p (q + 1))) five until_ (nx J p) ((q + 1 : Nat) : Int) (i : Int) = some true := by
    intro d
    induction d with
    | zero =>
      intro i hi
      have e0 : IntKind.wrap .i64 (((q + 1 : Nat) : Int) - 1) = (q : Int) := by rw [wrapI (by omega) (by omega)]; omega
      have hr := rdk_bd g hq
      have hI1 := hq.1
      have hI2 := hq.2
      have hlq : rdk kint (itL J p (q + 1)) (q : Int) = itJ J p q := by rw [rdk_get (k := kint) (show q < (itL J p (q + 1)).length by rw [itL_len]; omega), itL_get]
      have hbq : IntKind.wrap .i64 (itJ J p q + jm J (itJ J p q)) = bhd J (itJ J p q) := wrapI (by omega) (by omega)
      have n1 := nx_cases (J := J) (itJ J p q)
      rw [← hlast] at n1
      have ha : decide (itJ J p (q + 1) < 0) = decide (bhd J (itJ J p q) < 0) := decide_eq_decide.2 (by omega)
      have hbb : decide (itJ J p (q + 1) ≥ (J.length : Int)) = decide (bhd J (itJ J p q) ≥ (J.length : Int)) := decide_eq_decide.2 (by omega)
      have h3' : w_FnBallsGo_L3 more J (itL J p (q + 1)) lp p t place ok (endV J (itJ J p (q + 1))) five until_ (bhd J (itJ J p q)) = some true := h3
      rw [w_FnBallsGo_u11, w_FnBallsGo_t11, decide_eq_false (show ¬ ((i : Int) < ((q + 1 : Nat) : Int)) by omega), itL_len, e0, hlq, jm_eq J (itJ J p q), hbq, h3', endV_a, endV_b, endV_l, ha, hbb]
      rw [decide_eq_true (Int.natCast_nonneg q), decide_eq_true (show (q : Int) < ((q + 1 : Nat) : Int) by omega), decide_eq_true hI1, decide_eq_true hI2]
      simp only [beq_self_eq_true, Bool.not_true, cond_true, cond_false]
      have three : (bif !decide (bhd J (itJ J p q) < 0) then bif !decide (bhd J (itJ J p q) ≥ (J.length : Int)) then bif !(decide (0 ≤ itJ J p (q + 1)) && decide (itJ J p (q + 1) < (J.length : Int))) then some false else some true else some true else some true) = some true := by
        by_cases x1 : bhd J (itJ J p q) < 0
        · rw [decide_eq_true x1]; rfl
        · rw [decide_eq_false x1]
          by_cases x2 : bhd J (itJ J p q) ≥ (J.length : Int)
          · rw [decide_eq_true x2]; rfl
          · rw [decide_eq_false x2, decide_eq_true (show 0 ≤ itJ J p (q + 1) by omega), decide_eq_true (show itJ J p (q + 1) < (J.length : Int) by omega)]; rfl
      rw [three]
      by_cases h0 : q = 0
      · subst h0
        rw [decide_eq_false (show ¬ (((0 + 1 : Nat) : Int) > 1) by omega)]
        show (bif decide (0 ≤ itJ J p 1) && decide (itJ J p 1 < (J.length : Int)) then (bif nx J p != p then some false else some true) else some true) = some true
        by_cases hi1 : InJ J (itJ J p 1)
        · obtain ⟨f, hf, e⟩ : ∃ f, f < 0 + 1 ∧ itJ J p f = itJ J p (0 + 1) := P.fin.resolve_left (fun hn => hn hi1)
          obtain rfl : f = 0 := by omega
          have e' : nx J p = p := e.symm
          rw [e', bne_self_eq_false]
          cases (decide (0 ≤ itJ J p 1) && decide (itJ J p 1 < (J.length : Int))) <;> rfl
        · have : (decide (0 ≤ itJ J p 1) && decide (itJ J p 1 < (J.length : Int))) = false := inQ_no hi1
          rw [this]; rfl
      · have r1 : rdk kint (itL J p (q + 1)) 1 = nx J p := by
          have := rdk_get (k := kint) (xs := itL J p (q + 1)) (i := 1) (by rw [itL_len]; omega)
          rw [itL_get] at this
          exact this
        rw [decide_eq_true (show ((q + 1 : Nat) : Int) > 1 by omega), r1, bne_self_eq_false, show ((((q + 1 : Nat) : Int)) == 1) = false from by rw [beq_eq_false_iff_ne]; omega]
        rfl
    | succ d ih =>
      intro i hi
      have e1 : IntKind.wrap .i64 ((i : Int) + 1) = ((i + 1 : Nat) : Int) := by rw [wrapI (by omega) (by omega)]; omega
      have hli : rdk kint (itL J p (q + 1)) (i : Int) = itJ J p i := by rw [rdk_get (k := kint) (show i < (itL J p (q + 1)).length by rw [itL_len]; omega), itL_get]
      have etk : List.take (Int.toNat (i : Int) - Int.toNat 0) (List.drop (Int.toNat 0) (itL J p (q + 1))) = itL J p i := by
        show List.take (Int.toNat (i : Int) - 0) (itL J p (q + 1)) = _
        rw [Int.toNat_natCast, Nat.sub_zero]
        unfold itL
        rw [← List.map_take, List.take_range, Nat.min_eq_left (by omega)]
      have hno : itJ J p i ∉ itL J p i := fun hm' => by
        obtain ⟨j, hj, e⟩ := itL_mem.1 hm'
        exact P.inj j i hj (by omega) e
      rw [w_FnBallsGo_u11, w_FnBallsGo_t11, itL_len, e1, hli, etk, lHas_eq (by rw [itL_len]; omega), decide_eq_false hno, ih (i + 1) (by omega), decide_eq_true (show (i : Int) < ((q + 1 : Nat) : Int) by omega), decide_eq_true (Int.natCast_nonneg i), decide_eq_true (show (i : Int) ≤ ((q + 1 : Nat) : Int) by omega)]
      simp only [cond_true, cond_false, Option.bind_some]
      by_cases h0 : i = 0
      · subst h0; rfl
      · obtain ⟨j, rfl⟩ : ∃ j, i = j + 1 := ⟨i - 1, by omega⟩
        have e0 : IntKind.wrap .i64 (((j + 1 : Nat) : Int) - 1) = (j : Int) := by rw [wrapI (by omega) (by omega)]; omega
        have hlj : rdk kint (itL J p (q + 1)) (j : Int) = itJ J p j := by rw [rdk_get (k := kint) (show j < (itL J p (q + 1)).length by rw [itL_len]; omega), itL_get]
        have hIj := P.ins j (by omega)
        have hr := rdk_bd g hIj
        have hI1 := hIj.1
        have hI2 := hIj.2
        have hb : itJ J p (j + 1) = bhd J (itJ J p j) := nx_in (P.ins (j + 1) (by omega))
        have hbq : IntKind.wrap .i64 (itJ J p j + jm J (itJ J p j)) = bhd J (itJ J p j) := wrapI (by omega) (by omega)
        rw [decide_eq_true (show ((j + 1 : Nat) : Int) > 0 by omega), e0, hlj, jm_eq J (itJ J p j), hbq, hb, bne_self_eq_false, decide_eq_true (Int.natCast_nonneg j), decide_eq_true (show (j : Int) < ((q + 1 : Nat) : Int) by omega), decide_eq_true hI1, decide_eq_true hI2]
        rfl
  exact go (q + 1) 0 (by omega)
theorem hb1 (h : s_baStep J p = true) (P : Pth J p m) (i1 : i_path J p = some (itL J p m, itJ J p m)) (C : CtxB J p m lp five until_) (h5 : w_FnBallsGo_L5 more = some true) {place : Int} {ok : Bool} (hok : ok = true → s_l1In t 0 1000000000000 = true ∧ place = plcV J p m t.toNat) :
    w_FnBallsGo_L1 more J (itL J p m) lp p t place ok true (endV J (itJ J p m)) five until_ (nx J p) = some true := by
  have hm := P.le
  have hm1 := P.pos
  have h11 := hb11 h P i1 C h5 hok
  have r0 : rdk kint (itL J p m) 0 = p := by
    have := rdk_get (k := kint) (xs := itL J p m) (i := 0) (by rw [itL_len]; omega)
    rw [itL_get] at this
    exact this
  rw [w_FnBallsGo_u1, w_FnBallsGo_t1, itL_len, r0, bne_self_eq_false, h11, decide_eq_false (show ¬ (m : Int) < 1 by omega), decide_eq_true (show (0 : Int) < (m : Int) by omega), decide_eq_false (show ¬ (m : Int) > (J.length : Int) by omega)]
  rfl
end
theorem pure_FnBallsGo (code : List Int) (hc : Wf kSuint8 code) (more : List Int) (hmo : Wf kSuint8 more) : F_w_FnBallsGo (code, more, ()) = some true := by
  show w_FnBallsGo code more = some true
  have h5 := hb5 (bytes_wf hmo)
  unfold w_FnBallsGo w_FnBallsGo_t0
  cases w_big code more
  rotate_left
  · rfl
  obtain ⟨⟨J, p, t⟩, e1, -⟩ := s_DrawPlaceAfter_ok (bytes_wf hc)
  simp only [cond_false, e1, Option.bind_some]
  cases h : s_baStep J p
  · have z1 : i_PlaceAfter J p t = some (0, false) := by unfold i_PlaceAfter; rw [have1, h]; rfl
    have z2 : s_PlaceAfter J p t = some (0, false) := by unfold s_PlaceAfter; rw [h]; rfl
    have z3 : i_PathOfBall J p = some ([], false) := by unfold i_PathOfBall; rw [have1, h]; rfl
    have z4 : s_PathOfBall J p = some ([], false) := by unfold s_PathOfBall; rw [h]; rfl
    have z5 : i_EndOfBall J p = some (⟨#[]⟩, false) := by unfold i_EndOfBall; rw [have1, h]; rfl
    have z6 : s_EndOfBall J p = some (⟨#[]⟩, false) := by unfold s_EndOfBall; rw [h]; rfl
    have z7 : i_LoopOfBall J p = some ([], false) := by unfold i_LoopOfBall; rw [have1, h]; rfl
    have z8 : s_LoopOfBall J p = some ([], false) := by unfold s_LoopOfBall; rw [h]; rfl
    have z9 : i_TimeToLoop J p = some (0, false) := by unfold i_TimeToLoop; rw [have1, h]; rfl
    have z10 : s_TimeToLoop J p = some (0, false) := by unfold s_TimeToLoop; rw [h]; rfl
    have z11 : i_NextPlace J p = some (0, false) := by unfold i_NextPlace; rw [have1, h]; rfl
    have z12 : s_NextPlace J p = some (0, false) := by unfold s_NextPlace; rw [h]; rfl
    have l4 : w_FnBallsGo_L4 more J [] [] p t 0 false ⟨#[]⟩ 0 = some true := by rw [w_FnBallsGo_u4, w_FnBallsGo_t4, h5]; rfl
    have l2 : w_FnBallsGo_L2 more J [] [] p t 0 false ⟨#[]⟩ false 0 = some true := by rw [w_FnBallsGo_u2, w_FnBallsGo_t2, l4]; rfl
    have l1 : w_FnBallsGo_L1 more J [] [] p t 0 false false ⟨#[]⟩ false 0 0 = some true := by rw [w_FnBallsGo_u1, w_FnBallsGo_t1, l2]; rfl
    rw [z1, z2, z3, z4, z5, z6, z7, z8, z9, z10, z11, z12]
    simp only [Option.bind_some, beq_self_eq_true, bne_self_eq_false, Bool.not_true, cond_false, lSame_self (a := []) (by simp), l1]
  · obtain ⟨g, hp⟩ := step_iff h
    have hh := g.hi
    obtain ⟨m, P, i1, s1⟩ := path_ex g hp
    have hm := P.le
    have z3 : i_PathOfBall J p = some (itL J p m, true) := by unfold i_PathOfBall; rw [have1, h, i1]; rfl
    have z4 : s_PathOfBall J p = some (itL J p m, true) := by unfold s_PathOfBall; rw [h, s1]; rfl
    have z5 : i_EndOfBall J p = some (endV J (itJ J p m), true) := by unfold i_EndOfBall; rw [have1, h, end_i hp i1]; rfl
    have z6 : s_EndOfBall J p = some (endV J (itJ J p m), true) := by unfold s_EndOfBall; rw [h, end_s s1]; rfl
    have z11 : i_NextPlace J p = some (nx J p, true) := by unfold i_NextPlace; rw [have1, h, i_next_eq g hp]; rfl
    have z12 : s_NextPlace J p = some (nx J p, true) := by unfold s_NextPlace; rw [h, s_next_eq g hp]; rfl
    have sp := lSame_self (a := itL J p m) (by rw [itL_len]; omega)
    obtain ⟨PV, hPV⟩ : ∃ PV, PV = (bif s_l1In t 0 1000000000000 then (plcV J p m t.toNat, true) else ((0 : Int), false)) := ⟨_, rfl⟩
    have hok : PV.2 = true → s_l1In t 0 1000000000000 = true ∧ PV.1 = plcV J p m t.toNat := by
      rw [hPV]
      cases s_l1In t 0 1000000000000
      · intro hn; cases hn
      · intro _; exact ⟨rfl, rfl⟩
    rw [PlaceAfter_i h P i1, PlaceAfter_s h P s1, ← hPV, z3, z4, z5, z6, z11, z12]
    by_cases hin : InJ J (itJ J p m)
    · obtain ⟨f, k, L, y1, y2, y3, y4⟩ := loop_of h P i1 s1 hin
      have hl : ((endV J (itJ J p m)).toList == (⟨#[108]⟩ : ByteArray).toList) = true := by rw [endV_l, decide_eq_true hin.1, decide_eq_true hin.2]; rfl
      have l1 := hb1 h P i1 (.inl ⟨hin, rfl, f, k, L, rfl, rfl⟩) h5 hok
      rw [y1, y2, y3, y4]
      simp only [Option.bind_some, beq_self_eq_true, bne_self_eq_false, Bool.not_true, cond_false, cond_true, sp, lSame_self (a := lpL J p m f k) (by rw [lp_len]; omega), hl, l1]
      cases PV.2 <;> rfl
    · obtain ⟨y1, y2, y3, y4⟩ := loop_no h P i1 s1 hin
      have hl : ((endV J (itJ J p m)).toList == (⟨#[108]⟩ : ByteArray).toList) = false := by rw [endV_l]; exact inQ_no hin
      have l1 := hb1 h P i1 (.inr ⟨hin, rfl, rfl, rfl⟩) h5 hok
      rw [y1, y2, y3, y4]
      simp only [Option.bind_some, beq_self_eq_true, bne_self_eq_false, Bool.not_true, cond_false, cond_true, sp, lSame_self (a := []) (by simp), hl, l1]
      cases PV.2 <;> rfl
end Go.Proofs.Ythenlapjhlljnaa.V
