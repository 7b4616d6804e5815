/- The plain law of FnHousesBuilt: the plain function answers true. No condition. -/
import Derived.Test.YtmiimfpdlkmjhaaGreatDoorR2h
set_option linter.unusedVariables false
set_option linter.unusedSimpArgs false
set_option maxRecDepth 100000
namespace Go.Proofs.YtmiimfpdlkmjhaaGreatDoor.V
open Go Go.Ev Go.Proofs
theorem wHouse_self {a b : List Int} (ha : a.length ≤ 100000) (hb : b.length ≤ 100000) : w_wHouse a b a b = some true := by
  unfold w_wHouse
  rw [wSame_self ha, Option.bind_some, cond_true, wSame_self hb]; rfl
theorem abN_len (S D : List Int) (n : Int) : (abN S D n).1.length ≤ 100 := by
  unfold abN abC
  cases hg : s_ldGood S D
  · simp
  · cases s_l1In n 0 40
    · simp
    · have := (goodH_iff.1 hg).bS.1
      have h2 := numF_len (abB S n) 0 S.length
      show (numF (abB S n) 0 S.length).length ≤ 100
      omega
theorem phN_len (s : List UInt8) : (phN s).1.1.length ≤ 100 ∧ (phN s).1.2.length ≤ 100 := by
  cases h : (phN s).2
  · unfold phN at h ⊢
    cases hg : s_ldGood (prS s) (prD s)
    · simp
    · rw [hg] at h; cases h
  · have g := (phN_back h).1
    have := g.bS.1; have := g.bD.1
    omega
theorem adN_len (S D : List Int) (n d : Int) : (adN S D n d).1.1.length ≤ 100 ∧ (adN S D n d).1.2.length ≤ 100 := by
  unfold adN
  cases h : adC S D n d
  · simp
  · have g := (adC_good h).2.1
    have := g.bS.1; have := g.bD.1
    exact ⟨by show (S ++ [n]).length ≤ 100; omega, by show (D ++ [d]).length ≤ 100; omega⟩
theorem drN_len (S D : List Int) : (drN S D).1.1.length ≤ 100 ∧ (drN S D).1.2.length ≤ 100 := by
  unfold drN
  cases h : drC S D
  · simp
  · unfold drC at h
    rw [Bool.and_eq_true] at h
    have g := goodH_iff.1 h.1
    have := g.bS.1; have := g.bD.1
    exact ⟨by show (S.take _).length ≤ 100; rw [List.length_take]; omega, by show (D.take _).length ≤ 100; rw [List.length_take]; omega⟩
theorem hb10 (t : ByteArray) : w_FnHousesBuilt_L10 (phN (bL t)).1.1 (phN (bL t)).1.2 t (phN (bL t)).2 = some true := by
  rw [w_FnHousesBuilt_u10, w_FnHousesBuilt_t10]
  cases h : (phN (bL t)).2
  · rfl
  · obtain ⟨g, e⟩ := phN_back h
    rw [HouseText_i]
    unfold htN
    rw [goodH_iff.2 g, e]
    simp only [cond_true, Option.bind_some]
    rw [ByteArray.toList_eq]
    try rw [ByteArray.toList_eq]
    have e : ({ data := (bL t).toArray } : ByteArray).data.toList = t.data.toList := rfl
    first
      | rw [e, beq_self_eq_true]
      | exact congrArg some (beq_self_eq_true _)
theorem hb9 (S D : List Int) (n : Int) (t : ByteArray) : w_FnHousesBuilt_L9 (abN S D n).1 S D (phN (bL t)).1.1 (phN (bL t)).1.2 n (abN S D n).2 t (phN (bL t)).2 = some true := by
  rw [w_FnHousesBuilt_u9, w_FnHousesBuilt_t9]
  cases hc : abC S D n
  · have e : abN S D n = ([], false) := by unfold abN; rw [hc]; rfl
    rw [e]
    exact hb10 t
  · have e : abN S D n = (numF (abB S n) 0 S.length, true) := by unfold abN; rw [hc]; rfl
    have hl := abN_len S D n
    rw [e] at hl ⊢
    unfold abC at hc
    rw [Bool.and_eq_true] at hc
    have hs := (goodH_iff.1 hc.1).bS.1
    simp only [cond_true]
    rw [wRises_ok (by have : (numF (abB S n) 0 S.length).length ≤ 100 := hl; omega) (fun i hi' => List.pairwise_iff_getElem.1 (numF_pw (abB S n) 0 S.length) i (i + 1) (by omega) hi' (by omega)), Option.bind_some, Bool.not_true, cond_false]
    refine drop_ind S (fun i _ => w_FnHousesBuilt_L14 (numF (abB S n) 0 S.length) S (phN (bL t)).1.1 (phN (bL t)).1.2 n t (phN (bL t)).2 (S.length : Int) (i : Int) = some true) ?_ (fun i hi' ih => ?_)
    · rw [w_FnHousesBuilt_u14, w_FnHousesBuilt_t14, decide_eq_false (by omega), cond_false]
      exact hb10 t
    · have hw : IntKind.wrap .i64 ((i : Int) + 1) = ((i + 1 : Nat) : Int) := by rw [wrapI (by omega) (by omega)]; omega
      have hm : decide ((i : Int) ∈ numF (abB S n) 0 S.length) = decide (S[i] > n) := by
        have e2 : abB S n i = decide (S[i] > n) := by unfold abB; rw [getD_get hi']
        rw [← e2, Bool.eq_iff_iff, decide_eq_true_eq, numF_nat]
        exact ⟨fun h => h.2, fun h => ⟨⟨by omega, by omega⟩, h⟩⟩
      rw [w_FnHousesBuilt_u14, w_FnHousesBuilt_t14, decide_eq_true (show (i : Int) < S.length by omega), cond_true, w_FnHousesBuilt_u11, w_FnHousesBuilt_t11, decide_eq_true (Int.natCast_nonneg i), decide_eq_true (show (i : Int) < S.length by omega), rdk_get (k := kint) hi', wHas_eq (by have : (numF (abB S n) 0 S.length).length ≤ 100 := hl; omega), hm, hw]
      simp only [cond_true, Option.bind_some, beq_self_eq_true, Bool.not_true]
      rw [cond_false]
      exact ih
section
variable {more : List Int} (hb : Bytes more)
include hb
theorem hb8 : w_FnHousesBuilt_L8 more = some true := by
  rw [w_FnHousesBuilt_u8, w_FnHousesBuilt_t8]
  obtain ⟨⟨⟨S, D⟩, n, d⟩, d1, -⟩ := drawAdd_ok hb
  obtain ⟨⟨⟨S2, D2⟩, n2⟩, d2, -⟩ := drawAbove_ok hb
  obtain ⟨t, d3, ht⟩ := drawParseH_ok hb
  have k9 := hb9 S2 D2 n2 t
  have a1 := adN_len S D n d
  have a2 := phN_len (bL t)
  have a3 := abN_len S2 D2 n2
  rw [d1, d2, d3]
  simp only [Option.bind_some]
  rw [(Add_two _ _ _ _).1, (Add_two _ _ _ _).2, (Above_two _ _ _).1, (Above_two _ _ _).2, ParseHouse_i ht, ParseHouse_s ht]
  simp only [Option.bind_some]
  rw [wHouse_self (by omega) (by omega), wHouse_self (by omega) (by omega), wSame_self (by omega)]
  simp only [Option.bind_some, beq_self_eq_true, Bool.not_true, cond_false]
  cases hc : adC S D n d
  · have e : adN S D n d = (([], []), false) := by unfold adN; rw [hc]; rfl
    rw [e]
    exact k9
  · have e : adN S D n d = ((S ++ [n], D ++ [d]), true) := by unfold adN; rw [hc]; rfl
    obtain ⟨g1, g2, g3⟩ := adC_good hc
    have e2 : drN (S ++ [n]) (D ++ [d]) = ((S, D), true) := by
      unfold drN
      rw [g3]
      have s1 := g1.sl
      have t1 : (S ++ [n]).take ((S ++ [n]).length - 1) = S := by simp
      have t2 : (D ++ [d]).take (S ++ [n]).length = D := by
        rw [show (S ++ [n]).length = D.length by simp; omega]; simp
      rw [t1, t2]; rfl
    have := g1.bS.1; have := g1.bD.1
    rw [e]
    simp only [cond_true]
    rw [(Drop_two _ _).1, e2, IsHouse_eq, goodH_iff.2 g2]
    simp only [Option.bind_some, Bool.not_true, cond_false]
    rw [wHouse_self (by omega) (by omega)]
    exact k9
theorem hb7 (S D : List Int) : w_FnHousesBuilt_L7 more S D (drN S D).1.1 (drN S D).1.2 (drN S D).2 = some true := by
  rw [w_FnHousesBuilt_u7, w_FnHousesBuilt_t7, hb8 hb]
  cases hc : drC S D
  · have e : drN S D = (([], []), false) := by unfold drN; rw [hc]; rfl
    rw [e]; rfl
  · have e : drN S D = ((S.take (S.length - 1), D.take S.length), true) := by unfold drN; rw [hc]; rfl
    obtain ⟨n, d, h1, h2, h3, h4, h5⟩ := drop_add hc
    unfold drC at hc
    rw [Bool.and_eq_true] at hc
    have g := goodH_iff.1 hc.1
    have s1 := g.sl; have s2 := g.d1; have s3 := g.d2
    have hw : IntKind.wrap .i64 ((S.length : Int) - 1) = ((S.length - 1 : Nat) : Int) := by rw [wrapI (by omega) (by omega)]; omega
    have e2 : adN (S.take (S.length - 1)) (D.take S.length) n d = ((S, D), true) := by unfold adN; rw [h3, h4, h5]; rfl
    rw [e, hw]
    simp only [cond_true]
    rw [decide_eq_true (Int.natCast_nonneg (S.length - 1)), decide_eq_true (show ((S.length - 1 : Nat) : Int) < S.length by omega), decide_eq_true (show (S.length : Int) < D.length by omega), rdk_get (k := kint) (by omega : S.length - 1 < S.length), rdk_get (k := kint) (by omega : S.length < D.length), ← getD_get (by omega : S.length - 1 < S.length), ← getD_get (by omega : S.length < D.length), h1, h2, (Add_two _ _ _ _).1, e2]
    simp only [cond_true, Option.bind_some, Bool.not_true, cond_false]
    rw [wHouse_self (by omega) (by omega)]
    rfl
theorem hb2 (S D : List Int) (hg : s_ldGood S D = true) {b : Nat} (hB : Best S b) : w_FnHousesBuilt_L2 more S D (drN S D).1.1 (drN S D).1.2 (b : Int) (S.getD b 0) true (doN S D).1 (htN S D).1 (drN S D).2 = some true := by
  have g := goodH_iff.1 hg
  have hlt := hB.lt
  have s1 := g.sb _ (List.getElem_mem hlt)
  have hl := hT_len g
  have hz : (⟨(hT S D).toArray⟩ : ByteArray).size ≤ 2000000 := by rw [bsz]; omega
  have x1 : doN S D = (sumI D, true) := by unfold doN; rw [hg]; rfl
  have x2 : htN S D = (⟨(hT S D).toArray⟩, true) := by unfold htN; rw [hg]; rfl
  have x3 : phN (bL (⟨(hT S D).toArray⟩ : ByteArray)) = ((S, D), true) := by rw [bL_mk]; exact phN_told g
  have b1 := g.bS.1; have b2 := g.bD
  have x4 : abN S D (S[b] - 1) = (numF (abB S (S[b] - 1)) 0 S.length, true) := by
    unfold abN abC
    rw [hg, l1In_iff.2 (by omega)]; rfl
  have x5 : abN S D S[b] = (numF (abB S S[b]) 0 S.length, true) := by
    unfold abN abC
    rw [hg, l1In_iff.2 (by omega)]; rfl
  obtain ⟨r, x6⟩ := numF_head (f := abB S (S[b] - 1)) (b := b) (by unfold abB; rw [getD_get hlt]; exact decide_eq_true (by omega)) S.length 0 (by omega) (by omega) (fun j _ h => by
    have := hB.first j (by omega) h
    unfold abB; rw [getD_get (by omega)]; exact decide_eq_false (by omega))
  have x7 : numF (abB S S[b]) 0 S.length = [] := numF_nil _ _ fun j _ h => by
    have := hB.most j (by omega)
    unfold abB; rw [getD_get (by omega)]; exact decide_eq_false (by omega)
  rw [x6] at x4
  rw [x7] at x5
  have k7 := hb7 hb S D
  rw [w_FnHousesBuilt_u2, w_FnHousesBuilt_t2, x1, x2, getD_get hlt, wrapI (n := S[b] - 1) (by omega) (by omega)]
  simp only [cond_true]
  rw [ParseHouse_i hz, x3, (Above_two _ _ _).1, (Above_two _ _ _).1, x4, x5, sum_w (by omega) b2.2]
  simp only [Option.bind_some]
  rw [decide_eq_true (Int.natCast_nonneg b), decide_eq_true (show (b : Int) < S.length by omega), rdk_get (k := kint) hlt, bne_self_eq_false, bne_self_eq_false, wHouse_self (by omega) (by omega)]
  simp only [cond_true, cond_false, Option.bind_some, Bool.not_true]
  have c1 : ¬ (((((b : Int) :: r).length : Nat) : Int) < 1) := by simp only [List.length_cons]; omega
  have c2 : (0 : Int) < (((((b : Int) :: r).length : Nat) : Int)) := by simp only [List.length_cons]; omega
  have c3 : rdk kint ((b : Int) :: r) 0 = (b : Int) := rdk_get (k := kint) (i := 0) (xs := (b : Int) :: r) (by exact Nat.succ_pos _)
  rw [decide_eq_false c1, decide_eq_true c2, c3, bne_self_eq_false]
  exact k7
theorem hb2n (S D : List Int) (floor long doors : Int) (text : ByteArray) : w_FnHousesBuilt_L2 more S D (drN S D).1.1 (drN S D).1.2 floor long false doors text (drN S D).2 = some true := by
  rw [w_FnHousesBuilt_u2, w_FnHousesBuilt_t2]
  exact hb7 hb S D
end
theorem lnd_append {m : Int} : ∀ {A B : List Int} {a : Int}, lnd m a (A ++ B) = lnd m a A ++ lnd m (a + sumI A) B
  | [], B, a => by simp [lnd, sumI]
  | n :: A, B, a => by
    rw [List.cons_append]
    show lseg m a 1 (lcnt m n) ++ lnd m (a + n) (A ++ B) = (lseg m a 1 (lcnt m n) ++ lnd m (a + n) A) ++ lnd m (a + (n + sumI A)) B
    rw [lnd_append, List.append_assoc, Int.add_assoc]
theorem lneed_append {m : Int} : ∀ {A B : List Int}, lneed m (A ++ B) = lneed m A + lneed m B
  | [], B => by simp [lneed]
  | n :: A, B => by
    rw [List.cons_append]
    show (n - 1) / m + lneed m (A ++ B) = (n - 1) / m + lneed m A + lneed m B
    rw [lneed_append, Int.add_assoc]
theorem sumI_append : ∀ {A B : List Int}, sumI (A ++ B) = sumI A + sumI B
  | [], B => by simp [sumI]
  | n :: A, B => by
    rw [List.cons_append]
    show n + sumI (A ++ B) = n + sumI A + sumI B
    rw [sumI_append, Int.add_assoc]
theorem lnd_lt {m : Int} (hm : 1 ≤ m) : ∀ {s : List Int} {a x : Int}, (∀ n, n ∈ s → 1 ≤ n) → (∀ n, n ∈ s → 0 ≤ n ∧ n ≤ 100) → x ∈ lnd m a s → x < a + sumI s
  | [], a, x, _, _, h => by cases h
  | n :: s, a, x, hs, hs2, h => by
    have hn := hs n (by simp)
    have e : sumI (n :: s) = n + sumI s := rfl
    unfold lnd at h
    rcases List.mem_append.1 h with h | h
    · have := (lseg_bd hm hn h).2
      have := (sumI_bd (l := s) fun y hy => hs2 y (List.mem_cons_of_mem _ hy)).1
      omega
    · have := lnd_lt hm (fun y hy => hs y (List.mem_cons_of_mem _ hy)) (fun y hy => hs2 y (List.mem_cons_of_mem _ hy)) h
      omega
theorem lneed_bd {m : Int} (hm : 1 ≤ m) : ∀ {s : List Int}, (∀ n, n ∈ s → 1 ≤ n ∧ n ≤ 40) → 0 ≤ lneed m s ∧ lneed m s ≤ 40 * (s.length : Int)
  | [], _ => by simp [lneed]
  | n :: s, hs => by
    have hn := hs n (by simp)
    have ih := lneed_bd hm (s := s) fun y hy => hs y (List.mem_cons_of_mem _ hy)
    have e : lneed m (n :: s) = (n - 1) / m + lneed m s := rfl
    have q0 : 0 ≤ (n - 1) / m := Int.ediv_nonneg (by omega) (by omega)
    have q1 : (n - 1) / m ≤ n - 1 := Int.ediv_le_self _ (by omega)
    simp only [List.length_cons]
    omega
section
variable (more list S D sS sD : List Int) (m few floor long : Int) (three : Bool) (doors : Int) (text : ByteArray) (nine : Bool)
theorem hb13 {a n : Int} (ha : 0 ≤ a ∧ a ≤ 100000) (hn : 0 ≤ n ∧ n ≤ 100000) (hl : list.length ≤ 100000) (hx : ∀ x, x ∈ list → 0 ≤ x ∧ x ≤ 100000) (nd len i : Int) : ∀ l l' : Int, 0 ≤ l ∧ l ≤ 100000 → lscan m a n list l = some l' →
    w_FnHousesBuilt_L13 more list S D sS sD m few floor long three doors text nine a nd n l len i (list.length : Int) ((0 : Nat) : Int) = bif decide (IntKind.wrap .i64 (a + n - l') > m) then some false else w_FnHousesBuilt_L6 more list S D sS sD m few floor long three doors text nine a nd n len i := by
  have hw0 : IntKind.wrap .i64 (a + n) = a + n := wrapI (by omega) (by omega)
  refine drop_ind list (fun j r => ∀ l l' : Int, 0 ≤ l ∧ l ≤ 100000 → lscan m a n r l = some l' → w_FnHousesBuilt_L13 more list S D sS sD m few floor long three doors text nine a nd n l len i (list.length : Int) (j : Int) = bif decide (IntKind.wrap .i64 (a + n - l') > m) then some false else w_FnHousesBuilt_L6 more list S D sS sD m few floor long three doors text nine a nd n len i) ?_ (fun j hj ih => ?_)
  · intro l l' hl' h
    cases h
    rw [w_FnHousesBuilt_u13, w_FnHousesBuilt_t13, decide_eq_false (by omega), cond_false, hw0]
  · intro l l' hl' h
    have hxj := hx _ (List.getElem_mem hj)
    have hw : IntKind.wrap .i64 ((j : Int) + 1) = ((j + 1 : Nat) : Int) := by rw [wrapI (by omega) (by omega)]; omega
    rw [w_FnHousesBuilt_u13, w_FnHousesBuilt_t13, decide_eq_true (show (j : Int) < list.length by omega), cond_true, w_FnHousesBuilt_u4, w_FnHousesBuilt_t4, decide_eq_true (Int.natCast_nonneg j), decide_eq_true (show (j : Int) < list.length by omega), rdk_get (k := kint) hj, hw0, hw, wrapI (n := list[j] - l) (by omega) (by omega), w_FnHousesBuilt_u5, w_FnHousesBuilt_t5, hw]
    simp only [cond_true]
    unfold lscan at h
    revert h
    by_cases c1 : list[j] > a
    · by_cases c2 : list[j] < a + n
      · rw [decide_eq_true c1, decide_eq_true c2]
        by_cases c3 : list[j] - l > m
        · rw [decide_eq_true c3]
          intro h; cases h
        · rw [decide_eq_false c3]
          intro h
          exact ih _ _ hxj h
      · rw [decide_eq_true c1, decide_eq_false c2]
        intro h
        exact ih _ _ hl' h
    · rw [decide_eq_false c1]
      intro h
      exact ih _ _ hl' h
theorem hb12 (hm : 1 ≤ m ∧ m ≤ 40) (hS : ∀ x, x ∈ S → 1 ≤ x ∧ x ≤ 40) (hl : S.length ≤ 11) (hlist : list = lnd m 0 S) (hfew : few = lneed m S) : ∀ B A : List Int, S = A ++ B → 
    w_FnHousesBuilt_L12 more list S D sS sD m few floor long three doors text nine (sumI A) (lneed m A) (S.length : Int) (A.length : Int) = w_FnHousesBuilt_L2 more S D sS sD floor long three doors text nine
  | [], A, h => by
    rw [List.append_nil] at h
    subst h
    rw [w_FnHousesBuilt_u12, w_FnHousesBuilt_t12, decide_eq_false (by omega), cond_false, hfew, bne_self_eq_false]; rfl
  | n :: B, A, h => by
    have ih := hb12 hm hS hl hlist hfew B (A ++ [n]) (by rw [h]; simp)
    have hn := hS n (by rw [h]; simp)
    have hA : ∀ x, x ∈ A → 1 ≤ x ∧ x ≤ 40 := fun x hx => hS x (by rw [h]; exact List.mem_append_left _ hx)
    have hB : ∀ x, x ∈ B → 1 ≤ x ∧ x ≤ 40 := fun x hx => hS x (by rw [h]; exact List.mem_append_right _ (List.mem_cons_of_mem _ hx))
    have hlen : S.length = A.length + (B.length + 1) := by rw [h]; simp
    have hsA := sumI_bd (l := A) fun x hx => by have := hA x hx; omega
    have hsS := sumI_bd (l := S) fun x hx => by have := hS x hx; omega
    have hnA := lneed_bd hm.1 hA
    have hget : S[A.length]'(by omega) = n := by
      simp only [h]
      rw [List.getElem_append_right (Nat.le_refl _)]
      simp
    have hw : IntKind.wrap .i64 ((A.length : Int) + 1) = ((A.length + 1 : Nat) : Int) := by rw [wrapI (by omega) (by omega)]; omega
    have hsplit : list = lnd m 0 A ++ (lseg m (sumI A) 1 (lcnt m n) ++ lnd m (sumI A + n) B) := by
      rw [hlist, h, lnd_append, Int.zero_add]; rfl
    have hxl : ∀ x, x ∈ list → 0 ≤ x ∧ x ≤ 100000 := fun x hx => by
      rw [hlist] at hx
      have := lnd_gt hm.1 (fun y hy => (hS y hy).1) hx
      have := lnd_lt hm.1 (fun y hy => (hS y hy).1) (fun y hy => by have := hS y hy; omega) hx
      omega
    have hll : list.length ≤ 100000 := by
      have := lnd_len hm.1 (a := 0) fun y hy => (hS y hy).1
      have := lneed_bd hm.1 hS
      rw [hlist]; omega
    have hscan : lscan m (sumI A) n list (sumI A) = some (sumI A + (lcnt m n : Int) * m) := by
      rw [hsplit]
      refine lscan_all hm.1 hn.1 (fun x hx => ?_) (fun x hx => lnd_gt hm.1 (fun y hy => (hB y hy).1) hx)
      have := lnd_lt hm.1 (fun y hy => (hA y hy).1) (fun y hy => by have := hA y hy; omega) hx
      omega
    obtain ⟨f1, f2, f3, f4⟩ := lcnt_facts hm.1 hn.1
    have f0 : 0 ≤ (lcnt m n : Int) * m := Int.mul_nonneg (Int.natCast_nonneg _) (by omega)
    have q0 : 0 ≤ (n - 1) / m := Int.ediv_nonneg (by omega) (by omega)
    have q1 : (n - 1) / m ≤ n - 1 := Int.ediv_le_self _ (by omega)
    rw [w_FnHousesBuilt_u12, w_FnHousesBuilt_t12, decide_eq_true (show (A.length : Int) < S.length by omega), cond_true, w_FnHousesBuilt_u3, w_FnHousesBuilt_t3, decide_eq_true (Int.natCast_nonneg _), decide_eq_true (show (A.length : Int) < S.length by omega), rdk_get (k := kint) (by omega : A.length < S.length), hget]
    simp only [cond_true]
    have k := hb13 more list S D sS sD m few floor long three doors text nine (a := sumI A) (n := n) (by omega) (by omega) hll hxl (lneed m A) (S.length : Int) (A.length : Int) (sumI A) _ (by omega) hscan
    have e0 : sumI A + n - (sumI A + (lcnt m n : Int) * m) = n - (lcnt m n : Int) * m := by omega
    rw [e0, wrapI (n := n - (lcnt m n : Int) * m) (by omega) (by omega), decide_eq_false (show ¬ n - (lcnt m n : Int) * m > m by omega), cond_false] at k
    refine k.trans ?_
    have e1 : sumI (A ++ [n]) = sumI A + n := by rw [sumI_append]; simp [sumI]
    have e2 : lneed m (A ++ [n]) = lneed m A + (n - 1) / m := by rw [lneed_append]; simp [lneed]
    have e3 : (((A ++ [n]).length : Nat) : Int) = ((A.length + 1 : Nat) : Int) := by simp
    rw [w_FnHousesBuilt_u6, w_FnHousesBuilt_t6, show (m == 0) = false from beq_eq_false_iff_ne.2 (by omega), hw, wrapI (n := sumI A + n) (by omega) (by omega), wrapI (n := n - 1) (by omega) (by omega), Int.tdiv_eq_ediv_of_nonneg (by omega), wrapI (n := (n - 1) / m) (by omega) (by omega), wrapI (n := lneed m A + (n - 1) / m) (by omega) (by omega), cond_false]
    rw [e1, e2, e3] at ih
    exact ih
end
theorem pure_FnHousesBuilt (code : List Int) (w0 : Wf kSuint8 code) (more : List Int) (w1 : Wf kSuint8 more) : F_w_FnHousesBuilt (code, more, ()) = some true := by
  show w_FnHousesBuilt code more = some true
  unfold w_FnHousesBuilt w_FnHousesBuilt_t0
  cases w_big code more
  · have hb := bytes_wf w1
    obtain ⟨⟨⟨S, D⟩, m⟩, d0, -⟩ := drawLand_ok (bytes_wf w0)
    have hdl := drN_len S D
    rw [d0, cond_false]
    simp only [Option.bind_some]
    rw [(Land_two _ _ _).1, (Land_two _ _ _).2, (Needed_two _ _ _).1, (Needed_two _ _ _).2, (Doors_two _ _).1, (Doors_two _ _).2, HouseText_i, HouseText_s, (Drop_two _ _).1, (Drop_two _ _).2, IsHouse_eq, IsHouse_s]
    cases hg : s_ldGood S D
    · have x1 : laN S D m = ([], false) := by unfold laN laC; rw [hg]; rfl
      have x2 : lnN S D m = (0, false) := by unfold lnN; rw [x1]; rfl
      have x3 : doN S D = (0, false) := by unfold doN; rw [hg]; rfl
      have x4 : htN S D = (⟨#[]⟩, false) := by unfold htN; rw [hg]; rfl
      have x5 : (drN S D).2 = false := by unfold drN drC; rw [hg]; rfl
      have k := hb2n hb S D 0 0 0 ⟨#[]⟩
      rw [x5] at k
      rw [(Longest_no hg).1, (Longest_no hg).2, x1, x2, x3, x4]
      simp only [Option.bind_some, bne_self_eq_false, beq_self_eq_true, Bool.not_true, cond_false, x5]
      rw [wSame_self (by simp), wHouse_self (by omega) (by omega)]
      simp only [Option.bind_some, Bool.not_true, cond_false]
      rw [w_FnHousesBuilt_u1, w_FnHousesBuilt_t1]
      exact k
    · obtain ⟨b, hB, hl1, hl2⟩ := Longest_yes hg
      have g := goodH_iff.1 hg
      have k := hb2 hb S D hg hB
      have s1 := g.bS.1; have s2 := g.sl; have s3 := g.d1
      have x3 : (doN S D).2 = true := by unfold doN; rw [hg]; rfl
      have x4 : (htN S D).2 = true := by unfold htN; rw [hg]; rfl
      have x5 : (drN S D).2 = decide ((S.length : Int) > 1) := by
        unfold drN drC
        rw [hg]
        by_cases c : (S.length : Int) = 1
        · rw [c]; rfl
        · rw [show ((S.length : Int) == 1) = false from beq_eq_false_iff_ne.2 c, decide_eq_true (by omega)]; rfl
      have hll : (laN S D m).1.length ≤ 100000 := by
        unfold laN
        cases hc : laC S D m
        · simp
        · unfold laC at hc
          rw [Bool.and_eq_true, l1In_iff] at hc
          have := lnd_len (m := m) (by omega) (a := 0) fun y hy => (g.sb y hy).1
          have := lneed_bd (m := m) (by omega) g.sb
          show (lnd m 0 S).length ≤ 100000
          omega
      have key : w_FnHousesBuilt_L1 more (laN S D m).1 S D (drN S D).1.1 (drN S D).1.2 m (laN S D m).2 (lnN S D m).1 (b : Int) (S.getD b 0) true (doN S D).1 (htN S D).1 (drN S D).2 = some true := by
        rw [w_FnHousesBuilt_u1, w_FnHousesBuilt_t1]
        cases hc : laC S D m
        · have e : laN S D m = ([], false) := by unfold laN; rw [hc]; rfl
          rw [e]
          exact k
        · have e : laN S D m = (lnd m 0 S, true) := by unfold laN; rw [hc]; rfl
          have e2 : (lnN S D m).1 = ((lnd m 0 S).length : Int) := by unfold lnN; rw [e]
          unfold laC at hc
          rw [Bool.and_eq_true, l1In_iff] at hc
          have hp := lnd_pw (m := m) (by omega) (s := S) (a := 0) fun y hy => (g.sb y hy).1
          rw [e] at hll
          have hll' : (lnd m 0 S).length ≤ 100000 := hll
          rw [e, e2]
          simp only [cond_true, bne_self_eq_false, cond_false]
          rw [wRises_ok hll' (fun i hi' => List.pairwise_iff_getElem.1 hp i (i + 1) (by omega) hi' (by omega))]
          exact (hb12 more (lnd m 0 S) S D _ _ m _ (b : Int) (S.getD b 0) true _ _ _ (by omega) g.sb s1 rfl (lnd_len (m := m) (by omega) fun y hy => (g.sb y hy).1) S [] rfl).trans k
      rw [hl1, hl2]
      simp only [Option.bind_some, bne_self_eq_false, beq_self_eq_true, Bool.not_true, cond_false]
      rw [wSame_self hll, wHouse_self (by omega) (by omega), x3, x4]
      have e2 : (lnN S D m).2 = (laN S D m).2 := rfl
      rw [e2, key]
      simp only [Option.bind_some, bne_self_eq_false, beq_self_eq_true, Bool.not_true, cond_false, cond_true, x5]
      cases (laN S D m).2 <;> rfl
  · rfl
end Go.Proofs.YtmiimfpdlkmjhaaGreatDoor.V
