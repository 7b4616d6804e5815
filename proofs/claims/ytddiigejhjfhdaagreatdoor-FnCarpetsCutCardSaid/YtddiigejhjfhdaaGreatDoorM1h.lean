/- Functions of the program, as plain functions. No condition. -/
import Derived.Test.YtddiigejhjfhdaaGreatDoorM1
set_option linter.unusedVariables false
set_option linter.unusedSimpArgs false
set_option maxRecDepth 100000
namespace Go.Proofs.YtddiigejhjfhdaaGreatDoor.V
open Go Go.Ev Go.Proofs
/-! ### numbers of which something holds -/
def numF (f : Nat → Bool) (n d : Nat) : List Int := ((List.range' n d).filter f).map (fun k : Nat => (k : Int))
theorem numF_zero (f : Nat → Bool) (n : Nat) : numF f n 0 = [] := rfl
theorem numF_succ (f : Nat → Bool) (n d : Nat) : numF f n (d + 1) = (bif f n then [(n : Int)] else []) ++ numF f (n + 1) d := by
  unfold numF
  rw [List.range'_succ, List.filter_cons]
  cases h : f n
  · simp
  · simp
theorem numF_mem {f : Nat → Bool} {n d : Nat} {x : Int} : x ∈ numF f n d ↔ ∃ k : Nat, (n ≤ k ∧ k < n + d) ∧ f k = true ∧ x = k := by
  unfold numF
  rw [List.mem_map]
  constructor
  · rintro ⟨k, hk, rfl⟩
    obtain ⟨h1, h2⟩ := List.mem_filter.1 hk
    exact ⟨k, List.mem_range'_1.1 h1, h2, rfl⟩
  · rintro ⟨k, h1, h2, rfl⟩
    exact ⟨k, List.mem_filter.2 ⟨List.mem_range'_1.2 h1, h2⟩, rfl⟩
theorem numF_nat {f : Nat → Bool} {n d k : Nat} : (k : Int) ∈ numF f n d ↔ (n ≤ k ∧ k < n + d) ∧ f k = true := by
  rw [numF_mem]
  constructor
  · rintro ⟨j, h1, h2, h3⟩
    rw [show k = j from by omega]; exact ⟨h1, h2⟩
  · rintro ⟨h1, h2⟩
    exact ⟨k, h1, h2, rfl⟩
theorem numF_len (f : Nat → Bool) (n d : Nat) : (numF f n d).length ≤ d := by
  unfold numF
  rw [List.length_map]
  refine Nat.le_trans (List.length_filter_le _ _) ?_
  rw [List.length_range']; exact Nat.le_refl _
theorem numF_pw (f : Nat → Bool) (n d : Nat) : (numF f n d).Pairwise (· < ·) := by
  unfold numF
  rw [List.pairwise_map]
  exact (List.Pairwise.filter _ List.pairwise_lt_range').imp fun {a b} h => by omega
theorem numF_congr {f g : Nat → Bool} {n d : Nat} (h : ∀ k, n ≤ k → k < n + d → f k = g k) : numF f n d = numF g n d := by
  unfold numF
  congr 1
  exact List.filter_congr fun k hk => by have := List.mem_range'_1.1 hk; exact h k this.1 this.2
/-- two lists that rise and have the same members are the same -/
theorem pw_ext : ∀ {l m : List Int}, l.Pairwise (· < ·) → m.Pairwise (· < ·) → (∀ x, x ∈ l ↔ x ∈ m) → l = m
  | [], [], _, _, _ => rfl
  | [], y :: m, _, _, h => absurd ((h y).2 (by simp)) (by simp)
  | x :: l, [], _, _, h => absurd ((h x).1 (by simp)) (by simp)
  | x :: l, y :: m, hl, hm, h => by
    obtain ⟨l1, l2⟩ := List.pairwise_cons.1 hl
    obtain ⟨m1, m2⟩ := List.pairwise_cons.1 hm
    have e : x = y := by
      have a := (h x).1 (by simp)
      have b := (h y).2 (by simp)
      rcases List.mem_cons.1 a with a | a
      · exact a
      · rcases List.mem_cons.1 b with b | b
        · exact b.symm
        · have := m1 x a; have := l1 y b; omega
    subst e
    rw [pw_ext l2 m2 (fun z => ?_)]
    constructor
    · intro hz
      rcases List.mem_cons.1 ((h z).1 (List.mem_cons_of_mem _ hz)) with e | e
      · have := l1 z hz; omega
      · exact e
    · intro hz
      rcases List.mem_cons.1 ((h z).2 (List.mem_cons_of_mem _ hz)) with e | e
      · have := m1 z hz; omega
      · exact e
/-- a row that goes up changes no more often than it rises -/
theorem joins_cnt (g : Nat → Int) : ∀ d : Nat, (∀ i, i < d → g i ≤ g (i + 1)) → (((List.range' 1 d).filter (fun i => !(g i == g (i - 1)))).length : Int) ≤ g d - g 0
  | 0, _ => by simp
  | d + 1, h => by
    have ih := joins_cnt g d (fun i hi => h i (by omega))
    have hd := h d (by omega)
    rw [List.range'_1_concat, List.filter_append, List.length_append]
    rw [show 1 + d = d + 1 from by omega]
    by_cases c : g (d + 1) = g d
    · have : [d + 1].filter (fun i => !(g i == g (i - 1))) = [] := by simp [c]
      rw [this, List.length_nil]; omega
    · have : ([d + 1].filter (fun i => !(g i == g (i - 1)))).length ≤ 1 := List.length_filter_le _ _
      omega
/-! ### rolls: the search of the reference -/
structure GoodR (R : List Int) : Prop where
  lo : 1 ≤ R.length
  hi : R.length ≤ 8
  bd : ∀ x, x ∈ R → 1 ≤ x ∧ x ≤ 2000
def rAt (R : List Int) (j : Nat) : Int := R.getD j 1
theorem rAt_rdk {R : List Int} {j : Nat} (h : j < R.length) : rdk kint R (j : Int) = rAt R j := by
  rw [rdk_get (k := kint) h]
  unfold rAt
  rw [List.getD_eq_getElem?_getD, List.getElem?_eq_getElem h]; rfl
theorem rAt_bd {R : List Int} (g : GoodR R) (j : Nat) : 1 ≤ rAt R j ∧ rAt R j ≤ 2000 := by
  unfold rAt
  rw [List.getD_eq_getElem?_getD]
  cases h : R[j]? with
  | none => show (1 : Int) ≤ 1 ∧ (1 : Int) ≤ 2000; omega
  | some x => exact g.bd x (List.mem_of_getElem? h)
def cvR (R : List Int) (need : Int) (j : Nat) : Int := rAt R j / need
theorem cvR_bd {R : List Int} (g : GoodR R) {need : Int} (hn : 1 ≤ need) (j : Nat) : 0 ≤ cvR R need j ∧ cvR R need j ≤ 2000 := by
  have h := rAt_bd g j
  unfold cvR
  exact ⟨Int.ediv_nonneg (by omega) (by omega), Int.le_trans (Int.ediv_le_self _ (by omega)) h.2⟩
def mR (R : List Int) (len : Bool) (j : Nat) : Int := bif len then rAt R j else 1
theorem mR_bd {R : List Int} (g : GoodR R) (len : Bool) (j : Nat) : 1 ≤ mR R len j ∧ mR R len j ≤ 2000 := by
  unfold mR
  cases len
  · show (1 : Int) ≤ 1 ∧ (1 : Int) ≤ 2000; omega
  · exact rAt_bd g j
def sumR (f : Nat → Int) : List Nat → Int
  | [] => 0
  | j :: l => f j + sumR f l
theorem sumR_append (f : Nat → Int) : ∀ l m : List Nat, sumR f (l ++ m) = sumR f l + sumR f m
  | [], m => by rw [List.nil_append, sumR]; omega
  | x :: l, m => by rw [List.cons_append, sumR, sumR, sumR_append f l m]; omega
theorem sumR_nonneg {f : Nat → Int} (h : ∀ j, 0 ≤ f j) : ∀ l : List Nat, 0 ≤ sumR f l
  | [] => Int.le_refl _
  | x :: l => by have := h x; have := sumR_nonneg h l; rw [sumR]; omega
theorem sumR_le {f : Nat → Int} {c : Int} (h : ∀ j, f j ≤ c) : ∀ l : List Nat, sumR f l ≤ c * l.length
  | [] => by simp [sumR]
  | x :: l => by
    have h1 := h x
    have h2 := sumR_le h l
    rw [sumR, List.length_cons]
    push_cast
    rw [Int.mul_add, Int.mul_one]
    omega
/-- the lists at which the search comes to an end, from the first on -/
def lvR (cv m : Nat → Int) (n : Nat) : Nat → Nat → Int → List (List Nat × Int)
  | 0, k, s => if s ≤ 0 then [([], 0)] else []
  | d + 1, k, s => if s ≤ 0 then [([], 0)] else (List.range' k (n - k)).flatMap fun j => (lvR cv m n d (j + 1) (s - cv j)).map fun x => (j :: x.1, m j + x.2)
def updR (a : List Int × Int) (x : List Int × Int) : List Int × Int := if a.2 < 0 ∨ x.2 < a.2 then x else a
def tells (b : List Int) (c : Int) (x : List Nat × Int) : List Int × Int := (b ++ x.1.map (fun j : Nat => (j : Int)), c + x.2)
theorem tells_cons (b : List Int) (c : Int) (j : Nat) (q : Int) (x : List Nat × Int) : tells b c (j :: x.1, q + x.2) = tells (b ++ [(j : Int)]) (c + q) x := by
  unfold tells
  simp [Int.add_assoc]
theorem own_nR (l : List Int) (h : l.length ≤ 1000) : s_l1Own_n l = some l := by unfold s_l1Own_n; rw [decide_eq_true (by omega)]; rfl
theorem tdivR {a b : Int} (h : 0 ≤ a) : Int.tdiv a b = a / b := Int.tdiv_eq_ediv_of_nonneg h
theorem look_loop {R : List Int} (g : GoodR R) {need : Int} (hn : 1 ≤ need ∧ need ≤ 100) {len : Bool} {RR : List Int → List Int → Int → Int → Int → Int → Bool → List Int → Int → Option (List Int × Int)} {d : Nat}
    {b : List Int} (hb : b.length ≤ 100) {s c : Int} (hs : -1000000 ≤ s ∧ s ≤ 1000000) (hc : -1000000 ≤ c ∧ c ≤ 1000000)
    {k0 : Nat} (hR : ∀ j, k0 ≤ j → j < R.length → ∀ best least, RR R (b ++ [(j : Int)]) ((j + 1 : Nat) : Int) (s - cvR R need j) need (c + mR R len j) len best least = some (((lvR (cvR R need) (mR R len) R.length d (j + 1) (s - cvR R need j)).map (tells (b ++ [(j : Int)]) (c + mR R len j))).foldl updR (best, least))) :
    ∀ (e j : Nat) (best : List Int) (least : Int), k0 ≤ j → j + e = R.length → s_cpLook_L1 RR R b least best s need c len (j : Int) =
      some (((List.range' j e).flatMap fun j => (lvR (cvR R need) (mR R len) R.length d (j + 1) (s - cvR R need j)).map (tells (b ++ [(j : Int)]) (c + mR R len j))).foldl updR (best, least))
  | 0, j, best, least, _, h => by
    rw [s_cpLook_u1, s_cpLook_t1, decide_eq_false (show ¬ ((j : Int) < R.length) by omega)]
    rfl
  | e + 1, j, best, least, hkj, h => by
    have hj : j < R.length := by omega
    have hr := rAt_bd g j
    have hcv := cvR_bd g hn.1 j
    have hm := mR_bd g len j
    have hh := g.hi
    have hw : IntKind.wrap .i64 ((j : Int) + 1) = ((j + 1 : Nat) : Int) := by rw [wrapI (by omega) (by omega)]; omega
    have hz : (need == 0) = false := by rw [beq_eq_false_iff_ne]; omega
    have hd : IntKind.wrap .i64 (Int.tdiv (rAt R j) need) = cvR R need j := by rw [tdivR (by omega)]; exact wrapI (by unfold cvR at hcv; omega) (by unfold cvR at hcv; omega)
    have hb2 : Nat.ble (b.length + 1) 4294967296 = true := by rw [ble_dec]; exact decide_eq_true (by omega)
    have ih := look_loop g hn hb hs hc hR e (j + 1)
    rw [s_cpLook_u1, s_cpLook_t1, decide_eq_true (show (j : Int) < R.length by omega), decide_eq_true (Int.natCast_nonneg j), own_nR b (by omega), rAt_rdk hj, hz, hw, hd, wrapI (n := s - cvR R need j) (by omega) (by omega), List.range'_succ, List.flatMap_cons, List.foldl_append]
    simp only [cond_true, cond_false, Option.bind_some, hb2]
    cases len
    · have e1 : mR R false j = 1 := rfl
      have := hR j hkj hj best least
      rw [e1] at this
      rw [cond_false, wrapI (n := c + 1) (by omega) (by omega), this]
      simp only [Option.bind_some]
      rw [ih _ _ (by omega) (by omega)]
      rfl
    · have e1 : mR R true j = rAt R j := rfl
      have := hR j hkj hj best least
      rw [e1] at this
      rw [cond_true, wrapI (n := c + rAt R j) (by omega) (by omega), this]
      simp only [Option.bind_some]
      rw [ih _ _ (by omega) (by omega)]
      rfl
theorem look_it {R : List Int} (g : GoodR R) {need : Int} (hn : 1 ≤ need ∧ need ≤ 100) (len : Bool) : ∀ (d k : Nat) (b : List Int) (s c : Int) (best : List Int) (least : Int), R.length ≤ k + d → d ≤ 20 → b.length + d ≤ 50 → (-100000 + 2000 * (d : Int) ≤ s ∧ s ≤ 100000) → (-100000 ≤ c ∧ c ≤ 100000 - 2000 * (d : Int)) →
    s_cpLook_it (d + 1) R b (k : Int) s need c len best least = some (((lvR (cvR R need) (mR R len) R.length d k s).map (tells b c)).foldl updR (best, least)) := by
  intro d
  induction d with
  | zero =>
    intro k b s c best least h1 _ h2 h3 h4
    rw [s_cpLook_is]
    unfold s_cpLook s_cpLook_t0
    by_cases hs : s ≤ 0
    · rw [decide_eq_true hs, cond_true, lvR, if_pos hs]
      show _ = some (updR (best, least) (tells b c ([], 0)))
      unfold updR tells
      simp only [List.map_nil, List.append_nil, Int.add_zero]
      by_cases c1 : least < 0
      · rw [decide_eq_true c1, if_pos (.inl c1)]; rfl
      · rw [decide_eq_false c1, cond_false]
        by_cases c2 : c < least
        · rw [decide_eq_true c2, if_pos (.inr c2)]; rfl
        · rw [decide_eq_false c2, if_neg (by omega)]; rfl
    · rw [decide_eq_false hs, cond_false, lvR, if_neg hs, s_cpLook_u1, s_cpLook_t1, decide_eq_false (show ¬ ((k : Int) < R.length) by omega)]
      rfl
  | succ d ih =>
    intro k b s c best least h1 hd h2 h3 h4
    rw [s_cpLook_is]
    unfold s_cpLook s_cpLook_t0
    by_cases hs : s ≤ 0
    · rw [decide_eq_true hs, cond_true, lvR, if_pos hs]
      show _ = some (updR (best, least) (tells b c ([], 0)))
      unfold updR tells
      simp only [List.map_nil, List.append_nil, Int.add_zero]
      by_cases c1 : least < 0
      · rw [decide_eq_true c1, if_pos (.inl c1)]; rfl
      · rw [decide_eq_false c1, cond_false]
        by_cases c2 : c < least
        · rw [decide_eq_true c2, if_pos (.inr c2)]; rfl
        · rw [decide_eq_false c2, if_neg (by omega)]; rfl
    · rw [decide_eq_false hs, cond_false, lvR, if_neg hs]
      have e0 : (((List.range' k (R.length - k)).flatMap fun j => (lvR (cvR R need) (mR R len) R.length d (j + 1) (s - cvR R need j)).map fun x => (j :: x.1, mR R len j + x.2)).map (tells b c)) = (List.range' k (R.length - k)).flatMap fun j => (lvR (cvR R need) (mR R len) R.length d (j + 1) (s - cvR R need j)).map (tells (b ++ [(j : Int)]) (c + mR R len j)) := by
        rw [List.map_flatMap]
        congr 1
        funext j
        rw [List.map_map]
        exact List.map_congr_left fun x _ => tells_cons b c j (mR R len j) x
      rw [e0]
      by_cases hkn : k ≤ R.length
      · refine look_loop g hn (by omega) (by omega) (by omega) (k0 := k) (fun j hkj hj best least => ?_) (R.length - k) k best least (Nat.le_refl _) (by omega)
        have hcv := cvR_bd g hn.1 j
        have hm := mR_bd g len j
        exact ih (j + 1) (b ++ [(j : Int)]) (s - cvR R need j) (c + mR R len j) best least (by omega) (by omega) (by simp; omega) (by omega) (by omega)
      · rw [s_cpLook_u1, s_cpLook_t1, decide_eq_false (show ¬ ((k : Int) < R.length) by omega), show R.length - k = 0 from by omega]
        rfl
/-! ### what is found -/
theorem lvR_in {cv m : Nat → Int} {n : Nat} : ∀ (d k : Nat) (s : Int) (x : List Nat × Int), x ∈ lvR cv m n d k s → x.1.Pairwise (· < ·) ∧ (∀ j, j ∈ x.1 → k ≤ j ∧ j < n) ∧ x.2 = sumR m x.1 ∧ s ≤ sumR cv x.1
  | 0, k, s, x, h => by
    unfold lvR at h
    by_cases hs : s ≤ 0
    · rw [if_pos hs] at h
      obtain rfl := List.mem_singleton.1 h
      exact ⟨List.Pairwise.nil, (fun j hj => by cases hj), rfl, hs⟩
    · rw [if_neg hs] at h; cases h
  | d + 1, k, s, x, h => by
    unfold lvR at h
    by_cases hs : s ≤ 0
    · rw [if_pos hs] at h
      obtain rfl := List.mem_singleton.1 h
      exact ⟨List.Pairwise.nil, (fun j hj => by cases hj), rfl, hs⟩
    · rw [if_neg hs] at h
      obtain ⟨j, hj, hx⟩ := List.mem_flatMap.1 h
      obtain ⟨y, hy, rfl⟩ := List.mem_map.1 hx
      obtain ⟨h1, h2, h3, h4⟩ := lvR_in d (j + 1) _ y hy
      have hj := List.mem_range'_1.1 hj
      refine ⟨List.pairwise_cons.2 ⟨fun z hz => by have := h2 z hz; omega, h1⟩, fun z hz => ?_, ?_, ?_⟩
      · rcases List.mem_cons.1 hz with e | e
        · subst e; omega
        · have := h2 z e; omega
      · show m j + y.2 = m j + sumR m y.1
        rw [h3]
      · show s ≤ cv j + sumR cv y.1
        omega
theorem lvR_of {cv m : Nat → Int} {n : Nat} (hm : ∀ j, 1 ≤ m j) : ∀ (d k : Nat) (s : Int) (l : List Nat), n ≤ k + d → l.Pairwise (· < ·) → (∀ j, j ∈ l → k ≤ j ∧ j < n) → s ≤ sumR cv l → ∃ x, x ∈ lvR cv m n d k s ∧ (x.1 <+: l) ∧ (x.1 = l ∨ x.2 < sumR m l)
  | 0, k, s, l, h1, h2, h3, h4 => by
    have hl : l = [] := by
      cases l with
      | nil => rfl
      | cons j l => have := h3 j (by simp); omega
    subst hl
    unfold lvR
    rw [if_pos (show s ≤ 0 from h4)]
    exact ⟨([], 0), by simp, List.nil_prefix, .inl rfl⟩
  | d + 1, k, s, l, h1, h2, h3, h4 => by
    unfold lvR
    by_cases hs : s ≤ 0
    · rw [if_pos hs]
      refine ⟨([], 0), by simp, List.nil_prefix, ?_⟩
      cases l with
      | nil => exact .inl rfl
      | cons j l =>
        right
        have h5 := hm j
        have h6 := sumR_nonneg (f := m) (fun j => by have := hm j; omega) l
        show 0 < m j + sumR m l
        omega
    · rw [if_neg hs]
      cases l with
      | nil => exact absurd h4 hs
      | cons j l =>
        obtain ⟨g1, g2⟩ := List.pairwise_cons.1 h2
        have hj := h3 j (by simp)
        rw [sumR] at h4
        obtain ⟨x, x1, x2, x3⟩ := lvR_of (cv := cv) (n := n) hm d (j + 1) (s - cv j) l (by omega) g2 (fun z hz => by have := g1 z hz; have := h3 z (List.mem_cons_of_mem _ hz); omega) (by omega)
        refine ⟨(j :: x.1, m j + x.2), List.mem_flatMap.2 ⟨j, List.mem_range'_1.2 (by omega), List.mem_map.2 ⟨x, x1, rfl⟩⟩, ?_, ?_⟩
        · exact (List.prefix_cons_inj j).2 x2
        · rcases x3 with e | e
          · left; show j :: x.1 = j :: l; rw [e]
          · right; show m j + x.2 < m j + sumR m l; omega
/-- the least of some numbers, if there are some -/
theorem updR_min : ∀ (xs : List (List Int × Int)) (a : List Int × Int), (∀ x, x ∈ xs → 0 ≤ x.2) → (a.2 = -1 ∨ 0 ≤ a.2) →
    ((xs = [] ∧ xs.foldl updR a = a) ∨ (xs.foldl updR a = a ∧ 0 ≤ a.2 ∧ ∀ x, x ∈ xs → a.2 ≤ x.2) ∨ ∃ pre y post, xs = pre ++ y :: post ∧ xs.foldl updR a = y ∧ (0 ≤ a.2 → y.2 < a.2) ∧ (∀ x, x ∈ pre → y.2 < x.2) ∧ ∀ x, x ∈ post → y.2 ≤ x.2)
  | [], a, _, _ => .inl ⟨rfl, rfl⟩
  | x :: xs, a, h, ha => by
    right
    have hx := h x (by simp)
    rw [List.foldl_cons]
    by_cases c : a.2 < 0 ∨ x.2 < a.2
    · have e : updR a x = x := if_pos c
      rw [e]
      rcases updR_min xs x (fun y hy => h y (List.mem_cons_of_mem _ hy)) (.inr hx) with ⟨rfl, h2⟩ | ⟨h1, h2, h3⟩ | ⟨pre, y, post, h1, h2, h3, h4, h5⟩
      · exact .inr ⟨[], x, [], rfl, rfl, fun h0 => by omega, (fun z hz => by cases hz), fun z hz => by cases hz⟩
      · exact .inr ⟨[], x, xs, rfl, h1, fun h0 => by omega, (fun z hz => by cases hz), h3⟩
      · refine .inr ⟨x :: pre, y, post, by rw [h1]; rfl, h2, fun h0 => ?_, fun z hz => ?_, h5⟩
        · have := h3 hx; omega
        · rcases List.mem_cons.1 hz with e | e
          · subst e; exact h3 hx
          · exact h4 z e
    · have e : updR a x = a := if_neg c
      rw [e]
      rcases updR_min xs a (fun y hy => h y (List.mem_cons_of_mem _ hy)) ha with ⟨rfl, h2⟩ | ⟨h1, h2, h3⟩ | ⟨pre, y, post, h1, h2, h3, h4, h5⟩
      · exact .inl ⟨rfl, by omega, fun z hz => by rcases List.mem_cons.1 hz with e | e; · subst e; omega
                                                  · cases e⟩
      · refine .inl ⟨h1, h2, fun z hz => ?_⟩
        rcases List.mem_cons.1 hz with e | e
        · subst e; omega
        · exact h3 z e
      · refine .inr ⟨x :: pre, y, post, by rw [h1]; rfl, h2, h3, fun z hz => ?_, h5⟩
        rcases List.mem_cons.1 hz with e | e
        · subst e; have := h3 (by omega); omega
        · exact h4 z e
/-! ### rolls: all lists by numbers -/
theorem bit_eq {b k : Nat} (hb : b < 1000000) (hk : k < 60) : (IntKind.wrap IntKind.i64 ((BitVec.toNat (BitVec.ofInt (IntKind.bits IntKind.i64) (Int.fdiv (b : Int) (2 ^ min (Int.toNat (k : Int)) (IntKind.bits IntKind.i64))) &&& BitVec.ofInt (IntKind.bits IntKind.i64) 1) : Nat) : Int) == 1) = Nat.testBit b k := by
  have h1 : min (Int.toNat (k : Int)) (IntKind.bits IntKind.i64) = k := by rw [Int.toNat_natCast]; exact Nat.min_eq_left (by show k ≤ 64; omega)
  have h2 : Int.fdiv (b : Int) (2 ^ k) = ((b / 2 ^ k : Nat) : Int) := by
    rw [Int.fdiv_eq_ediv_of_nonneg _ (by have := Int.pow_pos (n := 2) (m := k) (by decide); omega)]
    have : (2 : Int) ^ k = ((2 ^ k : Nat) : Int) := by push_cast; rfl
    rw [this]; rfl
  have h3 : b / 2 ^ k ≤ b := Nat.div_le_self _ _
  rw [h1, h2, Nat.testBit_eq_decide_div_mod_eq]
  generalize b / 2 ^ k = z at *
  have h4 : BitVec.toNat (BitVec.ofInt (IntKind.bits IntKind.i64) (z : Int) &&& BitVec.ofInt (IntKind.bits IntKind.i64) 1) = z % 2 := by
    rw [BitVec.toNat_and]
    have e1 : (BitVec.ofInt (IntKind.bits IntKind.i64) (z : Int)).toNat = z := by
      show (BitVec.ofInt 64 (z : Int)).toNat = z
      rw [BitVec.toNat_ofInt]
      have : ((z : Int) % ((2 ^ 64 : Nat) : Int)) = (z : Int) := Int.emod_eq_of_lt (by omega) (by omega)
      rw [this]; rfl
    have e2 : (BitVec.ofInt (IntKind.bits IntKind.i64) 1).toNat = 1 := by decide
    rw [e1, e2, Nat.and_one_is_mod]
  rw [h4]
  have h5 : z % 2 < 2 := Nat.mod_lt _ (by decide)
  rw [wrapI (by omega) (by omega)]
  by_cases h : z % 2 = 1
  · rw [h]; rfl
  · rw [decide_eq_false h, beq_eq_false_iff_ne]; omega
def selR (b k d : Nat) : List Nat := (List.range' k d).filter fun i => Nat.testBit b i
theorem selR_succ (b k d : Nat) : selR b k (d + 1) = (if Nat.testBit b k then [k] else []) ++ selR b (k + 1) d := by
  unfold selR
  rw [List.range'_succ, List.filter_cons]
  cases Nat.testBit b k <;> rfl
def toI (l : List Nat) : List Int := l.map fun j : Nat => (j : Int)
theorem toI_append (l m : List Nat) : toI (l ++ m) = toI l ++ toI m := List.map_append
/-- the choice of a number -/
def chR (R : List Int) (b : Nat) : List Int × Int := (toI (selR b 0 R.length), sumR (rAt R) (selR b 0 R.length))
theorem sumR_bd2 {R : List Int} (g : GoodR R) (l : List Nat) : 0 ≤ sumR (rAt R) l ∧ sumR (rAt R) l ≤ 2000 * l.length := ⟨sumR_nonneg (fun j => by have := rAt_bd g j; omega) l, sumR_le (fun j => (rAt_bd g j).2) l⟩
theorem sumR_bd3 {R : List Int} (g : GoodR R) {need : Int} (hn : 1 ≤ need) (l : List Nat) : 0 ≤ sumR (cvR R need) l ∧ sumR (cvR R need) l ≤ 2000 * l.length := ⟨sumR_nonneg (fun j => (cvR_bd g hn j).1) l, sumR_le (fun j => (cvR_bd g hn j).2) l⟩
theorem selR_len (b k d : Nat) : (selR b k d).length ≤ d := by
  unfold selR
  refine Nat.le_trans (List.length_filter_le _ _) ?_
  rw [List.length_range']
  omega
theorem ch_in {R : List Int} (g : GoodR R) {need : Int} (hn : 1 ≤ need ∧ need ≤ 100) {b : Nat} (hb : b < 1000000) (steps s16 : Int) (r1 : List (List Int × Int)) (hr1 : r1.length ≤ 100000) (hS : b < 100000) :
    ∀ (d k : Nat) (l : List Int) (len cov : Int), k + d = R.length → l.length ≤ k → (0 ≤ len ∧ len ≤ 2000 * (k : Int)) → (0 ≤ cov ∧ cov ≤ 2000 * (k : Int)) →
      i_choices_L2 R r1 len l steps need (b : Int) cov s16 (b : Int) (R.length : Int) (k : Int) =
        bif decide (cov + sumR (cvR R need) (selR b k d) ≥ steps) then i_choices_L1 R (r1 ++ [(l ++ toI (selR b k d), len + sumR (rAt R) (selR b k d))]) steps need s16 ((b + 1 : Nat) : Int) else i_choices_L1 R r1 steps need s16 ((b + 1 : Nat) : Int)
  | 0, k, l, len, cov, h1, h2, h3, h4 => by
    have hw : IntKind.wrap .i64 ((b : Int) + 1) = ((b + 1 : Nat) : Int) := by rw [wrapI (by omega) (by omega)]; omega
    have hbl : Nat.ble (r1.length + 1) 4294967296 = true := by rw [ble_dec]; exact decide_eq_true (by omega)
    rw [i_choices_u2, i_choices_t2, decide_eq_false (show ¬ ((k : Int) < R.length) by omega), hw, hbl]
    simp only [cond_false, cond_true, selR, List.range'_zero, List.filter_nil, toI, List.map_nil, List.append_nil, sumR, Int.add_zero]
  | d + 1, k, l, len, cov, h1, h2, h3, h4 => by
    have hh := g.hi
    have hk : k < R.length := by omega
    have hr := rAt_bd g k
    have hcv := cvR_bd g hn.1 k
    have hw : IntKind.wrap .i64 ((k : Int) + 1) = ((k + 1 : Nat) : Int) := by rw [wrapI (by omega) (by omega)]; omega
    have hz : (need == 0) = false := by rw [beq_eq_false_iff_ne]; omega
    have hd : IntKind.wrap .i64 (Int.tdiv (rAt R k) need) = cvR R need k := by rw [tdivR (by omega)]; exact wrapI (by unfold cvR at hcv; omega) (by unfold cvR at hcv; omega)
    have hbl : Nat.ble (l.length + 1) 4294967296 = true := by rw [ble_dec]; exact decide_eq_true (by omega)
    rw [i_choices_u2, i_choices_t2, decide_eq_true (show (k : Int) < R.length by omega), decide_eq_true (Int.natCast_nonneg k), decide_eq_false (show ¬ ((k : Int) < 0) by omega), bit_eq hb (by omega), rAt_rdk hk, hz, hw, hd, hbl, wrapI (n := len + rAt R k) (by omega) (by omega), wrapI (n := cov + cvR R need k) (by omega) (by omega), selR_succ]
    simp only [cond_true, cond_false]
    cases hbit : Nat.testBit b k
    · rw [cond_false, ch_in g hn hb steps s16 r1 hr1 hS d (k + 1) l len cov (by omega) (by omega) (by omega) (by omega)]
      rfl
    · rw [cond_true, ch_in g hn hb steps s16 r1 hr1 hS d (k + 1) (l ++ [(k : Int)]) (len + rAt R k) (cov + cvR R need k) (by omega) (by simp; omega) (by push_cast; omega) (by push_cast; omega)]
      have e1 : cov + cvR R need k + sumR (cvR R need) (selR b (k + 1) d) = cov + sumR (cvR R need) ([k] ++ selR b (k + 1) d) := by rw [List.singleton_append, sumR]; omega
      have e2 : len + rAt R k + sumR (rAt R) (selR b (k + 1) d) = len + sumR (rAt R) ([k] ++ selR b (k + 1) d) := by rw [List.singleton_append, sumR]; omega
      have e3 : l ++ [(k : Int)] ++ toI (selR b (k + 1) d) = l ++ toI ([k] ++ selR b (k + 1) d) := by rw [toI_append, List.append_assoc]; rfl
      rw [e1, e2, e3]
      rfl
/-- whether a number's rolls cover the steps -/
def okR (R : List Int) (need steps : Int) (b : Nat) : Bool := decide (sumR (cvR R need) (selR b 0 R.length) ≥ steps)
def allR (R : List Int) (need steps : Int) (b d : Nat) : List (List Int × Int) := ((List.range' b d).filter (okR R need steps)).map (chR R)
theorem allR_succ (R : List Int) (need steps : Int) (b d : Nat) : allR R need steps b (d + 1) = (if okR R need steps b then [chR R b] else []) ++ allR R need steps (b + 1) d := by
  unfold allR
  rw [List.range'_succ, List.filter_cons]
  cases okR R need steps b <;> rfl
theorem ch_out {R : List Int} (g : GoodR R) {need : Int} (hn : 1 ≤ need ∧ need ≤ 100) (steps : Int) {M : Nat} (hM : M ≤ 1000) : ∀ (d b : Nat) (r1 : List (List Int × Int)), b + d = M → r1.length ≤ b →
    i_choices_L1 R r1 steps need (M : Int) (b : Int) = (slices_SortFunc_choice__i_choices_c1 (r1 ++ allR R need steps b d))
  | 0, b, r1, h1, h2 => by
    rw [i_choices_u1, i_choices_t1, decide_eq_false (show ¬ ((b : Int) < M) by omega)]
    simp only [cond_false, allR, List.range'_zero, List.filter_nil, List.map_nil, List.append_nil]
    cases slices_SortFunc_choice__i_choices_c1 r1 <;> rfl
  | d + 1, b, r1, h1, h2 => by
    have e := ch_in g hn (b := b) (by omega) steps (M : Int) r1 (by omega) (by omega) R.length 0 [] 0 0 (by omega) (by simp) (by simp) (by simp)
    rw [i_choices_u1, i_choices_t1, decide_eq_true (show (b : Int) < M by omega), cond_true]
    refine Eq.trans e ?_
    rw [Int.zero_add, allR_succ]
    show (bif okR R need steps b then i_choices_L1 R (r1 ++ [([] ++ toI (selR b 0 R.length), 0 + sumR (rAt R) (selR b 0 R.length))]) steps need (M : Int) ((b + 1 : Nat) : Int) else _) = _
    rw [List.nil_append, Int.zero_add]
    cases okR R need steps b
    · exact ch_out g hn steps hM d (b + 1) r1 (by omega) (by omega)
    · rw [cond_true, if_pos rfl, ch_out g hn steps hM d (b + 1) _ (by omega) (by simp; omega), List.append_assoc]
      rfl
theorem p2R {n : Nat} (h : n ≤ 8) : 2 ^ n ≤ 256 := Nat.pow_le_pow_right (n := 2) (by decide) h
theorem choices_eq {R : List Int} (g : GoodR R) {need : Int} (hn : 1 ≤ need ∧ need ≤ 100) (steps : Int) : i_choices R steps need = slices_SortFunc_choice__i_choices_c1 (allR R need steps 0 (2 ^ R.length)) := by
  have hp := p2R g.hi
  have hh := g.hi
  unfold i_choices i_choices_t0
  have e0 : min (Int.toNat (R.length : Int)) (IntKind.bits IntKind.i64) = R.length := by rw [Int.toNat_natCast]; exact Nat.min_eq_left (by show R.length ≤ 64; omega)
  have e1 : IntKind.wrap .i64 (1 * 2 ^ R.length) = ((2 ^ R.length : Nat) : Int) := by
    have e2 : (1 : Int) * 2 ^ R.length = ((2 ^ R.length : Nat) : Int) := by rw [Int.one_mul]; push_cast; rfl
    rw [e2]
    generalize 2 ^ R.length = z at *
    exact wrapI (by omega) (by omega)
  rw [e0, e1]
  exact ch_out g hn steps (by omega) (2 ^ R.length) 0 [] (by omega) (by simp)
/-! the order of lists -/
theorem cmpL_self : ∀ a : List Int, cmpL a a = 0
  | [] => rfl
  | x :: a => by rw [cmpL, beq_self_eq_true]; exact cmpL_self a
theorem cmpL_anti : ∀ a b : List Int, cmpL b a = - cmpL a b
  | [], [] => rfl
  | [], _ :: _ => rfl
  | _ :: _, [] => rfl
  | x :: a, y :: b => by
    rw [cmpL, cmpL]
    by_cases h : x = y
    · subst h; rw [beq_self_eq_true]; exact cmpL_anti a b
    · rw [show (x == y) = false from beq_eq_false_iff_ne.2 h, show (y == x) = false from beq_eq_false_iff_ne.2 (fun e => h e.symm)]
      by_cases h2 : x < y
      · rw [decide_eq_true h2, decide_eq_false (show ¬ y < x by omega)]; rfl
      · rw [decide_eq_false h2, decide_eq_true (show y < x by omega)]; rfl
theorem cmpL_eq : ∀ a b : List Int, cmpL a b = 0 → a = b
  | [], [], _ => rfl
  | [], _ :: _, h => absurd (show (-1 : Int) = 0 from h) (by decide)
  | _ :: _, [], h => absurd (show (1 : Int) = 0 from h) (by decide)
  | x :: a, y :: b, h => by
    rw [cmpL] at h
    by_cases e : x = y
    · subst e
      rw [beq_self_eq_true] at h
      rw [cmpL_eq a b h]
    · rw [show (x == y) = false from beq_eq_false_iff_ne.2 e] at h
      by_cases h2 : x < y
      · rw [decide_eq_true h2] at h; exact absurd (show (-1 : Int) = 0 from h) (by decide)
      · rw [decide_eq_false h2] at h; exact absurd (show (1 : Int) = 0 from h) (by decide)
theorem cmpL_trans : ∀ a b c : List Int, cmpL a b ≤ 0 → cmpL b c ≤ 0 → cmpL a c ≤ 0 ∧ (cmpL a b < 0 ∨ cmpL b c < 0 → cmpL a c < 0)
  | [], [], c, _, h => ⟨h, fun h2 => h2.resolve_left (show ¬ (0 : Int) < 0 by decide)⟩
  | [], _ :: _, [], _, h => absurd (show (1 : Int) ≤ 0 from h) (by decide)
  | [], _ :: _, _ :: _, _, _ => ⟨show (-1 : Int) ≤ 0 by decide, fun _ => show (-1 : Int) < 0 by decide⟩
  | _ :: _, [], _, h, _ => absurd (show (1 : Int) ≤ 0 from h) (by decide)
  | _ :: _, _ :: _, [], _, h => absurd (show (1 : Int) ≤ 0 from h) (by decide)
  | x :: a, y :: b, z :: c, h1, h2 => by
    rw [cmpL] at h1 h2
    have ih := cmpL_trans a b c
    rw [cmpL, cmpL, cmpL]
    by_cases e1 : x = y
    · subst e1
      rw [beq_self_eq_true] at h1 ⊢
      by_cases e2 : x = z
      · subst e2
        rw [beq_self_eq_true] at h2 ⊢
        exact ih h1 h2
      · have hz : (x == z) = false := beq_eq_false_iff_ne.2 e2
        rw [hz] at h2 ⊢
        by_cases c1 : x < z
        · rw [decide_eq_true c1]; exact ⟨show (-1 : Int) ≤ 0 by decide, fun _ => show (-1 : Int) < 0 by decide⟩
        · rw [decide_eq_false c1] at h2; exact absurd (show (1 : Int) ≤ 0 from h2) (by decide)
    · have hxy : (x == y) = false := beq_eq_false_iff_ne.2 e1
      rw [hxy] at h1 ⊢
      by_cases c1 : x < y
      · rw [decide_eq_true c1] at h1 ⊢
        by_cases e2 : y = z
        · subst e2
          rw [hxy, decide_eq_true c1]; exact ⟨show (-1 : Int) ≤ 0 by decide, fun _ => show (-1 : Int) < 0 by decide⟩
        · have hyz : (y == z) = false := beq_eq_false_iff_ne.2 e2
          rw [hyz] at h2 ⊢
          by_cases c2 : y < z
          · rw [show (x == z) = false from beq_eq_false_iff_ne.2 (by omega), decide_eq_true (show x < z by omega)]; exact ⟨show (-1 : Int) ≤ 0 by decide, fun _ => show (-1 : Int) < 0 by decide⟩
          · rw [decide_eq_false c2] at h2; exact absurd (show (1 : Int) ≤ 0 from h2) (by decide)
      · rw [decide_eq_false c1] at h1; exact absurd (show (1 : Int) ≤ 0 from h1) (by decide)
/-! ### rolls: each list has a number -/
theorem sorted_ext : ∀ {l m : List Nat}, l.Pairwise (· < ·) → m.Pairwise (· < ·) → (∀ x, x ∈ l ↔ x ∈ m) → l = m
  | [], [], _, _, _ => rfl
  | [], y :: m, _, _, h => absurd ((h y).2 (by simp)) (by simp)
  | x :: l, [], _, _, h => absurd ((h x).1 (by simp)) (by simp)
  | x :: l, y :: m, h1, h2, h => by
    obtain ⟨a1, a2⟩ := List.pairwise_cons.1 h1
    obtain ⟨b1, b2⟩ := List.pairwise_cons.1 h2
    have e : x = y := by
      have hx := (h x).1 (by simp)
      have hy := (h y).2 (by simp)
      rcases List.mem_cons.1 hx with e | e
      · exact e
      · rcases List.mem_cons.1 hy with e2 | e2
        · exact e2.symm
        · have := b1 x e; have := a1 y e2; omega
    subst e
    congr 1
    refine sorted_ext a2 b2 fun z => ⟨fun hz => ?_, fun hz => ?_⟩
    · have := a1 z hz
      exact (List.mem_cons.1 ((h z).1 (List.mem_cons_of_mem _ hz))).resolve_left (by omega)
    · have := b1 z hz
      exact (List.mem_cons.1 ((h z).2 (List.mem_cons_of_mem _ hz))).resolve_left (by omega)
theorem bits_of (p : Nat → Bool) : ∀ n : Nat, ∃ b, b < 2 ^ n ∧ ∀ i, i < n → Nat.testBit b i = p i
  | 0 => ⟨0, by decide, fun i hi => by omega⟩
  | n + 1 => by
    obtain ⟨b, h1, h2⟩ := bits_of p n
    have h3 : Nat.testBit b n = false := Nat.testBit_lt_two_pow h1
    cases hp : p n
    · refine ⟨b, by rw [Nat.pow_succ]; omega, fun i hi => ?_⟩
      by_cases e : i = n
      · subst e; rw [h3, hp]
      · exact h2 i (by omega)
    · refine ⟨2 ^ n + b, by rw [Nat.pow_succ]; omega, fun i hi => ?_⟩
      by_cases e : i = n
      · subst e; rw [Nat.testBit_two_pow_add_eq, h3, hp]; rfl
      · rw [Nat.testBit_two_pow_add_gt (by omega)]; exact h2 i (by omega)
theorem selR_pw (b k d : Nat) : (selR b k d).Pairwise (· < ·) := List.Pairwise.filter _ List.pairwise_lt_range'
theorem selR_mem {b n i : Nat} : i ∈ selR b 0 n ↔ i < n ∧ Nat.testBit b i = true := by
  unfold selR
  rw [List.mem_filter, List.mem_range'_1]
  exact ⟨fun h => ⟨by omega, h.2⟩, fun h => ⟨by omega, h.2⟩⟩
theorem selR_of {n : Nat} {l : List Nat} (h1 : l.Pairwise (· < ·)) (h2 : ∀ j, j ∈ l → j < n) : ∃ b, b < 2 ^ n ∧ selR b 0 n = l := by
  obtain ⟨b, hb, hp⟩ := bits_of (fun i => decide (i ∈ l)) n
  refine ⟨b, hb, sorted_ext (selR_pw _ _ _) h1 fun x => ?_⟩
  rw [selR_mem]
  constructor
  · rintro ⟨g1, g2⟩
    rw [hp x g1] at g2
    exact of_decide_eq_true g2
  · intro hx
    exact ⟨h2 x hx, by rw [hp x (h2 x hx)]; exact decide_eq_true hx⟩
theorem selR_inj {n a b : Nat} (ha : a < 2 ^ n) (hb : b < 2 ^ n) (h : selR a 0 n = selR b 0 n) : a = b := by
  apply Nat.eq_of_testBit_eq
  intro i
  by_cases hi : i < n
  · have := selR_mem (b := a) (n := n) (i := i)
    rw [h, selR_mem] at this
    cases h1 : Nat.testBit a i <;> cases h2 : Nat.testBit b i
    · rfl
    · rw [h1, h2] at this; exact absurd (this.1 ⟨hi, rfl⟩).2 (by decide)
    · rw [h1, h2] at this; exact absurd (this.2 ⟨hi, rfl⟩).2 (by decide)
    · rfl
  · have hp : 2 ^ n ≤ 2 ^ i := Nat.pow_le_pow_right (by decide) (by omega)
    rw [Nat.testBit_lt_two_pow (Nat.lt_of_lt_of_le ha hp), Nat.testBit_lt_two_pow (Nat.lt_of_lt_of_le hb hp)]
theorem toI_inj {l m : List Nat} (h : toI l = toI m) : l = m := by
  unfold toI at h
  exact List.map_inj_right (fun x y e => by omega) |>.1 h
theorem allR_mem {R : List Int} {need steps : Int} {x : List Int × Int} : x ∈ allR R need steps 0 (2 ^ R.length) ↔ ∃ b, b < 2 ^ R.length ∧ okR R need steps b = true ∧ chR R b = x := by
  unfold allR
  rw [List.mem_map]
  constructor
  · rintro ⟨b, hb, rfl⟩
    rw [List.mem_filter, List.mem_range'_1] at hb
    exact ⟨b, by omega, hb.2, rfl⟩
  · rintro ⟨b, h1, h2, rfl⟩
    exact ⟨b, List.mem_filter.2 ⟨List.mem_range'_1.2 (by omega), h2⟩, rfl⟩
theorem allR_nd (R : List Int) (need steps : Int) : ((allR R need steps 0 (2 ^ R.length)).map (·.1)).Nodup := by
  unfold allR
  rw [List.map_map]
  unfold List.Nodup
  rw [List.pairwise_map]
  refine List.Pairwise.imp_of_mem (R := (· < ·)) (fun {a b} ha hb hab => ?_) (List.Pairwise.filter _ List.pairwise_lt_range')
  intro e
  have ha := List.mem_range'_1.1 (List.mem_filter.1 ha).1
  have hb := List.mem_range'_1.1 (List.mem_filter.1 hb).1
  have := selR_inj (by omega) (by omega) (toI_inj e)
  omega
theorem allR_len (R : List Int) (need steps : Int) : (allR R need steps 0 (2 ^ R.length)).length ≤ 2 ^ R.length := by
  unfold allR
  rw [List.length_map]
  refine Nat.le_trans (List.length_filter_le _ _) ?_
  rw [List.length_range']
  exact Nat.le_refl _
/-! the sort -/
theorem cmp_ok {xs : List (List Int × Int)} (h : (xs.map (·.1)).Nodup) : CmpOk (k := .pair kSint kint) xs (fun a b => cmpL a.1 b.1) := by
  refine ⟨⟨fun i => ?_, fun i j k h1 h2 => ?_, fun i j k h1 h2 => ?_⟩, fun i j h1 h2 => ?_⟩
  · show decide (cmpL xs[i].1 xs[i].1 < 0) = false
    rw [cmpL_self]; rfl
  · have h1 : cmpL xs[i].1 xs[j].1 < 0 := of_decide_eq_true h1
    have h2 : cmpL xs[j].1 xs[k].1 < 0 := of_decide_eq_true h2
    exact decide_eq_true ((cmpL_trans _ _ _ (Int.le_of_lt h1) (Int.le_of_lt h2)).2 (.inl h1))
  · have h1 : ¬ cmpL xs[i].1 xs[j].1 < 0 := of_decide_eq_false h1
    have h2 : ¬ cmpL xs[j].1 xs[k].1 < 0 := of_decide_eq_false h2
    refine decide_eq_false ?_
    show ¬ cmpL xs[i].1 xs[k].1 < 0
    have a1 := cmpL_anti xs[i].1 xs[j].1
    have a2 := cmpL_anti xs[j].1 xs[k].1
    have a3 := cmpL_anti xs[i].1 xs[k].1
    have := (cmpL_trans xs[k].1 xs[j].1 xs[i].1 (by omega) (by omega)).1
    omega
  · have h1 : ¬ cmpL xs[i].1 xs[j].1 < 0 := of_decide_eq_false h1
    have h2 : ¬ cmpL xs[j].1 xs[i].1 < 0 := of_decide_eq_false h2
    have a1 := cmpL_anti xs[i].1 xs[j].1
    have e := cmpL_eq xs[i].1 xs[j].1 (by omega)
    have hi : i.1 < (xs.map (·.1)).length := by rw [List.length_map]; exact i.2
    have hj : j.1 < (xs.map (·.1)).length := by rw [List.length_map]; exact j.2
    have g1 : (xs.map (·.1))[i.1] = xs[i].1 := List.getElem_map _
    have g2 : (xs.map (·.1))[j.1] = xs[j].1 := List.getElem_map _
    have hne := List.pairwise_iff_getElem.1 h
    apply Fin.ext
    rcases Nat.lt_trichotomy i.1 j.1 with c | c | c
    · exact absurd (by rw [g1, g2]; exact e) (hne i.1 j.1 hi hj c)
    · exact c
    · exact absurd (by rw [g1, g2]; exact e.symm) (hne j.1 i.1 hj hi c)
def sortR (xs : List (List Int × Int)) : List (List Int × Int) := xs.mergeSort fun a b => !(decide (cmpL b.1 a.1 < 0))
theorem sort_eq {xs : List (List Int × Int)} (hl : xs.length ≤ 4294967296) (h : (xs.map (·.1)).Nodup) : slices_SortFunc_choice__i_choices_c1 xs = some (sortR xs) :=
  sortF_some (q := .pair kSint kint) (cf := fun a b => cmpL a.1 b.1) hl (fun a _ b _ => rfl) (cmp_ok h)
theorem sortR_perm (xs : List (List Int × Int)) : (sortR xs).Perm xs := List.mergeSort_perm _ _
/-! the first of the least -/
def bstS (f : List Int × Int → Int) (a : (List Int × Int) × Bool) (c : List Int × Int) : (List Int × Int) × Bool := if a.2 = false ∨ f c < f a.1 then (c, true) else a
theorem bst_on (f : List Int × Int → Int) : ∀ (xs : List (List Int × Int)) (a : List Int × Int), (xs.foldl (bstS f) (a, true) = (a, true) ∧ ∀ x, x ∈ xs → f a ≤ f x) ∨ ∃ pre y post, xs = pre ++ y :: post ∧ xs.foldl (bstS f) (a, true) = (y, true) ∧ f y < f a ∧ (∀ x, x ∈ pre → f y < f x) ∧ ∀ x, x ∈ post → f y ≤ f x
  | [], a => .inl ⟨rfl, fun x hx => by cases hx⟩
  | x :: xs, a => by
    rw [List.foldl_cons]
    by_cases c : f x < f a
    · have e : bstS f (a, true) x = (x, true) := if_pos (.inr c)
      rw [e]
      rcases bst_on f xs x with ⟨h1, h2⟩ | ⟨pre, y, post, h1, h2, h3, h4, h5⟩
      · exact .inr ⟨[], x, xs, rfl, h1, c, (fun z hz => by cases hz), h2⟩
      · refine .inr ⟨x :: pre, y, post, by rw [h1]; rfl, h2, by omega, fun z hz => ?_, h5⟩
        rcases List.mem_cons.1 hz with e | e
        · subst e; exact h3
        · exact h4 z e
    · have e : bstS f (a, true) x = (a, true) := if_neg (fun h => h.elim (fun h => by cases h) c)
      rw [e]
      rcases bst_on f xs a with ⟨h1, h2⟩ | ⟨pre, y, post, h1, h2, h3, h4, h5⟩
      · refine .inl ⟨h1, fun z hz => ?_⟩
        rcases List.mem_cons.1 hz with e | e
        · subst e; omega
        · exact h2 z e
      · refine .inr ⟨x :: pre, y, post, by rw [h1]; rfl, h2, h3, fun z hz => ?_, h5⟩
        rcases List.mem_cons.1 hz with e | e
        · subst e; omega
        · exact h4 z e
theorem bst_first (f : List Int × Int → Int) : ∀ (xs : List (List Int × Int)), xs ≠ [] → ∃ pre y post, xs = pre ++ y :: post ∧ xs.foldl (bstS f) (([], 0), false) = (y, true) ∧ (∀ x, x ∈ pre → f y < f x) ∧ ∀ x, x ∈ post → f y ≤ f x
  | [], h => absurd rfl h
  | x :: xs, _ => by
    rw [List.foldl_cons]
    have e : bstS f (([], 0), false) x = (x, true) := if_pos (.inl rfl)
    rw [e]
    rcases bst_on f xs x with ⟨h1, h2⟩ | ⟨pre, y, post, h1, h2, h3, h4, h5⟩
    · exact ⟨[], x, xs, rfl, h1, (fun z hz => by cases hz), h2⟩
    · refine ⟨x :: pre, y, post, by rw [h1]; rfl, h2, fun z hz => ?_, h5⟩
      rcases List.mem_cons.1 hz with e | e
      · subst e; exact h3
      · exact h4 z e
def fR (len : Bool) (c : List Int × Int) : Int := bif len then c.2 else (c.1.length : Int)
theorem least_len {xs : List (List Int × Int)} (hl : xs.length ≤ 1000000) (x1 : Int) (x3 : List Int) : i_least__i_length_L1 x1 0 xs x3 [] false (xs.length : Int) 0 = some (xs.foldl (bstS (fR true)) (([], 0), false)) := by
  have e := drop_ind xs (fun i l => ∀ a : (List Int × Int) × Bool, i_least__i_length_L1 x1 a.1.2 xs x3 a.1.1 a.2 (xs.length : Int) (i : Int) = some (l.foldl (bstS (fR true)) a)) (fun a => ?_) (fun i hi ih a => ?_)
  · exact e (([], 0), false)
  · rw [i_least__i_length_u1, i_least__i_length_t1, decide_eq_false (show ¬ ((xs.length : Int) < xs.length) by omega)]; rfl
  · have hr : rdk kchoice xs (i : Int) = xs[i] := rdk_get (k := kchoice) hi
    rw [i_least__i_length_u1, i_least__i_length_t1, decide_eq_true (show (i : Int) < xs.length by omega), decide_eq_true (Int.natCast_nonneg i), wrapI (n := (i : Int) + 1) (by omega) (by omega), List.foldl_cons, hr]
    simp only [cond_true]
    obtain ⟨⟨al, an⟩, ab⟩ := a
    cases ab
    · exact (ih (xs[i], true)).trans (by congr 2)
    · show (bif decide ((xs[i]).2 < an) then _ else _) = _
      by_cases c : (xs[i]).2 < an
      · rw [decide_eq_true c]
        have e : bstS (fR true) ((al, an), true) xs[i] = (xs[i], true) := if_pos (.inr c)
        rw [e]
        exact ih (xs[i], true)
      · rw [decide_eq_false c]
        have e : bstS (fR true) ((al, an), true) xs[i] = ((al, an), true) := if_neg (fun h => h.elim (fun h => by cases h) c)
        rw [e]
        exact ih ((al, an), true)
theorem least_many {xs : List (List Int × Int)} (hl : xs.length ≤ 1000000) (x1 : Int) (x3 : List Int) : i_least__i_many_L1 x1 0 xs x3 [] false (xs.length : Int) 0 = some (xs.foldl (bstS (fR false)) (([], 0), false)) := by
  have e := drop_ind xs (fun i l => ∀ a : (List Int × Int) × Bool, i_least__i_many_L1 x1 a.1.2 xs x3 a.1.1 a.2 (xs.length : Int) (i : Int) = some (l.foldl (bstS (fR false)) a)) (fun a => ?_) (fun i hi ih a => ?_)
  · exact e (([], 0), false)
  · rw [i_least__i_many_u1, i_least__i_many_t1, decide_eq_false (show ¬ ((xs.length : Int) < xs.length) by omega)]; rfl
  · have hr : rdk kchoice xs (i : Int) = xs[i] := rdk_get (k := kchoice) hi
    rw [i_least__i_many_u1, i_least__i_many_t1, decide_eq_true (show (i : Int) < xs.length by omega), decide_eq_true (Int.natCast_nonneg i), wrapI (n := (i : Int) + 1) (by omega) (by omega), List.foldl_cons, hr]
    simp only [cond_true]
    obtain ⟨⟨al, an⟩, ab⟩ := a
    cases ab
    · exact (ih (xs[i], true)).trans (by congr 2)
    · show (bif decide (((xs[i]).1.length : Int) < (al.length : Int)) then _ else _) = _
      by_cases c : ((xs[i]).1.length : Int) < (al.length : Int)
      · rw [decide_eq_true c]
        have e : bstS (fR false) ((al, an), true) xs[i] = (xs[i], true) := if_pos (.inr c)
        rw [e]
        exact ih (xs[i], true)
      · rw [decide_eq_false c]
        have e : bstS (fR false) ((al, an), true) xs[i] = ((al, an), true) := if_neg (fun h => h.elim (fun h => by cases h) c)
        rw [e]
        exact ih ((al, an), true)
/-! ### rolls: both find the same -/
theorem within_l1 (x lo hi : Int) : i_within x lo hi = s_l1In x lo hi := by unfold i_within s_l1In; simp
theorem l1In_iffR {x lo hi : Int} : s_l1In x lo hi = true ↔ lo ≤ x ∧ x ≤ hi := by
  unfold s_l1In
  by_cases h1 : lo ≤ x <;> by_cases h2 : x ≤ hi <;> simp [h1, h2]
theorem not_anyR {α : Type} (p : α → Bool) : ∀ l : List α, (!l.any fun n => !p n) = l.all p
  | [] => rfl
  | x :: l => by rw [List.any_cons, List.all_cons, ← not_anyR p l]; cases p x <;> simp
theorem areRolls_eq (R : List Int) : i_AreRolls R = s_cpRolls R := by
  unfold i_AreRolls s_cpRolls s_l1All_n slices_ContainsFunc_int__i_AreRolls_c1 slices_IndexFunc_int__i_AreRolls_c1_n
  rw [within_l1, idxF_any]
  have e : (fun x => i_AreRolls_c1 x) = fun n => !inB 1 2000 n := by
    funext n
    unfold i_AreRolls_c1 i_isRoll
    rw [within_l1, s_l1In_inB2]
  rw [e, not_anyR]
theorem goodR_of {R : List Int} (h : s_cpRolls R = true) : GoodR R := by
  unfold s_cpRolls at h
  cases h1 : s_l1In (R.length : Int) 1 8
  · rw [h1] at h; cases h
  · rw [h1, cond_true] at h
    have g := l1In_iffR.1 h1
    refine ⟨by omega, by omega, fun x hx => ?_⟩
    unfold s_l1All_n at h
    have := List.all_eq_true.1 h x hx
    unfold inB at this
    simpa using this
theorem cpSum_loop {R : List Int} (g : GoodR R) {need : Int} (hn : 1 ≤ need ∧ need ≤ 100) : ∀ (d k : Nat) (s : Int), k + d = R.length → (0 ≤ s ∧ s ≤ 2000 * (k : Int)) → s_cpSum_L1 R need s (R.length : Int) (k : Int) = some (s + sumR (cvR R need) (List.range' k d))
  | 0, k, s, h1, h2 => by
    rw [s_cpSum_u1, s_cpSum_t1, decide_eq_false (show ¬ ((k : Int) < R.length) by omega)]
    simp [sumR]
  | d + 1, k, s, h1, h2 => by
    have hh := g.hi
    have hk : k < R.length := by omega
    have hr := rAt_bd g k
    have hcv := cvR_bd g hn.1 k
    have hz : (need == 0) = false := by rw [beq_eq_false_iff_ne]; omega
    have hw : IntKind.wrap .i64 ((k : Int) + 1) = ((k + 1 : Nat) : Int) := by rw [wrapI (by omega) (by omega)]; omega
    have hd : IntKind.wrap .i64 (Int.tdiv (rAt R k) need) = cvR R need k := by rw [tdivR (by omega)]; exact wrapI (by unfold cvR at hcv; omega) (by unfold cvR at hcv; omega)
    rw [s_cpSum_u1, s_cpSum_t1, decide_eq_true (show (k : Int) < R.length by omega), decide_eq_true (Int.natCast_nonneg k), rAt_rdk hk, hz, hw, hd, wrapI (n := s + cvR R need k) (by omega) (by omega)]
    simp only [cond_true, cond_false]
    rw [cpSum_loop g hn d (k + 1) _ (by omega) (by push_cast; omega), List.range'_succ, sumR, Int.add_assoc]
noncomputable def goodA (R : List Int) (steps need : Int) : Bool := s_cpRolls R && (s_l1In steps 1 100 && s_l1In need 1 100)
theorem cpAll_eq (R : List Int) (steps need : Int) : s_cpAll R steps need = some (goodA R steps need && decide (sumR (cvR R need) (List.range' 0 R.length) ≥ steps)) := by
  unfold s_cpAll goodA s_cpSteps s_cpNeed
  cases h1 : s_cpRolls R
  · rfl
  · cases h2 : s_l1In steps 1 100
    · rfl
    · cases h3 : s_l1In need 1 100
      · rfl
      · have g := goodR_of h1
        have hn := l1In_iffR.1 h3
        have e := cpSum_loop g hn R.length 0 0 (by omega) (by simp)
        unfold s_cpSum s_cpSum_t0
        rw [show s_cpSum_L1 R need 0 (R.length : Int) 0 = _ from e]
        simp
theorem sumR_sub {f : Nat → Int} (hf : ∀ j, 0 ≤ f j) : ∀ {l m : List Nat}, l.Sublist m → sumR f l ≤ sumR f m
  | _, _, .slnil => Int.le_refl _
  | _, _, .cons a h => by have := sumR_sub hf h; have := hf a; rw [sumR]; omega
  | _, _, .cons_cons a h => by have := sumR_sub hf h; rw [sumR, sumR]; omega
theorem sel_sub (b n : Nat) : (selR b 0 n).Sublist (List.range' 0 n) := List.filter_sublist
/-- whether some rolls cover the steps: just if all do -/
theorem some_iff {R : List Int} (g : GoodR R) {need steps : Int} (hn : 1 ≤ need) : (∃ b, b < 2 ^ R.length ∧ okR R need steps b = true) ↔ sumR (cvR R need) (List.range' 0 R.length) ≥ steps := by
  have h0 : ∀ j, 0 ≤ cvR R need j := fun j => (cvR_bd g hn j).1
  constructor
  · rintro ⟨b, _, h⟩
    have h := of_decide_eq_true h
    have := sumR_sub h0 (sel_sub b R.length)
    omega
  · intro h
    obtain ⟨b, hb, e⟩ := selR_of (n := R.length) (l := List.range' 0 R.length) List.pairwise_lt_range' (fun j hj => by have := List.mem_range'_1.1 hj; omega)
    refine ⟨b, hb, ?_⟩
    unfold okR
    rw [e]
    exact decide_eq_true h
theorem fR_ch (R : List Int) (len : Bool) (b : Nat) : fR len (chR R b) = sumR (mR R len) (selR b 0 R.length) := by
  have one : ∀ l : List Nat, sumR (mR R false) l = (l.length : Int) := by
    intro l
    induction l with
    | nil => rfl
    | cons x l ih => rw [sumR, ih]; show (1 : Int) + _ = _; rw [List.length_cons]; omega
  cases len
  · show ((toI (selR b 0 R.length)).length : Int) = _
    rw [one]
    unfold toI
    rw [List.length_map]
  · show sumR (rAt R) (selR b 0 R.length) = _
    have : mR R true = rAt R := by funext j; rfl
    rw [this]
/-- what the search of the reference comes to -/
noncomputable def srch (R : List Int) (steps need : Int) (len : Bool) : List Int × Int := ((lvR (cvR R need) (mR R len) R.length 9 0 steps).map (tells [] 0)).foldl updR ([], -1)
theorem cpBest_eq {R : List Int} (g : GoodR R) {steps need : Int} (hs : 1 ≤ steps ∧ steps ≤ 100) (hn : 1 ≤ need ∧ need ≤ 100) (len : Bool) : s_cpBest R steps need len = some (srch R steps need len) := by
  have hh := g.hi
  unfold s_cpBest s_cpLook_n srch
  have e := look_it g hn len 9 0 [] steps 0 [] (-1) (by omega) (by omega) (by simp) (by omega) (by omega)
  rw [show s_cpLook_it 10 R [] 0 steps need 0 len [] (-1) = _ from e]
  rfl
theorem both_eq {R : List Int} (g : GoodR R) {steps need : Int} (hs : 1 ≤ steps ∧ steps ≤ 100) (hn : 1 ≤ need ∧ need ≤ 100) (len : Bool) (hex : ∃ b, b < 2 ^ R.length ∧ okR R need steps b = true) :
    ∃ pre y post, sortR (allR R need steps 0 (2 ^ R.length)) = pre ++ y :: post ∧ (sortR (allR R need steps 0 (2 ^ R.length))).foldl (bstS (fR len)) (([], 0), false) = (y, true) ∧ fR len y = (srch R steps need len).2 := by
  obtain ⟨b0, hb0, hok0⟩ := hex
  have hperm := sortR_perm (allR R need steps 0 (2 ^ R.length))
  have hm1 := fun j => (mR_bd g len j).1
  have hne : sortR (allR R need steps 0 (2 ^ R.length)) ≠ [] := fun e => by
    have : chR R b0 ∈ sortR (allR R need steps 0 (2 ^ R.length)) := hperm.mem_iff.2 (allR_mem.2 ⟨b0, hb0, hok0, rfl⟩)
    rw [e] at this; cases this
  obtain ⟨pre, y, post, e1, e2, e3, e4⟩ := bst_first (fR len) _ hne
  refine ⟨pre, y, post, e1, e2, ?_⟩
  have hymem : y ∈ allR R need steps 0 (2 ^ R.length) := hperm.mem_iff.1 (by rw [e1]; simp)
  have hleast : ∀ x, x ∈ allR R need steps 0 (2 ^ R.length) → fR len y ≤ fR len x := fun x hx => by
    have := hperm.mem_iff.2 hx
    rw [e1] at this
    rcases List.mem_append.1 this with h | h
    · exact Int.le_of_lt (e3 x h)
    · rcases List.mem_cons.1 h with h | h
      · subst h; exact Int.le_refl _
      · exact e4 x h
  obtain ⟨b, hb, hok, rfl⟩ := allR_mem.1 hymem
  have hsum := of_decide_eq_true hok
  -- a leaf behind the best choice
  obtain ⟨x, x1, x2, x3⟩ := lvR_of (cv := cvR R need) (n := R.length) hm1 9 0 steps (selR b 0 R.length) (by have := g.hi; omega) (selR_pw _ _ _) (fun j hj => ⟨Nat.zero_le _, (selR_mem.1 hj).1⟩) hsum
  have hx3 : x.2 ≤ sumR (mR R len) (selR b 0 R.length) := by
    rcases x3 with h | h
    · have := (lvR_in 9 0 steps x x1).2.2.1
      rw [this, h]; exact Int.le_refl _
    · exact Int.le_of_lt h
  have hpos : ∀ z, z ∈ (lvR (cvR R need) (mR R len) R.length 9 0 steps).map (tells [] 0) → 0 ≤ z.2 := fun z hz => by
    obtain ⟨q, hq, rfl⟩ := List.mem_map.1 hz
    show 0 ≤ 0 + q.2
    rw [(lvR_in 9 0 steps q hq).2.2.1]
    have := sumR_nonneg (f := mR R len) (fun j => by have := hm1 j; omega) q.1
    omega
  have hin : tells [] 0 x ∈ (lvR (cvR R need) (mR R len) R.length 9 0 steps).map (tells [] 0) := List.mem_map.2 ⟨x, x1, rfl⟩
  unfold srch
  rcases updR_min _ ([], -1) hpos (.inl rfl) with ⟨h1, _⟩ | ⟨_, h1, _⟩ | ⟨pr, z, ps, h1, h2, _, h4, h5⟩
  · rw [h1] at hin; cases hin
  · exact absurd h1 (by decide)
  · rw [h2]
    have hz : z ∈ (lvR (cvR R need) (mR R len) R.length 9 0 steps).map (tells [] 0) := by rw [h1]; simp
    have hzl : ∀ q, q ∈ (lvR (cvR R need) (mR R len) R.length 9 0 steps).map (tells [] 0) → z.2 ≤ q.2 := fun q hq => by
      rw [h1] at hq
      rcases List.mem_append.1 hq with h | h
      · exact Int.le_of_lt (h4 q h)
      · rcases List.mem_cons.1 h with h | h
        · subst h; exact Int.le_refl _
        · exact h5 q h
    have a1 : z.2 ≤ 0 + x.2 := hzl _ hin
    obtain ⟨q, hq, hqz⟩ := List.mem_map.1 hz
    obtain ⟨q1, q2, q3, q4⟩ := lvR_in 9 0 steps q hq
    obtain ⟨c, hc, hce⟩ := selR_of (n := R.length) q1 (fun j hj => (q2 j hj).2)
    have hokc : okR R need steps c = true := by unfold okR; rw [hce]; exact decide_eq_true q4
    have a2 := hleast _ (allR_mem.2 ⟨c, hc, hokc, rfl⟩)
    rw [fR_ch, fR_ch, hce] at a2
    rw [fR_ch]
    have hz2 : z.2 = sumR (mR R len) q.1 := by rw [← hqz]; show 0 + q.2 = _; rw [q3]; omega
    omega
theorem sort_all {R : List Int} (g : GoodR R) (need steps : Int) : slices_SortFunc_choice__i_choices_c1 (allR R need steps 0 (2 ^ R.length)) = some (sortR (allR R need steps 0 (2 ^ R.length))) := by
  have h1 := allR_len R need steps
  have h2 := p2R g.hi
  exact sort_eq (by omega) (allR_nd R need steps)
theorem sort_len {R : List Int} (g : GoodR R) (need steps : Int) : (sortR (allR R need steps 0 (2 ^ R.length))).length ≤ 1000000 := by
  have h1 := allR_len R need steps
  have h2 := p2R g.hi
  have h3 := (sortR_perm (allR R need steps 0 (2 ^ R.length))).length_eq
  omega
theorem sort_nil {R : List Int} {need steps : Int} (h : ¬ ∃ b, b < 2 ^ R.length ∧ okR R need steps b = true) : sortR (allR R need steps 0 (2 ^ R.length)) = [] := by
  have e : allR R need steps 0 (2 ^ R.length) = [] := by
    apply List.eq_nil_iff_forall_not_mem.2
    intro x hx
    obtain ⟨b, h1, h2, _⟩ := allR_mem.1 hx
    exact h ⟨b, h1, h2⟩
  rw [e]; exact List.mergeSort_nil
theorem LeastLength_both (R : List Int) (steps need : Int) : ∃ v, i_LeastLength R steps need = some v ∧ s_LeastLength R steps need = some v := by
  unfold i_LeastLength s_LeastLength i_least__i_length i_least__i_length_t0 i_isCover i_isNeed
  rw [areRolls_eq, within_l1, within_l1, cpAll_eq]
  unfold goodA
  cases h1 : s_cpRolls R
  · exact ⟨_, rfl, rfl⟩
  · cases h2 : s_l1In steps 1 100
    · exact ⟨_, rfl, rfl⟩
    · cases h3 : s_l1In need 1 100
      · exact ⟨_, rfl, rfl⟩
      · have g := goodR_of h1
        have hs := l1In_iffR.1 h2
        have hn := l1In_iffR.1 h3
        rw [choices_eq g hn, sort_all g]
        simp only [Bool.not_true, cond_false, Option.bind_some, Bool.and_self, Bool.true_and]
        rw [least_len (sort_len g need steps)]
        by_cases hex : ∃ b, b < 2 ^ R.length ∧ okR R need steps b = true
        · obtain ⟨pre, y, post, e1, e2, e3⟩ := both_eq g hs hn true hex
          rw [decide_eq_true ((some_iff g hn.1).1 hex), e2, cpBest_eq g hs hn]
          exact ⟨(y.2, true), rfl, by show some ((srch R steps need true).2, true) = _; rw [← e3]; rfl⟩
        · rw [decide_eq_false (fun h => hex ((some_iff g hn.1).2 h)), sort_nil hex]
          exact ⟨_, rfl, rfl⟩
theorem FewestRolls_both (R : List Int) (steps need : Int) : ∃ v, i_FewestRolls R steps need = some v ∧ s_FewestRolls R steps need = some v := by
  unfold i_FewestRolls s_FewestRolls i_least__i_many i_least__i_many_t0 i_isCover i_isNeed
  rw [areRolls_eq, within_l1, within_l1, cpAll_eq]
  unfold goodA
  cases h1 : s_cpRolls R
  · exact ⟨_, rfl, rfl⟩
  · cases h2 : s_l1In steps 1 100
    · exact ⟨_, rfl, rfl⟩
    · cases h3 : s_l1In need 1 100
      · exact ⟨_, rfl, rfl⟩
      · have g := goodR_of h1
        have hs := l1In_iffR.1 h2
        have hn := l1In_iffR.1 h3
        rw [choices_eq g hn, sort_all g]
        simp only [Bool.not_true, cond_false, Option.bind_some, Bool.and_self, Bool.true_and]
        rw [least_many (sort_len g need steps)]
        by_cases hex : ∃ b, b < 2 ^ R.length ∧ okR R need steps b = true
        · obtain ⟨pre, y, post, e1, e2, e3⟩ := both_eq g hs hn false hex
          rw [decide_eq_true ((some_iff g hn.1).1 hex), e2, cpBest_eq g hs hn]
          exact ⟨((y.1.length : Int), true), rfl, by show some ((srch R steps need false).2, true) = _; rw [← e3]; rfl⟩
        · rw [decide_eq_false (fun h => hex ((some_iff g hn.1).2 h)), sort_nil hex]
          exact ⟨_, rfl, rfl⟩
/-! ### rolls: both find the same list -/
theorem cmp_cons (j : Int) (a b : List Int) : cmpL (j :: a) (j :: b) = cmpL a b := by rw [cmpL, beq_self_eq_true]; rfl
theorem cmp_lt {x y : Int} (h : x < y) (a b : List Int) : cmpL (x :: a) (y :: b) = -1 := by
  rw [cmpL, show (x == y) = false from beq_eq_false_iff_ne.2 (by omega), decide_eq_true h]; rfl
theorem lvR_pw {cv m : Nat → Int} {n : Nat} : ∀ (d k : Nat) (s : Int), (lvR cv m n d k s).Pairwise (fun x y => cmpL (toI x.1) (toI y.1) < 0)
  | 0, k, s => by
    unfold lvR
    split
    · exact List.pairwise_singleton _ _
    · exact List.Pairwise.nil
  | d + 1, k, s => by
    unfold lvR
    split
    · exact List.pairwise_singleton _ _
    · rw [List.pairwise_flatMap]
      refine ⟨fun j _ => ?_, ?_⟩
      · rw [List.pairwise_map]
        refine (lvR_pw (cv := cv) (m := m) (n := n) d (j + 1) (s - cv j)).imp fun {x y} h => ?_
        show cmpL ((j : Int) :: toI x.1) ((j : Int) :: toI y.1) < 0
        rw [cmp_cons]; exact h
      · refine (List.pairwise_lt_range' (s := k) (n := n - k)).imp fun {i j} hij x hx y hy => ?_
        obtain ⟨x', _, rfl⟩ := List.mem_map.1 hx
        obtain ⟨y', _, rfl⟩ := List.mem_map.1 hy
        show cmpL ((i : Int) :: toI x'.1) ((j : Int) :: toI y'.1) < 0
        rw [cmp_lt (by omega)]; decide
theorem sortR_pw (xs : List (List Int × Int)) : (sortR xs).Pairwise (fun a b => cmpL a.1 b.1 ≤ 0) := by
  unfold sortR
  refine (List.pairwise_mergeSort (le := fun a b : List Int × Int => !(decide (cmpL b.1 a.1 < 0))) (fun a b c h1 h2 => ?_) (fun a b => ?_) xs).imp fun {a b} h => ?_
  · simp only [Bool.not_eq_true', decide_eq_false_iff_not] at h1 h2 ⊢
    have a1 := cmpL_anti a.1 b.1
    have a2 := cmpL_anti b.1 c.1
    have a3 := cmpL_anti a.1 c.1
    have := (cmpL_trans a.1 b.1 c.1 (by omega) (by omega)).1
    omega
  · have a1 := cmpL_anti a.1 b.1
    simp only [Bool.or_eq_true, Bool.not_eq_true', decide_eq_false_iff_not]
    omega
  · simp only [Bool.not_eq_true', decide_eq_false_iff_not] at h
    have a1 := cmpL_anti a.1 b.1
    omega
theorem srch_first {R : List Int} (g : GoodR R) {steps need : Int} (hn : 1 ≤ need ∧ need ≤ 100) (len : Bool) {pre post : List (List Int × Int)} {y : List Int × Int}
    (e1 : sortR (allR R need steps 0 (2 ^ R.length)) = pre ++ y :: post) (e3 : ∀ x, x ∈ pre → fR len y < fR len x) (e4 : ∀ x, x ∈ post → fR len y ≤ fR len x) :
    (srch R steps need len).1 = y.1 ∧ (srch R steps need len).2 = fR len y ∧ ∃ b, b < 2 ^ R.length ∧ okR R need steps b = true ∧ chR R b = y := by
  have hperm := sortR_perm (allR R need steps 0 (2 ^ R.length))
  have hm1 := fun j => (mR_bd g len j).1
  have hymem : y ∈ allR R need steps 0 (2 ^ R.length) := hperm.mem_iff.1 (by rw [e1]; simp)
  have hleast : ∀ x, x ∈ allR R need steps 0 (2 ^ R.length) → fR len y ≤ fR len x := fun x hx => by
    have := hperm.mem_iff.2 hx
    rw [e1] at this
    rcases List.mem_append.1 this with h | h
    · exact Int.le_of_lt (e3 x h)
    · rcases List.mem_cons.1 h with h | h
      · subst h; exact Int.le_refl _
      · exact e4 x h
  obtain ⟨b, hb, hok, rfl⟩ := allR_mem.1 hymem
  have hsum := of_decide_eq_true hok
  obtain ⟨x, x1, x2, x3⟩ := lvR_of (cv := cvR R need) (n := R.length) hm1 9 0 steps (selR b 0 R.length) (by have := g.hi; omega) (selR_pw _ _ _) (fun j hj => ⟨Nat.zero_le _, (selR_mem.1 hj).1⟩) hsum
  -- what a leaf tells is a choice
  have leaf : ∀ q, q ∈ lvR (cvR R need) (mR R len) R.length 9 0 steps → ∃ c, chR R c ∈ allR R need steps 0 (2 ^ R.length) ∧ (chR R c).1 = toI q.1 ∧ q.2 = fR len (chR R c) := fun q hq => by
    obtain ⟨q1, q2, q3, q4⟩ := lvR_in 9 0 steps q hq
    obtain ⟨c, hc, hce⟩ := selR_of (n := R.length) q1 (fun j hj => (q2 j hj).2)
    refine ⟨c, allR_mem.2 ⟨c, hc, by unfold okR; rw [hce]; exact decide_eq_true q4, rfl⟩, ?_, ?_⟩
    · show toI (selR c 0 R.length) = _
      rw [hce]
    · rw [fR_ch, hce, q3]
  have hfx : fR len (chR R b) = sumR (mR R len) (selR b 0 R.length) := fR_ch R len b
  obtain ⟨cx, cx1, cx2, cx3⟩ := leaf x x1
  have hxb : x.1 = selR b 0 R.length ∧ x.2 = fR len (chR R b) := by
    have := hleast _ cx1
    rcases x3 with h | h
    · exact ⟨h, by rw [hfx, ← h]; exact (lvR_in 9 0 steps x x1).2.2.1⟩
    · omega
  have hpos : ∀ z, z ∈ (lvR (cvR R need) (mR R len) R.length 9 0 steps).map (tells [] 0) → 0 ≤ z.2 := fun z hz => by
    obtain ⟨q, hq, rfl⟩ := List.mem_map.1 hz
    show 0 ≤ 0 + q.2
    rw [(lvR_in 9 0 steps q hq).2.2.1]
    have := sumR_nonneg (f := mR R len) (fun j => by have := hm1 j; omega) q.1
    omega
  have hin : tells [] 0 x ∈ (lvR (cvR R need) (mR R len) R.length 9 0 steps).map (tells [] 0) := List.mem_map.2 ⟨x, x1, rfl⟩
  have hpw : ((lvR (cvR R need) (mR R len) R.length 9 0 steps).map (tells [] 0)).Pairwise (fun x y => cmpL x.1 y.1 < 0) := by
    rw [List.pairwise_map]
    exact lvR_pw 9 0 steps
  unfold srch
  rcases updR_min _ ([], -1) hpos (.inl rfl) with ⟨h1, _⟩ | ⟨_, h1, _⟩ | ⟨pr, z, ps, h1, h2, _, h4, h5⟩
  · rw [h1] at hin; cases hin
  · exact absurd h1 (by decide)
  · rw [h2]
    have hz : z ∈ (lvR (cvR R need) (mR R len) R.length 9 0 steps).map (tells [] 0) := by rw [h1]; simp
    obtain ⟨q, hq, hqz⟩ := List.mem_map.1 hz
    obtain ⟨c, c1, c2, c3⟩ := leaf q hq
    have z1 : z.1 = toI q.1 := by rw [← hqz]; rfl
    have z2 : z.2 = fR len (chR R c) := by
      rw [← hqz, ← c3]
      show 0 + q.2 = _; omega
    have t1 : (tells [] 0 x).1 = (chR R b).1 := by
      show toI x.1 = toI (selR b 0 R.length)
      rw [hxb.1]
    have t2 : (tells [] 0 x).2 = fR len (chR R b) := by
      show 0 + x.2 = _
      rw [hxb.2]; omega
    have l1 := hleast _ c1
    -- the leaf of the best choice does not stand ahead of z
    have l2 : z.2 = fR len (chR R b) ∧ cmpL z.1 (chR R b).1 ≤ 0 := by
      rw [h1] at hin hpw
      rcases List.mem_append.1 hin with h | h
      · have := h4 _ h; omega
      · rcases List.mem_cons.1 h with h | h
        · rw [← h, t1, cmpL_self]; exact ⟨t2, Int.le_refl _⟩
        · have a := h5 _ h
          have hp := (List.pairwise_cons.1 (List.pairwise_append.1 hpw).2.1).1 _ h
          rw [t1] at hp
          exact ⟨by omega, Int.le_of_lt hp⟩
    -- nor z's choice ahead of the best
    have l3 : cmpL (chR R b).1 z.1 ≤ 0 := by
      have hs := sortR_pw (allR R need steps 0 (2 ^ R.length))
      have hm := hperm.mem_iff.2 c1
      rw [e1] at hs hm
      rw [z1, ← c2]
      rcases List.mem_append.1 hm with h | h
      · have := e3 _ h; omega
      · rcases List.mem_cons.1 h with h | h
        · rw [h, cmpL_self]; exact Int.le_refl _
        · exact (List.pairwise_cons.1 (List.pairwise_append.1 hs).2.1).1 _ h
    have a := cmpL_anti z.1 (chR R b).1
    refine ⟨cmpL_eq _ _ (by omega), l2.1, b, hb, hok, rfl⟩
/-! ### plans of carpets (plain) -/
def stepsOf (cv : Nat → Nat) (n : Nat) : List Int := (List.range n).flatMap fun k => List.replicate (cv k) (k : Int)
theorem stepsOf_succ (cv : Nat → Nat) (n : Nat) : stepsOf cv (n + 1) = stepsOf cv n ++ List.replicate (cv n) (n : Int) := by
  unfold stepsOf
  rw [List.range_succ, List.flatMap_append]
  simp
theorem stepsOf_mem {cv : Nat → Nat} : ∀ {n : Nat} {x : Int}, x ∈ stepsOf cv n → ∃ k : Nat, k < n ∧ x = k
  | 0, x, h => by simp [stepsOf] at h
  | n + 1, x, h => by
    rw [stepsOf_succ, List.mem_append] at h
    rcases h with h | h
    · obtain ⟨k, h1, h2⟩ := stepsOf_mem h
      exact ⟨k, by omega, h2⟩
    · exact ⟨n, by omega, (List.mem_replicate.1 h).2⟩
theorem stepsOf_pw (cv : Nat → Nat) : ∀ n : Nat, (stepsOf cv n).Pairwise (· ≤ ·)
  | 0 => List.Pairwise.nil
  | n + 1 => by
    rw [stepsOf_succ, List.pairwise_append]
    refine ⟨stepsOf_pw cv n, ?_, fun a ha b hb => ?_⟩
    · rw [List.pairwise_replicate]; exact .inr (Int.le_refl _)
    · obtain ⟨k, h1, rfl⟩ := stepsOf_mem ha
      rw [(List.mem_replicate.1 hb).2]; omega
theorem stepsOf_len (cv : Nat → Nat) : ∀ n : Nat, (stepsOf cv (n + 1)).length = (stepsOf cv n).length + cv n := fun n => by
  rw [stepsOf_succ, List.length_append, List.length_replicate]
theorem take_push (l : List Int) (s : Nat) (x : Int) : (if (l.take s).length < s then l.take s ++ [x] else l.take s) = (l ++ [x]).take s := by
  rw [List.length_take]
  by_cases h : l.length < s
  · rw [if_pos (by omega), List.take_of_length_le (by omega), List.take_of_length_le (by rw [List.length_append, List.length_singleton]; omega)]
  · rw [if_neg (by omega), List.take_append_of_le_length (by omega)]
theorem take_rep (l : List Int) (s : Nat) (x : Int) (h : ¬ (l.take s).length < s) (n : Nat) : (l ++ List.replicate n x).take s = l.take s := by
  rw [List.length_take] at h
  rw [List.take_append_of_le_length (by omega)]
theorem pw_get {l : List Int} (h : l.Pairwise (· ≤ ·)) {i : Nat} (hi : i + 1 < l.length) : l[i] ≤ l[i + 1] := List.pairwise_iff_getElem.1 h i (i + 1) (by omega) hi (by omega)
theorem stepsOf_sum (cv : Nat → Nat) (f : Nat → Int) (hf : ∀ k, f k = cv k) : ∀ n, ((stepsOf cv n).length : Int) = sumR f (List.range' 0 n)
  | 0 => rfl
  | n + 1 => by
    rw [stepsOf_len, List.range'_1_concat, sumR_append]
    have := stepsOf_sum cv f hf n
    have h := hf n
    simp only [Nat.zero_add, sumR]
    push_cast
    omega
/-! ### rolls: the best choices -/
theorem bests {R : List Int} (g : GoodR R) {steps need : Int} (hs : 1 ≤ steps ∧ steps ≤ 100) (hn : 1 ≤ need ∧ need ≤ 100) (len : Bool) (hex : ∃ b, b < 2 ^ R.length ∧ okR R need steps b = true) :
    ∃ b, b < 2 ^ R.length ∧ okR R need steps b = true ∧ (sortR (allR R need steps 0 (2 ^ R.length))).foldl (bstS (fR len)) (([], 0), false) = (chR R b, true) ∧ srch R steps need len = ((chR R b).1, fR len (chR R b)) ∧
      ∀ c, c < 2 ^ R.length → okR R need steps c = true → fR len (chR R b) ≤ fR len (chR R c) := by
  obtain ⟨b0, hb0, hok0⟩ := hex
  have hperm := sortR_perm (allR R need steps 0 (2 ^ R.length))
  have hne : sortR (allR R need steps 0 (2 ^ R.length)) ≠ [] := fun e => by
    have : chR R b0 ∈ sortR (allR R need steps 0 (2 ^ R.length)) := hperm.mem_iff.2 (allR_mem.2 ⟨b0, hb0, hok0, rfl⟩)
    rw [e] at this; cases this
  obtain ⟨pre, y, post, e1, e2, e3, e4⟩ := bst_first (fR len) _ hne
  obtain ⟨s1, s2, b, hb, hok, rfl⟩ := srch_first g hn len e1 e3 e4
  refine ⟨b, hb, hok, e2, Prod.ext s1 s2, fun c hc hokc => ?_⟩
  have := hperm.mem_iff.2 (allR_mem.2 ⟨c, hc, hokc, rfl⟩)
  rw [e1] at this
  rcases List.mem_append.1 this with h | h
  · exact Int.le_of_lt (e3 _ h)
  · rcases List.mem_cons.1 h with h | h
    · rw [h]; exact Int.le_refl _
    · exact e4 _ h
/-- what the laws ask of a choice -/
structure Cho (R : List Int) (steps need : Int) (l : List Int) : Prop where
  pw : l.Pairwise (· < ·)
  mem : ∀ x, x ∈ l → ∃ k : Nat, k < R.length ∧ x = k
  len : l.length ≤ R.length
theorem cho_of {R : List Int} {steps need : Int} (b : Nat) : Cho R steps need (chR R b).1 := by
  refine ⟨?_, fun x hx => ?_, ?_⟩
  · show (toI (selR b 0 R.length)).Pairwise (· < ·)
    unfold toI
    rw [List.pairwise_map]
    exact (selR_pw b 0 R.length).imp fun h => by omega
  · obtain ⟨k, hk, rfl⟩ := List.mem_map.1 hx
    exact ⟨k, (selR_mem.1 hk).1, rfl⟩
  · show (toI (selR b 0 R.length)).length ≤ _
    unfold toI
    rw [List.length_map]
    exact selR_len b 0 R.length
/-! joins of a plan -/
def jnB (p : List Int) (k : Nat) : Bool := !(p.getD (k - 1) 0 == p.getD (k - 2) 0)
def jnL (p : List Int) : List Int := numF (jnB p) 2 (p.length - 1)
theorem jn_lt {p : List Int} {m : Nat} (h0 : p ≠ []) (hp : p.Pairwise (· ≤ ·)) (hb : ∀ x, x ∈ p → 0 ≤ x ∧ x < m) : (jnL p).length < m := by
  have hl : 0 < p.length := List.length_pos_iff.2 h0
  have gd : ∀ i (h : i < p.length), p.getD i 0 = p[i] := fun i h => by simp [List.getD, List.getElem?_eq_getElem h]
  have hg : ∀ i, i < p.length → 0 ≤ p.getD i 0 ∧ p.getD i 0 < m := fun i hi => by
    rw [gd _ hi]; exact hb _ (List.getElem_mem hi)
  have hj := joins_cnt (fun i => p.getD i 0) (p.length - 1) (fun i hi => by
    rw [gd _ (by omega), gd _ (by omega)]
    exact List.pairwise_iff_getElem.1 hp i (i + 1) (by omega) (by omega) (by omega))
  have e : (jnL p).length = ((List.range' 1 (p.length - 1)).filter (fun i => !(p.getD i 0 == p.getD (i - 1) 0))).length := by
    unfold jnL numF
    rw [List.length_map, show List.range' 2 (p.length - 1) = (List.range' 1 (p.length - 1)).map (1 + ·) from (List.map_add_range' (a := 1) 1 (p.length - 1) 1).symm, List.filter_map, List.length_map]
    congr 1
    refine List.filter_congr fun i hi => ?_
    show jnB p (1 + i) = _
    unfold jnB
    rw [show 1 + i - 1 = i from by omega, show 1 + i - 2 = i - 1 from by omega]
  have a1 := hg 0 hl
  have a2 := hg (p.length - 1) (by omega)
  rw [e]
  omega
/-! the greatest number of which something holds -/
def gtN (f : Nat → Bool) : Nat → Option Nat
  | 0 => none
  | n + 1 => if f (n + 1) then some (n + 1) else gtN f n
theorem gtN_some {f : Nat → Bool} : ∀ {n k : Nat}, gtN f n = some k → f k = true ∧ 1 ≤ k ∧ k ≤ n ∧ ∀ j, k < j → j ≤ n → f j = false
  | 0, k, h => by cases h
  | n + 1, k, h => by
    unfold gtN at h
    by_cases c : f (n + 1) = true
    · rw [if_pos c] at h
      cases h
      exact ⟨c, by omega, Nat.le_refl _, fun j h1 h2 => by omega⟩
    · rw [if_neg c] at h
      obtain ⟨h1, h2, h3, h4⟩ := gtN_some h
      refine ⟨h1, h2, by omega, fun j g1 g2 => ?_⟩
      by_cases e : j = n + 1
      · rw [e]; exact Bool.eq_false_iff.2 c
      · exact h4 j g1 (by omega)
/-! what is left of rolls -/
theorem rest_sum {R : List Int} (need : Int) : ∀ l : List Nat, sumR (fun j => rAt R j % need) l + need * sumR (cvR R need) l = sumR (rAt R) l
  | [] => by simp [sumR]
  | j :: l => by
    have ih := rest_sum (R := R) need l
    have h := Int.emod_add_mul_ediv (rAt R j) need
    have e : cvR R need j = rAt R j / need := rfl
    unfold sumR
    rw [e, Int.mul_add]
    omega
/-! a plan -/
def plN (R : List Int) (need : Int) (k : Nat) : Nat := (cvR R need k).toNat
noncomputable def plL (R : List Int) (steps need : Int) : List Int := (stepsOf (plN R need) R.length).take steps.toNat
theorem pl_facts {R : List Int} (g : GoodR R) {steps need : Int} (hs : 1 ≤ steps ∧ steps ≤ 100) (hn : 1 ≤ need) (h : sumR (cvR R need) (List.range' 0 R.length) ≥ steps) :
    ((plL R steps need).length : Int) = steps ∧ (plL R steps need).Pairwise (· ≤ ·) ∧ ∀ x, x ∈ plL R steps need → 0 ≤ x ∧ x < (R.length : Int) := by
  have hlen := stepsOf_sum (plN R need) (cvR R need) (fun k => by
    unfold plN
    have := (cvR_bd g hn k).1
    omega) R.length
  refine ⟨?_, (stepsOf_pw _ _).sublist (List.take_sublist _ _), fun x hx => ?_⟩
  · unfold plL
    rw [List.length_take]
    omega
  · obtain ⟨k, hk, rfl⟩ := stepsOf_mem (List.mem_of_mem_take hx)
    omega
end Go.Proofs.YtddiigejhjfhdaaGreatDoor.V
