/- Functions of the program, as plain functions. No condition. -/
import Derived.Test.YthenlapjhlljnaaG3
set_option linter.unusedVariables false
set_option linter.unusedSimpArgs false
set_option maxRecDepth 100000
namespace Go.Proofs.Ythenlapjhlljnaa.V
open Go Go.Ev Go.Proofs
/-! ### divisors and fractions -/
theorem within_eq (x lo hi : Int) : i_within x lo hi = s_l1In x lo hi := by unfold i_within s_l1In; simp
theorem l1In_iff {x lo hi : Int} : s_l1In x lo hi = true ↔ lo ≤ x ∧ x ≤ hi := by
  unfold s_l1In
  by_cases h1 : lo ≤ x <;> by_cases h2 : x ≤ hi <;> simp [h1, h2]
theorem l1In_not {x lo hi : Int} (h : s_l1In x lo hi = false) : ¬ (lo ≤ x ∧ x ≤ hi) := fun k => by rw [l1In_iff.2 k] at h; cases h
theorem gcd_loop : ∀ (b a : Nat), i_gcd_L1 (a : Int) (b : Int) = some ((Nat.gcd a b : Nat) : Int) := by
  intro b
  induction b using Nat.strongRecOn with
  | ind b ih =>
    intro a
    rw [i_gcd_u1, i_gcd_t1]
    by_cases hb : b = 0
    · subst hb
      simp
    · have h0 : ((b : Int) == 0) = false := by rw [beq_eq_false_iff_ne]; omega
      have h1 : ((b : Int) != 0) = true := by rw [bne, h0]; rfl
      have h2 : Int.tmod (a : Int) (b : Int) = ((a % b : Nat) : Int) := by
        rw [Int.tmod_eq_emod_of_nonneg (by omega)]; rfl
      rw [h0, h1, h2]
      simp only [cond_true, cond_false]
      rw [ih (a % b) (Nat.mod_lt a (by omega)) b]
      congr 2
      rw [Nat.gcd_comm b, ← Nat.gcd_rec, Nat.gcd_comm]
theorem gcd_eq (a b : Nat) : i_gcd (a : Int) (b : Int) = some ((Nat.gcd a b : Nat) : Int) := gcd_loop b a
theorem part_eq (n d : Nat) (hd : 0 < d) (hn : n ≤ 4000000000000000000) (hd' : d ≤ 4000000000000000000) : i_part (n : Int) (d : Int) = some (((n / Nat.gcd n d : Nat) : Int), ((d / Nat.gcd n d : Nat) : Int), true) := by
  unfold i_part
  have h1 : ¬ ((d : Int) ≤ 0) := by omega
  have hg : 0 < Nat.gcd n d := Nat.gcd_pos_of_pos_right n hd
  have h2 : (((Nat.gcd n d : Nat) : Int) == 0) = false := by rw [beq_eq_false_iff_ne]; omega
  have e1 : Int.tdiv (n : Int) ((Nat.gcd n d : Nat) : Int) = ((n / Nat.gcd n d : Nat) : Int) := by rw [Int.tdiv_eq_ediv_of_nonneg (by omega)]; rfl
  have e2 : Int.tdiv (d : Int) ((Nat.gcd n d : Nat) : Int) = ((d / Nat.gcd n d : Nat) : Int) := by rw [Int.tdiv_eq_ediv_of_nonneg (by omega)]; rfl
  have b1 : n / Nat.gcd n d ≤ n := Nat.div_le_self _ _
  have b2 : d / Nat.gcd n d ≤ d := Nat.div_le_self _ _
  rw [decide_eq_false h1, gcd_eq]
  have w : ∀ q : Nat, q ≤ 4000000000000000000 → IntKind.wrap .i64 (q : Int) = q := fun q hq => wrapI (by omega) (by omega)
  simp only [cond_false, Option.bind_some, h2, e1, e2]
  rw [w _ (by omega), w _ (by omega)]
theorem part_mul (n d k : Nat) (hk : 0 < k) : (k * n) / Nat.gcd (k * n) (k * d) = n / Nat.gcd n d ∧ (k * d) / Nat.gcd (k * n) (k * d) = d / Nat.gcd n d := by
  rw [Nat.gcd_mul_left]
  exact ⟨Nat.mul_div_mul_left _ _ hk, Nat.mul_div_mul_left _ _ hk⟩
/-! ### lists that are compared -/
theorem wSame_self {a : List Int} (ha : a.length ≤ 100000) : w_wSame a a = some true := by
  unfold w_wSame w_wSame_t0
  rw [bne_self_eq_false, cond_false]
  refine drop_ind a (fun i l => w_wSame_L1 a a (a.length : Int) (i : Int) = some true) ?_ (fun i hi ih => ?_)
  · have : ¬ ((a.length : Int) < a.length) := by omega
    rw [w_wSame_u1, w_wSame_t1, decide_eq_false this]; rfl
  · have c1 : (i : Int) < a.length := by omega
    rw [w_wSame_u1, w_wSame_t1, decide_eq_true c1, decide_eq_true (Int.natCast_nonneg i), rdk_get (k := kint) hi, bne_self_eq_false, wrapI (n := (i : Int) + 1) (by omega) (by omega)]
    exact ih
theorem wRises_ok {a : List Int} (ha : a.length ≤ 100000) (h : ∀ i (hi : i + 1 < a.length), a[i] < a[i + 1]) : w_wRises a = some true := by
  unfold w_wRises w_wRises_t0
  have go : ∀ (d k : Nat), k + d = a.length → 1 ≤ k → w_wRises_L1 a (k : Int) = some true := by
    intro d
    induction d with
    | zero =>
      intro k hk _
      have : ¬ ((k : Int) < a.length) := by omega
      rw [w_wRises_u1, w_wRises_t1, decide_eq_false this]; rfl
    | succ d ih =>
      intro k hk h1
      obtain ⟨j, rfl⟩ : ∃ j, k = j + 1 := ⟨k - 1, by omega⟩
      have c1 : ((j + 1 : Nat) : Int) < a.length := by omega
      have c2 : (j : Int) < a.length := by omega
      have hw : IntKind.wrap .i64 (((j + 1 : Nat) : Int) - 1) = (j : Int) := by rw [wrapI (by omega) (by omega)]; omega
      have hw2 : IntKind.wrap .i64 (((j + 1 : Nat) : Int) + 1) = ((j + 1 + 1 : Nat) : Int) := by rw [wrapI (by omega) (by omega)]; omega
      have hlt := h j (by omega)
      have c3 : ¬ (a[j] ≥ a[j + 1]) := by omega
      rw [w_wRises_u1, w_wRises_t1, hw, hw2, decide_eq_true c1, decide_eq_true c2, decide_eq_true (Int.natCast_nonneg _), decide_eq_true (Int.natCast_nonneg _), rdk_get (k := kint) (by omega : j < a.length), rdk_get (k := kint) (by omega : j + 1 < a.length), decide_eq_false c3]
      exact ih (j + 1 + 1) (by omega) (by omega)
  by_cases h0 : 1 ≤ a.length
  · exact go (a.length - 1) 1 (by omega) (by omega)
  · have : ¬ ((1 : Int) < a.length) := by omega
    rw [w_wRises_u1, w_wRises_t1, decide_eq_false this]; rfl
theorem wHas_eq {a : List Int} (ha : a.length ≤ 100000) (n : Int) : w_wHas a n = some (decide (n ∈ a)) := by
  unfold w_wHas w_wHas_t0
  refine drop_ind a (fun i l => w_wHas_L1 a n (a.length : Int) (i : Int) = some (decide (n ∈ l))) ?_ (fun i hi ih => ?_)
  · have : ¬ ((a.length : Int) < a.length) := by omega
    rw [w_wHas_u1, w_wHas_t1, decide_eq_false this]; simp
  · have c1 : (i : Int) < a.length := by omega
    rw [w_wHas_u1, w_wHas_t1, decide_eq_true c1, decide_eq_true (Int.natCast_nonneg i), rdk_get (k := kint) hi, wrapI (n := (i : Int) + 1) (by omega) (by omega)]
    simp only [cond_true]
    by_cases h : a[i] = n
    · rw [show (a[i] == n) = true from beq_iff_eq.2 h, decide_eq_true (show n ∈ a[i] :: a.drop (i + 1) from by rw [h]; exact List.mem_cons_self)]; rfl
    · rw [show (a[i] == n) = false from beq_eq_false_iff_ne.2 h, cond_false]
      have e : decide (n ∈ a[i] :: a.drop (i + 1)) = decide (n ∈ a.drop (i + 1)) := decide_eq_decide.2 ⟨fun m => (List.mem_cons.1 m).resolve_left (fun e => h e.symm), fun m => List.mem_cons_of_mem _ m⟩
      rw [e]
      exact ih
/-! ### spirals: numbers -/
structure GoodS (S R r : Int) : Prop where
  s1 : 1 ≤ S
  s2 : S ≤ 400
  r1 : 3 ≤ R
  r2 : R ≤ 60
  h1 : 1 ≤ r
  h2 : r ≤ 300
theorem isS_eq (S R r : Int) : i_IsSpiral S R r = s_spGood S R r := by
  unfold i_IsSpiral s_spGood
  simp only [within_eq]
theorem good_iff {S R r : Int} : s_spGood S R r = true ↔ GoodS S R r := by
  unfold s_spGood
  constructor
  · intro h
    cases h1 : s_l1In S 1 400
    · rw [h1] at h; cases h
    · cases h2 : s_l1In R 3 60
      · rw [h1, h2] at h; cases h
      · cases h3 : s_l1In r 1 300
        · rw [h1, h2, h3] at h; cases h
        · have g1 := l1In_iff.1 h1
          have g2 := l1In_iff.1 h2
          have g3 := l1In_iff.1 h3
          exact ⟨g1.1, g1.2, g2.1, g2.2, g3.1, g3.2⟩
  · intro g
    rw [l1In_iff.2 ⟨g.s1, g.s2⟩, l1In_iff.2 ⟨g.r1, g.r2⟩, l1In_iff.2 ⟨g.h1, g.h2⟩]; rfl
theorem step_iff {S R r k : Int} : s_spStep S R r k = true ↔ GoodS S R r ∧ 1 ≤ k ∧ k ≤ S := by
  unfold s_spStep
  cases h : s_spGood S R r
  · simp only [cond_false]
    constructor
    · intro h; cases h
    · rintro ⟨g, _⟩; rw [good_iff.2 g] at h; cases h
  · simp only [cond_true]
    rw [l1In_iff]
    exact ⟨fun k => ⟨good_iff.1 h, k⟩, fun k => k.2⟩
theorem has1_eq (S R r k : Int) : i_Spiral_has S R r [k] = some (s_spStep S R r k) := by
  unfold i_Spiral_has i_Spiral_has_t0
  rw [i_Spiral_has_u1, i_Spiral_has_t1, i_Spiral_has_u1, i_Spiral_has_t1, within_eq, isS_eq]
  unfold s_spStep
  show (bif !s_l1In k 1 S then some false else some (s_spGood S R r)) = _
  cases s_l1In k 1 S <;> cases s_spGood S R r <;> rfl
theorem has2_eq (S R r a b : Int) : i_Spiral_has S R r [a, b] = some (s_spStep S R r a && s_spStep S R r b) := by
  unfold i_Spiral_has i_Spiral_has_t0
  rw [i_Spiral_has_u1, i_Spiral_has_t1, i_Spiral_has_u1, i_Spiral_has_t1, i_Spiral_has_u1, i_Spiral_has_t1, within_eq, within_eq, isS_eq]
  unfold s_spStep
  show (bif !s_l1In a 1 S then some false else bif !s_l1In b 1 S then some false else some (s_spGood S R r)) = _
  cases s_l1In a 1 S <;> cases s_l1In b 1 S <;> cases s_spGood S R r <;> rfl
theorem R_ne {S R r : Int} (g : GoodS S R r) : (R == 0) = false := by rw [beq_eq_false_iff_ne]; have := g.r1; omega
theorem ang_val {k R : Int} (hk : 1 ≤ k) (hk' : k ≤ 400) (hR : 3 ≤ R) : Int.tmod (IntKind.wrap .i64 (k - 1)) R = (k - 1) % R := by
  rw [wrapI (by omega) (by omega), Int.tmod_eq_emod_of_nonneg (by omega)]
theorem ang_eq {S R r k : Int} (g : GoodS S R r) (hk : 1 ≤ k) (hk' : k ≤ S) : i_Spiral_angle S R r k = some ((k - 1) % R) := by
  unfold i_Spiral_angle
  rw [R_ne g, cond_false, ang_val hk (by have := g.s2; omega) g.r1]
theorem low_loop (n d : Int) (hn : 0 ≤ n) (hn' : n ≤ 1000000) (hd : 0 ≤ d) (hd' : d ≤ 1000000) : ∀ (b a : Nat), 0 < Nat.gcd a b → Nat.gcd a b ≤ 1000000 → s_spLow_L1 n d (a : Int) (b : Int) = some (n / ((Nat.gcd a b : Nat) : Int), d / ((Nat.gcd a b : Nat) : Int)) := by
  intro b
  induction b using Nat.strongRecOn with
  | ind b ih =>
    intro a hg hg'
    rw [s_spLow_u1, s_spLow_t1]
    by_cases hb : b = 0
    · subst hb
      rw [Nat.gcd_zero_right] at hg hg' ⊢
      have h0 : ((a : Int) == 0) = false := by rw [beq_eq_false_iff_ne]; omega
      have e1 : n / (a : Int) ≤ n := Int.ediv_le_self _ hn
      have e2 : d / (a : Int) ≤ d := Int.ediv_le_self _ hd
      have e3 : 0 ≤ n / (a : Int) := Int.ediv_nonneg hn (by omega)
      have e4 : 0 ≤ d / (a : Int) := Int.ediv_nonneg hd (by omega)
      rw [decide_eq_false (by omega), h0, Int.tdiv_eq_ediv_of_nonneg hn, Int.tdiv_eq_ediv_of_nonneg hd, wrapI (by omega) (by omega), wrapI (by omega) (by omega)]
      rfl
    · have h0 : ((b : Int) == 0) = false := by rw [beq_eq_false_iff_ne]; omega
      have h2 : Int.tmod (a : Int) (b : Int) = ((a % b : Nat) : Int) := by
        rw [Int.tmod_eq_emod_of_nonneg (by omega)]; rfl
      have e : Nat.gcd a b = Nat.gcd b (a % b) := by rw [Nat.gcd_comm b, ← Nat.gcd_rec, Nat.gcd_comm]
      rw [decide_eq_true (by omega), h0, h2, cond_true, cond_false, e]
      exact ih (a % b) (Nat.mod_lt a (by omega)) b (by rw [← e]; exact hg) (by rw [← e]; exact hg')
/-- a fraction in lowest terms -/
noncomputable def frN (n d : Int) : Int := n / ((Nat.gcd n.toNat d.toNat : Nat) : Int)
noncomputable def frD (n d : Int) : Int := d / ((Nat.gcd n.toNat d.toNat : Nat) : Int)
theorem gcd_bd {n d : Nat} (hd : 0 < d) : 0 < Nat.gcd n d ∧ Nat.gcd n d ≤ d := ⟨Nat.gcd_pos_of_pos_right n hd, Nat.gcd_le_right _ hd⟩
theorem low_eq {n d : Int} (hn : 0 ≤ n) (hn' : n ≤ 1000000) (hd : 0 < d) (hd' : d ≤ 1000000) : s_spLow n d = some (frN n d, frD n d) := by
  obtain ⟨n, rfl⟩ := Int.eq_ofNat_of_zero_le hn
  obtain ⟨d, rfl⟩ := Int.eq_ofNat_of_zero_le (Int.le_of_lt hd)
  have b := gcd_bd (n := n) (d := d) (by omega)
  unfold s_spLow s_spLow_t0 frN frD
  exact low_loop n d (by omega) (by omega) (by omega) (by omega) d n b.1 (by omega)
theorem part_fr {n d : Int} (hn : 0 ≤ n) (hn' : n ≤ 1000000) (hd : 0 < d) (hd' : d ≤ 1000000) : i_part n d = some (frN n d, frD n d, true) := by
  obtain ⟨n, rfl⟩ := Int.eq_ofNat_of_zero_le hn
  obtain ⟨d, rfl⟩ := Int.eq_ofNat_of_zero_le (Int.le_of_lt hd)
  rw [part_eq n d (by omega) (by omega) (by omega)]
  rfl
/-- what fractions in lowest terms are -/
theorem fr_spec {n d : Int} (hn : 0 ≤ n) (hd : 0 < d) : ∃ g : Int, 0 < g ∧ n = g * frN n d ∧ d = g * frD n d ∧ 0 ≤ frN n d ∧ 0 < frD n d ∧ Nat.gcd (frN n d).toNat (frD n d).toNat = 1 := by
  obtain ⟨n, rfl⟩ := Int.eq_ofNat_of_zero_le hn
  obtain ⟨d, rfl⟩ := Int.eq_ofNat_of_zero_le (Int.le_of_lt hd)
  have b := gcd_bd (n := n) (d := d) (by omega)
  have e1 : frN (n : Int) (d : Int) = ((n / Nat.gcd n d : Nat) : Int) := rfl
  have e2 : frD (n : Int) (d : Int) = ((d / Nat.gcd n d : Nat) : Int) := rfl
  have m1 : Nat.gcd n d * (n / Nat.gcd n d) = n := Nat.mul_div_cancel' (Nat.gcd_dvd_left n d)
  have m2 : Nat.gcd n d * (d / Nat.gcd n d) = d := Nat.mul_div_cancel' (Nat.gcd_dvd_right n d)
  have p : 0 < d / Nat.gcd n d := Nat.div_pos b.2 b.1
  refine ⟨((Nat.gcd n d : Nat) : Int), by omega, ?_, ?_, by rw [e1]; exact Int.natCast_nonneg _, by rw [e2]; exact Int.ofNat_lt.2 p, ?_⟩
  · rw [e1, ← Int.natCast_mul, m1]
  · rw [e2, ← Int.natCast_mul, m2]
  · rw [e1, e2, Int.toNat_natCast, Int.toNat_natCast]
    have h := Nat.gcd_mul_left (Nat.gcd n d) (n / Nat.gcd n d) (d / Nat.gcd n d)
    rw [m1, m2] at h
    exact Nat.eq_of_mul_eq_mul_left b.1 (by rw [Nat.mul_one]; exact h.symm)
theorem wIs_loop : ∀ (b a : Nat), w_wIs_L1 (a : Int) (b : Int) = some (((Nat.gcd a b : Nat) : Int) == 1) := by
  intro b
  induction b using Nat.strongRecOn with
  | ind b ih =>
    intro a
    rw [w_wIs_u1, w_wIs_t1]
    by_cases hb : b = 0
    · subst hb; rw [Nat.gcd_zero_right]; rfl
    · have h0 : ((b : Int) == 0) = false := by rw [beq_eq_false_iff_ne]; omega
      have h2 : Int.tmod (a : Int) (b : Int) = ((a % b : Nat) : Int) := by
        rw [Int.tmod_eq_emod_of_nonneg (by omega)]; rfl
      have e : Nat.gcd a b = Nat.gcd b (a % b) := by rw [Nat.gcd_comm b, ← Nat.gcd_rec, Nat.gcd_comm]
      rw [decide_eq_true (by omega), h0, h2, cond_true, cond_false, e]
      exact ih (a % b) (Nat.mod_lt a (by omega)) b
theorem fr_le {n d : Int} (hn : 0 ≤ n) (hd : 0 < d) : frN n d ≤ n ∧ frD n d ≤ d := ⟨Int.ediv_le_self _ hn, Int.ediv_le_self _ (Int.le_of_lt hd)⟩
theorem wIs_fr {n d : Int} (hn : 0 ≤ n) (hn' : n ≤ 1000) (hd : 0 < d) (hd' : d ≤ 1000) : w_wIs (frN n d) (frD n d) n d = some true := by
  obtain ⟨g, g0, h1, h2, h3, h4, h5⟩ := fr_spec hn hd
  obtain ⟨l1, l2⟩ := fr_le hn hd
  unfold w_wIs w_wIs_t0
  have e : frN n d * d = n * frD n d := by
    calc frN n d * d = frN n d * (g * frD n d) := by rw [← h2]
      _ = (g * frN n d) * frD n d := by rw [← Int.mul_assoc, Int.mul_comm (frN n d) g]
      _ = n * frD n d := by rw [← h1]
  rw [decide_eq_false (by omega), decide_eq_false (by omega), e, bne_self_eq_false]
  obtain ⟨a, ha⟩ := Int.eq_ofNat_of_zero_le h3
  obtain ⟨b, hb⟩ := Int.eq_ofNat_of_zero_le (Int.le_of_lt h4)
  have w := wIs_loop b a
  rw [ha, hb, Int.toNat_natCast, Int.toNat_natCast] at h5
  rw [h5] at w
  simp only [cond_false]
  rw [ha, hb, w]
  rfl
theorem AngleOf_s (S R r k : Int) : s_AngleOf S R r k = some (bif s_spStep S R r k then (frN ((k - 1) % R) R, frD ((k - 1) % R) R, true) else (0, 0, false)) := by
  unfold s_AngleOf
  cases h : s_spStep S R r k
  · rfl
  · obtain ⟨g, k1, k2⟩ := step_iff.1 h
    have := g.s2; have := g.r1; have := g.r2
    have m1 : 0 ≤ (k - 1) % R := Int.emod_nonneg _ (by omega)
    have m2 : (k - 1) % R < R := Int.emod_lt_of_pos _ (by omega)
    rw [R_ne g, ang_val k1 (by omega) g.r1, low_eq m1 (by omega) (by omega) (by omega)]
    rfl
theorem AngleOf_i (S R r k : Int) : i_AngleOf S R r k = s_AngleOf S R r k := by
  rw [AngleOf_s]
  unfold i_AngleOf
  rw [has1_eq, Option.bind_some]
  cases h : s_spStep S R r k
  · rfl
  · obtain ⟨g, k1, k2⟩ := step_iff.1 h
    have := g.s2; have := g.r1; have := g.r2
    have m1 : 0 ≤ (k - 1) % R := Int.emod_nonneg _ (by omega)
    have m2 : (k - 1) % R < R := Int.emod_lt_of_pos _ (by omega)
    rw [Bool.not_true, cond_false, ang_eq g k1 k2, Option.bind_some, part_fr m1 (by omega) (by omega) (by omega)]
    rfl
theorem TurnsOf_s (S R r : Int) : s_TurnsOf S R r = some (bif s_spGood S R r then (frN (S - 1) R, frD (S - 1) R, true) else (0, 0, false)) := by
  unfold s_TurnsOf
  cases h : s_spGood S R r
  · rfl
  · have g := good_iff.1 h
    have := g.s1; have := g.s2; have := g.r1; have := g.r2
    rw [wrapI (by omega) (by omega), low_eq (by omega) (by omega) (by omega) (by omega)]
    rfl
theorem TurnsOf_i (S R r : Int) : i_TurnsOf S R r = s_TurnsOf S R r := by
  rw [TurnsOf_s]
  unfold i_TurnsOf
  rw [isS_eq]
  cases h : s_spGood S R r
  · rfl
  · have g := good_iff.1 h
    have := g.s1; have := g.s2; have := g.r1; have := g.r2
    rw [wrapI (by omega) (by omega), part_fr (by omega) (by omega) (by omega) (by omega)]
    rfl
theorem HeadOver_i (S R r k : Int) : i_HeadOver S R r k = some (s_HeadOver S R r k) := by
  unfold i_HeadOver s_HeadOver
  rw [has1_eq, Option.bind_some]
  cases h : s_spStep S R r k
  · rfl
  · simp only [Bool.not_true, cond_false]
    cases decide (IntKind.wrap .i64 (k + R) > S) <;> rfl
theorem HeadOver_s (S R r k : Int) : s_HeadOver S R r k = bif s_spStep S R r k && decide (k + R ≤ S) then (R * r, true) else (0, false) := by
  unfold s_HeadOver
  cases h : s_spStep S R r k
  · rfl
  · obtain ⟨g, k1, k2⟩ := step_iff.1 h
    have := g.s2; have := g.r1; have := g.r2; have := g.h1; have := g.h2
    have b1 : R * r ≤ 60 * 300 := Int.mul_le_mul (by omega) (by omega) (by omega) (by omega)
    have b2 : 0 ≤ R * r := Int.mul_nonneg (by omega) (by omega)
    rw [wrapI (n := k + R) (by omega) (by omega), wrapI (n := R * r) (by omega) (by omega)]
    by_cases hk : k + R ≤ S
    · rw [decide_eq_false (show ¬ (k + R > S) by omega), decide_eq_true hk]; rfl
    · rw [decide_eq_true (show k + R > S by omega), decide_eq_false hk]; rfl
theorem Height_i (S R r k : Int) : i_HeightSpiral S R r k = some (s_HeightSpiral S R r k) := by
  unfold i_HeightSpiral s_HeightSpiral
  rw [has1_eq, Option.bind_some]
  cases s_spStep S R r k <;> rfl
theorem Height_s (S R r k : Int) : s_HeightSpiral S R r k = bif s_spStep S R r k then (k * r, true) else (0, false) := by
  unfold s_HeightSpiral
  cases h : s_spStep S R r k
  · rfl
  · obtain ⟨g, k1, k2⟩ := step_iff.1 h
    have := g.s2; have := g.h1; have := g.h2
    have b1 : k * r ≤ 400 * 300 := Int.mul_le_mul (by omega) (by omega) (by omega) (by omega)
    have b2 : 0 ≤ k * r := Int.mul_nonneg (by omega) (by omega)
    rw [wrapI (n := k * r) (by omega) (by omega)]
    rfl
theorem LeastRound_i (a b : Int) : i_LeastRound a b = s_LeastRound a b := by
  unfold i_LeastRound s_LeastRound s_l1Most
  simp only [within_eq]
  cases h1 : s_l1In a 1 300
  · rfl
  · cases h2 : s_l1In b 0 20000
    · rfl
    · simp only [Bool.not_true, cond_false]
      generalize IntKind.wrap .i64 (Int.tdiv (IntKind.wrap .i64 (IntKind.wrap .i64 (b + a) - 1)) a) = q
      have e : (bif decide (q > 3) then q else 3) = (bif decide ((3 : Int) > q) then 3 else q) := by
        by_cases h : q > 3
        · rw [decide_eq_true h, decide_eq_false (show ¬ ((3 : Int) > q) by omega)]; rfl
        · by_cases h' : (3 : Int) > q
          · rw [decide_eq_false h, decide_eq_true h']; rfl
          · rw [decide_eq_false h, decide_eq_false h']; show 3 = q; omega
      rw [e]
/-! ### spirals: lists of steps -/
def seg (p : Int → Bool) (k : Int) : Nat → List Int
  | 0 => []
  | n + 1 => bif p k then k :: seg p (k + 1) n else seg p (k + 1) n
theorem seg_mem {p : Int → Bool} {x : Int} : ∀ {n : Nat} {k : Int}, x ∈ seg p k n ↔ (k ≤ x ∧ x < k + n) ∧ p x = true
  | 0, k => by simp [seg]; omega
  | n + 1, k => by
    have ih := seg_mem (p := p) (x := x) (n := n) (k := k + 1)
    unfold seg
    cases h : p k
    · rw [cond_false, ih]
      constructor
      · rintro ⟨⟨a, b⟩, c⟩; exact ⟨⟨by omega, by omega⟩, c⟩
      · rintro ⟨⟨a, b⟩, c⟩
        have : x ≠ k := fun e => by subst e; rw [h] at c; cases c
        exact ⟨⟨by omega, by omega⟩, c⟩
    · rw [cond_true, List.mem_cons, ih]
      constructor
      · rintro (e | ⟨⟨a, b⟩, c⟩)
        · subst e; exact ⟨⟨by omega, by omega⟩, h⟩
        · exact ⟨⟨by omega, by omega⟩, c⟩
      · rintro ⟨⟨a, b⟩, c⟩
        by_cases e : x = k
        · exact .inl e
        · exact .inr ⟨⟨by omega, by omega⟩, c⟩
theorem seg_pair {p : Int → Bool} : ∀ {n : Nat} {k : Int}, (seg p k n).Pairwise (· < ·)
  | 0, k => .nil
  | n + 1, k => by
    unfold seg
    cases h : p k
    · rw [cond_false]; exact seg_pair
    · rw [cond_true]
      exact .cons (fun x hx => by have := (seg_mem.1 hx).1.1; omega) seg_pair
theorem seg_len {p : Int → Bool} : ∀ {n : Nat} {k : Int}, (seg p k n).length ≤ n
  | 0, k => Nat.le_refl _
  | n + 1, k => by
    unfold seg
    have := seg_len (p := p) (n := n) (k := k + 1)
    cases h : p k
    · rw [cond_false]; omega
    · rw [cond_true, List.length_cons]; omega
theorem seg_congr {p q : Int → Bool} : ∀ {n : Nat} {k : Int}, (∀ x, k ≤ x → x < k + n → p x = q x) → seg p k n = seg q k n
  | 0, k, _ => rfl
  | n + 1, k, h => by
    unfold seg
    rw [h k (by omega) (by omega), seg_congr (n := n) (fun x a b => h x (by omega) (by omega))]
/-- a loop that keeps those of which something holds -/
theorem seg_loop {β : Type} {f : List Int → Int → Option β} {S : Int} {p : Int → Bool} {fin : List Int → Option β}
    (hs : ∀ (l : List Int) (k : Int), 1 ≤ k → k ≤ S → l.length ≤ 100000 → f l k = bif p k then f (l ++ [k]) (k + 1) else f l (k + 1)) (he : ∀ l k, S < k → f l k = fin l) :
    ∀ (n : Nat) (k : Int) (l : List Int), 1 ≤ k → k + n = S + 1 → l.length + n ≤ 100000 → f l k = fin (l ++ seg p k n)
  | 0, k, l, hk, h, hl => by rw [he l k (by omega)]; simp [seg]
  | n + 1, k, l, hk, h, hl => by
    have ih := seg_loop hs he n (k + 1)
    rw [hs l k hk (by omega) (by omega)]
    unfold seg
    cases p k
    · rw [cond_false, cond_false]; exact ih l (by omega) (by omega) (by omega)
    · rw [cond_true, cond_true, ih (l ++ [k]) (by omega) (by omega) (by rw [List.length_append, List.length_singleton]; omega), List.append_assoc]; rfl
theorem pair_ext : ∀ {a b : List Int}, a.Pairwise (· < ·) → b.Pairwise (· < ·) → (∀ x, x ∈ a ↔ x ∈ b) → a = b
  | [], [], _, _, _ => rfl
  | [], y :: b, _, _, h => by have := (h y).2 (by simp); cases this
  | x :: a, [], _, _, h => by have := (h x).1 (by simp); cases this
  | x :: a, y :: b, ha, hb, h => by
    obtain ⟨h1, h2⟩ := List.pairwise_cons.1 ha
    obtain ⟨h3, h4⟩ := List.pairwise_cons.1 hb
    have e : x = y := by
      rcases List.mem_cons.1 ((h x).1 (by simp)) with e | e
      · exact e
      · rcases List.mem_cons.1 ((h y).2 (by simp)) with e' | e'
        · exact e'.symm
        · have a1 := h3 _ e; have a2 := h1 _ e'; omega
    subst e
    congr 1
    refine pair_ext h2 h4 fun z => ?_
    constructor
    · intro hz
      rcases List.mem_cons.1 ((h z).1 (List.mem_cons_of_mem _ hz)) with e | e
      · have := h1 _ hz; omega
      · exact e
    · intro hz
      rcases List.mem_cons.1 ((h z).2 (List.mem_cons_of_mem _ hz)) with e | e
      · have := h3 _ hz; omega
      · exact e
/-- numbers that are equally far apart -/
def apL (R : Int) (a : Int) : Nat → List Int
  | 0 => []
  | n + 1 => a :: apL R (a + R) n
theorem apL_len {R : Int} : ∀ {n : Nat} {a : Int}, (apL R a n).length = n
  | 0, _ => rfl
  | n + 1, a => by rw [apL, List.length_cons, apL_len]
theorem apL_get {R : Int} : ∀ {n : Nat} {a : Int} {i : Nat} (h : i < (apL R a n).length), (apL R a n)[i] = a + i * R
  | 0, a, i, h => by simp [apL] at h
  | n + 1, a, 0, h => by simp [apL]
  | n + 1, a, i + 1, h => by
    simp only [apL, List.getElem_cons_succ]
    rw [apL_get]
    rw [Int.natCast_succ, Int.add_mul, Int.one_mul]; omega
theorem apL_mem {R x : Int} : ∀ {n : Nat} {a : Int}, x ∈ apL R a n ↔ ∃ i : Nat, i < n ∧ x = a + i * R
  | 0, a => by simp [apL]
  | n + 1, a => by
    rw [apL, List.mem_cons, apL_mem]
    constructor
    · rintro (e | ⟨i, h1, h2⟩)
      · exact ⟨0, by omega, by simp [e]⟩
      · exact ⟨i + 1, by omega, by rw [Int.natCast_succ, Int.add_mul, Int.one_mul]; omega⟩
    · rintro ⟨i, h1, h2⟩
      cases i with
      | zero => left; simpa using h2
      | succ i => right; exact ⟨i, by omega, by rw [Int.natCast_succ, Int.add_mul, Int.one_mul] at h2; omega⟩
theorem apL_pair {R : Int} (hR : 0 < R) : ∀ {n : Nat} {a : Int}, (apL R a n).Pairwise (· < ·)
  | 0, _ => .nil
  | n + 1, a => by
    refine .cons (fun x hx => ?_) (apL_pair hR)
    obtain ⟨i, _, h⟩ := apL_mem.1 hx
    have : 0 ≤ (i : Int) * R := Int.mul_nonneg (by omega) (by omega)
    omega
theorem bleT {l : List Int} (h : l.length ≤ 100000) : Nat.ble (l.length + 1) 4294967296 = true := by rw [ble_dec]; exact decide_eq_true (by omega)
/-- the steps above -/
def abP (R k x : Int) : Bool := decide (x > k) && decide ((x - 1) % R = (k - 1) % R)
theorem above_c1 {S R r x k : Int} (g : GoodS S R r) (hx : 1 ≤ x) (hx' : x ≤ S) (hk : 1 ≤ k) (hk' : k ≤ S) : i_StepsAbove_c1 x k S R r = some (abP R k x, k, S, R, r) := by
  unfold i_StepsAbove_c1 abP
  rw [ang_eq g hx hx', ang_eq g hk hk']
  by_cases h : x > k
  · rw [decide_eq_true h]
    simp only [Option.bind_some, cond_true, Bool.true_and]
    rfl
  · rw [decide_eq_false h]; rfl
/-! ### steps above, steps opposite -/
noncomputable def aboveL (S R k : Int) : List Int := seg (abP R k) 1 S.toNat
theorem above_i {S R r k : Int} (h : s_spStep S R r k = true) : i_StepsAbove S R r k = some (aboveL S R k, true) := by
  obtain ⟨g, k1, k2⟩ := step_iff.1 h
  have := g.s1; have := g.s2
  unfold i_StepsAbove
  rw [has1_eq, h, Option.bind_some, Bool.not_true, cond_false]
  unfold i_Spiral_those__i_StepsAbove_c1 i_Spiral_those__i_StepsAbove_c1_t0
  rw [seg_loop (S := S) (p := abP R k) (f := fun l x => i_Spiral_those__i_StepsAbove_c1_L1 k S R r S R r l x) (fin := fun l => some (l, k, S, R, r)) (fun l x hx hx' hl => ?_) (fun l x hx => ?_) S.toNat 1 [] (by omega) (by omega) (by simp; omega)]
  · rfl
  · show i_Spiral_those__i_StepsAbove_c1_L1 k S R r S R r l x = _
    rw [i_Spiral_those__i_StepsAbove_c1_u1, i_Spiral_those__i_StepsAbove_c1_t1, decide_eq_true hx', cond_true, above_c1 g hx hx' k1 k2, Option.bind_some, bleT hl, wrapI (n := x + 1) (by omega) (by omega)]
    rfl
  · show i_Spiral_those__i_StepsAbove_c1_L1 k S R r S R r l x = _
    rw [i_Spiral_those__i_StepsAbove_c1_u1, i_Spiral_those__i_StepsAbove_c1_t1, decide_eq_false (by omega), cond_false]
theorem above_loop {S R r : Int} (g : GoodS S R r) : ∀ (n : Nat) (a : Int) (l : List Int), 1 ≤ a → a ≤ 1000 → a + n * R > S → (∀ i : Nat, i < n → a + i * R ≤ S) → l.length + n ≤ 1000 → s_StepsAbove_L1 S R r l a = some (l ++ apL R a n, true)
  | 0, a, l, h1, h2, h3, h4, hl => by
    rw [s_StepsAbove_u1, s_StepsAbove_t1, decide_eq_false (by simp at h3; omega), cond_false]; simp [apL]
  | n + 1, a, l, h1, h2, h3, h4, hl => by
    have := g.s2; have := g.r1; have := g.r2
    have h0 := h4 0 (by omega)
    simp at h0
    rw [Int.natCast_succ, Int.add_mul, Int.one_mul] at h3
    rw [s_StepsAbove_u1, s_StepsAbove_t1, decide_eq_true h0, cond_true, bleT (by omega), cond_true, wrapI (n := a + R) (by omega) (by omega), above_loop g n (a + R) (l ++ [a]) (by omega) (by omega) (by omega) (fun i hi => by
      have := h4 (i + 1) (by omega)
      rw [Int.natCast_succ, Int.add_mul, Int.one_mul] at this
      omega) (by rw [List.length_append, List.length_singleton]; omega), List.append_assoc]
    rfl
/-- how many are above -/
noncomputable def abN (S R k : Int) : Nat := ((S - k) / R).toNat
theorem abN_le {S R k : Int} (hR : 3 ≤ R) (hk : k ≤ S) (i : Nat) : i < abN S R k ↔ k + R + i * R ≤ S := by
  unfold abN
  have h0 : 0 ≤ (S - k) / R := Int.ediv_nonneg (by omega) (by omega)
  have e : (i < ((S - k) / R).toNat) ↔ ((i : Int) + 1 ≤ (S - k) / R) := by omega
  rw [e, Int.le_ediv_iff_mul_le (by omega), Int.add_mul, Int.one_mul]
  omega
theorem aboveL_eq {S R r k : Int} (g : GoodS S R r) (hk : 1 ≤ k) (hk' : k ≤ S) : aboveL S R k = apL R (k + R) (abN S R k) := by
  have := g.s1; have := g.s2; have := g.r1
  refine pair_ext seg_pair (apL_pair (by omega)) fun x => ?_
  unfold aboveL
  rw [seg_mem, apL_mem]
  unfold abP
  rw [Bool.and_eq_true, decide_eq_true_eq, decide_eq_true_eq]
  constructor
  · rintro ⟨⟨h1, h2⟩, h3, h4⟩
    have d : R ∣ (x - 1) - (k - 1) := Int.dvd_of_emod_eq_zero (Int.emod_eq_emod_iff_emod_sub_eq_zero.1 h4)
    obtain ⟨c, hc⟩ := d
    have hc1 : 1 ≤ c := by
      rcases Int.lt_or_le c 1 with q | q
      · have : R * c ≤ R * 0 := Int.mul_le_mul_of_nonneg_left (by omega) (by omega)
        omega
      · exact q
    have e : x = k + R + ((c.toNat - 1 : Nat) : Int) * R := by
      have : ((c.toNat - 1 : Nat) : Int) = c - 1 := by omega
      rw [this, Int.sub_mul, Int.one_mul, Int.mul_comm c R]; omega
    exact ⟨c.toNat - 1, (abN_le (by omega) hk' _).2 (by omega), e⟩
  · rintro ⟨i, h1, h2⟩
    have h3 := (abN_le (by omega) hk' i).1 h1
    have h4 : 0 ≤ (i : Int) * R := Int.mul_nonneg (by omega) (by omega)
    refine ⟨⟨by omega, by omega⟩, by omega, ?_⟩
    rw [Int.emod_eq_emod_iff_emod_sub_eq_zero]
    have : x - 1 - (k - 1) = R * ((i : Int) + 1) := by rw [Int.mul_add, Int.mul_one, Int.mul_comm R]; omega
    rw [this]
    exact Int.mul_emod_right _ _
theorem above_s {S R r k : Int} (h : s_spStep S R r k = true) : s_StepsAbove S R r k = some (aboveL S R k, true) := by
  obtain ⟨g, k1, k2⟩ := step_iff.1 h
  have := g.s1; have := g.s2; have := g.r1; have := g.r2
  unfold s_StepsAbove s_StepsAbove_t0
  have hN : abN S R k ≤ 400 := by
    unfold abN
    have : (S - k) / R ≤ S - k := Int.ediv_le_self _ (by omega)
    omega
  rw [h, Bool.not_true, cond_false, wrapI (n := k + R) (by omega) (by omega), aboveL_eq g k1 k2, above_loop g (abN S R k) (k + R) [] (by omega) (by omega) ?_ (fun i hi => (abN_le (by omega) k2 i).1 hi) (by simp; omega)]
  · rfl
  · have := (abN_le (R := R) (S := S) (by omega) k2 (abN S R k))
    omega
theorem above_no {S R r k : Int} (h : s_spStep S R r k = false) : i_StepsAbove S R r k = some ([], false) ∧ s_StepsAbove S R r k = some ([], false) := by
  unfold i_StepsAbove s_StepsAbove s_StepsAbove_t0
  rw [has1_eq, h]
  exact ⟨rfl, rfl⟩
/-- opposite steps -/
noncomputable def dist (a b : Int) : Int := if b - a > a - b then b - a else a - b
noncomputable def opP (R k x : Int) : Bool := 2 * (dist k x % R) == R
theorem dist_bd {a b : Int} (h1 : 1 ≤ a) (h2 : a ≤ 400) (h3 : 1 ≤ b) (h4 : b ≤ 400) : 0 ≤ dist a b ∧ dist a b ≤ 400 := by
  unfold dist; split <;> omega
theorem dist_comm (a b : Int) : dist a b = dist b a := by
  unfold dist; split <;> split <;> omega
theorem dist_i {a b : Int} (h1 : 1 ≤ a) (h2 : a ≤ 400) (h3 : 1 ≤ b) (h4 : b ≤ 400) : (bif decide (IntKind.wrap .i64 (b - a) > IntKind.wrap .i64 (a - b)) then IntKind.wrap .i64 (b - a) else IntKind.wrap .i64 (a - b)) = dist a b := by
  rw [wrapI (n := b - a) (by omega) (by omega), wrapI (n := a - b) (by omega) (by omega)]
  unfold dist
  by_cases h : b - a > a - b
  · rw [decide_eq_true h, if_pos h]; rfl
  · rw [decide_eq_false h, if_neg h]; rfl
theorem dist_s {a b : Int} (h1 : 1 ≤ a) (h2 : a ≤ 400) (h3 : 1 ≤ b) (h4 : b ≤ 400) : s_l1Abs (IntKind.wrap .i64 (a - b)) = dist a b := by
  unfold s_l1Abs s_l1Most
  rw [wrapI (n := a - b) (by omega) (by omega), wrapI (n := 0 - (a - b)) (by omega) (by omega)]
  unfold dist
  by_cases h : a - b > 0 - (a - b)
  · rw [decide_eq_true h]; show a - b = _; split <;> omega
  · rw [decide_eq_false h]; show 0 - (a - b) = _; split <;> omega
theorem two_mod (x R : Int) : (2 * x) % (2 * R) = 2 * (x % R) := Int.mul_emod_mul_of_pos _ _ (by omega)
theorem opp_i {S R r a b : Int} (g : GoodS S R r) (h1 : 1 ≤ a) (h2 : a ≤ S) (h3 : 1 ≤ b) (h4 : b ≤ S) : i_Spiral_opposite S R r a b = some (opP R a b) := by
  have := g.s2; have := g.r1; have := g.r2
  have d := dist_bd h1 (by omega) h3 (by omega)
  unfold i_Spiral_opposite opP
  rw [dist_i h1 (by omega) h3 (by omega), wrapI (n := 2 * R) (by omega) (by omega), wrapI (n := 2 * dist a b) (by omega) (by omega), Int.tmod_eq_emod_of_nonneg (by omega), two_mod]
  have hz : (2 * R == 0) = false := by rw [beq_eq_false_iff_ne]; omega
  rw [hz]; rfl
theorem opp_s {S R r a b : Int} (g : GoodS S R r) (h1 : 1 ≤ a) (h2 : a ≤ S) (h3 : 1 ≤ b) (h4 : b ≤ S) : s_spOpposite S R r a b = some (opP R a b) := by
  have := g.s2; have := g.r1; have := g.r2
  have d := dist_bd h1 (by omega) h3 (by omega)
  have m1 : 0 ≤ dist a b % R := Int.emod_nonneg _ (by omega)
  have m2 : dist a b % R < R := Int.emod_lt_of_pos _ (by omega)
  unfold s_spOpposite opP
  rw [dist_s h1 (by omega) h3 (by omega), Int.tmod_eq_emod_of_nonneg (by omega), wrapI (n := 2 * (dist a b % R)) (by omega) (by omega), R_ne g]; rfl
theorem opP_comm (R a b : Int) : opP R a b = opP R b a := by unfold opP; rw [dist_comm]
noncomputable def oppL (S R k : Int) : List Int := seg (opP R k) 1 S.toNat
theorem opposite_i {S R r k : Int} (h : s_spStep S R r k = true) : i_OppositeSteps S R r k = some (oppL S R k, true) := by
  obtain ⟨g, k1, k2⟩ := step_iff.1 h
  have := g.s1; have := g.s2
  unfold i_OppositeSteps
  rw [has1_eq, h, Option.bind_some, Bool.not_true, cond_false]
  unfold i_Spiral_those__i_OppositeSteps_c1 i_Spiral_those__i_OppositeSteps_c1_t0
  rw [seg_loop (S := S) (p := opP R k) (f := fun l x => i_Spiral_those__i_OppositeSteps_c1_L1 S R r k S R r l x) (fin := fun l => some (l, (S, R, r), k)) (fun l x hx hx' hl => ?_) (fun l x hx => ?_) S.toNat 1 [] (by omega) (by omega) (by simp; omega)]
  · rfl
  · show i_Spiral_those__i_OppositeSteps_c1_L1 S R r k S R r l x = _
    rw [i_Spiral_those__i_OppositeSteps_c1_u1, i_Spiral_those__i_OppositeSteps_c1_t1, decide_eq_true hx', cond_true, i_OppositeSteps_c1, opp_i g hx hx' k1 k2, Option.bind_some, Option.bind_some, bleT hl, wrapI (n := x + 1) (by omega) (by omega), opP_comm]
    rfl
  · show i_Spiral_those__i_OppositeSteps_c1_L1 S R r k S R r l x = _
    rw [i_Spiral_those__i_OppositeSteps_c1_u1, i_Spiral_those__i_OppositeSteps_c1_t1, decide_eq_false (by omega), cond_false]
theorem opposite_s {S R r k : Int} (h : s_spStep S R r k = true) : s_OppositeSteps S R r k = some (oppL S R k, true) := by
  obtain ⟨g, k1, k2⟩ := step_iff.1 h
  have := g.s1; have := g.s2
  unfold s_OppositeSteps s_OppositeSteps_t0
  rw [h, Bool.not_true, cond_false, seg_loop (S := S) (p := opP R k) (f := fun l x => s_OppositeSteps_L1 S R r l k x) (fin := fun l => some (l, true)) (fun l x hx hx' hl => ?_) (fun l x hx => ?_) S.toNat 1 [] (by omega) (by omega) (by simp; omega)]
  · rfl
  · show s_OppositeSteps_L1 S R r l k x = _
    rw [s_OppositeSteps_u1, s_OppositeSteps_t1, decide_eq_true hx', cond_true, opp_s g k1 k2 hx hx', Option.bind_some, bleT hl, wrapI (n := x + 1) (by omega) (by omega)]
    rfl
  · show s_OppositeSteps_L1 S R r l k x = _
    rw [s_OppositeSteps_u1, s_OppositeSteps_t1, decide_eq_false (by omega), cond_false]
theorem opposite_no {S R r k : Int} (h : s_spStep S R r k = false) : i_OppositeSteps S R r k = some ([], false) ∧ s_OppositeSteps S R r k = some ([], false) := by
  unfold i_OppositeSteps s_OppositeSteps s_OppositeSteps_t0
  rw [has1_eq, h]
  exact ⟨rfl, rfl⟩
theorem AreOpp_i (S R r a b : Int) : i_AreOpposite S R r a b = some (bif s_spStep S R r a && s_spStep S R r b then (opP R a b, true) else (false, false)) := by
  unfold i_AreOpposite
  rw [has2_eq, Option.bind_some]
  cases h : s_spStep S R r a && s_spStep S R r b
  · rfl
  · rw [Bool.and_eq_true] at h
    obtain ⟨g, a1, a2⟩ := step_iff.1 h.1
    obtain ⟨_, b1, b2⟩ := step_iff.1 h.2
    rw [opp_i g a1 a2 b1 b2]; rfl
theorem AreOpp_s (S R r a b : Int) : s_AreOpposite S R r a b = some (bif s_spStep S R r a && s_spStep S R r b then (opP R a b, true) else (false, false)) := by
  unfold s_AreOpposite
  cases h1 : s_spStep S R r a
  · rfl
  · cases h2 : s_spStep S R r b
    · rfl
    · obtain ⟨g, a1, a2⟩ := step_iff.1 h1
      obtain ⟨_, b1, b2⟩ := step_iff.1 h2
      rw [opp_s g a1 a2 b1 b2]; rfl
/-- how far apart around -/
noncomputable def apt (R a b : Int) : Int := min (dist a b % R) (R - dist a b % R)
theorem apt_bd {R a b : Int} (hR : 3 ≤ R) : 0 ≤ apt R a b ∧ 2 * apt R a b ≤ R := by
  have m1 : 0 ≤ dist a b % R := Int.emod_nonneg _ (by omega)
  have m2 : dist a b % R < R := Int.emod_lt_of_pos _ (by omega)
  unfold apt; omega
theorem Apart_i (S R r a b : Int) : i_ApartAround S R r a b = some (bif s_spStep S R r a && s_spStep S R r b then (frN (apt R a b) R, frD (apt R a b) R, true) else (0, 0, false)) := by
  unfold i_ApartAround
  rw [has2_eq, Option.bind_some]
  cases h : s_spStep S R r a && s_spStep S R r b
  · rfl
  · rw [Bool.and_eq_true] at h
    obtain ⟨g, a1, a2⟩ := step_iff.1 h.1
    obtain ⟨_, b1, b2⟩ := step_iff.1 h.2
    have := g.s2; have := g.r1; have := g.r2
    have d := dist_bd a1 (by omega) b1 (by omega)
    have m1 : 0 ≤ dist a b % R := Int.emod_nonneg _ (by omega)
    have m2 : dist a b % R < R := Int.emod_lt_of_pos _ (by omega)
    have q := apt_bd (R := R) (a := a) (b := b) (by omega)
    rw [dist_i a1 (by omega) b1 (by omega), Int.tmod_eq_emod_of_nonneg (by omega), wrapI (n := R - dist a b % R) (by omega) (by omega), R_ne g]
    have e : (bif decide (R - dist a b % R < dist a b % R) then R - dist a b % R else dist a b % R) = apt R a b := by
      unfold apt
      by_cases h : R - dist a b % R < dist a b % R
      · rw [decide_eq_true h]; show R - dist a b % R = _; omega
      · rw [decide_eq_false h]; show dist a b % R = _; omega
    rw [e, part_fr q.1 (by omega) (by omega) (by omega)]; rfl
theorem Apart_s (S R r a b : Int) : s_ApartAround S R r a b = some (bif s_spStep S R r a && s_spStep S R r b then (frN (apt R a b) R, frD (apt R a b) R, true) else (0, 0, false)) := by
  unfold s_ApartAround
  cases h1 : s_spStep S R r a
  · rfl
  · cases h2 : s_spStep S R r b
    · rfl
    · obtain ⟨g, a1, a2⟩ := step_iff.1 h1
      obtain ⟨_, b1, b2⟩ := step_iff.1 h2
      have := g.s2; have := g.r1; have := g.r2
      have d := dist_bd a1 (by omega) b1 (by omega)
      have m1 : 0 ≤ dist a b % R := Int.emod_nonneg _ (by omega)
      have m2 : dist a b % R < R := Int.emod_lt_of_pos _ (by omega)
      have q := apt_bd (R := R) (a := a) (b := b) (by omega)
      rw [dist_s a1 (by omega) b1 (by omega), Int.tmod_eq_emod_of_nonneg (by omega), wrapI (n := R - dist a b % R) (by omega) (by omega), R_ne g]
      have e : s_l1Least (dist a b % R) (R - dist a b % R) = apt R a b := by
        unfold apt s_l1Least
        by_cases h : dist a b % R < R - dist a b % R
        · rw [decide_eq_true h]; show dist a b % R = _; omega
        · rw [decide_eq_false h]; show R - dist a b % R = _; omega
      rw [e, low_eq q.1 (by omega) (by omega) (by omega)]; rfl
/-! ### sides -/
noncomputable def sdT (R k : Int) : Int := (4 * ((k - 1) % R)) / R + (if 2 * ((4 * ((k - 1) % R)) % R) > R then 1 else 0)
noncomputable def sd (R k : Int) : Int := sdT R k % 4
theorem sdT_bd {R k : Int} (hR : 3 ≤ R) : 0 ≤ sdT R k ∧ sdT R k ≤ 4 := by
  have m1 : 0 ≤ (k - 1) % R := Int.emod_nonneg _ (by omega)
  have m2 : (k - 1) % R < R := Int.emod_lt_of_pos _ (by omega)
  have d1 : 0 ≤ (4 * ((k - 1) % R)) / R := Int.ediv_nonneg (by omega) (by omega)
  have d2 : (4 * ((k - 1) % R)) / R < 4 := Int.ediv_lt_of_lt_mul (by omega) (by omega)
  unfold sdT
  split <;> omega
theorem sd_bd (R k : Int) : 0 ≤ sd R k ∧ sd R k < 4 := ⟨Int.emod_nonneg _ (by omega), Int.emod_lt_of_pos _ (by omega)⟩
theorem side_i {S R r k : Int} (g : GoodS S R r) (h1 : 1 ≤ k) (h2 : k ≤ S) : i_Spiral_side S R r k = some (sd R k) := by
  have := g.s2; have := g.r1; have := g.r2
  have m1 : 0 ≤ (k - 1) % R := Int.emod_nonneg _ (by omega)
  have m2 : (k - 1) % R < R := Int.emod_lt_of_pos _ (by omega)
  have l1 : 0 ≤ (4 * ((k - 1) % R)) % R := Int.emod_nonneg _ (by omega)
  have l2 : (4 * ((k - 1) % R)) % R < R := Int.emod_lt_of_pos _ (by omega)
  have d1 : 0 ≤ (4 * ((k - 1) % R)) / R := Int.ediv_nonneg (by omega) (by omega)
  have d2 : (4 * ((k - 1) % R)) / R < 4 := Int.ediv_lt_of_lt_mul (by omega) (by omega)
  unfold i_Spiral_side
  rw [ang_eq g h1 h2, Option.bind_some, R_ne g]
  simp only [cond_false]
  rw [wrapI (n := 4 * ((k - 1) % R)) (by omega) (by omega), Int.tmod_eq_emod_of_nonneg (by omega), Int.tdiv_eq_ediv_of_nonneg (by omega), wrapI (n := 2 * (4 * ((k - 1) % R) % R)) (by omega) (by omega), wrapI (n := 4 * ((k - 1) % R) / R) (by omega) (by omega), wrapI (n := 4 * ((k - 1) % R) / R + 1) (by omega) (by omega)]
  unfold sd sdT
  by_cases h : 2 * (4 * ((k - 1) % R) % R) > R
  · rw [decide_eq_true h, if_pos h, cond_true, Int.tmod_eq_emod_of_nonneg (by omega)]
  · rw [decide_eq_false h, if_neg h, cond_false, Int.tmod_eq_emod_of_nonneg (by omega), Int.add_zero]
theorem sdT_iff {R k j : Int} (hR : 3 ≤ R) : 8 * ((k - 1) % R) > R * (2 * j + 1) ↔ j < sdT R k := by
  have m1 : 0 ≤ (k - 1) % R := Int.emod_nonneg _ (by omega)
  have m2 : (k - 1) % R < R := Int.emod_lt_of_pos _ (by omega)
  unfold sdT
  have e := Int.mul_ediv_add_emod (4 * ((k - 1) % R)) R
  have l1 : 0 ≤ (4 * ((k - 1) % R)) % R := Int.emod_nonneg _ (by omega)
  have l2 : (4 * ((k - 1) % R)) % R < R := Int.emod_lt_of_pos _ (by omega)
  generalize hq : (4 * ((k - 1) % R)) / R = q at e ⊢
  generalize hl : (4 * ((k - 1) % R)) % R = l at e l1 l2 ⊢
  generalize (k - 1) % R = a at *
  have e2 : R * (2 * j + 1) = 2 * (R * j) + R := by rw [Int.mul_add, Int.mul_one, ← Int.mul_assoc, Int.mul_comm R 2, Int.mul_assoc]
  rw [e2]
  rcases Int.lt_trichotomy j q with h | h | h
  · have : R * (j + 1) ≤ R * q := Int.mul_le_mul_of_nonneg_left (by omega) (by omega)
    rw [Int.mul_add, Int.mul_one] at this
    split <;> omega
  · subst h
    split <;> omega
  · have : R * (q + 1) ≤ R * j := Int.mul_le_mul_of_nonneg_left (by omega) (by omega)
    rw [Int.mul_add, Int.mul_one] at this
    split <;> omega
theorem side_loop {S R r k : Int} (g : GoodS S R r) : ∀ (n : Nat) (j : Int), 0 ≤ j → j + n = sdT R k → s_spSide_L1 S R r ((k - 1) % R) j = some (sd R k)
  | 0, j, h0, h => by
    have b := sdT_bd (k := k) g.r1
    have := g.r1; have := g.r2
    have m1 : 0 ≤ (k - 1) % R := Int.emod_nonneg _ (by omega)
    have m2 : (k - 1) % R < R := Int.emod_lt_of_pos _ (by omega)
    have b1 : R * (2 * j + 1) ≤ 60 * 9 := Int.mul_le_mul (by omega) (by omega) (by omega) (by omega)
    have b2 : 0 ≤ R * (2 * j + 1) := Int.mul_nonneg (by omega) (by omega)
    have hn : ¬ (8 * ((k - 1) % R) > R * (2 * j + 1)) := fun c => by have := (sdT_iff g.r1).1 c; omega
    rw [s_spSide_u1, s_spSide_t1, wrapI (n := 2 * j) (by omega) (by omega), wrapI (n := 2 * j + 1) (by omega) (by omega), wrapI (n := 8 * ((k - 1) % R)) (by omega) (by omega), wrapI (n := R * (2 * j + 1)) (by omega) (by omega), decide_eq_false hn, cond_false, Int.tmod_eq_emod_of_nonneg h0]
    unfold sd
    rw [← h]; simp
  | n + 1, j, h0, h => by
    have b := sdT_bd (k := k) g.r1
    have := g.r1; have := g.r2
    have m1 : 0 ≤ (k - 1) % R := Int.emod_nonneg _ (by omega)
    have m2 : (k - 1) % R < R := Int.emod_lt_of_pos _ (by omega)
    have b1 : R * (2 * j + 1) ≤ 60 * 9 := Int.mul_le_mul (by omega) (by omega) (by omega) (by omega)
    have b2 : 0 ≤ R * (2 * j + 1) := Int.mul_nonneg (by omega) (by omega)
    have hn : 8 * ((k - 1) % R) > R * (2 * j + 1) := (sdT_iff g.r1).2 (by omega)
    rw [s_spSide_u1, s_spSide_t1, wrapI (n := 2 * j) (by omega) (by omega), wrapI (n := 2 * j + 1) (by omega) (by omega), wrapI (n := 8 * ((k - 1) % R)) (by omega) (by omega), wrapI (n := R * (2 * j + 1)) (by omega) (by omega), decide_eq_true hn, cond_true, wrapI (n := j + 1) (by omega) (by omega)]
    exact side_loop g n (j + 1) (by omega) (by omega)
theorem side_s {S R r k : Int} (g : GoodS S R r) (h1 : 1 ≤ k) (h2 : k ≤ S) : s_spSide S R r k = some (sd R k) := by
  have := g.s2
  have b := sdT_bd (k := k) g.r1
  unfold s_spSide s_spSide_t0
  rw [R_ne g, cond_false, ang_val h1 (by omega) g.r1]
  exact side_loop g (sdT R k).toNat 0 (by omega) (by omega)
def nesw : ByteArray := ⟨#[110, 101, 115, 119]⟩
/-- a side's name -/
def sdB (n : Int) : ByteArray := ByteArray.extract ⟨#[110, 101, 115, 119]⟩ n.toNat (n + 1).toNat
theorem cut_ok {n : Int} (h0 : 0 ≤ n) (h1 : n < 4) {β : Type} (k : ByteArray → Option β) : (bif decide (0 ≤ IntKind.wrap .i64 (n + 1)) then bif decide (IntKind.wrap .i64 (n + 1) ≤ (↑(ByteArray.size { data := #[110, 101, 115, 119] }) : Int)) then bif decide (0 ≤ n) then bif decide (n ≤ IntKind.wrap .i64 (n + 1)) then k (ByteArray.extract { data := #[110, 101, 115, 119] } (Int.toNat n) (Int.toNat (IntKind.wrap .i64 (n + 1)))) else none else none else none else none) = k (sdB n) := by
  have hs : ((ByteArray.size { data := #[110, 101, 115, 119] } : Nat) : Int) = 4 := rfl
  rw [wrapI (n := n + 1) (by omega) (by omega), hs, decide_eq_true (show 0 ≤ n + 1 by omega), decide_eq_true (show n + 1 ≤ 4 by omega), decide_eq_true h0, decide_eq_true (show n ≤ n + 1 by omega)]
  rfl
theorem SideOf_s (S R r k : Int) : s_SideOf S R r k = some (bif s_spStep S R r k then (sdB (sd R k), true) else (⟨#[]⟩, false)) := by
  unfold s_SideOf
  cases h : s_spStep S R r k
  · rfl
  · obtain ⟨g, k1, k2⟩ := step_iff.1 h
    have b := sd_bd R k
    rw [Bool.not_true, cond_false, side_s g k1 k2, Option.bind_some]
    exact cut_ok b.1 b.2 (fun b => some (b, true))
theorem SideOf_i (S R r k : Int) : i_SideOf S R r k = s_SideOf S R r k := by
  rw [SideOf_s]
  unfold i_SideOf
  rw [has1_eq, Option.bind_some]
  cases h : s_spStep S R r k
  · rfl
  · obtain ⟨g, k1, k2⟩ := step_iff.1 h
    have b := sd_bd R k
    rw [Bool.not_true, cond_false, side_i g k1 k2, Option.bind_some]
    exact cut_ok b.1 b.2 (fun b => some (b, true))
/-- the steps at a side -/
noncomputable def sideL (S R n : Int) : List Int := seg (fun k => sd R k == n) 1 S.toNat
def neswAt (c : UInt8) : Int := if c = 110 then 0 else if c = 101 then 1 else if c = 115 then 2 else if c = 119 then 3 else -1
theorem idx_nesw (c : UInt8) : Lib.indexByte [110, 101, 115, 119] c = neswAt c := by
  unfold neswAt
  by_cases h1 : c = 110
  · subst h1; rfl
  · by_cases h2 : c = 101
    · subst h2; rfl
    · by_cases h3 : c = 115
      · subst h3; rfl
      · by_cases h4 : c = 119
        · subst h4; rfl
        · rw [if_neg h1, if_neg h2, if_neg h3, if_neg h4]
          have b1 : ((110 : UInt8) == c) = false := beq_eq_false_iff_ne.2 (Ne.symm h1)
          have b2 : ((101 : UInt8) == c) = false := beq_eq_false_iff_ne.2 (Ne.symm h2)
          have b3 : ((115 : UInt8) == c) = false := beq_eq_false_iff_ne.2 (Ne.symm h3)
          have b4 : ((119 : UInt8) == c) = false := beq_eq_false_iff_ne.2 (Ne.symm h4)
          unfold Lib.indexByte Lib.indexByte Lib.indexByte Lib.indexByte Lib.indexByte
          rw [b1, b2, b3, b4]; rfl
theorem Index_nesw (c : UInt8) : strings_Index nesw ⟨#[c]⟩ = some (neswAt c) := by
  unfold strings_Index idx1
  exact (if_pos (c := (⟨#[c]⟩ : ByteArray).size = 1) rfl).trans (congrArg some (idx_nesw c))
theorem Contains_nesw (c : UInt8) : strings_Contains nesw ⟨#[c]⟩ = some (decide (0 ≤ neswAt c)) := by
  have h := Index_nesw c
  unfold strings_Index at h
  unfold strings_Contains has1
  rw [h]; rfl
theorem one_byte_of {b : ByteArray} (h : b.size = 1) : ∃ c, b = ⟨#[c]⟩ := by
  obtain ⟨d⟩ := b
  obtain ⟨l⟩ := d
  have h : l.length = 1 := h
  match l, h with
  | [x], _ => exact ⟨x, rfl⟩
theorem nesw_bt {n : Int} (h0 : 0 ≤ n) (h1 : n < 4) (c : UInt8) : (bt ⟨#[110, 101, 115, 119]⟩ n == bt ⟨#[c]⟩ 0) = (n == neswAt c) := by
  have e : bt ⟨#[c]⟩ 0 = (c.toNat : Int) := rfl
  rw [e]
  have t : ∀ d : UInt8, ((d.toNat : Int) == (c.toNat : Int)) = decide (c = d) := fun d => by
    by_cases h : c = d
    · subst h; simp
    · rw [decide_eq_false h, beq_eq_false_iff_ne]
      intro k
      exact h (UInt8.toNat_inj.1 (by omega))
  rcases (show n = 0 ∨ n = 1 ∨ n = 2 ∨ n = 3 by omega) with e | e | e | e <;> subst e
  · show (((110 : UInt8).toNat : Int) == (c.toNat : Int)) = _
    rw [t]; unfold neswAt
    by_cases h1 : c = 110
    · subst h1; rfl
    · rw [if_neg h1, decide_eq_false h1]; split <;> (try split) <;> (try split) <;> rfl
  · show (((101 : UInt8).toNat : Int) == (c.toNat : Int)) = _
    rw [t]; unfold neswAt
    by_cases h1 : c = 101
    · subst h1; rfl
    · rw [if_neg h1, decide_eq_false h1]; split <;> (try split) <;> (try split) <;> rfl
  · show (((115 : UInt8).toNat : Int) == (c.toNat : Int)) = _
    rw [t]; unfold neswAt
    by_cases h1 : c = 115
    · subst h1; rfl
    · rw [if_neg h1, decide_eq_false h1]; split <;> (try split) <;> (try split) <;> rfl
  · show (((119 : UInt8).toNat : Int) == (c.toNat : Int)) = _
    rw [t]; unfold neswAt
    by_cases h1 : c = 119
    · subst h1; rfl
    · rw [if_neg h1, decide_eq_false h1]; split <;> (try split) <;> (try split) <;> rfl
theorem AtSide_i {S R r : Int} (g : GoodS S R r) (c : UInt8) : i_StepsAtSide S R r ⟨#[c]⟩ = some (bif decide (0 ≤ neswAt c) then (sideL S R (neswAt c), true) else ([], false)) := by
  have := g.s1; have := g.s2
  have hs : (((ByteArray.size ⟨#[c]⟩ : Nat) : Int) != 1) = false := rfl
  have hc := Contains_nesw c
  have hi := Index_nesw c
  unfold nesw at hc hi
  unfold i_StepsAtSide
  rw [isS_eq, good_iff.2 g, Bool.not_true, cond_false, hs, cond_false, hc, Option.bind_some]
  cases hd : decide (0 ≤ neswAt c)
  · rfl
  · rw [Bool.not_true, cond_false, cond_true]
    unfold i_Spiral_those__i_StepsAtSide_c1 i_Spiral_those__i_StepsAtSide_c1_t0
    rw [seg_loop (S := S) (p := fun k => sd R k == neswAt c) (f := fun l x => i_Spiral_those__i_StepsAtSide_c1_L1 S R r ⟨#[c]⟩ S R r l x) (fin := fun l => some (l, (S, R, r), ⟨#[c]⟩)) (fun l x hx hx' hl => ?_) (fun l x hx => ?_) S.toNat 1 [] (by omega) (by omega) (by simp; omega)]
    · rfl
    · show i_Spiral_those__i_StepsAtSide_c1_L1 S R r ⟨#[c]⟩ S R r l x = _
      rw [i_Spiral_those__i_StepsAtSide_c1_u1, i_Spiral_those__i_StepsAtSide_c1_t1, decide_eq_true hx', cond_true, i_StepsAtSide_c1, side_i g hx hx', Option.bind_some, hi, Option.bind_some, Option.bind_some, bleT hl, wrapI (n := x + 1) (by omega) (by omega)]
      rfl
    · show i_Spiral_those__i_StepsAtSide_c1_L1 S R r ⟨#[c]⟩ S R r l x = _
      rw [i_Spiral_those__i_StepsAtSide_c1_u1, i_Spiral_those__i_StepsAtSide_c1_t1, decide_eq_false (by omega), cond_false]
theorem AtSide_loop {S R r : Int} (g : GoodS S R r) (c : UInt8) : s_StepsAtSide_L1 S R r [] ⟨#[c]⟩ 1 = some (sideL S R (neswAt c), true) := by
  have := g.s1; have := g.s2
  have hs : ((ByteArray.size { data := #[110, 101, 115, 119] } : Nat) : Int) = 4 := rfl
  have hz : decide (0 < (↑(ByteArray.size ⟨#[c]⟩) : Int)) = true := rfl
  rw [seg_loop (S := S) (p := fun k => sd R k == neswAt c) (f := fun l x => s_StepsAtSide_L1 S R r l ⟨#[c]⟩ x) (fin := fun l => some (l, true)) (fun l x hx hx' hl => ?_) (fun l x hx => ?_) S.toNat 1 [] (by omega) (by omega) (by simp; omega)]
  · rfl
  · have b := sd_bd R x
    show s_StepsAtSide_L1 S R r l ⟨#[c]⟩ x = _
    rw [s_StepsAtSide_u1, s_StepsAtSide_t1, decide_eq_true hx', cond_true, side_s g hx hx', Option.bind_some, hs, decide_eq_true b.1, decide_eq_true b.2, hz, bleT hl, wrapI (n := x + 1) (by omega) (by omega), nesw_bt b.1 b.2]
    rfl
  · show s_StepsAtSide_L1 S R r l ⟨#[c]⟩ x = _
    rw [s_StepsAtSide_u1, s_StepsAtSide_t1, decide_eq_false (by omega), cond_false]
theorem toList_one (c : UInt8) : (⟨#[c]⟩ : ByteArray).toList = [c] := by rw [ByteArray.toList_eq]
theorem AtSide_s {S R r : Int} (g : GoodS S R r) (c : UInt8) : s_StepsAtSide S R r ⟨#[c]⟩ = some (bif decide (0 ≤ neswAt c) then (sideL S R (neswAt c), true) else ([], false)) := by
  unfold s_StepsAtSide s_StepsAtSide_t0
  rw [good_iff.2 g, Bool.not_true, cond_false, AtSide_loop g c]
  simp only [toList_one]
  by_cases h1 : c = 110
  · subst h1; rfl
  · by_cases h2 : c = 101
    · subst h2; rfl
    · by_cases h3 : c = 115
      · subst h3; rfl
      · by_cases h4 : c = 119
        · subst h4; rfl
        · have e : ∀ d : UInt8, c ≠ d → (([c] : List UInt8) == [d]) = false := fun d h => by
            rw [beq_eq_false_iff_ne]; intro k; cases k; exact h rfl
          rw [e _ h1, e _ h2, e _ h3, e _ h4]
          unfold neswAt
          rw [if_neg h1, if_neg h2, if_neg h3, if_neg h4]
          rfl
theorem AtSide_both (S R r : Int) (b : ByteArray) : ∃ l f, i_StepsAtSide S R r b = some (l, f) ∧ s_StepsAtSide S R r b = some (l, f) ∧ l.length ≤ 400 := by
  cases hg : s_spGood S R r
  · refine ⟨[], false, ?_, ?_, by simp⟩
    · unfold i_StepsAtSide; rw [isS_eq, hg]; rfl
    · unfold s_StepsAtSide s_StepsAtSide_t0; rw [hg]; rfl
  · have g := good_iff.1 hg
    by_cases hb : b.size = 1
    · obtain ⟨c, rfl⟩ := one_byte_of hb
      rw [AtSide_i g, AtSide_s g]
      cases decide (0 ≤ neswAt c)
      · exact ⟨_, _, rfl, rfl, by simp⟩
      · refine ⟨_, _, rfl, rfl, ?_⟩
        have := seg_len (p := fun k => sd R k == neswAt c) (n := S.toNat) (k := 1)
        have := g.s2
        unfold sideL; omega
    · refine ⟨[], false, ?_, ?_, by simp⟩
      · unfold i_StepsAtSide
        rw [isS_eq, hg, show (((b.size : Nat) : Int) != 1) = true from by rw [bne_iff_ne]; omega]; rfl
      · unfold s_StepsAtSide s_StepsAtSide_t0
        rw [hg]
        have e : ∀ d : UInt8, (b.toList == (⟨#[d]⟩ : ByteArray).toList) = false := fun d => by
          rw [beq_eq_false_iff_ne, toList_one]
          intro k
          have : b.toList.length = 1 := by rw [k]; rfl
          rw [ByteArray.toList_eq] at this
          exact hb (by simpa using this)
        rw [e, e, e, e]; rfl
/-! ### counts of sides -/
noncomputable def cs (R j k : Int) (n : Nat) : Int := ((seg (fun x => sd R x == j) k n).length : Int)
theorem cs_succ (R j k : Int) (n : Nat) : cs R j k (n + 1) = (if sd R k = j then 1 else 0) + cs R j (k + 1) n := by
  unfold cs
  rw [seg]
  by_cases h : sd R k = j
  · rw [show (sd R k == j) = true from beq_iff_eq.2 h, cond_true, if_pos h, List.length_cons]; omega
  · rw [show (sd R k == j) = false from beq_eq_false_iff_ne.2 h, cond_false, if_neg h]; omega
theorem cs_sum (R : Int) : ∀ (n : Nat) (k : Int), cs R 0 k n + cs R 1 k n + cs R 2 k n + cs R 3 k n = n
  | 0, k => by simp [cs, seg]
  | n + 1, k => by
    have ih := cs_sum R n (k + 1)
    have b := sd_bd R k
    rw [cs_succ, cs_succ, cs_succ, cs_succ]
    rcases (show sd R k = 0 ∨ sd R k = 1 ∨ sd R k = 2 ∨ sd R k = 3 by omega) with e | e | e | e <;> rw [e] <;> simp <;> omega
theorem count_loop {S R r : Int} (g : GoodS S R r) {L : List Int → Int → Option (List Int × Bool)} {side : Int → Option Int} (hside : ∀ k, 1 ≤ k → k ≤ S → side k = some (sd R k))
    (hL : ∀ l k, L l k = bif decide (k ≤ S) then
      (side k).bind fun q => bif decide (0 ≤ q) then bif decide (q < (↑(List.length l) : Int)) then bif decide (0 ≤ q) then bif decide (q < (↑(List.length l) : Int)) then
        L (List.set l (Int.toNat q) (IntKind.wrap .i64 (rdk kint l q + 1))) (IntKind.wrap .i64 (k + 1)) else none else none else none else none else some (l, true)) :
    ∀ (n : Nat) (k a b c d : Int), 1 ≤ k → k + n = S + 1 → 0 ≤ a → 0 ≤ b → 0 ≤ c → 0 ≤ d → a + n ≤ 1000 → b + n ≤ 1000 → c + n ≤ 1000 → d + n ≤ 1000 →
      L [a, b, c, d] k = some ([a + cs R 0 k n, b + cs R 1 k n, c + cs R 2 k n, d + cs R 3 k n], true)
  | 0, k, a, b, c, d, h1, h2, _, _, _, _, _, _, _, _ => by
    rw [hL, decide_eq_false (by omega)]; simp [cs, seg]
  | n + 1, k, a, b, c, d, h1, h2, ha, hb, hc, hd, ha', hb', hc', hd' => by
    have ih := count_loop g hside hL n (k + 1)
    have hb := sd_bd R k
    have := g.s2
    have hl : ((([a, b, c, d] : List Int).length : Nat) : Int) = 4 := rfl
    rw [hL, decide_eq_true (by omega), cond_true, hside k h1 (by omega), Option.bind_some, hl, decide_eq_true hb.1, decide_eq_true hb.2, wrapI (n := k + 1) (by omega) (by omega)]
    simp only [cond_true]
    rw [cs_succ, cs_succ, cs_succ, cs_succ]
    rcases (show sd R k = 0 ∨ sd R k = 1 ∨ sd R k = 2 ∨ sd R k = 3 by omega) with e | e | e | e <;> rw [e]
    · rw [show rdk kint [a, b, c, d] 0 = a from rfl, wrapI (by omega) (by omega), show List.set [a, b, c, d] (Int.toNat 0) (a + 1) = [a + 1, b, c, d] from rfl, ih (a + 1) b c d (by omega) (by omega) (by omega) (by omega) (by omega) (by omega) (by omega) (by omega) (by omega) (by omega)]
      simp; omega
    · rw [show rdk kint [a, b, c, d] 1 = b from rfl, wrapI (by omega) (by omega), show List.set [a, b, c, d] (Int.toNat 1) (b + 1) = [a, b + 1, c, d] from rfl, ih a (b + 1) c d (by omega) (by omega) (by omega) (by omega) (by omega) (by omega) (by omega) (by omega) (by omega) (by omega)]
      simp; omega
    · rw [show rdk kint [a, b, c, d] 2 = c from rfl, wrapI (by omega) (by omega), show List.set [a, b, c, d] (Int.toNat 2) (c + 1) = [a, b, c + 1, d] from rfl, ih a b (c + 1) d (by omega) (by omega) (by omega) (by omega) (by omega) (by omega) (by omega) (by omega) (by omega) (by omega)]
      simp; omega
    · rw [show rdk kint [a, b, c, d] 3 = d from rfl, wrapI (by omega) (by omega), show List.set [a, b, c, d] (Int.toNat 3) (d + 1) = [a, b, c, d + 1] from rfl, ih a b c (d + 1) (by omega) (by omega) (by omega) (by omega) (by omega) (by omega) (by omega) (by omega) (by omega) (by omega)]
      simp; omega
noncomputable def csL (S R : Int) : List Int := [cs R 0 1 S.toNat, cs R 1 1 S.toNat, cs R 2 1 S.toNat, cs R 3 1 S.toNat]
theorem Count_i (S R r : Int) : i_CountSides S R r = some (bif s_spGood S R r then (csL S R, true) else ([], false)) := by
  unfold i_CountSides i_CountSides_t0
  rw [isS_eq]
  cases h : s_spGood S R r
  · rfl
  · have g := good_iff.1 h
    have := g.s1; have := g.s2
    have c := count_loop g (L := fun l k => i_CountSides_L1 S R r l k) (side := fun k => i_Spiral_side S R r k) (fun k h1 h2 => side_i g h1 h2) (fun l k => by
      show i_CountSides_L1 S R r l k = _
      rw [i_CountSides_u1, i_CountSides_t1]) S.toNat 1 0 0 0 0 (by omega) (by omega) (by omega) (by omega) (by omega) (by omega) (by omega) (by omega) (by omega) (by omega)
    simp only [Int.zero_add] at c
    exact c
theorem Count_s (S R r : Int) : s_CountSides S R r = some (bif s_spGood S R r then (csL S R, true) else ([], false)) := by
  unfold s_CountSides s_CountSides_t0
  cases h : s_spGood S R r
  · rfl
  · have g := good_iff.1 h
    have := g.s1; have := g.s2
    have c := count_loop g (L := fun l k => s_CountSides_L1 S R r l k) (side := fun k => s_spSide S R r k) (fun k h1 h2 => side_s g h1 h2) (fun l k => by
      show s_CountSides_L1 S R r l k = _
      rw [s_CountSides_u1, s_CountSides_t1]) S.toNat 1 0 0 0 0 (by omega) (by omega) (by omega) (by omega) (by omega) (by omega) (by omega) (by omega) (by omega) (by omega)
    simp only [Int.zero_add] at c
    exact c
theorem cs_bd (R j k : Int) (n : Nat) : 0 ≤ cs R j k n ∧ cs R j k n ≤ n := by
  have := seg_len (p := fun x => sd R x == j) (n := n) (k := k)
  unfold cs; omega
theorem wSum4 {a b c d : Int} (ha : 0 ≤ a) (hb : 0 ≤ b) (hc : 0 ≤ c) (hd : 0 ≤ d) (h : a + b + c + d ≤ 100000) : w_wSum [a, b, c, d] = some (a + b + c + d) := by
  unfold w_wSum w_wSum_t0
  have w0 : IntKind.wrap .i64 (0 + a) = a := by rw [wrapI (by omega) (by omega)]; omega
  have w1 : IntKind.wrap .i64 (a + b) = a + b := wrapI (by omega) (by omega)
  have w2 : IntKind.wrap .i64 (a + b + c) = a + b + c := wrapI (by omega) (by omega)
  have w3 : IntKind.wrap .i64 (a + b + c + d) = a + b + c + d := wrapI (by omega) (by omega)
  rw [w_wSum_u1, w_wSum_t1, show rdk kint [a, b, c, d] 0 = a from rfl, w0]
  rw [w_wSum_u1, w_wSum_t1, show rdk kint [a, b, c, d] (IntKind.wrap .i64 (0 + 1)) = b from rfl, w1]
  rw [w_wSum_u1, w_wSum_t1, show rdk kint [a, b, c, d] (IntKind.wrap .i64 (IntKind.wrap .i64 (0 + 1) + 1)) = c from rfl, w2]
  rw [w_wSum_u1, w_wSum_t1, show rdk kint [a, b, c, d] (IntKind.wrap .i64 (IntKind.wrap .i64 (IntKind.wrap .i64 (0 + 1) + 1) + 1)) = d from rfl, w3]
  rw [w_wSum_u1, w_wSum_t1]
  rfl
/-! ### what the law runs through -/
theorem rises_seg {p : Int → Bool} {n : Nat} {k : Int} (hn : n ≤ 1000) : w_wRises (seg p k n) = some true := by
  have := seg_len (p := p) (n := n) (k := k)
  refine wRises_ok (by omega) fun i hi => ?_
  exact List.pairwise_iff_getElem.1 (seg_pair (p := p) (n := n) (k := k)) i (i + 1) (by omega) hi (by omega)
theorem fr_half {R a b : Int} (hR : 3 ≤ R) : ((frN (apt R a b) R == 1) && (frD (apt R a b) R == 2)) = opP R a b ∧ 2 * frN (apt R a b) R ≤ frD (apt R a b) R := by
  have q := apt_bd (R := R) (a := a) (b := b) hR
  obtain ⟨g, g0, h1, h2, h3, h4, h5⟩ := fr_spec q.1 (show 0 < R by omega)
  have m1 : 0 ≤ dist a b % R := Int.emod_nonneg _ (by omega)
  have m2 : dist a b % R < R := Int.emod_lt_of_pos _ (by omega)
  have e : opP R a b = decide (2 * apt R a b = R) := by
    unfold opP apt
    by_cases h : 2 * (dist a b % R) = R
    · rw [decide_eq_true (by omega)]; exact beq_iff_eq.2 h
    · rw [decide_eq_false (by omega)]; exact beq_eq_false_iff_ne.2 h
  rw [e]
  generalize apt R a b = m at *
  generalize frN m R = p at *
  generalize frD m R = s at *
  constructor
  · rw [Bool.eq_iff_iff, Bool.and_eq_true, beq_iff_eq, beq_iff_eq, decide_eq_true_eq]
    constructor
    · rintro ⟨rfl, rfl⟩; omega
    · intro h
      have e2 : g * (2 * p) = g * s := by rw [← Int.mul_assoc, Int.mul_comm g 2, Int.mul_assoc]; omega
      have e3 := Int.eq_of_mul_eq_mul_left (by omega) e2
      subst e3
      obtain ⟨p, rfl⟩ := Int.eq_ofNat_of_zero_le h3
      rw [show (2 * (p : Int)).toNat = 2 * p by omega, Int.toNat_natCast, Nat.mul_comm, Nat.gcd_mul_right_right] at h5
      omega
  · have : g * (2 * p) ≤ g * s := by rw [← Int.mul_assoc, Int.mul_comm g 2, Int.mul_assoc]; omega
    exact Int.le_of_mul_le_mul_left this g0
theorem oppL_mem {S R k n : Int} (h1 : 1 ≤ n) (h2 : n ≤ S) : decide (n ∈ oppL S R k) = opP R k n := by
  unfold oppL
  rw [Bool.eq_iff_iff, decide_eq_true_eq, seg_mem]
  exact ⟨fun h => h.2, fun h => ⟨⟨h1, by omega⟩, h⟩⟩
theorem L9_ok {m : List Int} (h3 : w_FnSpiralsTurn_L3 m = some true) {S R r k : Int} (hk : s_spStep S R r k = true) : ∀ (d : Nat) (n : Int), 1 ≤ n → n + d = 41 → w_FnSpiralsTurn_L9 m S R r (oppL S R k) k n = some true
  | 0, n, h1, h2 => by
    rw [w_FnSpiralsTurn_u9, w_FnSpiralsTurn_t9, decide_eq_false (show ¬ n ≤ 40 by omega)]
    cases decide (n ≤ S) <;> exact h3
  | d + 1, n, h1, h2 => by
    have ih := L9_ok h3 hk d (n + 1) (by omega) (by omega)
    obtain ⟨g, k1, k2⟩ := step_iff.1 hk
    have := g.s2; have := g.r1; have := g.r2
    rw [w_FnSpiralsTurn_u9, w_FnSpiralsTurn_t9]
    by_cases hn : n ≤ S
    · have hs : s_spStep S R r n = true := step_iff.2 ⟨g, h1, hn⟩
      have f := fr_half (R := R) (a := k) (b := n) g.r1
      have q := apt_bd (R := R) (a := k) (b := n) g.r1
      obtain ⟨fl1, fl2⟩ := fr_le q.1 (show 0 < R by omega)
      obtain ⟨gg, g0, e1, e2, e3, e4, e5⟩ := fr_spec q.1 (show 0 < R by omega)
      have lo : (oppL S R k).length ≤ 1000 := by have := seg_len (p := opP R k) (n := S.toNat) (k := 1); unfold oppL; omega
      rw [decide_eq_true hn, decide_eq_true (show n ≤ 40 by omega), cond_true, cond_true, w_FnSpiralsTurn_u5, w_FnSpiralsTurn_t5, AreOpp_i, Apart_i, hk, hs, wHas_eq (by omega), oppL_mem h1 hn, wrapI (n := n + 1) (by omega) (by omega)]
      simp only [Bool.and_true, Option.bind_some, cond_true, Bool.not_true, cond_false]
      rw [show (!opP R k n == opP R k n) = false from by cases opP R k n <;> rfl, cond_false, ih, wrapI (n := 2 * frN (apt R k n) R) (by omega) (by omega), decide_eq_false (show ¬ (2 * frN (apt R k n) R > frD (apt R k n) R) by omega), ← f.1]
      cases hx : (frN (apt R k n) R == 1) <;> cases hy : (frD (apt R k n) R == 2) <;> rfl
    · rw [decide_eq_false hn]; exact h3
theorem L8_ok {m : List Int} (h3 : w_FnSpiralsTurn_L3 m = some true) {S R r k : Int} (hk : s_spStep S R r k = true) :
    w_FnSpiralsTurn_L8 m S R r (oppL S R k) (aboveL S R k) k (frN ((k - 1) % R) R) (frD ((k - 1) % R) R) (s_HeadOver S R r k).1 (k * r) ((aboveL S R k).length : Int) 0 = some true := by
  obtain ⟨g, k1, k2⟩ := step_iff.1 hk
  have := g.s2; have := g.r1; have := g.r2; have := g.h1; have := g.h2
  rw [aboveL_eq g k1 k2]
  have main : ∀ (d i : Nat), i + d = abN S R k → w_FnSpiralsTurn_L8 m S R r (oppL S R k) (apL R (k + R) (abN S R k)) k (frN ((k - 1) % R) R) (frD ((k - 1) % R) R) (s_HeadOver S R r k).1 (k * r) ((apL R (k + R) (abN S R k)).length : Int) (i : Int) = some true := by
    intro d
    induction d with
    | zero =>
      intro i hi
      rw [w_FnSpiralsTurn_u8, w_FnSpiralsTurn_t8, apL_len, decide_eq_false (by omega), cond_false]
      exact L9_ok h3 hk 40 1 (by omega) (by omega)
    | succ d ih =>
      intro i hi
      have hh := ih (i + 1) (by omega)
      have hi' : i < (apL R (k + R) (abN S R k)).length := by rw [apL_len]; omega
      have hle := (abN_le (R := R) (S := S) g.r1 k2 i).1 (by omega)
      have h0 : 0 ≤ (i : Int) * R := Int.mul_nonneg (by omega) (by omega)
      obtain ⟨n, hn⟩ : ∃ n, n = k + R + i * R := ⟨_, rfl⟩
      have hs : s_spStep S R r n = true := step_iff.2 ⟨g, by omega, by omega⟩
      have ea : (n - 1) % R = (k - 1) % R := by
        rw [Int.emod_eq_emod_iff_emod_sub_eq_zero]
        have : n - 1 - (k - 1) = R * ((i : Int) + 1) := by rw [Int.mul_add, Int.mul_one, Int.mul_comm R]; omega
        rw [this]
        exact Int.mul_emod_right _ _
      have ho : s_HeadOver S R r k = (R * r, true) := by rw [HeadOver_s, hk, decide_eq_true (by omega)]; rfl
      have p1 : ((i : Int) + 1) * R = i * R + R := by rw [Int.add_mul, Int.one_mul]
      have p2 : n * r = k * r + ((i : Int) + 1) * (R * r) := by
        rw [hn, ← Int.mul_assoc, p1, ← Int.add_mul]; congr 1; omega
      have b1 : n * r ≤ 400 * 300 := Int.mul_le_mul (by omega) (by omega) (by omega) (by omega)
      have b2 : 0 ≤ k * r := Int.mul_nonneg (by omega) (by omega)
      have b3 : k * r ≤ 400 * 300 := Int.mul_le_mul (by omega) (by omega) (by omega) (by omega)
      have b4 : 0 ≤ n * r := Int.mul_nonneg (by omega) (by omega)
      have iN : (i : Int) ≤ 400 := by
        have : (i : Int) * 1 ≤ i * R := Int.mul_le_mul_of_nonneg_left (by omega) (by omega)
        omega
      rw [w_FnSpiralsTurn_u8, w_FnSpiralsTurn_t8, decide_eq_true (show (i : Int) < _ by omega), decide_eq_true (Int.natCast_nonneg i), cond_true, cond_true, cond_true]
      rw [rdk_get (k := kint) hi', apL_get, ← hn, AngleOf_i, AngleOf_s, Height_i, Height_s, hs, ea, ho]
      simp only [Option.bind_some, cond_true, bne_self_eq_false, Bool.not_true, cond_false]
      rw [wrapI (n := (i : Int) + 1) (by omega) (by omega), wrapI (n := ((i : Int) + 1) * R) (by omega) (by omega), wrapI (n := k + ((i : Int) + 1) * R) (by omega) (by omega), wrapI (n := n * r - k * r) (by omega) (by omega), wrapI (n := ((i : Int) + 1) * (R * r)) (by omega) (by omega)]
      rw [show (n != k + ((i : Int) + 1) * R) = false from by rw [p1, hn, bne_eq_false_iff_eq]; omega, decide_eq_false (show ¬ n > S by omega), show (n * r - k * r != ((i : Int) + 1) * (R * r)) = false from by rw [bne_eq_false_iff_eq]; omega]
      rw [ho] at hh
      exact hh
  exact main (abN S R k) 0 (by omega)
theorem fr_lt {n d : Int} (hn : 0 ≤ n) (hd : n < d) : frN n d < frD n d := by
  obtain ⟨g, g0, h1, h2, h3, h4, h5⟩ := fr_spec hn (show 0 < d by omega)
  have : g * frN n d < g * frD n d := by omega
  exact Int.lt_of_mul_lt_mul_left this (by omega)
theorem L2_yes {m : List Int} (h3 : w_FnSpiralsTurn_L3 m = some true) {S R r k : Int} (hk : s_spStep S R r k = true) :
    w_FnSpiralsTurn_L2 m S R r (aboveL S R k) (oppL S R k) k (frN ((k - 1) % R) R) (frD ((k - 1) % R) R) true (s_HeadOver S R r k).1 (k * r) = some true := by
  obtain ⟨g, k1, k2⟩ := step_iff.1 hk
  have := g.s2; have := g.r1; have := g.r2; have := g.h1; have := g.h2
  have m1 : 0 ≤ (k - 1) % R := Int.emod_nonneg _ (by omega)
  have m2 : (k - 1) % R < R := Int.emod_lt_of_pos _ (by omega)
  have b1 : k * r ≤ 400 * 300 := Int.mul_le_mul (by omega) (by omega) (by omega) (by omega)
  have b2 : 0 ≤ k * r := Int.mul_nonneg (by omega) (by omega)
  have lt := fr_lt m1 m2
  have L4 : w_FnSpiralsTurn_L4 m S R r (aboveL S R k) (oppL S R k) k (frN ((k - 1) % R) R) (frD ((k - 1) % R) R) (s_HeadOver S R r k).1 (k * r) = some true := by
    rw [w_FnSpiralsTurn_u4, w_FnSpiralsTurn_t4]
    exact L8_ok h3 hk
  have hw := wIs_fr m1 (by omega) (show 0 < R by omega) (by omega)
  have hr : w_wRises (oppL S R k) = some true := rises_seg (by omega)
  rw [w_FnSpiralsTurn_u2, w_FnSpiralsTurn_t2, cond_true, R_ne g, cond_false, ang_val k1 (by omega) g.r1, hw, L4, wrapI (n := k * r) (by omega) (by omega), decide_eq_false (show ¬ (frN ((k - 1) % R) R ≥ frD ((k - 1) % R) R) by omega), hr]
  simp only [Option.bind_some, bne_self_eq_false, Bool.not_true, cond_false]
  rw [Int.tmod_eq_emod_of_nonneg (by omega)]
  by_cases ho : R % 2 = 1
  · have e : oppL S R k = [] := by
      refine List.eq_nil_iff_forall_not_mem.2 fun x hx => ?_
      unfold oppL at hx
      have := (seg_mem.1 hx).2
      unfold opP at this
      have := beq_iff_eq.1 this
      omega
    rw [e]
    cases (R % 2 == 1) <;> rfl
  · rw [show (R % 2 == 1) = false from beq_eq_false_iff_ne.2 ho]; rfl
theorem L2_no {m : List Int} (h3 : w_FnSpiralsTurn_L3 m = some true) (S R r k num den head high : Int) (a o : List Int) : w_FnSpiralsTurn_L2 m S R r a o k num den false head high = some true := by
  rw [w_FnSpiralsTurn_u2, w_FnSpiralsTurn_t2]; exact h3
theorem sdB_eq {n : Int} (h0 : 0 ≤ n) (h1 : n < 4) : ∃ c, sdB n = ⟨#[c]⟩ ∧ neswAt c = n := by
  rcases (show n = 0 ∨ n = 1 ∨ n = 2 ∨ n = 3 by omega) with e | e | e | e <;> subst e
  · exact ⟨110, rfl, rfl⟩
  · exact ⟨101, rfl, rfl⟩
  · exact ⟨115, rfl, rfl⟩
  · exact ⟨119, rfl, rfl⟩
theorem sdB_same {n j : Int} (h0 : 0 ≤ n) (h1 : n < 4) (h2 : 0 ≤ j) (h3 : j < 4) : ((sdB n).toList == (sdB j).toList) = decide (n = j) := by
  obtain ⟨c, e1, e2⟩ := sdB_eq h0 h1
  obtain ⟨d, e3, e4⟩ := sdB_eq h2 h3
  rw [e1, e3, toList_one, toList_one]
  by_cases h : c = d
  · subst h; rw [decide_eq_true (by omega), beq_self_eq_true]
  · have hne : n ≠ j := fun e => by
      subst e
      rw [e1] at e3
      cases e3
      exact h rfl
    rw [decide_eq_false hne, beq_eq_false_iff_ne]
    intro k; cases k; exact h rfl
theorem L7_ok {m : List Int} {S R r k num den head high : Int} {a o : List Int} {ok : Bool} {side : ByteArray} (g : GoodS S R r) (hs : ok = true → (1 ≤ k ∧ k ≤ S) ∧ side = sdB (sd R k))
    (h2 : w_FnSpiralsTurn_L2 m S R r a o k num den ok head high = some true) : w_FnSpiralsTurn_L7 m S R r a o (csL S R) k num den ok head side high 0 = some true := by
  have := g.s1; have := g.s2
  have main : ∀ (d : Nat) (j : Int), 0 ≤ j → j + d = 4 → w_FnSpiralsTurn_L7 m S R r a o (csL S R) k num den ok head side high j = some true := by
    intro d
    induction d with
    | zero =>
      intro j h0 h1
      rw [w_FnSpiralsTurn_u7, w_FnSpiralsTurn_t7, decide_eq_false (by omega), cond_false]
      exact h2
    | succ d ih =>
      intro j h0 h1
      have hh := ih (j + 1) (by omega) (by omega)
      have hl : (((csL S R).length : Nat) : Int) = 4 := rfl
      have hr : rdk kint (csL S R) j = ((sideL S R j).length : Int) := by
        rcases (show j = 0 ∨ j = 1 ∨ j = 2 ∨ j = 3 by omega) with e | e | e | e <;> subst e <;> rfl
      obtain ⟨c, e1, e2⟩ := sdB_eq h0 (show j < 4 by omega)
      have hA : i_StepsAtSide S R r (sdB j) = some (sideL S R j, true) := by
        rw [e1, AtSide_i g, e2, decide_eq_true h0]; rfl
      have lo : (sideL S R j).length ≤ 1000 := by have := seg_len (p := fun x => sd R x == j) (n := S.toNat) (k := 1); unfold sideL; omega
      have hri : w_wRises (sideL S R j) = some true := rises_seg (by omega)
      have hs4 : ((ByteArray.size { data := #[110, 101, 115, 119] } : Nat) : Int) = 4 := rfl
      have hx : ByteArray.extract { data := #[110, 101, 115, 119] } j.toNat (j + 1).toNat = sdB j := rfl
      rw [w_FnSpiralsTurn_u7, w_FnSpiralsTurn_t7, decide_eq_true (show j < 4 by omega), cond_true, wrapI (n := j + 1) (by omega) (by omega), hs4, decide_eq_true (show 0 ≤ j + 1 by omega), decide_eq_true (show j + 1 ≤ 4 by omega), decide_eq_true h0, decide_eq_true (show j ≤ j + 1 by omega), hx, hA, hl, decide_eq_true (show j < 4 by omega)]
      simp only [Bool.not_true, cond_false, cond_true, Option.bind_some]
      rw [hr, hri]
      simp only [Bool.not_true, cond_false, cond_true, bne_self_eq_false, Option.bind_some]
      cases hok : ok
      · rw [cond_false]
        rw [hok] at hh; exact hh
      · obtain ⟨⟨k1, k2⟩, hsd⟩ := hs hok
        have b := sd_bd R k
        rw [cond_true, wHas_eq (by omega), Option.bind_some]
        have hm : decide (k ∈ sideL S R j) = decide (sd R k = j) := by
          refine decide_eq_decide.2 ?_
          unfold sideL
          rw [seg_mem, beq_iff_eq]
          exact ⟨fun h => h.2, fun h => ⟨⟨k1, by omega⟩, h⟩⟩
        rw [hsd, sdB_same b.1 b.2 h0 (show j < 4 by omega), hm]
        rw [hok, hsd] at hh
        rw [hh]
        cases decide (sd R k = j) <;> rfl
  exact main 4 0 (by omega) (by omega)
theorem L1_ok {m : List Int} {S R r k num den head high : Int} {a o : List Int} {ok : Bool} {side : ByteArray} (g : GoodS S R r) (hs : ok = true → (1 ≤ k ∧ k ≤ S) ∧ side = sdB (sd R k))
    (h2 : w_FnSpiralsTurn_L2 m S R r a o k num den ok head high = some true) : w_FnSpiralsTurn_L1 m S R r a o (csL S R) k num den ok head side high (frN (S - 1) R) (frD (S - 1) R) true = some true := by
  have := g.s1; have := g.s2; have := g.r1; have := g.r2
  have c0 := cs_bd R 0 1 S.toNat
  have c1 := cs_bd R 1 1 S.toNat
  have c2 := cs_bd R 2 1 S.toNat
  have c3 := cs_bd R 3 1 S.toNat
  have su := cs_sum R S.toNat 1
  have hw := wIs_fr (n := S - 1) (by omega) (by omega) (show 0 < R by omega) (by omega)
  have hl : (((csL S R).length : Nat) : Int) = 4 := rfl
  have hsum : w_wSum (csL S R) = some S := by
    unfold csL
    rw [wSum4 c0.1 c1.1 c2.1 c3.1 (by omega)]
    congr 1; omega
  rw [w_FnSpiralsTurn_u1, w_FnSpiralsTurn_t1, cond_true, wrapI (n := S - 1) (by omega) (by omega), hw, hl, hsum]
  simp only [Option.bind_some, Bool.not_true, cond_false, bne_self_eq_false]
  exact L7_ok g hs h2
theorem LeastRound_s (a b : Int) : ∃ q f, s_LeastRound a b = some (q, f) ∧ (f = true → (1 ≤ a ∧ a ≤ 300) ∧ (0 ≤ b ∧ b ≤ 20000) ∧ 3 ≤ q ∧ q ≤ 60 ∧ b ≤ q * a ∧ (q > 3 → (q - 1) * a < b)) := by
  unfold s_LeastRound s_l1Most
  cases h1 : s_l1In a 1 300
  · exact ⟨0, false, rfl, fun h => by cases h⟩
  · cases h2 : s_l1In b 0 20000
    · exact ⟨0, false, rfl, fun h => by cases h⟩
    · have g1 := l1In_iff.1 h1
      have g2 := l1In_iff.1 h2
      have hz : (a == 0) = false := by rw [beq_eq_false_iff_ne]; omega
      have d1 : 0 ≤ (b + a - 1) / a := Int.ediv_nonneg (by omega) (by omega)
      have d2 : (b + a - 1) / a ≤ b + a - 1 := Int.ediv_le_self _ (by omega)
      have e := Int.mul_ediv_add_emod (b + a - 1) a
      have l1 : 0 ≤ (b + a - 1) % a := Int.emod_nonneg _ (by omega)
      have l2 : (b + a - 1) % a < a := Int.emod_lt_of_pos _ (by omega)
      simp only [Bool.not_true, cond_false, hz]
      rw [wrapI (n := b + a) (by omega) (by omega), wrapI (n := b + a - 1) (by omega) (by omega), Int.tdiv_eq_ediv_of_nonneg (by omega), wrapI (n := (b + a - 1) / a) (by omega) (by omega)]
      generalize (b + a - 1) / a = q at *
      have e' : q * a = a * q := Int.mul_comm _ _
      by_cases h3 : 3 > q
      · rw [decide_eq_true h3]
        refine ⟨3, true, rfl, fun _ => ⟨g1, g2, by omega, by omega, ?_, fun h => by omega⟩⟩
        have : a * q ≤ a * 3 := Int.mul_le_mul_of_nonneg_left (by omega) (by omega)
        omega
      · rw [decide_eq_false h3, cond_false]
        by_cases h4 : q > 60
        · rw [decide_eq_true h4]; exact ⟨0, false, rfl, fun h => by cases h⟩
        · rw [decide_eq_false h4]
          refine ⟨q, true, rfl, fun _ => ⟨g1, g2, by omega, by omega, by omega, fun h => ?_⟩⟩
          rw [Int.sub_mul, Int.one_mul]; omega
/-! ### draws: they end, whatever is given -/
def Ok {α : Type} (x : Option α) (P : α → Prop) : Prop := ∃ a, x = some a ∧ P a
theorem Ok.bind {α β : Type} {x : Option α} {f : α → Option β} {P : α → Prop} {Q : β → Prop} (h : Ok x P) (k : ∀ a, P a → Ok (f a) Q) : Ok (x.bind f) Q := by
  obtain ⟨a, rfl, ha⟩ := h
  exact k a ha
theorem Ok.cond {α : Type} {b : Bool} {x y : Option α} {P : α → Prop} (h : b = true → Ok x P) (k : b = false → Ok y P) : Ok (cond b x y) P := by
  cases b
  · exact k rfl
  · exact h rfl
theorem Ok.ret {α : Type} {a : α} {P : α → Prop} (h : P a) : Ok (some a) P := ⟨a, rfl, h⟩
theorem Ok.mono {α : Type} {x : Option α} {P Q : α → Prop} (h : Ok x P) (k : ∀ a, P a → Q a) : Ok x Q := by
  obtain ⟨a, e, ha⟩ := h
  exact ⟨a, e, k a ha⟩
def Bytes (l : List Int) : Prop := ∀ x, x ∈ l → 0 ≤ x ∧ x ≤ 255
/-- a cursor that has come so far at most -/
structure Cur (c : List Int × Int × Int) (n : Int) : Prop where
  by_ : Bytes c.1
  lo : 0 ≤ c.2.1
  hi : c.2.1 ≤ n
theorem Cur.mono {c : List Int × Int × Int} {n m : Int} (h : Cur c n) (hm : n ≤ m) : Cur c m := ⟨h.by_, h.lo, by have := h.hi; omega⟩
theorem bytes_rdk {l : List Int} (h : Bytes l) {i : Int} (h0 : 0 ≤ i) (h1 : i < l.length) : 0 ≤ rdk kuint8 l i ∧ rdk kuint8 l i ≤ 255 := by
  obtain ⟨k, rfl⟩ : ∃ k : Nat, i = k := ⟨i.toNat, by omega⟩
  have hk : k < l.length := by omega
  rw [rdk_get (k := kuint8) hk]
  exact h _ (List.getElem_mem hk)
theorem and255 (x : Int) : 0 ≤ IntKind.wrap IntKind.i64 (IntKind.wrap IntKind.u64 (((BitVec.ofInt (IntKind.bits IntKind.u64) x &&& BitVec.ofInt (IntKind.bits IntKind.u64) 255).toNat : Nat) : Int)) ∧
    IntKind.wrap IntKind.i64 (IntKind.wrap IntKind.u64 (((BitVec.ofInt (IntKind.bits IntKind.u64) x &&& BitVec.ofInt (IntKind.bits IntKind.u64) 255).toNat : Nat) : Int)) ≤ 255 := by
  have h : (BitVec.ofInt (IntKind.bits IntKind.u64) x &&& BitVec.ofInt (IntKind.bits IntKind.u64) 255).toNat ≤ 255 := by
    rw [BitVec.toNat_and]
    have e : (BitVec.ofInt (IntKind.bits IntKind.u64) 255).toNat = 255 := by decide
    rw [e]
    exact Nat.and_le_right
  generalize (BitVec.ofInt (IntKind.bits IntKind.u64) x &&& BitVec.ofInt (IntKind.bits IntKind.u64) 255).toNat = n at h
  have e1 : IntKind.wrap IntKind.u64 (n : Int) = n := by unfold IntKind.wrap; simp [IntKind.signed, IntKind.bits]; omega
  rw [e1, wrapI (by omega) (by omega)]
  omega
theorem next_ok {a : List Int} {b c n : Int} (h : Cur (a, b, c) n) (hn : n ≤ 1000000000000) : Ok (s_l1Cur_next a b c) fun r => Cur r.2 (n + 1) ∧ 0 ≤ r.1 ∧ r.1 ≤ 255 := by
  have h0 : 0 ≤ b := h.lo
  have h1 : b ≤ n := h.hi
  have hw : IntKind.wrap IntKind.i64 (b + 1) = b + 1 := wrapI (by omega) (by omega)
  have hc : Cur (a, b + 1, (0 : Int)) (n + 1) := ⟨h.by_, by show 0 ≤ b + 1; omega, by show b + 1 ≤ n + 1; omega⟩
  have hcc : ∀ s, Cur (a, b + 1, s) (n + 1) := fun s => ⟨hc.by_, hc.lo, hc.hi⟩
  unfold s_l1Cur_next
  rw [hw]
  refine Ok.cond (fun e => ?_) (fun e => ?_)
  · have e := of_decide_eq_true e
    rw [decide_eq_true h0, decide_eq_true e]
    simp only [cond_true]
    obtain ⟨g1, g2⟩ := bytes_rdk h.by_ h0 e
    have gw : IntKind.wrap IntKind.i64 (rdk kuint8 a b) = rdk kuint8 a b := wrapI (Int.le_trans (by decide) g1) (Int.le_trans g2 (by decide))
    refine Ok.cond (fun _ => Ok.ret ⟨hcc _, ?_⟩) (fun _ => Ok.ret ⟨hcc _, and255 _⟩)
    show 0 ≤ IntKind.wrap IntKind.i64 (rdk kuint8 a b) ∧ _ ≤ _
    rw [gw]; exact ⟨g1, g2⟩
  · refine Ok.cond (fun _ => Ok.ret ⟨hcc _, by show (0 : Int) ≤ 0 ∧ (0 : Int) ≤ 255; omega⟩) (fun _ => Ok.ret ⟨hcc _, and255 _⟩)
theorem tmodP {a b : Int} (h : 0 ≤ a) (hb : 0 < b) : 0 ≤ Int.tmod a b ∧ Int.tmod a b < b := by
  rw [Int.tmod_eq_emod_of_nonneg h]
  exact ⟨Int.emod_nonneg a (by omega), Int.emod_lt_of_pos a hb⟩
theorem pick_ok {a : List Int} {b c n : Int} (k : Int) (h : Cur (a, b, c) n) (hn : n ≤ 100000000000) : Ok (s_l1Cur_pick a b c k) fun r => Cur r.2 (n + 2) ∧ 0 ≤ r.1 ∧ (r.1 < k ∨ r.1 = 0) := by
  unfold s_l1Cur_pick
  refine Ok.cond (fun _ => Ok.ret ⟨h.mono (by omega), by show (0 : Int) ≤ 0; omega, .inr rfl⟩) (fun e => ?_)
  have e := of_decide_eq_false e
  have hk : (k == 0) = false := by rw [beq_eq_false_iff_ne]; omega
  refine (next_ok h (by omega)).bind fun r hr => ?_
  refine Ok.cond (fun e2 => ?_) (fun e2 => ?_)
  · refine (next_ok (n := n + 1) hr.1 (by omega)).bind fun s hs => ?_
    rw [hk, cond_false, wrapI (n := r.1 * 256) (by omega) (by omega), wrapI (by omega) (by omega)]
    have := tmodP (a := r.1 * 256 + s.1) (b := k) (by omega) (by omega)
    exact Ok.ret ⟨hs.1.mono (by omega), this.1, .inl this.2⟩
  · rw [hk, cond_false]
    have := tmodP (a := r.1) (b := k) hr.2.1 (by omega)
    exact Ok.ret ⟨hr.1.mono (by omega), this.1, .inl this.2⟩
theorem one_ok {a : List Int} {b c n : Int} (k : Int) (h : Cur (a, b, c) n) (hn : n ≤ 100000000000) : Ok (s_l1Cur_one a b c k) fun r => Cur r.2 (n + 2) := by
  unfold s_l1Cur_one
  exact (pick_ok k h hn).bind fun r hr => Ok.ret hr.1
theorem among_ok {a : List Int} {b c n : Int} (l : List Int) (h : Cur (a, b, c) n) (hl : l ≠ []) (hn : n ≤ 100000000000) : Ok (s_l1Cur_among a b c l) fun r => Cur r.2 (n + 2) ∧ r.1 ∈ l := by
  unfold s_l1Cur_among
  have hp : 0 < l.length := List.length_pos_iff.2 hl
  refine (pick_ok _ h hn).bind fun r hr => ?_
  have h1 : r.1 < (l.length : Int) := by omega
  rw [decide_eq_true hr.2.1, decide_eq_true h1]
  refine Ok.ret ⟨hr.1, ?_⟩
  obtain ⟨k, hk⟩ : ∃ k : Nat, r.1 = k := ⟨r.1.toNat, by omega⟩
  have hkl : k < l.length := by omega
  show rdk kint l r.1 ∈ l
  rw [hk, rdk_get (k := kint) hkl]
  exact List.getElem_mem hkl
theorem bytes_wf {l : List Int} (h : Wf kSuint8 l) : Bytes l := fun x hx => by
  have h1 : (Lit.int IntKind.u8 x).wf = true := h.2 x hx
  simp only [Lit.wf, Bool.and_eq_true, decide_eq_true_eq] at h1
  have e1 : IntKind.u8.min = 0 := by decide
  have e2 : IntKind.u8.max = 255 := by decide
  omega
theorem cur0 {l : List Int} (h : Bytes l) : Cur (l, 0, 0) 0 := ⟨h, Int.le_refl _, Int.le_refl _⟩
/-! ### drawn spirals -/
theorem of_ok {a : List Int} {b c n : Int} (l : List ByteArray) (h : Cur (a, b, c) n) (hl : l ≠ []) (hn : n ≤ 100000000000) : Ok (s_l1Cur_of a b c l) fun r => Cur r.2 (n + 2) := by
  unfold s_l1Cur_of
  have hp : 0 < l.length := List.length_pos_iff.2 hl
  refine (pick_ok _ h hn).bind fun r hr => ?_
  have h1 : r.1 < (l.length : Int) := by omega
  rw [decide_eq_true hr.2.1, decide_eq_true h1]
  exact Ok.ret hr.1
theorem s_l1Cur_sureSpiral_ok {a : List Int} {b c n : Int} (h : Cur (a, b, c) n) (hn : n ≤ 10000000000) : Ok (s_l1Cur_sureSpiral a b c ) fun r => Cur r.2 (n + 6) := by
  unfold s_l1Cur_sureSpiral
  refine (pick_ok (n := n) _ h (by omega)).bind fun r1 h1 => ?_
  refine (pick_ok (n := n + 2) _ h1.1 (by omega)).bind fun r2 h2 => ?_
  refine (pick_ok (n := n + 2 + 2) _ h2.1 (by omega)).bind fun r3 h3 => ?_
  exact Ok.ret (h3.1.mono (by omega))
theorem s_l1Cur_spiral_ok {a : List Int} {b c n : Int} (h : Cur (a, b, c) n) (hn : n ≤ 10000000000) : Ok (s_l1Cur_spiral a b c ) fun r => Cur r.2 (n + 10) := by
  unfold s_l1Cur_spiral
  refine (s_l1Cur_sureSpiral_ok (n := n) h (by omega)).bind fun r1 h1 => ?_
  refine (pick_ok (n := n + 6) _ h1 (by omega)).bind fun r2 h2 => ?_
  refine Ok.cond (fun _ => ?_) (fun _ => ?_)
  · refine (among_ok (n := n + 6 + 2) _ h2.1 (by simp) (by omega)).bind fun r3 h3 => ?_
    exact Ok.ret (h3.1.mono (by omega))
  · refine Ok.cond (fun _ => ?_) (fun _ => ?_)
    · refine (among_ok (n := n + 6 + 2) _ h2.1 (by simp) (by omega)).bind fun r4 h4 => ?_
      exact Ok.ret (h4.1.mono (by omega))
    · refine Ok.cond (fun _ => ?_) (fun _ => ?_)
      · refine (among_ok (n := n + 6 + 2) _ h2.1 (by simp) (by omega)).bind fun r5 h5 => ?_
        exact Ok.ret (h5.1.mono (by omega))
      · exact Ok.ret (h2.1.mono (by omega))
theorem s_DrawAngleOf_ok {code : List Int} (h : Bytes code) : Ok (s_DrawAngleOf code) fun _ => True := by
  unfold s_DrawAngleOf
  refine (s_l1Cur_spiral_ok (n := 0) (cur0 h) (by omega)).bind fun r1 h1 => ?_
  refine (pick_ok (n := 0 + 10) _ h1 (by omega)).bind fun r2 h2 => ?_
  refine (pick_ok (n := 0 + 10 + 2) _ h2.1 (by omega)).bind fun r3 h3 => ?_
  exact Ok.ret trivial
theorem s_DrawAreOpposite_ok {code : List Int} (h : Bytes code) : Ok (s_DrawAreOpposite code) fun _ => True := by
  unfold s_DrawAreOpposite
  refine (s_l1Cur_spiral_ok (n := 0) (cur0 h) (by omega)).bind fun r1 h1 => ?_
  refine (pick_ok (n := 0 + 10) _ h1 (by omega)).bind fun r2 h2 => ?_
  refine (pick_ok (n := 0 + 10 + 2) _ h2.1 (by omega)).bind fun r3 h3 => ?_
  refine (pick_ok (n := 0 + 10 + 2 + 2) _ h3.1 (by omega)).bind fun r4 h4 => ?_
  exact Ok.ret trivial
theorem s_DrawLeastRound_ok {code : List Int} (h : Bytes code) : Ok (s_DrawLeastRound code) fun _ => True := by
  unfold s_DrawLeastRound
  refine (one_ok (n := 0) _ (cur0 h) (by omega)).bind fun r1 h1 => ?_
  refine Ok.cond (fun _ => ?_) (fun _ => ?_)
  · refine (among_ok (n := 0 + 2) _ h1 (by simp) (by omega)).bind fun r2 h2 => ?_
    refine (among_ok (n := 0 + 2 + 2) _ h2.1 (by simp) (by omega)).bind fun r3 h3 => ?_
    exact Ok.ret trivial
  · refine (pick_ok (n := 0 + 2) _ h1 (by omega)).bind fun r4 h4 => ?_
    refine (pick_ok (n := 0 + 2 + 2) _ h4.1 (by omega)).bind fun r5 h5 => ?_
    exact Ok.ret trivial
theorem s_DrawApartAround_ok {code : List Int} (h : Bytes code) : Ok (s_DrawApartAround code) fun _ => True := by
  unfold s_DrawApartAround
  exact (s_DrawAreOpposite_ok h).bind fun r hr => Ok.ret trivial
theorem s_DrawStepsAtSide_ok {code : List Int} (h : Bytes code) : Ok (s_DrawStepsAtSide code) fun _ => True := by
  unfold s_DrawStepsAtSide
  refine (s_l1Cur_spiral_ok (cur0 h) (by omega)).bind fun r hr => ?_
  exact (of_ok _ hr (by simp) (by omega)).bind fun q hq => Ok.ret trivial
end Go.Proofs.Ythenlapjhlljnaa.V
