/- Functions of the program, as plain functions. No condition. -/
import Derived.Test.YthenlapjhlljnaaC3
set_option linter.unusedVariables false
set_option linter.unusedSimpArgs false
set_option maxRecDepth 100000
namespace Go.Proofs.Ythenlapjhlljnaa.V
open Go Go.Ev Go.Proofs
/-! ### draws: they end, whatever is given -/
def Ok {α : Type} (x : Option α) (P : α → Prop) : Prop := ∃ a, x = some a ∧ P a
theorem Ok.bind {α β : Type} {x : Option α} {f : α → Option β} {P : α → Prop} {Q : β → Prop} (h : Ok x P) (k : ∀ a, P a → Ok (f a) Q) : Ok (x.bind f) Q := by
  obtain ⟨a, rfl, ha⟩ := h
  exact k a ha
theorem Ok.cond {α : Type} {b : Bool} {x y : Option α} {P : α → Prop} (h : b = true → Ok x P) (k : b = false → Ok y P) : Ok (cond b x y) P := by
  cases b
  · exact k rfl
  · exact h rfl
theorem Ok.ret {α : Type} {a : α} {P : α → Prop} (h : P a) : Ok (some a) P := ⟨a, rfl, h⟩
theorem Ok.mono {α : Type} {x : Option α} {P Q : α → Prop} (h : Ok x P) (k : ∀ a, P a → Q a) : Ok x Q := by
  obtain ⟨a, e, ha⟩ := h
  exact ⟨a, e, k a ha⟩
def Bytes (l : List Int) : Prop := ∀ x, x ∈ l → 0 ≤ x ∧ x ≤ 255
/-- a cursor that has come so far at most -/
structure Cur (c : List Int × Int × Int) (n : Int) : Prop where
  by_ : Bytes c.1
  lo : 0 ≤ c.2.1
  hi : c.2.1 ≤ n
theorem Cur.mono {c : List Int × Int × Int} {n m : Int} (h : Cur c n) (hm : n ≤ m) : Cur c m := ⟨h.by_, h.lo, by have := h.hi; omega⟩
theorem bytes_rdk {l : List Int} (h : Bytes l) {i : Int} (h0 : 0 ≤ i) (h1 : i < l.length) : 0 ≤ rdk kuint8 l i ∧ rdk kuint8 l i ≤ 255 := by
  obtain ⟨k, rfl⟩ : ∃ k : Nat, i = k := ⟨i.toNat, by omega⟩
  have hk : k < l.length := by omega
  rw [rdk_get (k := kuint8) hk]
  exact h _ (List.getElem_mem hk)
theorem and255 (x : Int) : 0 ≤ IntKind.wrap IntKind.i64 (IntKind.wrap IntKind.u64 (((BitVec.ofInt (IntKind.bits IntKind.u64) x &&& BitVec.ofInt (IntKind.bits IntKind.u64) 255).toNat : Nat) : Int)) ∧
    IntKind.wrap IntKind.i64 (IntKind.wrap IntKind.u64 (((BitVec.ofInt (IntKind.bits IntKind.u64) x &&& BitVec.ofInt (IntKind.bits IntKind.u64) 255).toNat : Nat) : Int)) ≤ 255 := by
  have h : (BitVec.ofInt (IntKind.bits IntKind.u64) x &&& BitVec.ofInt (IntKind.bits IntKind.u64) 255).toNat ≤ 255 := by
    rw [BitVec.toNat_and]
    have e : (BitVec.ofInt (IntKind.bits IntKind.u64) 255).toNat = 255 := by decide
    rw [e]
    exact Nat.and_le_right
  generalize (BitVec.ofInt (IntKind.bits IntKind.u64) x &&& BitVec.ofInt (IntKind.bits IntKind.u64) 255).toNat = n at h
  have e1 : IntKind.wrap IntKind.u64 (n : Int) = n := by unfold IntKind.wrap; simp [IntKind.signed, IntKind.bits]; omega
  rw [e1, wrapI (by omega) (by omega)]
  omega
theorem next_ok {a : List Int} {b c n : Int} (h : Cur (a, b, c) n) (hn : n ≤ 1000000000000) : Ok (s_l1Cur_next a b c) fun r => Cur r.2 (n + 1) ∧ 0 ≤ r.1 ∧ r.1 ≤ 255 := by
  have h0 : 0 ≤ b := h.lo
  have h1 : b ≤ n := h.hi
  have hw : IntKind.wrap IntKind.i64 (b + 1) = b + 1 := wrapI (by omega) (by omega)
  have hc : Cur (a, b + 1, (0 : Int)) (n + 1) := ⟨h.by_, by show 0 ≤ b + 1; omega, by show b + 1 ≤ n + 1; omega⟩
  have hcc : ∀ s, Cur (a, b + 1, s) (n + 1) := fun s => ⟨hc.by_, hc.lo, hc.hi⟩
  unfold s_l1Cur_next
  rw [hw]
  refine Ok.cond (fun e => ?_) (fun e => ?_)
  · have e := of_decide_eq_true e
    rw [decide_eq_true h0, decide_eq_true e]
    simp only [cond_true]
    obtain ⟨g1, g2⟩ := bytes_rdk h.by_ h0 e
    have gw : IntKind.wrap IntKind.i64 (rdk kuint8 a b) = rdk kuint8 a b := wrapI (Int.le_trans (by decide) g1) (Int.le_trans g2 (by decide))
    refine Ok.cond (fun _ => Ok.ret ⟨hcc _, ?_⟩) (fun _ => Ok.ret ⟨hcc _, and255 _⟩)
    show 0 ≤ IntKind.wrap IntKind.i64 (rdk kuint8 a b) ∧ _ ≤ _
    rw [gw]; exact ⟨g1, g2⟩
  · refine Ok.cond (fun _ => Ok.ret ⟨hcc _, by show (0 : Int) ≤ 0 ∧ (0 : Int) ≤ 255; omega⟩) (fun _ => Ok.ret ⟨hcc _, and255 _⟩)
theorem tmodP {a b : Int} (h : 0 ≤ a) (hb : 0 < b) : 0 ≤ Int.tmod a b ∧ Int.tmod a b < b := by
  rw [Int.tmod_eq_emod_of_nonneg h]
  exact ⟨Int.emod_nonneg a (by omega), Int.emod_lt_of_pos a hb⟩
theorem pick_ok {a : List Int} {b c n : Int} (k : Int) (h : Cur (a, b, c) n) (hn : n ≤ 100000000000) : Ok (s_l1Cur_pick a b c k) fun r => Cur r.2 (n + 2) ∧ 0 ≤ r.1 ∧ (r.1 < k ∨ r.1 = 0) := by
  unfold s_l1Cur_pick
  refine Ok.cond (fun _ => Ok.ret ⟨h.mono (by omega), by show (0 : Int) ≤ 0; omega, .inr rfl⟩) (fun e => ?_)
  have e := of_decide_eq_false e
  have hk : (k == 0) = false := by rw [beq_eq_false_iff_ne]; omega
  refine (next_ok h (by omega)).bind fun r hr => ?_
  refine Ok.cond (fun e2 => ?_) (fun e2 => ?_)
  · refine (next_ok (n := n + 1) hr.1 (by omega)).bind fun s hs => ?_
    rw [hk, cond_false, wrapI (n := r.1 * 256) (by omega) (by omega), wrapI (by omega) (by omega)]
    have := tmodP (a := r.1 * 256 + s.1) (b := k) (by omega) (by omega)
    exact Ok.ret ⟨hs.1.mono (by omega), this.1, .inl this.2⟩
  · rw [hk, cond_false]
    have := tmodP (a := r.1) (b := k) hr.2.1 (by omega)
    exact Ok.ret ⟨hr.1.mono (by omega), this.1, .inl this.2⟩
theorem one_ok {a : List Int} {b c n : Int} (k : Int) (h : Cur (a, b, c) n) (hn : n ≤ 100000000000) : Ok (s_l1Cur_one a b c k) fun r => Cur r.2 (n + 2) := by
  unfold s_l1Cur_one
  exact (pick_ok k h hn).bind fun r hr => Ok.ret hr.1
theorem among_ok {a : List Int} {b c n : Int} (l : List Int) (h : Cur (a, b, c) n) (hl : l ≠ []) (hn : n ≤ 100000000000) : Ok (s_l1Cur_among a b c l) fun r => Cur r.2 (n + 2) ∧ r.1 ∈ l := by
  unfold s_l1Cur_among
  have hp : 0 < l.length := List.length_pos_iff.2 hl
  refine (pick_ok _ h hn).bind fun r hr => ?_
  have h1 : r.1 < (l.length : Int) := by omega
  rw [decide_eq_true hr.2.1, decide_eq_true h1]
  refine Ok.ret ⟨hr.1, ?_⟩
  obtain ⟨k, hk⟩ : ∃ k : Nat, r.1 = k := ⟨r.1.toNat, by omega⟩
  have hkl : k < l.length := by omega
  show rdk kint l r.1 ∈ l
  rw [hk, rdk_get (k := kint) hkl]
  exact List.getElem_mem hkl
theorem bytes_wf {l : List Int} (h : Wf kSuint8 l) : Bytes l := fun x hx => by
  have h1 : (Lit.int IntKind.u8 x).wf = true := h.2 x hx
  simp only [Lit.wf, Bool.and_eq_true, decide_eq_true_eq] at h1
  have e1 : IntKind.u8.min = 0 := by decide
  have e2 : IntKind.u8.max = 255 := by decide
  omega
theorem cur0 {l : List Int} (h : Bytes l) : Cur (l, 0, 0) 0 := ⟨h, Int.le_refl _, Int.le_refl _⟩
/-! ### divisors and fractions -/
theorem within_eq (x lo hi : Int) : i_within x lo hi = s_l1In x lo hi := by unfold i_within s_l1In; simp
theorem l1In_iff {x lo hi : Int} : s_l1In x lo hi = true ↔ lo ≤ x ∧ x ≤ hi := by
  unfold s_l1In
  by_cases h1 : lo ≤ x <;> by_cases h2 : x ≤ hi <;> simp [h1, h2]
theorem l1In_not {x lo hi : Int} (h : s_l1In x lo hi = false) : ¬ (lo ≤ x ∧ x ≤ hi) := fun k => by rw [l1In_iff.2 k] at h; cases h
theorem gcd_loop : ∀ (b a : Nat), i_gcd_L1 (a : Int) (b : Int) = some ((Nat.gcd a b : Nat) : Int) := by
  intro b
  induction b using Nat.strongRecOn with
  | ind b ih =>
    intro a
    rw [i_gcd_u1, i_gcd_t1]
    by_cases hb : b = 0
    · subst hb
      simp
    · have h0 : ((b : Int) == 0) = false := by rw [beq_eq_false_iff_ne]; omega
      have h1 : ((b : Int) != 0) = true := by rw [bne, h0]; rfl
      have h2 : Int.tmod (a : Int) (b : Int) = ((a % b : Nat) : Int) := by
        rw [Int.tmod_eq_emod_of_nonneg (by omega)]; rfl
      rw [h0, h1, h2]
      simp only [cond_true, cond_false]
      rw [ih (a % b) (Nat.mod_lt a (by omega)) b]
      congr 2
      rw [Nat.gcd_comm b, ← Nat.gcd_rec, Nat.gcd_comm]
theorem gcd_eq (a b : Nat) : i_gcd (a : Int) (b : Int) = some ((Nat.gcd a b : Nat) : Int) := gcd_loop b a
theorem part_eq (n d : Nat) (hd : 0 < d) (hn : n ≤ 4000000000000000000) (hd' : d ≤ 4000000000000000000) : i_part (n : Int) (d : Int) = some (((n / Nat.gcd n d : Nat) : Int), ((d / Nat.gcd n d : Nat) : Int), true) := by
  unfold i_part
  have h1 : ¬ ((d : Int) ≤ 0) := by omega
  have hg : 0 < Nat.gcd n d := Nat.gcd_pos_of_pos_right n hd
  have h2 : (((Nat.gcd n d : Nat) : Int) == 0) = false := by rw [beq_eq_false_iff_ne]; omega
  have e1 : Int.tdiv (n : Int) ((Nat.gcd n d : Nat) : Int) = ((n / Nat.gcd n d : Nat) : Int) := by rw [Int.tdiv_eq_ediv_of_nonneg (by omega)]; rfl
  have e2 : Int.tdiv (d : Int) ((Nat.gcd n d : Nat) : Int) = ((d / Nat.gcd n d : Nat) : Int) := by rw [Int.tdiv_eq_ediv_of_nonneg (by omega)]; rfl
  have b1 : n / Nat.gcd n d ≤ n := Nat.div_le_self _ _
  have b2 : d / Nat.gcd n d ≤ d := Nat.div_le_self _ _
  rw [decide_eq_false h1, gcd_eq]
  have w : ∀ q : Nat, q ≤ 4000000000000000000 → IntKind.wrap .i64 (q : Int) = q := fun q hq => wrapI (by omega) (by omega)
  simp only [cond_false, Option.bind_some, h2, e1, e2]
  rw [w _ (by omega), w _ (by omega)]
theorem part_mul (n d k : Nat) (hk : 0 < k) : (k * n) / Nat.gcd (k * n) (k * d) = n / Nat.gcd n d ∧ (k * d) / Nat.gcd (k * n) (k * d) = d / Nat.gcd n d := by
  rw [Nat.gcd_mul_left]
  exact ⟨Nat.mul_div_mul_left _ _ hk, Nat.mul_div_mul_left _ _ hk⟩
/-! ### patterns on rolls -/
theorem isCover_eq (n : Int) : i_isCover n = s_l1In n 1 100 := by unfold i_isCover; exact within_eq _ _ _
theorem isNeed_eq (n : Int) : i_isNeed n = s_l1In n 1 100 := by unfold i_isNeed; exact within_eq _ _ _
theorem isRoll_eq (n : Int) : i_isRoll n = s_l1In n 1 2000 := by unfold i_isRoll; exact within_eq _ _ _
theorem loop_push {α β : Type} {L : List α → Int → Option β} {f : Nat → α} {e : List α → Option β} {s : Nat} (hs : ∀ (k : Nat) (r : List α), r.length = k → k < s → L r (k : Int) = L (r ++ [f k]) ((k + 1 : Nat) : Int))
    (he : ∀ r : List α, r.length = s → L r (s : Int) = e r) : L [] 0 = e ((List.range s).map f) := by
  have h : ∀ (d k : Nat), k + d = s → L ((List.range k).map f) (k : Int) = e ((List.range s).map f) := by
    intro d
    induction d with
    | zero => intro k hk; obtain rfl : k = s := by omega
              exact he _ (by simp)
    | succ d ih =>
      intro k hk
      rw [hs k _ (by simp) (by omega), ← ih (k + 1) (by omega), List.range_succ, List.map_append]
      rfl
  exact h s 0 (by omega)
def patF (n p : Int) (k : Nat) : Int := Int.tmod ((k : Int) * n) p
def patL (s n p : Int) : List Int := (List.range s.toNat).map (patF n p)
noncomputable def patOk (s n p : Int) : Bool := s_l1In s 1 100 && (s_l1In n 1 100 && s_l1In p 1 2000)
theorem mul_bd {a b : Int} (ha : 0 ≤ a ∧ a ≤ 10000) (hb : 0 ≤ b ∧ b ≤ 10000) : 0 ≤ a * b ∧ a * b ≤ 100000000 :=
  ⟨Int.mul_nonneg ha.1 hb.1, by have := Int.mul_le_mul ha.2 hb.2 hb.1 (by decide : (0 : Int) ≤ 10000); omega⟩
theorem PatternStarts_i (s n p : Int) : i_PatternStarts s n p = some (bif patOk s n p then (patL s n p, true) else ([], false)) := by
  unfold i_PatternStarts i_PatternStarts_t0 patOk
  rw [isCover_eq, isNeed_eq, isRoll_eq]
  cases h1 : s_l1In s 1 100
  · rfl
  · cases h2 : s_l1In n 1 100
    · rfl
    · cases h3 : s_l1In p 1 2000
      · rfl
      · have g1 := l1In_iff.1 h1
        have g2 := l1In_iff.1 h2
        have g3 := l1In_iff.1 h3
        have hp : (p == 0) = false := by rw [beq_eq_false_iff_ne]; omega
        obtain ⟨m, rfl⟩ : ∃ m : Nat, s = m := ⟨s.toNat, by omega⟩
        simp only [Bool.not_true, cond_false, Bool.and_self, cond_true]
        refine loop_push (L := fun r k => i_PatternStarts_L1 r n p (m : Int) k) (f := patF n p) (e := fun r => some (r, true)) (s := m) (fun k r hr hk => ?_) (fun r hr => ?_)
        · have c1 : (k : Int) < m := by omega
          have hb : Nat.ble (r.length + 1) 4294967296 = true := by rw [ble_dec]; exact decide_eq_true (by omega)
          have := mul_bd (a := (k : Int)) (b := n) (by omega) (by omega)
          show i_PatternStarts_L1 r n p (m : Int) (k : Int) = _
          rw [i_PatternStarts_u1, i_PatternStarts_t1, decide_eq_true c1, hp, hb, wrapI (n := (k : Int) * n) (by omega) (by omega), wrapI (n := (k : Int) + 1) (by omega) (by omega)]
          rfl
        · have c1 : ¬ ((m : Int) < m) := by omega
          show i_PatternStarts_L1 r n p (m : Int) (m : Int) = _
          rw [i_PatternStarts_u1, i_PatternStarts_t1, decide_eq_false c1]
          rfl
theorem PatternStarts_s (s n p : Int) : s_PatternStarts s n p = some (bif patOk s n p then (patL s n p, true) else ([], false)) := by
  unfold s_PatternStarts s_PatternStarts_t0 patOk s_cpSteps s_cpPattern s_cpNeed
  cases h1 : s_l1In s 1 100
  · rfl
  · cases h2 : s_l1In n 1 100
    · rfl
    · cases h3 : s_l1In p 1 2000
      · rfl
      · have g1 := l1In_iff.1 h1
        have g2 := l1In_iff.1 h2
        have g3 := l1In_iff.1 h3
        have hp : (p == 0) = false := by rw [beq_eq_false_iff_ne]; omega
        obtain ⟨m, rfl⟩ : ∃ m : Nat, s = m := ⟨s.toNat, by omega⟩
        simp only [Bool.not_true, cond_false, Bool.and_self, cond_true]
        refine loop_push (L := fun r k => s_PatternStarts_L1 r (m : Int) n p k) (f := patF n p) (e := fun r => some (r, true)) (s := m) (fun k r hr hk => ?_) (fun r hr => ?_)
        · have c1 : (k : Int) < m := by omega
          have hb : Nat.ble (r.length + 1) 4294967296 = true := by rw [ble_dec]; exact decide_eq_true (by omega)
          have := mul_bd (a := (k : Int)) (b := n) (by omega) (by omega)
          show s_PatternStarts_L1 r (m : Int) n p (k : Int) = _
          rw [s_PatternStarts_u1, s_PatternStarts_t1, decide_eq_true c1, hp, hb, wrapI (n := (k : Int) * n) (by omega) (by omega), wrapI (n := (k : Int) + 1) (by omega) (by omega)]
          rfl
        · have c1 : ¬ ((m : Int) < m) := by omega
          show s_PatternStarts_L1 r (m : Int) n p (m : Int) = _
          rw [s_PatternStarts_u1, s_PatternStarts_t1, decide_eq_false c1]
          rfl
/-! ### periods -/
def perN (n p : Nat) : Nat := p / Nat.gcd n p
theorem perN_pos {n p : Nat} (hp : 0 < p) : 0 < perN n p := Nat.div_pos (Nat.le_of_dvd hp (Nat.gcd_dvd_right n p)) (Nat.gcd_pos_of_pos_right n hp)
theorem perN_le (n p : Nat) : perN n p ≤ p := Nat.div_le_self _ _
theorem perN_dvd {n p : Nat} (hp : 0 < p) (j : Nat) : p ∣ j * n ↔ perN n p ∣ j := by
  have hg : 0 < Nat.gcd n p := Nat.gcd_pos_of_pos_right n hp
  obtain ⟨m, hm⟩ := Nat.gcd_dvd_left n p
  have hc : Nat.Coprime (n / Nat.gcd n p) (p / Nat.gcd n p) := Nat.coprime_div_gcd_div_gcd hg
  have e1 : n = Nat.gcd n p * (n / Nat.gcd n p) := (Nat.mul_div_cancel' (Nat.gcd_dvd_left n p)).symm
  have e2 : p = Nat.gcd n p * (p / Nat.gcd n p) := (Nat.mul_div_cancel' (Nat.gcd_dvd_right n p)).symm
  unfold perN
  generalize Nat.gcd n p = g at *
  generalize n / g = a at *
  generalize p / g = b at *
  rw [e1, e2]
  constructor
  · intro h
    have h2 : g * b ∣ g * (j * a) := by rw [show g * (j * a) = j * (g * a) from by simp only [Nat.mul_left_comm]]; exact h
    exact hc.symm.dvd_of_dvd_mul_right (Nat.dvd_of_mul_dvd_mul_left hg h2)
  · intro h
    rw [show j * (g * a) = g * (j * a) from by simp only [Nat.mul_left_comm]]
    exact Nat.mul_dvd_mul_left g (Nat.dvd_trans h ⟨a, rfl⟩)
theorem tmod_nat (a b : Nat) : Int.tmod (a : Int) (b : Int) = ((a % b : Nat) : Int) := by
  rw [Int.tmod_eq_emod_of_nonneg (by omega)]; rfl
theorem patF_nat (n p k : Nat) : patF (n : Int) (p : Int) k = ((k * n % p : Nat) : Int) := by
  unfold patF
  rw [show (k : Int) * (n : Int) = ((k * n : Nat) : Int) from by push_cast; rfl, tmod_nat]
theorem patF_zero {n p : Nat} (hp : 0 < p) (k : Nat) : (patF (n : Int) (p : Int) k == 0) = decide (perN n p ∣ k) := by
  rw [patF_nat]
  by_cases h : perN n p ∣ k
  · rw [decide_eq_true h, beq_iff_eq]
    have := Nat.dvd_iff_mod_eq_zero.1 ((perN_dvd hp k).2 h)
    omega
  · rw [decide_eq_false h, beq_eq_false_iff_ne]
    intro h2
    exact h ((perN_dvd hp k).1 (Nat.dvd_iff_mod_eq_zero.2 (by omega)))
theorem cpPeriod_loop {n p : Nat} (hn : n ≤ 100) (hp : 0 < p) (hp2 : p ≤ 2000) : ∀ (d j : Nat), 1 ≤ j → j + d = perN n p → s_cpPeriod_L1 (n : Int) (p : Int) (j : Int) = some (perN n p : Int)
  | 0, j, h1, h2 => by
    have hz : ((p : Int) == 0) = false := by rw [beq_eq_false_iff_ne]; omega
    have hj : j ≤ 2000 := by have := perN_le n p; omega
    have hb := mul_bd (a := (j : Int)) (b := (n : Int)) (by omega) (by omega)
    have hm : (Int.tmod ((j : Int) * n) p != 0) = false := by
      have := patF_zero (n := n) hp j
      rw [decide_eq_true (show perN n p ∣ j from by rw [← h2]; exact ⟨1, by omega⟩)] at this
      unfold patF at this
      rw [bne, this]; rfl
    rw [s_cpPeriod_u1, s_cpPeriod_t1, wrapI (n := (j : Int) * n) (by omega) (by omega), hz, hm]
    simp only [cond_false]
    congr 1; omega
  | d + 1, j, h1, h2 => by
    have hz : ((p : Int) == 0) = false := by rw [beq_eq_false_iff_ne]; omega
    have hj : j ≤ 2000 := by have := perN_le n p; omega
    have hb := mul_bd (a := (j : Int)) (b := (n : Int)) (by omega) (by omega)
    have hm : (Int.tmod ((j : Int) * n) p != 0) = true := by
      have := patF_zero (n := n) hp j
      rw [decide_eq_false (show ¬ perN n p ∣ j from fun h => by have := Nat.le_of_dvd (by omega) h; omega)] at this
      unfold patF at this
      rw [bne, this]; rfl
    rw [s_cpPeriod_u1, s_cpPeriod_t1, wrapI (n := (j : Int) * n) (by omega) (by omega), wrapI (n := (j : Int) + 1) (by omega) (by omega), hz, hm]
    exact cpPeriod_loop hn hp hp2 d (j + 1) (by omega) (by omega)
theorem cpPeriod_eq {n p : Nat} (hn : n ≤ 100) (hp : 0 < p) (hp2 : p ≤ 2000) : s_cpPeriod (n : Int) (p : Int) = some (perN n p : Int) := by
  have := perN_pos (n := n) hp
  exact cpPeriod_loop hn hp hp2 (perN n p - 1) 1 (by omega) (by omega)
theorem nat_of {x : Int} (h : 0 ≤ x) : ∃ m : Nat, x = m := ⟨x.toNat, by omega⟩
noncomputable def perV (n p : Int) : Int := (perN n.toNat p.toNat : Nat)
theorem PatternPeriod_i (n p : Int) : i_PatternPeriod n p = some (bif s_l1In n 1 100 && s_l1In p 1 2000 then (perV n p, true) else (0, false)) := by
  unfold i_PatternPeriod
  rw [isNeed_eq, isRoll_eq]
  cases h2 : s_l1In n 1 100
  · rfl
  · cases h3 : s_l1In p 1 2000
    · rfl
    · have g2 := l1In_iff.1 h2
      have g3 := l1In_iff.1 h3
      obtain ⟨n, rfl⟩ := nat_of (x := n) (by omega)
      obtain ⟨p, rfl⟩ := nat_of (x := p) (by omega)
      have hg : 0 < Nat.gcd n p := Nat.gcd_pos_of_pos_right n (by omega)
      have hz : (((Nat.gcd n p : Nat) : Int) == 0) = false := by rw [beq_eq_false_iff_ne]; omega
      have hl := perN_le n p
      have e : Int.tdiv (p : Int) ((Nat.gcd n p : Nat) : Int) = ((perN n p : Nat) : Int) := by rw [Int.tdiv_eq_ediv_of_nonneg (by omega)]; rfl
      rw [gcd_eq]
      simp only [Bool.not_true, cond_false, Option.bind_some, hz, e]
      rw [wrapI (by omega) (by omega)]
      rfl
theorem PatternPeriod_s (n p : Int) : s_PatternPeriod n p = some (bif s_l1In n 1 100 && s_l1In p 1 2000 then (perV n p, true) else (0, false)) := by
  unfold s_PatternPeriod s_cpPattern s_cpNeed
  cases h2 : s_l1In n 1 100
  · rfl
  · cases h3 : s_l1In p 1 2000
    · rfl
    · have g2 := l1In_iff.1 h2
      have g3 := l1In_iff.1 h3
      obtain ⟨n, rfl⟩ := nat_of (x := n) (by omega)
      obtain ⟨p, rfl⟩ := nat_of (x := p) (by omega)
      rw [cpPeriod_eq (by omega) (by omega) (by omega)]
      rfl
/-! ### whole rolls -/
def wholF (n p : Int) (k : Nat) : List Int := bif patF n p k == 0 then [(k : Int) + 1] else []
def wholL (s n p : Int) : List Int := (List.range s.toNat).flatMap (wholF n p)
def wholR (n p : Int) (k d : Nat) : List Int := (List.range' k d).flatMap (wholF n p)
theorem wholR_succ (n p : Int) (k d : Nat) : wholR n p k (d + 1) = wholF n p k ++ wholR n p (k + 1) d := by
  unfold wholR; rw [List.range'_succ, List.flatMap_cons]
theorem patL_len (s n p : Int) : (patL s n p).length = s.toNat := by unfold patL; simp
theorem patL_get (m : Nat) (n p : Int) (k : Nat) (h : k < (patL (m : Int) n p).length) : (patL (m : Int) n p)[k] = patF n p k := by unfold patL; simp
theorem whole_i {m : Nat} (hm : m ≤ 100) (n p : Int) : ∀ (d k : Nat) (r : List Int), k + d = m → r.length ≤ k → i_WholeStarts_L1 r (patL (m : Int) n p) (m : Int) (k : Int) = some (r ++ wholR n p k d, true)
  | 0, k, r, h1, h2 => by
    have : ¬ ((k : Int) < m) := by omega
    rw [i_WholeStarts_u1, i_WholeStarts_t1, decide_eq_false this]
    simp [wholR]
  | d + 1, k, r, h1, h2 => by
    have hl : (patL (m : Int) n p).length = m := by rw [patL_len]; rfl
    have c1 : (k : Int) < m := by omega
    have hk : k < (patL (m : Int) n p).length := by omega
    have hb : Nat.ble (r.length + 1) 4294967296 = true := by rw [ble_dec]; exact decide_eq_true (by omega)
    have hw : IntKind.wrap .i64 ((k : Int) + 1) = ((k + 1 : Nat) : Int) := by rw [wrapI (by omega) (by omega)]; omega
    rw [i_WholeStarts_u1, i_WholeStarts_t1, decide_eq_true c1, decide_eq_true (Int.natCast_nonneg k), hl, decide_eq_true c1, rdk_get (k := kint) hk, patL_get, hb, hw, wholR_succ]
    simp only [cond_true]
    unfold wholF
    cases h : patF n p k == 0
    · simp only [cond_false, List.nil_append]
      exact whole_i hm n p d (k + 1) r (by omega) (by omega)
    · simp only [cond_true]
      rw [whole_i hm n p d (k + 1) _ (by omega) (by simp; omega), List.append_assoc]
      rfl
theorem wholR_skip {n p : Nat} (hp : 0 < p) {k : Nat} (hk : perN n p ∣ k) (e : Nat) : ∀ j : Nat, j < perN n p → wholR (n : Int) (p : Int) (k + 1) e = wholR (n : Int) (p : Int) (k + 1 + j) (e - j)
  | 0, _ => rfl
  | j + 1, hj => by
    rw [wholR_skip hp hk e j (by omega)]
    by_cases he : e - j = 0
    · have : e - (j + 1) = 0 := by omega
      rw [he, this]; rfl
    · obtain ⟨q, hq⟩ : ∃ q, e - j = q + 1 := ⟨e - j - 1, by omega⟩
      have hq2 : e - (j + 1) = q := by omega
      rw [hq, hq2, wholR_succ]
      have hn : ¬ perN n p ∣ (k + 1 + j) := fun hh => by
        have : perN n p ∣ (j + 1) := (Nat.dvd_add_right hk).1 (by rw [show k + (j + 1) = k + 1 + j from by omega]; exact hh)
        have := Nat.le_of_dvd (by omega) this
        omega
      have hz : wholF (n : Int) (p : Int) (k + 1 + j) = [] := by unfold wholF; rw [patF_zero hp, decide_eq_false hn]; rfl
      rw [hz]; rfl
theorem whole_s {m n p : Nat} (hm : m ≤ 100) (hn : n ≤ 100) (hp : 0 < p) (hp2 : p ≤ 2000) : ∀ (d k : Nat) (r : List Int), m ≤ k + d → k ≤ 2100 → perN n p ∣ k → r.length ≤ k →
    s_WholeStarts_L1 r (m : Int) (n : Int) (p : Int) (k : Int) = some (r ++ wholR (n : Int) (p : Int) k (m - k), true)
  | 0, k, r, h1, h2, h3, h4 => by
    have : ¬ ((k : Int) < m) := by omega
    rw [s_WholeStarts_u1, s_WholeStarts_t1, decide_eq_false this, show m - k = 0 from by omega]
    simp [wholR]
  | d + 1, k, r, h1, h2, h3, h4 => by
    by_cases hk : k < m
    · have c1 : (k : Int) < m := by omega
      have hb : Nat.ble (r.length + 1) 4294967296 = true := by rw [ble_dec]; exact decide_eq_true (by omega)
      have hP := perN_pos (n := n) hp
      have hP2 := perN_le n p
      have hw : IntKind.wrap .i64 ((k : Int) + (perN n p : Int)) = ((k + perN n p : Nat) : Int) := by rw [wrapI (by omega) (by omega)]; omega
      have hz : wholF (n : Int) (p : Int) k = [(k : Int) + 1] := by unfold wholF; rw [patF_zero hp, decide_eq_true h3]; rfl
      rw [s_WholeStarts_u1, s_WholeStarts_t1, decide_eq_true c1, hb, cpPeriod_eq hn hp hp2]
      simp only [cond_true, Option.bind_some]
      rw [hw, wrapI (n := (k : Int) + 1) (by omega) (by omega), show m - k = (m - k - 1) + 1 from by omega, wholR_succ, hz, wholR_skip hp h3 (m - k - 1) (perN n p - 1) (by omega),
        whole_s hm hn hp hp2 d (k + perN n p) _ (by omega) (by omega) (Nat.dvd_add h3 ⟨1, by omega⟩) (by simp; omega), List.append_assoc,
        show k + 1 + (perN n p - 1) = k + perN n p from by omega, show m - k - 1 - (perN n p - 1) = m - (k + perN n p) from by omega]
    · have : ¬ ((k : Int) < m) := by omega
      rw [s_WholeStarts_u1, s_WholeStarts_t1, decide_eq_false this, show m - k = 0 from by omega]
      simp [wholR]
noncomputable def whV (s n p : Int) : List Int := wholR n p 0 s.toNat
theorem WholeStarts_i (s n p : Int) : i_WholeStarts s n p = some (bif patOk s n p then (whV s n p, true) else ([], false)) := by
  unfold i_WholeStarts i_WholeStarts_t0
  rw [PatternStarts_i]
  cases h : patOk s n p
  · rfl
  · simp only [cond_true, Option.bind_some, Bool.not_true, cond_false]
    unfold patOk at h
    simp only [Bool.and_eq_true] at h
    have g1 := l1In_iff.1 h.1
    obtain ⟨m, rfl⟩ := nat_of (x := s) (by omega)
    have e := whole_i (m := m) (by omega) n p m 0 [] (by omega) (by simp)
    rw [patL_len]
    exact e
theorem WholeStarts_s (s n p : Int) : s_WholeStarts s n p = some (bif patOk s n p then (whV s n p, true) else ([], false)) := by
  unfold s_WholeStarts s_WholeStarts_t0 patOk s_cpSteps s_cpPattern s_cpNeed
  cases h1 : s_l1In s 1 100
  · rfl
  · cases h2 : s_l1In n 1 100
    · rfl
    · cases h3 : s_l1In p 1 2000
      · rfl
      · have g1 := l1In_iff.1 h1
        have g2 := l1In_iff.1 h2
        have g3 := l1In_iff.1 h3
        obtain ⟨m, rfl⟩ := nat_of (x := s) (by omega)
        obtain ⟨n, rfl⟩ := nat_of (x := n) (by omega)
        obtain ⟨p, rfl⟩ := nat_of (x := p) (by omega)
        exact whole_s (m := m) (by omega) (by omega) (by omega) (by omega) m 0 [] (by omega) (by omega) ⟨0, rfl⟩ (by simp)
/-! ### what the carpet laws compare -/
theorem WithPattern_eq (n p : Int) : i_WithPattern n p = s_WithPattern n p := by
  unfold i_WithPattern s_WithPattern s_cpPattern s_cpNeed
  rw [isNeed_eq, isRoll_eq]
  cases s_l1In n 1 100 <;> cases s_l1In p 1 2000 <;> rfl
noncomputable def wpV (n p : Int) : Int := (n + p - 1) / p * p
theorem WithPattern_s {n p : Int} : s_WithPattern n p = some (bif s_l1In n 1 100 && s_l1In p 1 2000 then (wpV n p, wpV n p - n, true) else (0, 0, false)) := by
  unfold s_WithPattern s_cpPattern s_cpNeed
  cases h2 : s_l1In n 1 100
  · rfl
  · cases h3 : s_l1In p 1 2000
    · rfl
    · have g2 := l1In_iff.1 h2
      have g3 := l1In_iff.1 h3
      have hz : (p == 0) = false := by rw [beq_eq_false_iff_ne]; omega
      have e1 : IntKind.wrap .i64 (n + p) = n + p := wrapI (by omega) (by omega)
      have e2 : IntKind.wrap .i64 (n + p - 1) = n + p - 1 := wrapI (by omega) (by omega)
      have d1 : 0 ≤ (n + p - 1) / p := Int.ediv_nonneg (by omega) (by omega)
      have d2 : (n + p - 1) / p ≤ n + p - 1 := Int.ediv_le_self _ (by omega)
      have b := mul_bd (a := (n + p - 1) / p) (b := p) (by omega) (by omega)
      have e3 : IntKind.wrap .i64 ((n + p - 1) / p) = (n + p - 1) / p := wrapI (by omega) (by omega)
      have e4 : IntKind.wrap .i64 ((n + p - 1) / p * p) = (n + p - 1) / p * p := wrapI (by omega) (by omega)
      have e5 : IntKind.wrap .i64 ((n + p - 1) / p * p - n) = (n + p - 1) / p * p - n := wrapI (by omega) (by omega)
      have e6 : Int.tdiv (n + p - 1) p = (n + p - 1) / p := Int.tdiv_eq_ediv_of_nonneg (by omega)
      simp only [e1, e2, e6, e3, e4, e5, hz]
      rfl
theorem wSame_self {a : List Int} (ha : a.length ≤ 100000) : w_wSame a a = some true := by
  unfold w_wSame w_wSame_t0
  rw [bne_self_eq_false, cond_false]
  refine drop_ind a (fun i l => w_wSame_L1 a a (a.length : Int) (i : Int) = some true) ?_ (fun i hi ih => ?_)
  · have : ¬ ((a.length : Int) < a.length) := by omega
    rw [w_wSame_u1, w_wSame_t1, decide_eq_false this]; rfl
  · have c1 : (i : Int) < a.length := by omega
    rw [w_wSame_u1, w_wSame_t1, decide_eq_true c1, decide_eq_true (Int.natCast_nonneg i), rdk_get (k := kint) hi, bne_self_eq_false, wrapI (n := (i : Int) + 1) (by omega) (by omega)]
    exact ih
theorem wRises_ok {a : List Int} (ha : a.length ≤ 100000) (h : ∀ i (hi : i + 1 < a.length), a[i] < a[i + 1]) : w_wRises a = some true := by
  unfold w_wRises w_wRises_t0
  have go : ∀ (d k : Nat), k + d = a.length → 1 ≤ k → w_wRises_L1 a (k : Int) = some true := by
    intro d
    induction d with
    | zero =>
      intro k hk _
      have : ¬ ((k : Int) < a.length) := by omega
      rw [w_wRises_u1, w_wRises_t1, decide_eq_false this]; rfl
    | succ d ih =>
      intro k hk h1
      obtain ⟨j, rfl⟩ : ∃ j, k = j + 1 := ⟨k - 1, by omega⟩
      have c1 : ((j + 1 : Nat) : Int) < a.length := by omega
      have c2 : (j : Int) < a.length := by omega
      have hw : IntKind.wrap .i64 (((j + 1 : Nat) : Int) - 1) = (j : Int) := by rw [wrapI (by omega) (by omega)]; omega
      have hw2 : IntKind.wrap .i64 (((j + 1 : Nat) : Int) + 1) = ((j + 1 + 1 : Nat) : Int) := by rw [wrapI (by omega) (by omega)]; omega
      have hlt := h j (by omega)
      have c3 : ¬ (a[j] ≥ a[j + 1]) := by omega
      rw [w_wRises_u1, w_wRises_t1, hw, hw2, decide_eq_true c1, decide_eq_true c2, decide_eq_true (Int.natCast_nonneg _), decide_eq_true (Int.natCast_nonneg _), rdk_get (k := kint) (by omega : j < a.length), rdk_get (k := kint) (by omega : j + 1 < a.length), decide_eq_false c3]
      exact ih (j + 1 + 1) (by omega) (by omega)
  by_cases h0 : 1 ≤ a.length
  · exact go (a.length - 1) 1 (by omega) (by omega)
  · have : ¬ ((1 : Int) < a.length) := by omega
    rw [w_wRises_u1, w_wRises_t1, decide_eq_false this]; rfl
theorem wHas_eq {a : List Int} (ha : a.length ≤ 100000) (n : Int) : w_wHas a n = some (decide (n ∈ a)) := by
  unfold w_wHas w_wHas_t0
  refine drop_ind a (fun i l => w_wHas_L1 a n (a.length : Int) (i : Int) = some (decide (n ∈ l))) ?_ (fun i hi ih => ?_)
  · have : ¬ ((a.length : Int) < a.length) := by omega
    rw [w_wHas_u1, w_wHas_t1, decide_eq_false this]; simp
  · have c1 : (i : Int) < a.length := by omega
    rw [w_wHas_u1, w_wHas_t1, decide_eq_true c1, decide_eq_true (Int.natCast_nonneg i), rdk_get (k := kint) hi, wrapI (n := (i : Int) + 1) (by omega) (by omega)]
    simp only [cond_true]
    by_cases h : a[i] = n
    · rw [show (a[i] == n) = true from beq_iff_eq.2 h, decide_eq_true (show n ∈ a[i] :: a.drop (i + 1) from by rw [h]; exact List.mem_cons_self)]; rfl
    · rw [show (a[i] == n) = false from beq_eq_false_iff_ne.2 h, cond_false]
      have e : decide (n ∈ a[i] :: a.drop (i + 1)) = decide (n ∈ a.drop (i + 1)) := decide_eq_decide.2 ⟨fun m => (List.mem_cons.1 m).resolve_left (fun e => h e.symm), fun m => List.mem_cons_of_mem _ m⟩
      rw [e]
      exact ih
/-! ### strings of letters -/
noncomputable def strOf (l : List Int) : ByteArray := List.foldl (fun r n => ByteArray.push r (UInt8.ofNat (Int.toNat n))) ByteArray.empty l
theorem strOf_snoc (l : List Int) (x : Int) : strOf (l ++ [x]) = (strOf l).push (UInt8.ofNat x.toNat) := by unfold strOf; rw [List.foldl_append]; rfl
theorem strOf_size : ∀ l : List Int, (strOf l).size = l.length := by
  intro l
  have h : ∀ (l : List Int) (b : ByteArray), (List.foldl (fun r n => ByteArray.push r (UInt8.ofNat (Int.toNat n))) b l).size = b.size + l.length := by
    intro l
    induction l with
    | nil => intro b; rfl
    | cons x l ih => intro b; rw [List.foldl_cons, ih, ByteArray.size_push, List.length_cons]; omega
  exact (h l ByteArray.empty).trans (by simp)
theorem bt_get {s : ByteArray} {i : Nat} (h : i < s.size) : bt s (i : Int) = ((s.data[i]'h).toNat : Int) := by
  unfold bt
  have h' : i < s.data.toList.length := h
  rw [Int.toNat_natCast, List.getD_eq_getElem?_getD, List.getElem?_eq_getElem h']
  rfl
theorem bt_bd (s : ByteArray) (i : Int) : 0 ≤ bt s i ∧ bt s i ≤ 255 := by
  unfold bt
  have := (s.data.toList.getD i.toNat 0).toNat_lt
  omega
theorem snoc_ext {s : ByteArray} {i : Nat} (h : i < s.size) (o : ByteArray) : o ++ s.extract i (i + 1) = o.push (UInt8.ofNat (bt s (i : Int)).toNat) := by
  rw [bt_get h, Int.toNat_natCast, UInt8.ofNat_toNat]
  apply ByteArray.ext
  have h' : i < s.data.size := h
  rw [ByteArray.data_append, ByteArray.data_extract, ByteArray.data_push]
  apply Array.ext'
  have h2 : i < s.data.toList.length := h
  rw [Array.toList_append, Array.toList_extract, Array.toList_push, List.extract_eq_take_drop, List.drop_eq_getElem_cons h2, show i + 1 - i = 1 from by omega]
  rfl
/-! ### stripes -/
def letB (x : Int) : Bool := decide (97 ≤ x) && decide (x ≤ 122)
def lettersOf (s : ByteArray) : Bool := s.data.toList.all fun b => letB (b.toNat : Int)
noncomputable def strOk (s : ByteArray) : Bool := s_l1In (s.size : Int) 1 10 && lettersOf s
theorem size_list (s : ByteArray) : s.data.toList.length = s.size := rfl
theorem bt_list {s : ByteArray} {i : Nat} (h : i < s.data.toList.length) : bt s (i : Int) = ((s.data.toList[i]).toNat : Int) := by
  unfold bt
  rw [Int.toNat_natCast, List.getD_eq_getElem?_getD, List.getElem?_eq_getElem h]; rfl
theorem IsStriped_i {s : ByteArray} (hs : s.size ≤ 10000000) : i_IsStriped s = some (strOk s) := by
  unfold i_IsStriped i_IsStriped_t0 strOk lettersOf
  have e := drop_ind s.data.toList (fun i l => i_IsStriped_L1 s (s.size : Int) (i : Int) = some (s_l1In (s.size : Int) 1 10 && l.all fun b => letB (b.toNat : Int))) ?_ (fun i hi ih => ?_)
  · exact e
  · have : ¬ ((s.size : Int) < s.size) := by omega
    rw [size_list, i_IsStriped_u1, i_IsStriped_t1, decide_eq_false this, within_eq]; simp
  · have hi' : i < s.size := hi
    have c1 : (i : Int) < s.size := by omega
    rw [i_IsStriped_u1, i_IsStriped_t1, decide_eq_true c1, decide_eq_true (Int.natCast_nonneg i), bt_list hi, wrapI (n := (i : Int) + 1) (by omega) (by omega), List.all_cons]
    simp only [cond_true]
    unfold letB
    by_cases h1 : ((s.data.toList[i]).toNat : Int) < 97
    · rw [decide_eq_true h1, decide_eq_false (show ¬ (97 ≤ ((s.data.toList[i]).toNat : Int)) by omega)]; simp
    · by_cases h2 : ((s.data.toList[i]).toNat : Int) > 122
      · rw [decide_eq_false h1, decide_eq_true h2, decide_eq_false (show ¬ (((s.data.toList[i]).toNat : Int) ≤ 122) by omega)]; simp
      · rw [decide_eq_false h1, decide_eq_false h2, decide_eq_true (show 97 ≤ ((s.data.toList[i]).toNat : Int) by omega), decide_eq_true (show ((s.data.toList[i]).toNat : Int) ≤ 122 by omega)]
        exact ih
theorem cpStripes_eq {s : ByteArray} (hs : s.size ≤ 10000000) : s_cpStripes s = some (strOk s) := by
  unfold s_cpStripes s_cpStripes_t0 strOk lettersOf
  cases h : s_l1In (s.size : Int) 1 10
  · rfl
  · simp only [Bool.not_true, cond_false, Bool.true_and]
    have e := drop_ind s.data.toList (fun i l => s_cpStripes_L1 s (i : Int) = some (l.all fun b => letB (b.toNat : Int))) ?_ (fun i hi ih => ?_)
    · exact e
    · have : ¬ ((s.size : Int) < s.size) := by omega
      rw [size_list, s_cpStripes_u1, s_cpStripes_t1, decide_eq_false this]; simp
    · have hi' : i < s.size := hi
      have c1 : (i : Int) < s.size := by omega
      rw [s_cpStripes_u1, s_cpStripes_t1, decide_eq_true c1, decide_eq_true (Int.natCast_nonneg i), bt_list hi, wrapI (n := (i : Int) + 1) (by omega) (by omega), List.all_cons]
      simp only [cond_true]
      unfold letB
      by_cases h1 : ((s.data.toList[i]).toNat : Int) < 97
      · rw [decide_eq_true h1, decide_eq_false (show ¬ (97 ≤ ((s.data.toList[i]).toNat : Int)) by omega)]; simp
      · by_cases h2 : ((s.data.toList[i]).toNat : Int) > 122
        · rw [decide_eq_false h1, decide_eq_true h2, decide_eq_false (show ¬ (((s.data.toList[i]).toNat : Int) ≤ 122) by omega)]; simp
        · rw [decide_eq_false h1, decide_eq_false h2, decide_eq_true (show 97 ≤ ((s.data.toList[i]).toNat : Int) by omega), decide_eq_true (show ((s.data.toList[i]).toNat : Int) ≤ 122 by omega)]
          exact ih
theorem IsStriped_s {s : ByteArray} (hs : s.size ≤ 10000000) : s_IsStriped s = some (strOk s) := by
  unfold s_IsStriped; rw [cpStripes_eq hs]; rfl
structure Str (s : ByteArray) : Prop where
  lo : 1 ≤ s.size
  hi : s.size ≤ 10
  all : ∀ i : Nat, i < s.size → 97 ≤ bt s (i : Int) ∧ bt s (i : Int) ≤ 122
theorem strOk_iff {s : ByteArray} (h : strOk s = true) : Str s := by
  unfold strOk lettersOf at h
  simp only [Bool.and_eq_true] at h
  have g := l1In_iff.1 h.1
  refine ⟨by omega, by omega, fun i hi => ?_⟩
  have := List.all_eq_true.1 h.2 _ (List.getElem_mem (show i < s.data.toList.length from hi))
  rw [bt_list (show i < s.data.toList.length from hi)]
  unfold letB at this
  simpa using this
/-! ### colours -/
def colN (s : ByteArray) (w q : Nat) : Int := bt s ((q / w % s.size : Nat) : Int)
theorem colN_bd {s : ByteArray} (h : Str s) (w q : Nat) : 97 ≤ colN s w q ∧ colN s w q ≤ 122 := h.all _ (Nat.mod_lt _ (by have := h.lo; omega))
theorem col_ix {s : ByteArray} (w q : Nat) (hq : q ≤ 1000000) : Int.tmod (IntKind.wrap .i64 (Int.tdiv (q : Int) (w : Int))) (s.size : Int) = ((q / w % s.size : Nat) : Int) := by
  have e : Int.tdiv (q : Int) (w : Int) = ((q / w : Nat) : Int) := by rw [Int.tdiv_eq_ediv_of_nonneg (by omega)]; rfl
  have := Nat.div_le_self q w
  rw [e]
  generalize q / w = z at *
  rw [wrapI (by omega) (by omega), tmod_nat]
theorem i_colour_eq {s : ByteArray} (h : Str s) {w q : Nat} (hw : 0 < w) (hq : q ≤ 1000000) : i_colour s (w : Int) (q : Int) = some (colN s w q) := by
  have hz : ((w : Int) == 0) = false := by rw [beq_eq_false_iff_ne]; omega
  have hz2 : ((s.size : Int) == 0) = false := by rw [beq_eq_false_iff_ne]; have := h.lo; omega
  have hm : q / w % s.size < s.size := Nat.mod_lt _ (by have := h.lo; omega)
  unfold i_colour
  rw [col_ix w q hq, hz, hz2, decide_eq_true (Int.natCast_nonneg _), decide_eq_true (show ((q / w % s.size : Nat) : Int) < (s.size : Int) by omega)]
  rfl
theorem strOf_one (x : Int) : strOf [x] = ByteArray.empty.push (UInt8.ofNat x.toNat) := rfl
theorem empty_app (b : ByteArray) : ByteArray.empty ++ b = b := by
  apply ByteArray.ext; rw [ByteArray.data_append]; show #[] ++ b.data = b.data; simp
theorem ext_one {s : ByteArray} {i : Nat} (h : i < s.size) : s.extract i (i + 1) = strOf [bt s (i : Int)] := by
  rw [strOf_one, ← snoc_ext h, empty_app]
theorem enc_one {x : Int} (h : 97 ≤ x ∧ x ≤ 122) : Utf8.encode (IntKind.wrap .i32 x) = strOf [x] := by
  obtain ⟨n, rfl⟩ := nat_of (x := x) (by omega)
  have key : ∀ n : Nat, n < 26 → Utf8.encode (IntKind.wrap .i32 ((n + 97 : Nat) : Int)) = strOf [((n + 97 : Nat) : Int)] := by
    intro n hn
    apply ByteArray.ext
    have : ∀ n : Fin 26, (Utf8.encode (IntKind.wrap .i32 ((n.val + 97 : Nat) : Int))).data = (strOf [((n.val + 97 : Nat) : Int)]).data := by decide
    exact this ⟨n, hn⟩
  have := key (n - 97) (by omega)
  rwa [show n - 97 + 97 = n from by omega] at this
theorem ColourAt_i (s : ByteArray) (hs : s.size ≤ 10000000) (w q : Int) : i_ColourAt s w q = some (bif strOk s && (s_l1In w 1 100 && s_l1In q 0 2000) then (strOf [colN s w.toNat q.toNat], true) else (⟨#[]⟩, false)) := by
  unfold i_ColourAt
  rw [IsStriped_i hs, isNeed_eq, within_eq]
  simp only [Option.bind_some]
  cases h1 : strOk s
  · rfl
  · cases h2 : s_l1In w 1 100
    · rfl
    · cases h3 : s_l1In q 0 2000
      · rfl
      · have g2 := l1In_iff.1 h2
        have g3 := l1In_iff.1 h3
        obtain ⟨w, rfl⟩ := nat_of (x := w) (by omega)
        obtain ⟨q, rfl⟩ := nat_of (x := q) (by omega)
        have hS := strOk_iff h1
        rw [i_colour_eq hS (by omega) (by omega)]
        simp only [Option.bind_some]
        rw [enc_one (colN_bd hS w q)]
        rfl
theorem ColourAt_s (s : ByteArray) (hs : s.size ≤ 10000000) (w q : Int) : s_ColourAt s w q = some (bif strOk s && (s_l1In w 1 100 && s_l1In q 0 2000) then (strOf [colN s w.toNat q.toNat], true) else (⟨#[]⟩, false)) := by
  unfold s_ColourAt s_cpWide s_cpNeed
  rw [cpStripes_eq hs]
  simp only [Option.bind_some]
  cases h1 : strOk s
  · rfl
  · cases h2 : s_l1In w 1 100
    · rfl
    · cases h3 : s_l1In q 0 2000
      · rfl
      · have g2 := l1In_iff.1 h2
        have g3 := l1In_iff.1 h3
        obtain ⟨w, rfl⟩ := nat_of (x := w) (by omega)
        obtain ⟨q, rfl⟩ := nat_of (x := q) (by omega)
        have hS := strOk_iff h1
        have hz : ((w : Int) == 0) = false := by rw [beq_eq_false_iff_ne]; omega
        have hz2 : ((s.size : Int) == 0) = false := by rw [beq_eq_false_iff_ne]; have := hS.lo; omega
        have hm : q / w % s.size < s.size := Nat.mod_lt _ (by have := hS.lo; omega)
        have hh := hS.hi
        have e := col_ix (s := s) w q (by omega)
        simp only [cond_true, Option.bind_some, Bool.not_true, cond_false, hz, hz2, e]
        rw [wrapI (n := ((q / w % s.size : Nat) : Int) + 1) (by omega) (by omega)]
        have c1 : (0 : Int) ≤ ((q / w % s.size : Nat) : Int) + 1 := by omega
        have c2 : ((q / w % s.size : Nat) : Int) + 1 ≤ (s.size : Int) := by omega
        have c3 : ((q / w % s.size : Nat) : Int) ≤ ((q / w % s.size : Nat) : Int) + 1 := by omega
        have t2 : (((q / w % s.size : Nat) : Int) + 1).toNat = q / w % s.size + 1 := by omega
        rw [decide_eq_true c1, decide_eq_true c2, decide_eq_true (Int.natCast_nonneg _), decide_eq_true c3, Int.toNat_natCast, t2, ext_one hm]
        rfl
/-! ### the colours of a step -/
theorem mul_bd2 {a b : Int} (ha : 0 ≤ a ∧ a ≤ 20000) (hb : 0 ≤ b ∧ b ≤ 10000) : 0 ≤ a * b ∧ a * b ≤ 200000000 :=
  ⟨Int.mul_nonneg ha.1 hb.1, by have := Int.mul_le_mul ha.2 hb.2 hb.1 (by decide : (0 : Int) ≤ 20000); omega⟩
def cosL (s : ByteArray) (a d : Nat) : List Int := (List.range' a d).map fun k => bt s ((k % s.size : Nat) : Int)
theorem cosL_succ (s : ByteArray) (a d : Nat) : cosL s a (d + 1) = bt s ((a % s.size : Nat) : Int) :: cosL s (a + 1) d := by unfold cosL; rw [List.range'_succ, List.map_cons]
theorem cos_i {s : ByteArray} (h : Str s) {w n st z : Nat} (hw : 0 < w ∧ w ≤ 100) (hn : 1 ≤ n ∧ n ≤ 100) (hst : 1 ≤ st ∧ st ≤ 100) (hz : (st * n - 1) / w = z) : ∀ (d k : Nat) (r : List Int), k + d = z + 1 → r.length ≤ k →
    i_ColoursOfStep_L1 r s (w : Int) (n : Int) (st : Int) (k : Int) = some (strOf (r ++ cosL s k d), true) := by
  have hz1 : ((w : Int) == 0) = false := by rw [beq_eq_false_iff_ne]; omega
  have hz2 : ((s.size : Int) == 0) = false := by rw [beq_eq_false_iff_ne]; have := h.lo; omega
  have hb := mul_bd (a := (st : Int)) (b := (n : Int)) (by omega) (by omega)
  have hp : 1 ≤ st * n := Nat.mul_pos (by omega) (by omega)
  have e1 : IntKind.wrap .i64 ((st : Int) * n) = ((st * n : Nat) : Int) := by rw [wrapI (by omega) (by omega)]; push_cast; rfl
  have hpb : ((st * n : Nat) : Int) ≤ 100000000 := by push_cast; omega
  have e2 : IntKind.wrap .i64 (((st * n : Nat) : Int) - 1) = ((st * n - 1 : Nat) : Int) := by
    generalize st * n = m at *
    rw [wrapI (by omega) (by omega)]; omega
  have hzl : z ≤ 100000000 := by
    have := Nat.div_le_self (st * n - 1) w
    generalize st * n = m at *
    omega
  have e3 : IntKind.wrap .i64 (Int.tdiv ((st * n - 1 : Nat) : Int) (w : Int)) = (z : Int) := by
    have : Int.tdiv ((st * n - 1 : Nat) : Int) (w : Int) = ((z : Nat) : Int) := by rw [Int.tdiv_eq_ediv_of_nonneg (by omega), ← hz]; rfl
    rw [this, wrapI (by omega) (by omega)]
  intro d
  induction d with
  | zero =>
    intro k r h1 h2
    have : ¬ ((k : Int) ≤ z) := by omega
    rw [i_ColoursOfStep_u1, i_ColoursOfStep_t1, e1, e2, e3, hz1, decide_eq_false this]
    simp [cosL, strOf]
  | succ d ih =>
    intro k r h1 h2
    have c1 : (k : Int) ≤ z := by omega
    have hm : k % s.size < s.size := Nat.mod_lt _ (by have := h.lo; omega)
    have hbl : Nat.ble (r.length + 1) 4294967296 = true := by rw [ble_dec]; exact decide_eq_true (by omega)
    have hw1 : IntKind.wrap .i64 ((k : Int) + 1) = ((k + 1 : Nat) : Int) := by rw [wrapI (by omega) (by omega)]; omega
    rw [i_ColoursOfStep_u1, i_ColoursOfStep_t1, e1, e2, e3, hz1, hz2, decide_eq_true c1, tmod_nat, decide_eq_true (Int.natCast_nonneg _), decide_eq_true (show ((k % s.size : Nat) : Int) < (s.size : Int) by omega), hbl, hw1]
    simp only [cond_true, cond_false]
    rw [ih (k + 1) _ (by omega) (by simp; omega), cosL_succ, List.append_assoc]
    rfl
theorem cos_s {s : ByteArray} (h : Str s) {w n bg z : Nat} (hw : 0 < w ∧ w ≤ 100) (hn : 1 ≤ n ∧ n ≤ 100) (hbg : bg ≤ 10000) (hz : (bg + n - 1) / w = z) : ∀ (d k : Nat) (r : List Int), k + d = z + 1 → r.length ≤ k →
    s_ColoursOfStep_L1 s (w : Int) (n : Int) (strOf r) (bg : Int) (k : Int) = some (strOf (r ++ cosL s k d), true) := by
  have hz2 : ((s.size : Int) == 0) = false := by rw [beq_eq_false_iff_ne]; have := h.lo; omega
  have e1 : IntKind.wrap .i64 ((bg : Int) + n) = ((bg + n : Nat) : Int) := by rw [wrapI (by omega) (by omega)]; omega
  have hzl : z ≤ 10100 := by have := Nat.div_le_self (bg + n - 1) w; omega
  have key : ∀ k : Nat, k * w < bg + n ↔ k ≤ z := fun k => by
    rw [← hz, Nat.le_div_iff_mul_le hw.1]; omega
  intro d
  induction d with
  | zero =>
    intro k r h1 h2
    have hb := mul_bd2 (a := (k : Int)) (b := (w : Int)) (by omega) (by omega)
    have e2 : IntKind.wrap .i64 ((k : Int) * w) = ((k * w : Nat) : Int) := by rw [wrapI (by omega) (by omega)]; push_cast; rfl
    have hk := key k
    have : ¬ (((k * w : Nat) : Int) < ((bg + n : Nat) : Int)) := by
      generalize k * w = m at *
      omega
    rw [s_ColoursOfStep_u1, s_ColoursOfStep_t1, e1, e2, decide_eq_false this]
    simp [cosL]
  | succ d ih =>
    intro k r h1 h2
    have hb := mul_bd2 (a := (k : Int)) (b := (w : Int)) (by omega) (by omega)
    have e2 : IntKind.wrap .i64 ((k : Int) * w) = ((k * w : Nat) : Int) := by rw [wrapI (by omega) (by omega)]; push_cast; rfl
    have hk := key k
    have c0 : ((k * w : Nat) : Int) < ((bg + n : Nat) : Int) := by
      generalize k * w = m at *
      omega
    have hm : k % s.size < s.size := Nat.mod_lt _ (by have := h.lo; omega)
    have hh := h.hi
    have hw1 : IntKind.wrap .i64 ((k : Int) + 1) = ((k + 1 : Nat) : Int) := by rw [wrapI (by omega) (by omega)]; omega
    have hw2 : IntKind.wrap .i64 (((k % s.size : Nat) : Int) + 1) = ((k % s.size + 1 : Nat) : Int) := by rw [wrapI (by omega) (by omega)]; omega
    have c1 : ((k % s.size + 1 : Nat) : Int) ≤ (s.size : Int) := by omega
    have c2 : ((k % s.size : Nat) : Int) ≤ ((k % s.size + 1 : Nat) : Int) := by omega
    have hbl : Nat.ble ((strOf r).size + (s.extract (k % s.size) (k % s.size + 1)).size) 9223372036854775807 = true := by
      rw [ble_dec, ext_one hm, strOf_size, strOf_size]; exact decide_eq_true (by simp; omega)
    rw [s_ColoursOfStep_u1, s_ColoursOfStep_t1, e1, e2, decide_eq_true c0, hz2, tmod_nat, hw1, hw2, decide_eq_true (Int.natCast_nonneg _), decide_eq_true c1, decide_eq_true (Int.natCast_nonneg _), decide_eq_true c2, Int.toNat_natCast, Int.toNat_natCast, hbl, snoc_ext hm, ← strOf_snoc]
    simp only [cond_true, cond_false]
    rw [ih (k + 1) _ (by omega) (by simp; omega), cosL_succ, List.append_assoc]
    rfl
noncomputable def stOk (s : ByteArray) (w n st : Int) : Bool := strOk s && (s_l1In w 1 100 && (s_l1In n 1 100 && s_l1In st 1 100))
def stepL (s : ByteArray) (w n st : Nat) : List Int := cosL s ((st - 1) * n / w) ((st * n - 1) / w + 1 - (st - 1) * n / w)
theorem step_le {w n st : Nat} (hst : 1 ≤ st) (hn : 1 ≤ n) : (st - 1) * n / w ≤ (st * n - 1) / w := by
  apply Nat.div_le_div_right
  have : (st - 1) * n + n = st * n := by rw [← Nat.succ_mul]; congr 1; omega
  omega
theorem ColoursOfStep_i (s : ByteArray) (hs : s.size ≤ 10000000) (w n st : Int) : i_ColoursOfStep s w n st = some (bif stOk s w n st then (strOf (stepL s w.toNat n.toNat st.toNat), true) else (⟨#[]⟩, false)) := by
  unfold i_ColoursOfStep i_ColoursOfStep_t0 stOk
  rw [IsStriped_i hs, isNeed_eq, isNeed_eq, isCover_eq]
  simp only [Option.bind_some]
  cases h1 : strOk s
  · rfl
  · cases h2 : s_l1In w 1 100
    · rfl
    · cases h3 : s_l1In n 1 100
      · rfl
      · cases h4 : s_l1In st 1 100
        · rfl
        · have g2 := l1In_iff.1 h2
          have g3 := l1In_iff.1 h3
          have g4 := l1In_iff.1 h4
          obtain ⟨w, rfl⟩ := nat_of (x := w) (by omega)
          obtain ⟨n, rfl⟩ := nat_of (x := n) (by omega)
          obtain ⟨st, rfl⟩ := nat_of (x := st) (by omega)
          have hz1 : ((w : Int) == 0) = false := by rw [beq_eq_false_iff_ne]; omega
          have e0 : IntKind.wrap .i64 ((st : Int) - 1) = ((st - 1 : Nat) : Int) := by rw [wrapI (by omega) (by omega)]; omega
          have hb := mul_bd (a := ((st - 1 : Nat) : Int)) (b := (n : Int)) (by omega) (by omega)
          have e1 : IntKind.wrap .i64 (((st - 1 : Nat) : Int) * n) = (((st - 1) * n : Nat) : Int) := by rw [wrapI (by omega) (by omega)]; push_cast; rfl
          have e2 : Int.tdiv (((st - 1) * n : Nat) : Int) (w : Int) = (((st - 1) * n / w : Nat) : Int) := by rw [Int.tdiv_eq_ediv_of_nonneg (by omega)]; rfl
          have hle := step_le (w := w) (n := n) (st := st) (by omega) (by omega)
          have hb3 : (st - 1) * n / w ≤ 100000000 := by
            have := Nat.div_le_self ((st - 1) * n) w
            have h5 : (((st - 1) * n : Nat) : Int) ≤ 100000000 := by push_cast; omega
            omega
          have e3 : IntKind.wrap .i64 (((st - 1) * n / w : Nat) : Int) = (((st - 1) * n / w : Nat) : Int) := by
            generalize (st - 1) * n / w = q at *
            exact wrapI (by omega) (by omega)
          simp only [Bool.not_true, cond_false, cond_true, Bool.and_self, hz1, e0, e1, e2, e3, Int.toNat_natCast]
          have := cos_i (strOk_iff h1) (w := w) (n := n) (st := st) (z := (st * n - 1) / w) (by omega) (by omega) (by omega) rfl ((st * n - 1) / w + 1 - (st - 1) * n / w) ((st - 1) * n / w) [] (by omega) (by simp)
          rw [this]
          rfl
theorem ColoursOfStep_s (s : ByteArray) (hs : s.size ≤ 10000000) (w n st : Int) : s_ColoursOfStep s w n st = some (bif stOk s w n st then (strOf (stepL s w.toNat n.toNat st.toNat), true) else (⟨#[]⟩, false)) := by
  unfold s_ColoursOfStep s_ColoursOfStep_t0 stOk s_cpWide s_cpSteps s_cpNeed
  rw [cpStripes_eq hs]
  simp only [Option.bind_some]
  cases h1 : strOk s
  · rfl
  · cases h2 : s_l1In w 1 100
    · rfl
    · cases h4 : s_l1In st 1 100
      · simp
      · cases h3 : s_l1In n 1 100
        · rfl
        · have g2 := l1In_iff.1 h2
          have g3 := l1In_iff.1 h3
          have g4 := l1In_iff.1 h4
          obtain ⟨w, rfl⟩ := nat_of (x := w) (by omega)
          obtain ⟨n, rfl⟩ := nat_of (x := n) (by omega)
          obtain ⟨st, rfl⟩ := nat_of (x := st) (by omega)
          have hz1 : ((w : Int) == 0) = false := by rw [beq_eq_false_iff_ne]; omega
          have e0 : IntKind.wrap .i64 ((st : Int) - 1) = ((st - 1 : Nat) : Int) := by rw [wrapI (by omega) (by omega)]; omega
          have hb := mul_bd (a := ((st - 1 : Nat) : Int)) (b := (n : Int)) (by omega) (by omega)
          have e1 : IntKind.wrap .i64 (((st - 1 : Nat) : Int) * n) = (((st - 1) * n : Nat) : Int) := by rw [wrapI (by omega) (by omega)]; push_cast; rfl
          have e2 : Int.tdiv (((st - 1) * n : Nat) : Int) (w : Int) = (((st - 1) * n / w : Nat) : Int) := by rw [Int.tdiv_eq_ediv_of_nonneg (by omega)]; rfl
          have hle := step_le (w := w) (n := n) (st := st) (by omega) (by omega)
          have hm : (st - 1) * n ≤ 10000 := Nat.mul_le_mul (show st - 1 ≤ 100 by omega) (show n ≤ 100 by omega)
          have hb3 : (st - 1) * n / w ≤ 10000 := Nat.le_trans (Nat.div_le_self _ _) hm
          have e3 : IntKind.wrap .i64 (((st - 1) * n / w : Nat) : Int) = (((st - 1) * n / w : Nat) : Int) := by
            generalize (st - 1) * n / w = q at *
            exact wrapI (by omega) (by omega)
          have e4 : (st - 1) * n + n - 1 = st * n - 1 := by
            have : (st - 1) * n + n = st * n := by rw [← Nat.succ_mul]; congr 1; omega
            omega
          simp only [Bool.not_true, cond_false, cond_true, Bool.and_self, hz1, e0, e1, e2, e3, Int.toNat_natCast]
          have := cos_s (strOk_iff h1) (w := w) (n := n) (bg := (st - 1) * n) (z := (st * n - 1) / w) (by omega) (by omega) hm (by rw [e4]) ((st * n - 1) / w + 1 - (st - 1) * n / w) ((st - 1) * n / w) [] (by omega) (by simp)
          refine Eq.trans this ?_
          rfl
/-! ### steps that look alike -/
def ofL (s : ByteArray) (w a d : Nat) : List Int := (List.range' a d).map (colN s w)
theorem ofL_succ (s : ByteArray) (w a d : Nat) : ofL s w a (d + 1) = colN s w a :: ofL s w (a + 1) d := by unfold ofL; rw [List.range'_succ, List.map_cons]
theorem cpOf_loop {s : ByteArray} (h : Str s) {w n st m : Nat} (hw : 0 < w) (hm : st * n = m) (hm2 : m ≤ 10100) : ∀ (d k : Nat) (r : List Int), k + d = m → r.length ≤ k →
    s_cpOf_L1 s (w : Int) (n : Int) (st : Int) (strOf r) (k : Int) = some (strOf (r ++ ofL s w k d)) := by
  have hz1 : ((w : Int) == 0) = false := by rw [beq_eq_false_iff_ne]; omega
  have hz2 : ((s.size : Int) == 0) = false := by rw [beq_eq_false_iff_ne]; have := h.lo; omega
  have e1 : IntKind.wrap .i64 ((st : Int) * n) = (m : Int) := by
    rw [show (st : Int) * n = (m : Int) from by rw [← hm]; push_cast; rfl, wrapI (by omega) (by omega)]
  intro d
  induction d with
  | zero =>
    intro k r h1 h2
    have : ¬ ((k : Int) < m) := by omega
    rw [s_cpOf_u1, s_cpOf_t1, e1, decide_eq_false this]
    simp [ofL]
  | succ d ih =>
    intro k r h1 h2
    have c0 : (k : Int) < m := by omega
    have hq : k / w % s.size < s.size := Nat.mod_lt _ (by have := h.lo; omega)
    have hh := h.hi
    have hw1 : IntKind.wrap .i64 ((k : Int) + 1) = ((k + 1 : Nat) : Int) := by rw [wrapI (by omega) (by omega)]; omega
    have hw2 : IntKind.wrap .i64 (((k / w % s.size : Nat) : Int) + 1) = ((k / w % s.size + 1 : Nat) : Int) := by
      generalize k / w % s.size = q at *
      rw [wrapI (by omega) (by omega)]; omega
    have c1 : ((k / w % s.size + 1 : Nat) : Int) ≤ (s.size : Int) := by
      generalize k / w % s.size = q at *
      omega
    have c2 : ((k / w % s.size : Nat) : Int) ≤ ((k / w % s.size + 1 : Nat) : Int) := by
      generalize k / w % s.size = q at *
      omega
    have hbl : Nat.ble ((strOf r).size + (s.extract (k / w % s.size) (k / w % s.size + 1)).size) 9223372036854775807 = true := by
      rw [ble_dec, ext_one hq, strOf_size, strOf_size]; exact decide_eq_true (by simp; omega)
    rw [s_cpOf_u1, s_cpOf_t1, e1, decide_eq_true c0, hz1, hz2, col_ix w k (by omega), hw1, hw2, decide_eq_true (Int.natCast_nonneg _), decide_eq_true c1, decide_eq_true (Int.natCast_nonneg _), decide_eq_true c2, Int.toNat_natCast, Int.toNat_natCast, hbl, snoc_ext hq, ← strOf_snoc]
    simp only [cond_true, cond_false]
    rw [ih (k + 1) _ (by omega) (by simp; omega), ofL_succ, List.append_assoc]
    rfl
theorem cpOf_eq {s : ByteArray} (h : Str s) {w n st : Nat} (hw : 0 < w) (hn : 1 ≤ n ∧ n ≤ 100) (hst : 1 ≤ st ∧ st ≤ 100) : s_cpOf s (w : Int) (n : Int) (st : Int) = some (strOf (ofL s w ((st - 1) * n) n)) := by
  unfold s_cpOf s_cpOf_t0
  have hm : (st - 1) * n ≤ 10000 := Nat.mul_le_mul (show st - 1 ≤ 100 by omega) (show n ≤ 100 by omega)
  have e0 : IntKind.wrap .i64 ((st : Int) - 1) = ((st - 1 : Nat) : Int) := by rw [wrapI (by omega) (by omega)]; omega
  have e1 : IntKind.wrap .i64 (((st - 1 : Nat) : Int) * n) = (((st - 1) * n : Nat) : Int) := by
    rw [show ((st - 1 : Nat) : Int) * n = (((st - 1) * n : Nat) : Int) from by push_cast; rfl]
    generalize (st - 1) * n = q at *
    exact wrapI (by omega) (by omega)
  have e2 : st * n = (st - 1) * n + n := by rw [← Nat.succ_mul]; congr 1; omega
  rw [e0, e1]
  exact cpOf_loop h hw e2 (by omega) n ((st - 1) * n) [] rfl (by simp)
def alk (s : ByteArray) (w n k j d : Nat) : Bool := (List.range' j d).all fun q => colN s w (k * n + q) == colN s w q
theorem alk_succ (s : ByteArray) (w n k j d : Nat) : alk s w n k j (d + 1) = ((colN s w (k * n + j) == colN s w j) && alk s w n k (j + 1) d) := by unfold alk; rw [List.range'_succ, List.all_cons]
theorem alike2 {s : ByteArray} (h : Str s) {w n st k : Nat} (hw : 0 < w) (hn : n ≤ 100) (hk : k ≤ 100) (r : List Int) (hr : r.length ≤ 1000) : ∀ (d j : Nat) (al : Bool), j + d = n →
    i_AlikeSteps_L2 r s (w : Int) (n : Int) (st : Int) (k : Int) al (n : Int) (j : Int) = bif al && alk s w n k j d then i_AlikeSteps_L1 (r ++ [(k : Int) + 1]) s (w : Int) (n : Int) (st : Int) ((k + 1 : Nat) : Int) else i_AlikeSteps_L1 r s (w : Int) (n : Int) (st : Int) ((k + 1 : Nat) : Int)
  | 0, j, al, h1 => by
    have : ¬ ((j : Int) < n) := by omega
    have hw1 : IntKind.wrap .i64 ((k : Int) + 1) = ((k + 1 : Nat) : Int) := by rw [wrapI (by omega) (by omega)]; omega
    have hbl : Nat.ble (r.length + 1) 4294967296 = true := by rw [ble_dec]; exact decide_eq_true (by omega)
    rw [i_AlikeSteps_u2, i_AlikeSteps_t2, decide_eq_false this, hbl, hw1]
    cases al <;> rfl
  | d + 1, j, al, h1 => by
    have c0 : (j : Int) < n := by omega
    have hw1 : IntKind.wrap .i64 ((j : Int) + 1) = ((j + 1 : Nat) : Int) := by rw [wrapI (by omega) (by omega)]; omega
    have hm : k * n ≤ 10000 := Nat.mul_le_mul (show k ≤ 100 by omega) (show n ≤ 100 by omega)
    have e1 : IntKind.wrap .i64 ((k : Int) * n) = ((k * n : Nat) : Int) := by
      rw [show (k : Int) * n = ((k * n : Nat) : Int) from by push_cast; rfl]
      generalize k * n = q at *
      exact wrapI (by omega) (by omega)
    have e2 : IntKind.wrap .i64 (((k * n : Nat) : Int) + (j : Int)) = ((k * n + j : Nat) : Int) := by
      generalize k * n = q at *
      rw [wrapI (by omega) (by omega)]; omega
    rw [i_AlikeSteps_u2, i_AlikeSteps_t2, decide_eq_true c0, hw1, e1, e2, i_colour_eq h hw (by omega), i_colour_eq h hw (by omega), alk_succ]
    simp only [cond_true, Option.bind_some]
    rw [alike2 h hw hn hk r hr d (j + 1) _ (by omega), alike2 h hw hn hk r hr d (j + 1) _ (by omega)]
    cases al
    · rfl
    · simp only [cond_true, Bool.true_and]
def alkR (s : ByteArray) (w n k d : Nat) : List Int := (List.range' k d).flatMap fun q => bif alk s w n q 0 n then [(q : Int) + 1] else []
theorem alkR_succ (s : ByteArray) (w n k d : Nat) : alkR s w n k (d + 1) = (bif alk s w n k 0 n then [(k : Int) + 1] else []) ++ alkR s w n (k + 1) d := by unfold alkR; rw [List.range'_succ, List.flatMap_cons]
theorem alike1 {s : ByteArray} (h : Str s) {w n st : Nat} (hw : 0 < w) (hn : n ≤ 100) (hst : st ≤ 100) : ∀ (d k : Nat) (r : List Int), st ≤ k + d → k + d ≤ st + 1 → k ≤ 100 → r.length ≤ k → (d = 0 → st ≤ k) →
    i_AlikeSteps_L1 r s (w : Int) (n : Int) (st : Int) (k : Int) = some (r ++ alkR s w n k (st - k), true)
  | 0, k, r, h1, h2, h3, h4, h5 => by
    have : ¬ ((k : Int) < st) := by omega
    rw [i_AlikeSteps_u1, i_AlikeSteps_t1, decide_eq_false this, show st - k = 0 from by omega]
    simp [alkR]
  | d + 1, k, r, h1, h2, h3, h4, h5 => by
    by_cases hk : k < st
    · have c0 : (k : Int) < st := by omega
      rw [i_AlikeSteps_u1, i_AlikeSteps_t1, decide_eq_true c0]
      simp only [cond_true]
      have e := alike2 h (st := st) hw hn h3 r (by omega) n 0 true (by omega)
      refine Eq.trans e ?_
      rw [show st - k = (st - k - 1) + 1 from by omega, alkR_succ, show st - k - 1 = st - (k + 1) from by omega]
      cases alk s w n k 0 n
      · exact alike1 h hw hn hst d (k + 1) r (by omega) (by omega) (by omega) (by omega) (by omega)
      · rw [Bool.and_self, cond_true, alike1 h hw hn hst d (k + 1) _ (by omega) (by omega) (by omega) (by simp; omega) (by omega), List.append_assoc]
        rfl
    · have : ¬ ((k : Int) < st) := by omega
      rw [i_AlikeSteps_u1, i_AlikeSteps_t1, decide_eq_false this, show st - k = 0 from by omega]
      simp [alkR]
theorem strOf_list (l : List Int) : (strOf l).toList = l.map fun x => UInt8.ofNat x.toNat := by
  rw [ByteArray.toList_eq]
  have h : ∀ (l : List Int) (b : ByteArray), (List.foldl (fun r n => ByteArray.push r (UInt8.ofNat (Int.toNat n))) b l).data.toList = b.data.toList ++ l.map fun x => UInt8.ofNat x.toNat := by
    intro l
    induction l with
    | nil => intro b; simp
    | cons x l ih => intro b; rw [List.foldl_cons, ih, ByteArray.data_push, Array.toList_push, List.map_cons, List.append_assoc]; rfl
  exact (h l ByteArray.empty).trans rfl
theorem of_byte {x y : Int} (hx : 97 ≤ x ∧ x ≤ 122) (hy : 97 ≤ y ∧ y ≤ 122) : (UInt8.ofNat x.toNat = UInt8.ofNat y.toNat) ↔ x = y := by
  constructor
  · intro h
    have := congrArg UInt8.toNat h
    rw [UInt8.toNat_ofNat', UInt8.toNat_ofNat', Nat.mod_eq_of_lt (by omega), Nat.mod_eq_of_lt (by omega)] at this
    omega
  · intro h; rw [h]
theorem ofL_beq {s : ByteArray} (h : Str s) (w n k : Nat) : ∀ d j : Nat, ((strOf (ofL s w (k * n + j) d)).toList == (strOf (ofL s w j d)).toList) = alk s w n k j d
  | 0, j => by simp [ofL, alk]
  | d + 1, j => by
    rw [strOf_list, strOf_list, ofL_succ, ofL_succ, alk_succ, List.map_cons, List.map_cons, List.cons_beq_cons, ← ofL_beq h w n k d (j + 1), strOf_list, strOf_list, Nat.add_assoc]
    congr 1
    rw [Bool.eq_iff_iff, beq_iff_eq, beq_iff_eq]
    exact of_byte (colN_bd h w _) (colN_bd h w _)
noncomputable def akV (s : ByteArray) (w n st : Int) : List Int := alkR s w.toNat n.toNat 1 (st.toNat - 1)
theorem AlikeSteps_i (s : ByteArray) (hs : s.size ≤ 10000000) (w n st : Int) : i_AlikeSteps s w n st = some (bif stOk s w n st then (akV s w n st, true) else ([], false)) := by
  unfold i_AlikeSteps i_AlikeSteps_t0 stOk
  rw [IsStriped_i hs, isNeed_eq, isNeed_eq, isCover_eq]
  simp only [Option.bind_some]
  cases h1 : strOk s
  · rfl
  · cases h2 : s_l1In w 1 100
    · rfl
    · cases h3 : s_l1In n 1 100
      · rfl
      · cases h4 : s_l1In st 1 100
        · rfl
        · have g2 := l1In_iff.1 h2
          have g3 := l1In_iff.1 h3
          have g4 := l1In_iff.1 h4
          obtain ⟨w, rfl⟩ := nat_of (x := w) (by omega)
          obtain ⟨n, rfl⟩ := nat_of (x := n) (by omega)
          obtain ⟨st, rfl⟩ := nat_of (x := st) (by omega)
          exact alike1 (strOk_iff h1) (w := w) (n := n) (st := st) (by omega) (by omega) (by omega) (st - 1) 1 [] (by omega) (by omega) (by omega) (by simp) (by omega)
theorem alike_s {s : ByteArray} (h : Str s) {w n st : Nat} (hw : 0 < w) (hn : 1 ≤ n ∧ n ≤ 100) (hst : 1 ≤ st ∧ st ≤ 100) : ∀ (d k : Nat) (r : List Int), k + d = st → r.length ≤ k →
    s_AlikeSteps_L1 r s (w : Int) (n : Int) (st : Int) (strOf (ofL s w 0 n)) ((k + 1 : Nat) : Int) = some (r ++ alkR s w n k d, true)
  | 0, k, r, h1, h2 => by
    have : ¬ (((k + 1 : Nat) : Int) ≤ st) := by omega
    rw [s_AlikeSteps_u1, s_AlikeSteps_t1, decide_eq_false this]
    simp [alkR]
  | d + 1, k, r, h1, h2 => by
    have c0 : ((k + 1 : Nat) : Int) ≤ st := by omega
    have hw1 : IntKind.wrap .i64 (((k + 1 : Nat) : Int) + 1) = ((k + 1 + 1 : Nat) : Int) := by rw [wrapI (by omega) (by omega)]; omega
    have hbl : Nat.ble (r.length + 1) 4294967296 = true := by rw [ble_dec]; exact decide_eq_true (by omega)
    have e := ofL_beq h w n k n 0
    rw [s_AlikeSteps_u1, s_AlikeSteps_t1, decide_eq_true c0, cpOf_eq h hw hn (by omega), hw1, hbl, alkR_succ]
    simp only [cond_true, Option.bind_some]
    rw [show k + 1 - 1 = k from rfl, show k * n = k * n + 0 from rfl, e]
    cases alk s w n k 0 n
    · exact alike_s h hw hn hst d (k + 1) r (by omega) (by omega)
    · rw [cond_true, cond_true, alike_s h hw hn hst d (k + 1) _ (by omega) (by simp; omega), List.append_assoc]
      rfl
theorem AlikeSteps_s (s : ByteArray) (hs : s.size ≤ 10000000) (w n st : Int) : s_AlikeSteps s w n st = some (bif stOk s w n st then (akV s w n st, true) else ([], false)) := by
  unfold s_AlikeSteps s_AlikeSteps_t0 stOk s_cpWide s_cpSteps s_cpNeed
  rw [cpStripes_eq hs]
  simp only [Option.bind_some]
  cases h1 : strOk s
  · rfl
  · cases h2 : s_l1In w 1 100
    · rfl
    · cases h4 : s_l1In st 1 100
      · simp
      · cases h3 : s_l1In n 1 100
        · rfl
        · have g2 := l1In_iff.1 h2
          have g3 := l1In_iff.1 h3
          have g4 := l1In_iff.1 h4
          obtain ⟨w, rfl⟩ := nat_of (x := w) (by omega)
          obtain ⟨n, rfl⟩ := nat_of (x := n) (by omega)
          obtain ⟨st, rfl⟩ := nat_of (x := st) (by omega)
          have e := cpOf_eq (strOk_iff h1) (w := w) (n := n) (st := 1) (by omega) (by omega) (by omega)
          have e' : s_cpOf s (w : Int) (n : Int) 1 = some (strOf (ofL s w 0 n)) := by simpa using e
          simp only [Bool.not_true, cond_false, cond_true, Bool.and_self, e', Option.bind_some]
          exact alike_s (strOk_iff h1) (w := w) (n := n) (st := st) (by omega) (by omega) (by omega) (st - 1) 1 [] (by omega) (by simp)
theorem s_l1Cur_covered_ok {a : List Int} {b c n : Int} (h : Cur (a, b, c) n) (hn : n ≤ 10000000000) : Ok (s_l1Cur_covered a b c) fun r => Cur r.2 (n + 4) := by
  unfold s_l1Cur_covered
  refine (one_ok (n := n) _ h (by omega)).bind fun r1 h1 => ?_
  refine Ok.cond (fun _ => ?_) (fun _ => ?_)
  · refine (among_ok (n := n + 2) _ h1 (by simp) (by omega)).bind fun r2 h2 => ?_
    exact Ok.ret (h2.1.mono (by omega))
  · refine (pick_ok (n := n + 2) _ h1 (by omega)).bind fun r2 h2 => ?_
    exact Ok.ret (h2.1.mono (by omega))
theorem s_l1Cur_need_ok {a : List Int} {b c n : Int} (h : Cur (a, b, c) n) (hn : n ≤ 10000000000) : Ok (s_l1Cur_need a b c) fun r => Cur r.2 (n + 4) := by
  unfold s_l1Cur_need
  refine (one_ok (n := n) _ h (by omega)).bind fun r1 h1 => ?_
  refine Ok.cond (fun _ => ?_) (fun _ => ?_)
  · refine (among_ok (n := n + 2) _ h1 (by simp) (by omega)).bind fun r2 h2 => ?_
    exact Ok.ret (h2.1.mono (by omega))
  · refine (pick_ok (n := n + 2) _ h1 (by omega)).bind fun r2 h2 => ?_
    exact Ok.ret (h2.1.mono (by omega))
theorem of_ok {a : List Int} {b c n : Int} (l : List ByteArray) (h : Cur (a, b, c) n) (hl : l ≠ []) (hn : n ≤ 100000000000) : Ok (s_l1Cur_of a b c l) fun r => Cur r.2 (n + 2) ∧ r.1 ∈ l := by
  unfold s_l1Cur_of
  have hp : 0 < l.length := List.length_pos_iff.2 hl
  refine (pick_ok _ h hn).bind fun r hr => ?_
  have h1 : r.1 < (l.length : Int) := by omega
  rw [decide_eq_true hr.2.1, decide_eq_true h1]
  refine Ok.ret ⟨hr.1, ?_⟩
  obtain ⟨k, hk⟩ : ∃ k : Nat, r.1 = k := ⟨r.1.toNat, by omega⟩
  have hkl : k < l.length := by omega
  show rdk kstring l r.1 ∈ l
  rw [hk, rdk_get (k := kstring) hkl]
  exact List.getElem_mem hkl
theorem s_l1Cur_stripes_ok {a : List Int} {b c n : Int} (h : Cur (a, b, c) n) (hn : n ≤ 10000000000) : Ok (s_l1Cur_stripes a b c) fun r => Cur r.2 (n + 2) ∧ r.1.size ≤ 10000000 := by
  unfold s_l1Cur_stripes
  refine (of_ok (n := n) _ h (by simp) (by omega)).bind fun r1 h1 => ?_
  refine Ok.ret ⟨h1.1, ?_⟩
  have := h1.2
  simp only [List.mem_cons, List.not_mem_nil, or_false] at this
  show r1.1.size ≤ 10000000
  rcases this with h | h | h | h | h | h | h | h | h | h <;> rw [h] <;> decide
theorem s_DrawPatternStarts_ok {code : List Int} (h : Bytes code) : Ok (s_DrawPatternStarts code) fun _ => True := by
  unfold s_DrawPatternStarts
  refine (s_l1Cur_covered_ok (n := 0) (cur0 h) (by omega)).bind fun r1 h1 => ?_
  refine (s_l1Cur_need_ok (n := 0 + 4) h1 (by omega)).bind fun r2 h2 => ?_
  refine (among_ok (n := 0 + 4 + 4) _ h2 (by simp) (by omega)).bind fun r3 h3 => ?_
  exact Ok.ret trivial
theorem s_DrawColoursOfStep_ok {code : List Int} (h : Bytes code) : Ok (s_DrawColoursOfStep code) fun r => r.1.size ≤ 10000000 := by
  unfold s_DrawColoursOfStep
  refine (s_l1Cur_stripes_ok (n := 0) (cur0 h) (by omega)).bind fun r1 h1 => ?_
  refine (s_l1Cur_need_ok (n := 0 + 2) h1.1 (by omega)).bind fun r2 h2 => ?_
  refine (s_l1Cur_need_ok (n := 0 + 2 + 4) h2 (by omega)).bind fun r3 h3 => ?_
  refine (s_l1Cur_covered_ok (n := 0 + 2 + 4 + 4) h3 (by omega)).bind fun r4 h4 => ?_
  exact Ok.ret h1.2
theorem s_DrawColourAt_ok {code : List Int} (h : Bytes code) : Ok (s_DrawColourAt code) fun r => r.1.size ≤ 10000000 := by
  unfold s_DrawColourAt
  refine (one_ok (n := 0) _ (cur0 h) (by omega)).bind fun r0 h0 => ?_
  refine Ok.cond (fun _ => ?_) (fun _ => ?_)
  · refine (s_l1Cur_stripes_ok (n := 0 + 2) h0 (by omega)).bind fun r1 h1 => ?_
    refine (s_l1Cur_need_ok (n := 0 + 2 + 2) h1.1 (by omega)).bind fun r2 h2 => ?_
    refine (among_ok (n := 0 + 2 + 2 + 4) _ h2 (by simp) (by omega)).bind fun r3 h3 => ?_
    exact Ok.ret h1.2
  · refine (s_l1Cur_stripes_ok (n := 0 + 2) h0 (by omega)).bind fun r1 h1 => ?_
    refine (s_l1Cur_need_ok (n := 0 + 2 + 2) h1.1 (by omega)).bind fun r2 h2 => ?_
    refine (pick_ok (n := 0 + 2 + 2 + 4) _ h2 (by omega)).bind fun r3 h3 => ?_
    exact Ok.ret h1.2
end Go.Proofs.Ythenlapjhlljnaa.V
