/- Functions of the program, as plain functions. No condition. -/
import Derived.Test.YthenlapjhlljnaaC1
set_option linter.unusedVariables false
set_option linter.unusedSimpArgs false
set_option maxRecDepth 100000
namespace Go.Proofs.Ythenlapjhlljnaa.V
open Go Go.Ev Go.Proofs
/-! ### draws: they end, whatever is given -/
def Ok {α : Type} (x : Option α) (P : α → Prop) : Prop := ∃ a, x = some a ∧ P a
theorem Ok.bind {α β : Type} {x : Option α} {f : α → Option β} {P : α → Prop} {Q : β → Prop} (h : Ok x P) (k : ∀ a, P a → Ok (f a) Q) : Ok (x.bind f) Q := by
  obtain ⟨a, rfl, ha⟩ := h
  exact k a ha
theorem Ok.cond {α : Type} {b : Bool} {x y : Option α} {P : α → Prop} (h : b = true → Ok x P) (k : b = false → Ok y P) : Ok (cond b x y) P := by
  cases b
  · exact k rfl
  · exact h rfl
theorem Ok.ret {α : Type} {a : α} {P : α → Prop} (h : P a) : Ok (some a) P := ⟨a, rfl, h⟩
theorem Ok.mono {α : Type} {x : Option α} {P Q : α → Prop} (h : Ok x P) (k : ∀ a, P a → Q a) : Ok x Q := by
  obtain ⟨a, e, ha⟩ := h
  exact ⟨a, e, k a ha⟩
def Bytes (l : List Int) : Prop := ∀ x, x ∈ l → 0 ≤ x ∧ x ≤ 255
/-- a cursor that has come so far at most -/
structure Cur (c : List Int × Int × Int) (n : Int) : Prop where
  by_ : Bytes c.1
  lo : 0 ≤ c.2.1
  hi : c.2.1 ≤ n
theorem Cur.mono {c : List Int × Int × Int} {n m : Int} (h : Cur c n) (hm : n ≤ m) : Cur c m := ⟨h.by_, h.lo, by have := h.hi; omega⟩
theorem bytes_rdk {l : List Int} (h : Bytes l) {i : Int} (h0 : 0 ≤ i) (h1 : i < l.length) : 0 ≤ rdk kuint8 l i ∧ rdk kuint8 l i ≤ 255 := by
  obtain ⟨k, rfl⟩ : ∃ k : Nat, i = k := ⟨i.toNat, by omega⟩
  have hk : k < l.length := by omega
  rw [rdk_get (k := kuint8) hk]
  exact h _ (List.getElem_mem hk)
theorem and255 (x : Int) : 0 ≤ IntKind.wrap IntKind.i64 (IntKind.wrap IntKind.u64 (((BitVec.ofInt (IntKind.bits IntKind.u64) x &&& BitVec.ofInt (IntKind.bits IntKind.u64) 255).toNat : Nat) : Int)) ∧
    IntKind.wrap IntKind.i64 (IntKind.wrap IntKind.u64 (((BitVec.ofInt (IntKind.bits IntKind.u64) x &&& BitVec.ofInt (IntKind.bits IntKind.u64) 255).toNat : Nat) : Int)) ≤ 255 := by
  have h : (BitVec.ofInt (IntKind.bits IntKind.u64) x &&& BitVec.ofInt (IntKind.bits IntKind.u64) 255).toNat ≤ 255 := by
    rw [BitVec.toNat_and]
    have e : (BitVec.ofInt (IntKind.bits IntKind.u64) 255).toNat = 255 := by decide
    rw [e]
    exact Nat.and_le_right
  generalize (BitVec.ofInt (IntKind.bits IntKind.u64) x &&& BitVec.ofInt (IntKind.bits IntKind.u64) 255).toNat = n at h
  have e1 : IntKind.wrap IntKind.u64 (n : Int) = n := by unfold IntKind.wrap; simp [IntKind.signed, IntKind.bits]; omega
  rw [e1, wrapI (by omega) (by omega)]
  omega
theorem next_ok {a : List Int} {b c n : Int} (h : Cur (a, b, c) n) (hn : n ≤ 1000000000000) : Ok (s_l1Cur_next a b c) fun r => Cur r.2 (n + 1) ∧ 0 ≤ r.1 ∧ r.1 ≤ 255 := by
  have h0 : 0 ≤ b := h.lo
  have h1 : b ≤ n := h.hi
  have hw : IntKind.wrap IntKind.i64 (b + 1) = b + 1 := wrapI (by omega) (by omega)
  have hc : Cur (a, b + 1, (0 : Int)) (n + 1) := ⟨h.by_, by show 0 ≤ b + 1; omega, by show b + 1 ≤ n + 1; omega⟩
  have hcc : ∀ s, Cur (a, b + 1, s) (n + 1) := fun s => ⟨hc.by_, hc.lo, hc.hi⟩
  unfold s_l1Cur_next
  rw [hw]
  refine Ok.cond (fun e => ?_) (fun e => ?_)
  · have e := of_decide_eq_true e
    rw [decide_eq_true h0, decide_eq_true e]
    simp only [cond_true]
    obtain ⟨g1, g2⟩ := bytes_rdk h.by_ h0 e
    have gw : IntKind.wrap IntKind.i64 (rdk kuint8 a b) = rdk kuint8 a b := wrapI (Int.le_trans (by decide) g1) (Int.le_trans g2 (by decide))
    refine Ok.cond (fun _ => Ok.ret ⟨hcc _, ?_⟩) (fun _ => Ok.ret ⟨hcc _, and255 _⟩)
    show 0 ≤ IntKind.wrap IntKind.i64 (rdk kuint8 a b) ∧ _ ≤ _
    rw [gw]; exact ⟨g1, g2⟩
  · refine Ok.cond (fun _ => Ok.ret ⟨hcc _, by show (0 : Int) ≤ 0 ∧ (0 : Int) ≤ 255; omega⟩) (fun _ => Ok.ret ⟨hcc _, and255 _⟩)
theorem tmodP {a b : Int} (h : 0 ≤ a) (hb : 0 < b) : 0 ≤ Int.tmod a b ∧ Int.tmod a b < b := by
  rw [Int.tmod_eq_emod_of_nonneg h]
  exact ⟨Int.emod_nonneg a (by omega), Int.emod_lt_of_pos a hb⟩
theorem pick_ok {a : List Int} {b c n : Int} (k : Int) (h : Cur (a, b, c) n) (hn : n ≤ 100000000000) : Ok (s_l1Cur_pick a b c k) fun r => Cur r.2 (n + 2) ∧ 0 ≤ r.1 ∧ (r.1 < k ∨ r.1 = 0) := by
  unfold s_l1Cur_pick
  refine Ok.cond (fun _ => Ok.ret ⟨h.mono (by omega), by show (0 : Int) ≤ 0; omega, .inr rfl⟩) (fun e => ?_)
  have e := of_decide_eq_false e
  have hk : (k == 0) = false := by rw [beq_eq_false_iff_ne]; omega
  refine (next_ok h (by omega)).bind fun r hr => ?_
  refine Ok.cond (fun e2 => ?_) (fun e2 => ?_)
  · refine (next_ok (n := n + 1) hr.1 (by omega)).bind fun s hs => ?_
    rw [hk, cond_false, wrapI (n := r.1 * 256) (by omega) (by omega), wrapI (by omega) (by omega)]
    have := tmodP (a := r.1 * 256 + s.1) (b := k) (by omega) (by omega)
    exact Ok.ret ⟨hs.1.mono (by omega), this.1, .inl this.2⟩
  · rw [hk, cond_false]
    have := tmodP (a := r.1) (b := k) hr.2.1 (by omega)
    exact Ok.ret ⟨hr.1.mono (by omega), this.1, .inl this.2⟩
theorem one_ok {a : List Int} {b c n : Int} (k : Int) (h : Cur (a, b, c) n) (hn : n ≤ 100000000000) : Ok (s_l1Cur_one a b c k) fun r => Cur r.2 (n + 2) := by
  unfold s_l1Cur_one
  exact (pick_ok k h hn).bind fun r hr => Ok.ret hr.1
theorem among_ok {a : List Int} {b c n : Int} (l : List Int) (h : Cur (a, b, c) n) (hl : l ≠ []) (hn : n ≤ 100000000000) : Ok (s_l1Cur_among a b c l) fun r => Cur r.2 (n + 2) ∧ r.1 ∈ l := by
  unfold s_l1Cur_among
  have hp : 0 < l.length := List.length_pos_iff.2 hl
  refine (pick_ok _ h hn).bind fun r hr => ?_
  have h1 : r.1 < (l.length : Int) := by omega
  rw [decide_eq_true hr.2.1, decide_eq_true h1]
  refine Ok.ret ⟨hr.1, ?_⟩
  obtain ⟨k, hk⟩ : ∃ k : Nat, r.1 = k := ⟨r.1.toNat, by omega⟩
  have hkl : k < l.length := by omega
  show rdk kint l r.1 ∈ l
  rw [hk, rdk_get (k := kint) hkl]
  exact List.getElem_mem hkl
theorem bytes_wf {l : List Int} (h : Wf kSuint8 l) : Bytes l := fun x hx => by
  have h1 : (Lit.int IntKind.u8 x).wf = true := h.2 x hx
  simp only [Lit.wf, Bool.and_eq_true, decide_eq_true_eq] at h1
  have e1 : IntKind.u8.min = 0 := by decide
  have e2 : IntKind.u8.max = 255 := by decide
  omega
theorem cur0 {l : List Int} (h : Bytes l) : Cur (l, 0, 0) 0 := ⟨h, Int.le_refl _, Int.le_refl _⟩
theorem s_l1Cur_sureFlight_ok {a : List Int} {b c n : Int} (h : Cur (a, b, c) n) (hn : n ≤ 10000000000) : Ok (s_l1Cur_sureFlight a b c ) fun r => Cur r.2 (n + 6) := by
  unfold s_l1Cur_sureFlight
  refine (pick_ok (n := n) _ h (by omega)).bind fun r1 h1 => ?_
  refine (pick_ok (n := n + 2) _ h1.1 (by omega)).bind fun r2 h2 => ?_
  refine (pick_ok (n := n + 2 + 2) _ h2.1 (by omega)).bind fun r3 h3 => ?_
  exact Ok.ret (h3.1.mono (by omega))
theorem s_l1Cur_flight_ok {a : List Int} {b c n : Int} (h : Cur (a, b, c) n) (hn : n ≤ 10000000000) : Ok (s_l1Cur_flight a b c ) fun r => Cur r.2 (n + 10) := by
  unfold s_l1Cur_flight
  refine (s_l1Cur_sureFlight_ok (n := n) h (by omega)).bind fun r1 h1 => ?_
  refine (pick_ok (n := n + 6) _ h1 (by omega)).bind fun r2 h2 => ?_
  refine Ok.cond (fun _ => ?_) (fun _ => ?_)
  · refine (among_ok (n := n + 6 + 2) _ h2.1 (by simp) (by omega)).bind fun r3 h3 => ?_
    exact Ok.ret (h3.1.mono (by omega))
  · refine Ok.cond (fun _ => ?_) (fun _ => ?_)
    · refine (among_ok (n := n + 6 + 2) _ h2.1 (by simp) (by omega)).bind fun r4 h4 => ?_
      exact Ok.ret (h4.1.mono (by omega))
    · refine Ok.cond (fun _ => ?_) (fun _ => ?_)
      · refine (among_ok (n := n + 6 + 2) _ h2.1 (by simp) (by omega)).bind fun r5 h5 => ?_
        exact Ok.ret (h5.1.mono (by omega))
      · exact Ok.ret (h2.1.mono (by omega))
theorem s_DrawHeightAtRun_ok {code : List Int} (h : Bytes code) : Ok (s_DrawHeightAtRun code) fun _ => True := by
  unfold s_DrawHeightAtRun
  refine (s_l1Cur_flight_ok (n := 0) (cur0 h) (by omega)).bind fun r1 h1 => ?_
  refine (among_ok (n := 0 + 10) _ h1 (by simp) (by omega)).bind fun r2 h2 => ?_
  exact Ok.ret trivial
theorem s_DrawHeadRoom_ok {code : List Int} (h : Bytes code) : Ok (s_DrawHeadRoom code) fun _ => True := by
  unfold s_DrawHeadRoom
  refine (s_l1Cur_flight_ok (n := 0) (cur0 h) (by omega)).bind fun r1 h1 => ?_
  refine (among_ok (n := 0 + 10) _ h1 (by simp) (by omega)).bind fun r2 h2 => ?_
  refine (pick_ok (n := 0 + 10 + 2) _ h2.1 (by omega)).bind fun r3 h3 => ?_
  exact Ok.ret trivial
theorem s_DrawSplitFlight_ok {code : List Int} (h : Bytes code) : Ok (s_DrawSplitFlight code) fun _ => True := by
  unfold s_DrawSplitFlight
  refine (s_l1Cur_flight_ok (n := 0) (cur0 h) (by omega)).bind fun r1 h1 => ?_
  refine (pick_ok (n := 0 + 10) _ h1 (by omega)).bind fun r2 h2 => ?_
  refine (pick_ok (n := 0 + 10 + 2) _ h2.1 (by omega)).bind fun r3 h3 => ?_
  exact Ok.ret trivial
theorem s_DrawTimesFlight_ok {code : List Int} (h : Bytes code) : Ok (s_DrawTimesFlight code) fun _ => True := by
  unfold s_DrawTimesFlight
  refine (s_l1Cur_flight_ok (n := 0) (cur0 h) (by omega)).bind fun r1 h1 => ?_
  refine (among_ok (n := 0 + 10) _ h1 (by simp) (by omega)).bind fun r2 h2 => ?_
  exact Ok.ret trivial
theorem s_l1Cur_high_ok {a : List Int} {b c n : Int} (h : Cur (a, b, c) n) (hn : n ≤ 10000000000) : Ok (s_l1Cur_high a b c ) fun r => Cur r.2 (n + 4) := by
  unfold s_l1Cur_high
  refine (one_ok (n := n) _ h (by omega)).bind fun r1 h1 => ?_
  refine Ok.cond (fun _ => ?_) (fun _ => ?_)
  · refine (among_ok (n := n + 2) _ h1 (by simp) (by omega)).bind fun r2 h2 => ?_
    exact Ok.ret (h2.1.mono (by omega))
  · refine (pick_ok (n := n + 2) _ h1 (by omega)).bind fun r3 h3 => ?_
    exact Ok.ret (h3.1.mono (by omega))
theorem s_DrawFewestRisers_ok {code : List Int} (h : Bytes code) : Ok (s_DrawFewestRisers code) fun _ => True := by
  unfold s_DrawFewestRisers
  refine (s_l1Cur_high_ok (n := 0) (cur0 h) (by omega)).bind fun r1 h1 => ?_
  refine (among_ok (n := 0 + 4) _ h1 (by simp) (by omega)).bind fun r2 h2 => ?_
  exact Ok.ret trivial
theorem s_DrawMostRisers_ok {code : List Int} (h : Bytes code) : Ok (s_DrawMostRisers code) fun _ => True := by
  unfold s_DrawMostRisers
  refine (among_ok (n := 0) _ (cur0 h) (by simp) (by omega)).bind fun r1 h1 => ?_
  refine (among_ok (n := 0 + 2) _ h1.1 (by simp) (by omega)).bind fun r2 h2 => ?_
  exact Ok.ret trivial
theorem s_DrawBestRisers_ok {code : List Int} (h : Bytes code) : Ok (s_DrawBestRisers code) fun _ => True := by
  unfold s_DrawBestRisers
  refine (s_l1Cur_high_ok (n := 0) (cur0 h) (by omega)).bind fun r1 h1 => ?_
  refine (among_ok (n := 0 + 4) _ h1 (by simp) (by omega)).bind fun r2 h2 => ?_
  refine (among_ok (n := 0 + 4 + 2) _ h2.1 (by simp) (by omega)).bind fun r3 h3 => ?_
  exact Ok.ret trivial
theorem s_DrawTreadFor_ok {code : List Int} (h : Bytes code) : Ok (s_DrawTreadFor code) fun _ => True := by
  unfold s_DrawTreadFor
  refine (among_ok (n := 0) _ (cur0 h) (by simp) (by omega)).bind fun r1 h1 => ?_
  refine (among_ok (n := 0 + 2) _ h1.1 (by simp) (by omega)).bind fun r2 h2 => ?_
  exact Ok.ret trivial
/-! ### divisors and fractions -/
theorem within_eq (x lo hi : Int) : i_within x lo hi = s_l1In x lo hi := by unfold i_within s_l1In; simp
theorem l1In_iff {x lo hi : Int} : s_l1In x lo hi = true ↔ lo ≤ x ∧ x ≤ hi := by
  unfold s_l1In
  by_cases h1 : lo ≤ x <;> by_cases h2 : x ≤ hi <;> simp [h1, h2]
theorem l1In_not {x lo hi : Int} (h : s_l1In x lo hi = false) : ¬ (lo ≤ x ∧ x ≤ hi) := fun k => by rw [l1In_iff.2 k] at h; cases h
theorem gcd_loop : ∀ (b a : Nat), i_gcd_L1 (a : Int) (b : Int) = some ((Nat.gcd a b : Nat) : Int) := by
  intro b
  induction b using Nat.strongRecOn with
  | ind b ih =>
    intro a
    rw [i_gcd_u1, i_gcd_t1]
    by_cases hb : b = 0
    · subst hb
      simp
    · have h0 : ((b : Int) == 0) = false := by rw [beq_eq_false_iff_ne]; omega
      have h1 : ((b : Int) != 0) = true := by rw [bne, h0]; rfl
      have h2 : Int.tmod (a : Int) (b : Int) = ((a % b : Nat) : Int) := by
        rw [Int.tmod_eq_emod_of_nonneg (by omega)]; rfl
      rw [h0, h1, h2]
      simp only [cond_true, cond_false]
      rw [ih (a % b) (Nat.mod_lt a (by omega)) b]
      congr 2
      rw [Nat.gcd_comm b, ← Nat.gcd_rec, Nat.gcd_comm]
theorem gcd_eq (a b : Nat) : i_gcd (a : Int) (b : Int) = some ((Nat.gcd a b : Nat) : Int) := gcd_loop b a
theorem part_eq (n d : Nat) (hd : 0 < d) (hn : n ≤ 4000000000000000000) (hd' : d ≤ 4000000000000000000) : i_part (n : Int) (d : Int) = some (((n / Nat.gcd n d : Nat) : Int), ((d / Nat.gcd n d : Nat) : Int), true) := by
  unfold i_part
  have h1 : ¬ ((d : Int) ≤ 0) := by omega
  have hg : 0 < Nat.gcd n d := Nat.gcd_pos_of_pos_right n hd
  have h2 : (((Nat.gcd n d : Nat) : Int) == 0) = false := by rw [beq_eq_false_iff_ne]; omega
  have e1 : Int.tdiv (n : Int) ((Nat.gcd n d : Nat) : Int) = ((n / Nat.gcd n d : Nat) : Int) := by rw [Int.tdiv_eq_ediv_of_nonneg (by omega)]; rfl
  have e2 : Int.tdiv (d : Int) ((Nat.gcd n d : Nat) : Int) = ((d / Nat.gcd n d : Nat) : Int) := by rw [Int.tdiv_eq_ediv_of_nonneg (by omega)]; rfl
  have b1 : n / Nat.gcd n d ≤ n := Nat.div_le_self _ _
  have b2 : d / Nat.gcd n d ≤ d := Nat.div_le_self _ _
  rw [decide_eq_false h1, gcd_eq]
  have w : ∀ q : Nat, q ≤ 4000000000000000000 → IntKind.wrap .i64 (q : Int) = q := fun q hq => wrapI (by omega) (by omega)
  simp only [cond_false, Option.bind_some, h2, e1, e2]
  rw [w _ (by omega), w _ (by omega)]
theorem part_mul (n d k : Nat) (hk : 0 < k) : (k * n) / Nat.gcd (k * n) (k * d) = n / Nat.gcd n d ∧ (k * d) / Nat.gcd (k * n) (k * d) = d / Nat.gcd n d := by
  rw [Nat.gcd_mul_left]
  exact ⟨Nat.mul_div_mul_left _ _ hk, Nat.mul_div_mul_left _ _ hk⟩
/-! ### flights -/
theorem flight_eq (a b c : Int) : i_IsFlight a b c = s_riGood a b c := by unfold i_IsFlight s_riGood; simp only [within_eq]
theorem riGood_iff {a b c : Int} : s_riGood a b c = true ↔ (1 ≤ a ∧ a ≤ 100) ∧ (1 ≤ b ∧ b ≤ 250) ∧ (1 ≤ c ∧ c ≤ 500) := by
  unfold s_riGood
  rw [← l1In_iff, ← l1In_iff, ← l1In_iff]
  cases s_l1In a 1 100 <;> cases s_l1In b 1 250 <;> simp
theorem mul_bd {x y m k : Int} (h0 : 0 ≤ x) (h1 : x ≤ m) (g0 : 0 ≤ y) (g1 : y ≤ k) : 0 ≤ x * y ∧ x * y ≤ m * k :=
  ⟨Int.mul_nonneg h0 g0, Int.mul_le_mul h1 g1 g0 (by omega)⟩
/-- the height at a place of valid flights -/
def hat (a b c p : Int) : Int := if p < 0 then 0 else min a (p / c + 1) * b
structure Pl (a b c p : Int) : Prop where
  a1 : 1 ≤ a
  a2 : a ≤ 100
  b1 : 1 ≤ b
  b2 : b ≤ 250
  c1 : 1 ≤ c
  c2 : c ≤ 500
  p1 : -1000 ≤ p
  p2 : p ≤ 51000
theorem riPlace_pl {a b c p : Int} (h : s_riPlace a b c p = true) : Pl a b c p := by
  unfold s_riPlace at h
  cases hg : s_riGood a b c
  · rw [hg] at h; cases h
  · rw [hg] at h
    obtain ⟨⟨a1, a2⟩, ⟨b1, b2⟩, c1, c2⟩ := riGood_iff.1 hg
    have hm := mul_bd (x := a - 1) (y := c) (m := 99) (k := 500) (by omega) (by omega) (by omega) (by omega)
    have e : IntKind.wrap .i64 (IntKind.wrap .i64 (IntKind.wrap .i64 (a - 1) * c) + 1000) = (a - 1) * c + 1000 := by
      rw [wrapI (n := a - 1) (by omega) (by omega), wrapI (n := (a - 1) * c) (by omega) (by omega), wrapI (by omega) (by omega)]
    rw [e] at h
    obtain ⟨p1, p2⟩ := l1In_iff.1 h
    exact ⟨a1, a2, b1, b2, c1, c2, p1, by omega⟩
theorem hat_bd {a b c p : Int} (h : Pl a b c p) : 0 ≤ hat a b c p ∧ hat a b c p ≤ a * b ∧ a * b ≤ 25000 := by
  obtain ⟨a1, a2, b1, b2, c1, c2, p1, p2⟩ := h
  have := mul_bd (x := a) (y := b) (m := 100) (k := 250) (by omega) (by omega) (by omega) (by omega)
  unfold hat
  split
  · omega
  · have hq : 0 ≤ p / c := Int.ediv_nonneg (by omega) (by omega)
    have := mul_bd (x := min a (p / c + 1)) (y := b) (m := a) (k := b) (by omega) (by omega) (by omega) (by omega)
    omega
theorem riAt_eq {a b c p : Int} (h : Pl a b c p) : s_riAt a b c p = some (hat a b c p) := by
  have hb := hat_bd h
  obtain ⟨a1, a2, b1, b2, c1, c2, p1, p2⟩ := h
  unfold s_riAt
  unfold hat at hb ⊢
  by_cases hp : p < 0
  · simp [hp]
  · have hq : 0 ≤ p / c := Int.ediv_nonneg (by omega) (by omega)
    have hq2 : p / c ≤ p := Int.ediv_le_self _ (by omega)
    have hc : (c == 0) = false := by rw [beq_eq_false_iff_ne]; omega
    rw [if_neg hp] at hb ⊢
    rw [decide_eq_false hp, hc, Int.tdiv_eq_ediv_of_nonneg (by omega), wrapI (n := p / c) (by omega) (by omega), wrapI (n := p / c + 1) (by omega) (by omega)]
    have e : s_l1Least a (p / c + 1) = min a (p / c + 1) := by unfold s_l1Least; by_cases hh : a < p / c + 1 <;> simp [hh] <;> omega
    rw [e, wrapI (by omega) (by omega)]; rfl
theorem HAR_s (a b c p : Int) : s_HeightAtRun a b c p = some (bif s_riPlace a b c p then (hat a b c p, true) else (0, false)) := by
  unfold s_HeightAtRun
  cases h : s_riPlace a b c p
  · rfl
  · rw [riAt_eq (riPlace_pl h)]; rfl
theorem HAR_i (a b c p : Int) : i_HeightAtRun a b c p = some (bif s_riPlace a b c p then (hat a b c p, true) else (0, false)) := by
  rw [← HAR_s]
  unfold i_HeightAtRun s_HeightAtRun s_riPlace
  rw [flight_eq]
  cases hg : s_riGood a b c
  · rfl
  · simp only [within_eq, Bool.not_true, cond_false, cond_true]
    have e : i_Flight_run a b c = IntKind.wrap .i64 (IntKind.wrap .i64 (a - 1) * c) := rfl
    rw [e]
    cases s_l1In p (-1000) (IntKind.wrap .i64 (IntKind.wrap .i64 (IntKind.wrap .i64 (a - 1) * c) + 1000))
    · rfl
    · unfold s_riAt s_l1Least
      by_cases hp : p < 0
      · simp [hp]
      · by_cases hc : c == 0
        · simp [hp, hc]
        · simp only [hp, hc, decide_false, cond_false, Bool.not_true, Option.bind_some]
          congr 4
          by_cases h1 : IntKind.wrap .i64 (IntKind.wrap .i64 (Int.tdiv p c) + 1) < a
          · have h2 : ¬ a < IntKind.wrap .i64 (IntKind.wrap .i64 (Int.tdiv p c) + 1) := by omega
            rw [decide_eq_true h1, decide_eq_false h2]; rfl
          · rw [decide_eq_false h1]
            by_cases h2 : a < IntKind.wrap .i64 (IntKind.wrap .i64 (Int.tdiv p c) + 1)
            · rw [decide_eq_true h2]; rfl
            · rw [decide_eq_false h2]; show a = _; simp only [cond_false]; omega
theorem HeightOf_eq {a b c : Int} (h : s_riGood a b c = true) : i_HeightOf a b c = (a * b, true) := by
  obtain ⟨⟨a1, a2⟩, ⟨b1, b2⟩, c1, c2⟩ := riGood_iff.1 h
  have := mul_bd (x := a) (y := b) (m := 100) (k := 250) (by omega) (by omega) (by omega) (by omega)
  unfold i_HeightOf i_Flight_high
  rw [flight_eq, h, wrapI (by omega) (by omega)]; rfl
theorem RunOf_eq {a b c : Int} (h : s_riGood a b c = true) : i_RunOf a b c = ((a - 1) * c, true) := by
  obtain ⟨⟨a1, a2⟩, ⟨b1, b2⟩, c1, c2⟩ := riGood_iff.1 h
  have hm := mul_bd (x := a - 1) (y := c) (m := 99) (k := 500) (by omega) (by omega) (by omega) (by omega)
  unfold i_RunOf i_Flight_run
  rw [flight_eq, h, wrapI (n := a - 1) (by omega) (by omega), wrapI (by omega) (by omega)]; rfl
theorem div_step {p c : Int} (hc : 0 < c) : ((p + 1) / c = p / c) ∨ ((p + 1) / c = p / c + 1 ∧ (p + 1) % c = 0) := by
  have h1 := Int.emod_add_mul_ediv p c
  have h2 := Int.emod_nonneg p (by omega : c ≠ 0)
  have h3 := Int.emod_lt_of_pos p hc
  by_cases h : p % c + 1 < c
  · exact .inl ((Int.ediv_emod_unique (a := p + 1) (r := p % c + 1) (q := p / c) hc).2 ⟨by omega, by omega, h⟩).1
  · have e : c * (p / c + 1) = c * (p / c) + c := by rw [Int.mul_add]; omega
    exact .inr ((Int.ediv_emod_unique (a := p + 1) (r := 0) (q := p / c + 1) hc).2 ⟨by omega, by omega, hc⟩)
theorem hat_next {a b c p : Int} (h : Pl a b c p) : hat a b c p ≤ hat a b c (p + 1) ∧ hat a b c (p + 1) ≤ hat a b c p + b ∧ (hat a b c p < hat a b c (p + 1) → (p + 1) % c = 0 ∧ 0 ≤ p + 1) := by
  obtain ⟨a1, a2, b1, b2, c1, c2, p1, p2⟩ := h
  unfold hat
  by_cases h1 : p + 1 < 0
  · have h2 : p < 0 := by omega
    rw [if_pos h1, if_pos h2]; omega
  · by_cases h2 : p < 0
    · have : p + 1 = 0 := by omega
      rw [if_neg h1, if_pos h2, this]
      have e : min a ((0 : Int) / c + 1) = 1 := by rw [Int.zero_ediv]; omega
      rw [e, Int.zero_emod]; omega
    · rw [if_neg h1, if_neg h2]
      rcases div_step (p := p) (c := c) (by omega) with e | ⟨e, e2⟩
      · rw [e]; omega
      · rw [e]
        by_cases h3 : p / c + 1 < a
        · have m1 : min a (p / c + 1) = p / c + 1 := by omega
          have m2 : min a (p / c + 1 + 1) = p / c + 1 + 1 := by omega
          rw [m1, m2, Int.add_mul (p / c + 1)]
          omega
        · have m1 : min a (p / c + 1) = a := by omega
          have m2 : min a (p / c + 1 + 1) = a := by omega
          rw [m1, m2]; omega
theorem hat_zero {a b c p : Int} (h : Pl a b c p) : (hat a b c p = 0 ↔ p < 0) ∧ Int.tmod (hat a b c p) b = 0 := by
  obtain ⟨a1, a2, b1, b2, c1, c2, p1, p2⟩ := h
  unfold hat
  by_cases h2 : p < 0
  · rw [if_pos h2]; simp [h2]
  · rw [if_neg h2]
    have hq : 0 ≤ p / c := Int.ediv_nonneg (by omega) (by omega)
    have : 0 < min a (p / c + 1) * b := Int.mul_pos (by omega) (by omega)
    exact ⟨by omega, Int.mul_tmod_left _ _⟩
/-! ### the best number of risers -/
def candB (x n : Int) : Bool := decide (x % n = 0) && decide (x / n ≤ 250)
def farV (x sum t n : Int) : Int := max (2 * (x / n) + t - sum) (-(2 * (x / n) + t - sum))
def bestStep (x sum t : Int) (s : Int × Int) (n : Int) : Int × Int := if s.1 = 0 ∨ farV x sum t n < s.2 then (n, farV x sum t n) else s
/-- the candidates from k on -/
def candL (x : Int) : Nat → Nat → List Int
  | _, 0 => []
  | k, d + 1 => bif candB x k then (k : Int) :: candL x (k + 1) d else candL x (k + 1) d
theorem candL_mem {x : Int} : ∀ {d k : Nat} {n : Int}, n ∈ candL x k d → (k : Int) ≤ n ∧ n < k + d ∧ candB x n = true
  | 0, _, _, h => by cases h
  | d + 1, k, n, h => by
    unfold candL at h
    cases hc : candB x k
    · rw [hc] at h
      have := candL_mem h
      exact ⟨by omega, by omega, this.2.2⟩
    · rw [hc, cond_true] at h
      rcases List.mem_cons.1 h with rfl | h
      · exact ⟨by omega, by omega, hc⟩
      · have := candL_mem h
        exact ⟨by omega, by omega, this.2.2⟩
theorem candL_len (x : Int) : ∀ (d k : Nat), (candL x k d).length ≤ d
  | 0, _ => Nat.le_refl _
  | d + 1, k => by
    unfold candL
    have := candL_len x d (k + 1)
    cases candB x k
    · rw [cond_false]; omega
    · rw [cond_true, List.length_cons]; omega
structure Bp (x sum t : Int) : Prop where
  x1 : 1 ≤ x
  x2 : x ≤ 6000
  s1 : 1 ≤ sum
  s2 : sum ≤ 2000
  t1 : 1 ≤ t
  t2 : t ≤ 500
theorem tm_eq {x n : Int} (hx : 0 ≤ x) : Int.tmod x n = x % n ∧ Int.tdiv x n = x / n := ⟨Int.tmod_eq_emod_of_nonneg hx, Int.tdiv_eq_ediv_of_nonneg hx⟩
theorem div_bd {x n : Int} (hx : 0 ≤ x) (hn : 1 ≤ n) : 0 ≤ x / n ∧ x / n ≤ x := ⟨Int.ediv_nonneg hx (by omega), Int.ediv_le_self _ hx⟩
theorem abs_eq {v : Int} (h0 : -1000000 ≤ v) (h1 : v ≤ 1000000) : s_l1Abs v = max v (-v) := by
  unfold s_l1Abs s_l1Most
  rw [wrapI (n := 0 - v) (by omega) (by omega)]
  by_cases h : v > 0 - v
  · rw [decide_eq_true h, cond_true]; omega
  · rw [decide_eq_false h, cond_false]; omega
theorem s_best_loop {x sum t : Int} (h : Bp x sum t) : ∀ (d k : Nat) (b f : Int), k + d = 101 → 1 ≤ k → s_BestRisers_L1 x sum t b f k = some (bif ((candL x k d).foldl (bestStep x sum t) (b, f)).1 == 0 then (0, false) else (((candL x k d).foldl (bestStep x sum t) (b, f)).1, true))
  | 0, k, b, f, hd, hk => by
    have : ¬ ((k : Int) ≤ 100) := by omega
    rw [s_BestRisers_u1, s_BestRisers_t1, decide_eq_false this]
    simp only [candL, List.foldl_nil, cond_false]
    cases b == 0 <;> rfl
  | d + 1, k, b, f, hd, hk => by
    obtain ⟨x1, x2, s1, s2, t1, t2⟩ := h
    have c1 : (k : Int) ≤ 100 := by omega
    have hz : ((k : Int) == 0) = false := by rw [beq_eq_false_iff_ne]; omega
    have hw : IntKind.wrap .i64 ((k : Int) + 1) = ((k + 1 : Nat) : Int) := by rw [wrapI (by omega) (by omega)]; omega
    obtain ⟨e1, e2⟩ := tm_eq (x := x) (n := k) (by omega)
    obtain ⟨b1, b2⟩ := div_bd (x := x) (n := k) (by omega) (by omega)
    have ih := fun b f => s_best_loop ⟨x1, x2, s1, s2, t1, t2⟩ d (k + 1) b f (by omega) (by omega)
    rw [s_BestRisers_u1, s_BestRisers_t1, decide_eq_true c1, hz, hw, e1, e2]
    simp only [cond_true, cond_false]
    rw [wrapI (n := x / k) (by omega) (by omega), wrapI (n := 2 * (x / k)) (by omega) (by omega), wrapI (n := 2 * (x / k) + t) (by omega) (by omega), wrapI (n := 2 * (x / k) + t - sum) (by omega) (by omega), abs_eq (by omega) (by omega)]
    unfold candL candB
    by_cases g1 : x % (k : Int) = 0
    · by_cases g2 : x / (k : Int) ≤ 250
      · have g2' : ¬ (x / (k : Int) > 250) := by omega
        simp only [g1, g2, bne_self_eq_false, cond_false, decide_eq_false g2', decide_true, Bool.and_self, cond_true, List.foldl_cons]
        by_cases g3 : b = 0
        · have : bestStep x sum t (b, f) k = ((k : Int), farV x sum t k) := by unfold bestStep; rw [if_pos (.inl g3)]
          rw [this]; simp only [g3, beq_self_eq_true, cond_true]; exact ih _ _
        · have g3' : (b == 0) = false := by rw [beq_eq_false_iff_ne]; exact g3
          rw [g3', cond_false]
          by_cases g4 : farV x sum t k < f
          · have : bestStep x sum t (b, f) k = ((k : Int), farV x sum t k) := by unfold bestStep; rw [if_pos (.inr g4)]
            have g4' : max (2 * (x / (k : Int)) + t - sum) (-(2 * (x / (k : Int)) + t - sum)) < f := g4
            rw [this, decide_eq_true g4', cond_true]; exact ih _ _
          · have : bestStep x sum t (b, f) k = (b, f) := by unfold bestStep; rw [if_neg (by intro h; rcases h with h | h; exact g3 h; exact g4 h)]
            have g4' : ¬ max (2 * (x / (k : Int)) + t - sum) (-(2 * (x / (k : Int)) + t - sum)) < f := g4
            rw [this, decide_eq_false g4', cond_false]; exact ih _ _
      · have g2' : (x / (k : Int) > 250) := by omega
        simp only [g1, g2, bne_self_eq_false, cond_false, decide_eq_true g2', decide_true, decide_false, Bool.and_false, cond_true]
        exact ih _ _
    · have g1' : (x % (k : Int) != 0) = true := by rw [bne_iff_ne]; exact g1
      simp only [g1', g1, decide_false, Bool.false_and, cond_true, cond_false]
      exact ih _ _
theorem whole_loop {x : Int} (x1 : 1 ≤ x) (x2 : x ≤ 6000) : ∀ (d k : Nat) (acc : List Int), k + d = 101 → 1 ≤ k → acc.length ≤ k → i_WholeRisers_L1 acc x 1 250 k = some (acc ++ candL x k d, true)
  | 0, k, acc, hd, hk, ha => by
    have : ¬ ((k : Int) ≤ 100) := by omega
    rw [i_WholeRisers_u1, i_WholeRisers_t1, decide_eq_false this]; simp [candL]
  | d + 1, k, acc, hd, hk, ha => by
    have c1 : (k : Int) ≤ 100 := by omega
    have hz : ((k : Int) == 0) = false := by rw [beq_eq_false_iff_ne]; omega
    have hw : IntKind.wrap .i64 ((k : Int) + 1) = ((k + 1 : Nat) : Int) := by rw [wrapI (by omega) (by omega)]; omega
    have hb : Nat.ble (acc.length + 1) 4294967296 = true := by rw [ble_dec]; exact decide_eq_true (by omega)
    obtain ⟨e1, e2⟩ := tm_eq (x := x) (n := k) (by omega)
    obtain ⟨b1, b2⟩ := div_bd (x := x) (n := k) (by omega) (by omega)
    rw [i_WholeRisers_u1, i_WholeRisers_t1, decide_eq_true c1, hz, hw, e1, e2, hb]
    simp only [cond_true, cond_false, within_eq]
    rw [wrapI (n := x / k) (by omega) (by omega)]
    unfold candL candB
    by_cases g1 : x % (k : Int) = 0
    · have g0 : 1 ≤ x / (k : Int) := by
        have := Int.emod_add_mul_ediv x k
        rw [g1] at this
        rcases Int.lt_or_le (x / (k : Int)) 1 with h | h
        · have h0 : x / (k : Int) = 0 := by omega
          rw [h0] at this; omega
        · exact h
      by_cases g2 : x / (k : Int) ≤ 250
      · have e : s_l1In (x / (k : Int)) 1 250 = true := l1In_iff.2 ⟨g0, g2⟩
        simp only [g1, g2, e, beq_self_eq_true, decide_true, Bool.and_self, cond_true]
        rw [whole_loop x1 x2 d (k + 1) _ (by omega) (by omega) (by simp; omega)]
        simp
      · have e : s_l1In (x / (k : Int)) 1 250 = false := by
          cases h : s_l1In (x / (k : Int)) 1 250
          · rfl
          · have := l1In_iff.1 h; omega
        simp only [g1, g2, e, beq_self_eq_true, decide_true, decide_false, Bool.and_false, cond_true, cond_false]
        exact whole_loop x1 x2 d (k + 1) _ (by omega) (by omega) (by omega)
    · have g1' : (x % (k : Int) == 0) = false := by rw [beq_eq_false_iff_ne]; exact g1
      simp only [g1', g1, decide_false, Bool.false_and, cond_false]
      exact whole_loop x1 x2 d (k + 1) _ (by omega) (by omega) (by omega)
theorem cand_two {x n : Int} (hn : 1 ≤ n) (h : candB x n = true) : 2 * x / n = 2 * (x / n) := by
  unfold candB at h
  simp only [Bool.and_eq_true, decide_eq_true_eq] at h
  exact Int.mul_ediv_assoc _ (Int.dvd_of_emod_eq_zero h.1)
theorem i_best_loop {x sum t : Int} (h : Bp x sum t) (l : List Int) (hl : l.length ≤ 1000) (hc : ∀ n, n ∈ l → 1 ≤ n ∧ n ≤ 100 ∧ candB x n = true) : ∀ b f : Int,
    i_BestRisers_L1 l x sum t b f l.length 0 = some ((l.foldl (bestStep x sum t) (b, f)).1, decide ((l.foldl (bestStep x sum t) (b, f)).1 > 0)) := by
  obtain ⟨x1, x2, s1, s2, t1, t2⟩ := h
  have hm : l.length ≤ maxLen := by rw [maxLen_eq]; omega
  refine drop_ind l (fun i r => ∀ b f : Int, i_BestRisers_L1 l x sum t b f l.length (i : Int) = some ((r.foldl (bestStep x sum t) (b, f)).1, decide ((r.foldl (bestStep x sum t) (b, f)).1 > 0))) (fun b f => ?_) (fun i hi ih b f => ?_)
  · have : ¬ ((l.length : Int) < l.length) := by omega
    rw [i_BestRisers_u1, i_BestRisers_t1, decide_eq_false this]; rfl
  · obtain ⟨n1, n2, n3⟩ := hc _ (List.getElem_mem hi)
    have hz : (l[i] == 0) = false := by rw [beq_eq_false_iff_ne]; omega
    have c1 : decide ((i : Int) < l.length) = true := decide_eq_true (by omega)
    obtain ⟨b1, b2⟩ := div_bd (x := x) (n := l[i]) (by omega) n1
    have e2 : Int.tdiv (2 * x) l[i] = 2 * (x / l[i]) := by rw [(tm_eq (x := 2 * x) (n := l[i]) (by omega)).2, cand_two n1 n3]
    rw [i_BestRisers_u1, i_BestRisers_t1, c1, decide_eq_true (Int.natCast_nonneg i), rdk_get (k := kint) hi]
    simp only [cond_true]
    rw [hz, wrapS hi hm, wrapI (n := 2 * x) (by omega) (by omega), e2]
    simp only [cond_false]
    rw [wrapI (n := 2 * (x / l[i])) (by omega) (by omega), wrapI (n := 2 * (x / l[i]) + t) (by omega) (by omega), wrapI (n := 2 * (x / l[i]) + t - sum) (by omega) (by omega), wrapI (n := 0 - (2 * (x / l[i]) + t - sum)) (by omega) (by omega)]
    have hf : (bif decide (0 - (2 * (x / l[i]) + t - sum) > 2 * (x / l[i]) + t - sum) then 0 - (2 * (x / l[i]) + t - sum) else 2 * (x / l[i]) + t - sum) = farV x sum t l[i] := by
      unfold farV
      by_cases h : 0 - (2 * (x / l[i]) + t - sum) > 2 * (x / l[i]) + t - sum
      · rw [decide_eq_true h, cond_true]; omega
      · rw [decide_eq_false h, cond_false]; omega
    rw [hf, List.foldl_cons]
    by_cases g3 : b = 0
    · have : bestStep x sum t (b, f) l[i] = (l[i], farV x sum t l[i]) := by unfold bestStep; rw [if_pos (.inl g3)]
      rw [this]; simp only [g3, beq_self_eq_true, cond_true]; exact ih _ _
    · have g3' : (b == 0) = false := by rw [beq_eq_false_iff_ne]; exact g3
      rw [g3', cond_false]
      by_cases g4 : farV x sum t l[i] < f
      · have : bestStep x sum t (b, f) l[i] = (l[i], farV x sum t l[i]) := by unfold bestStep; rw [if_pos (.inr g4)]
        rw [this, decide_eq_true g4, cond_true]; exact ih _ _
      · have : bestStep x sum t (b, f) l[i] = (b, f) := by unfold bestStep; rw [if_neg (by intro h; rcases h with h | h; exact g3 h; exact g4 h)]
        rw [this, decide_eq_false g4, cond_false]; exact ih _ _
/-- what the best one is -/
structure BestOf (x sum t : Int) (l : List Int) (b f : Int) : Prop where
  mem : b ∈ l
  far : f = farV x sum t b
  le : ∀ n, n ∈ l → f ≤ farV x sum t n ∧ (farV x sum t n = f → b ≤ n)
theorem best_fold {x sum t : Int} : ∀ (l p : List Int) (s : Int × Int), (p ++ l).Pairwise (· < ·) → (∀ n, n ∈ p ++ l → 1 ≤ n) → ((s.1 = 0 ∧ p = []) ∨ (s.1 ≠ 0 ∧ BestOf x sum t p s.1 s.2)) →
    ((l.foldl (bestStep x sum t) s).1 = 0 ∧ p ++ l = []) ∨ ((l.foldl (bestStep x sum t) s).1 ≠ 0 ∧ BestOf x sum t (p ++ l) (l.foldl (bestStep x sum t) s).1 (l.foldl (bestStep x sum t) s).2)
  | [], p, s, _, _, h => by simpa using h
  | n :: l, p, s, hp, hn, h => by
    have e : p ++ n :: l = (p ++ [n]) ++ l := by simp
    have h1n := hn n (by simp)
    rw [e] at hp hn ⊢
    rw [List.foldl_cons]
    refine best_fold l (p ++ [n]) _ hp hn (.inr ?_)
    have hlt : ∀ m, m ∈ p → m < n := fun m hm => by
      have := (List.pairwise_append.1 (List.pairwise_append.1 hp).1).2.2 m hm n (by simp)
      exact this
    unfold bestStep
    rcases h with ⟨h1, h2⟩ | ⟨h1, h2⟩
    · rw [if_pos (.inl h1)]
      subst h2
      refine ⟨by show n ≠ 0; omega, by simp, rfl, fun m hm => ?_⟩
      simp at hm; subst hm; exact ⟨Int.le_refl _, fun _ => Int.le_refl _⟩
    · by_cases g : farV x sum t n < s.2
      · rw [if_pos (.inr g)]
        refine ⟨by show n ≠ 0; omega, by simp, rfl, fun m hm => ?_⟩
        rcases List.mem_append.1 hm with hm | hm
        · have := (h2.le m hm).1
          exact ⟨by simp only; omega, fun hh => by simp only at hh; omega⟩
        · simp at hm; subst hm; exact ⟨Int.le_refl _, fun _ => Int.le_refl _⟩
      · rw [if_neg (by intro hh; rcases hh with hh | hh; exact h1 hh; exact g hh)]
        refine ⟨h1, List.mem_append_left _ h2.mem, h2.far, fun m hm => ?_⟩
        rcases List.mem_append.1 hm with hm | hm
        · exact h2.le m hm
        · simp at hm; subst hm
          have := hlt _ h2.mem
          exact ⟨by omega, fun _ => by omega⟩
theorem candL_rises (x : Int) : ∀ (d k : Nat), (candL x k d).Pairwise (· < ·)
  | 0, _ => List.Pairwise.nil
  | d + 1, k => by
    unfold candL
    cases candB x k
    · exact candL_rises x d (k + 1)
    · exact List.Pairwise.cons (fun m hm => by have := (candL_mem hm).1; omega) (candL_rises x d (k + 1))
theorem candL_all {x n : Int} : ∀ (d k : Nat), (k : Int) ≤ n → n < k + d → candB x n = true → n ∈ candL x k d
  | 0, k, h1, h2, _ => by omega
  | d + 1, k, h1, h2, h3 => by
    unfold candL
    by_cases e : n = k
    · subst e; rw [h3]; simp
    · have := candL_all d (k + 1) (by omega) (by omega) h3
      cases candB x k
      · exact this
      · exact List.mem_cons_of_mem _ this
noncomputable def bestR (x sum t : Int) : Int := ((candL x 1 100).foldl (bestStep x sum t) (0, 0)).1
noncomputable def bestOkB (x sum t : Int) : Bool := s_l1In x 1 6000 && (s_l1In sum 1 2000 && s_l1In t 1 500)
theorem bestOk_bp {x sum t : Int} (h : bestOkB x sum t = true) : Bp x sum t := by
  unfold bestOkB at h
  simp only [Bool.and_eq_true, l1In_iff] at h
  exact ⟨h.1.1, h.1.2, h.2.1.1, h.2.1.2, h.2.2.1, h.2.2.2⟩
theorem bestR_or {x sum t : Int} : bestR x sum t = 0 ∨ (bestR x sum t ≠ 0 ∧ ∃ f, BestOf x sum t (candL x 1 100) (bestR x sum t) f) := by
  rcases best_fold (x := x) (sum := sum) (t := t) (candL x 1 100) [] (0, 0) (candL_rises x 100 1) (fun n hn => by have := (candL_mem hn).1; omega) (.inl ⟨rfl, rfl⟩) with ⟨h, _⟩ | ⟨h1, h2⟩
  · exact .inl h
  · exact .inr ⟨h1, _, h2⟩
noncomputable def bestRes (x sum t : Int) : Int × Bool := bif bestOkB x sum t then (bif bestR x sum t == 0 then (0, false) else (bestR x sum t, true)) else (0, false)
theorem s_Best_eq (x sum t : Int) : s_BestRisers x sum t = some (bestRes x sum t) := by
  unfold s_BestRisers s_BestRisers_t0 bestRes
  cases h : bestOkB x sum t
  · unfold bestOkB at h
    have e : s_riHigh x = s_l1In x 1 6000 := rfl
    rw [e]
    cases h1 : s_l1In x 1 6000 <;> cases h2 : s_l1In sum 1 2000 <;> cases h3 : s_l1In t 1 500 <;> simp [h1, h2, h3] at h ⊢
  · have hb := bestOk_bp h
    unfold bestOkB at h
    simp only [Bool.and_eq_true] at h
    have e : s_riHigh x = true := h.1
    rw [e, h.2.1, h.2.2]
    exact s_best_loop hb 100 1 0 0 rfl (Nat.le_refl _)
theorem i_Best_eq (x sum t : Int) : i_BestRisers x sum t = some (bestRes x sum t) := by
  unfold i_BestRisers i_BestRisers_t0 bestRes i_WholeRisers i_WholeRisers_t0 i_isHigh i_isSum
  simp only [within_eq]
  have e1 : s_l1In 1 1 250 = true := by decide
  have e2 : s_l1In 250 1 250 = true := by decide
  rw [e1, e2]
  unfold bestOkB
  cases h1 : s_l1In x 1 6000
  · rfl
  · obtain ⟨x1, x2⟩ := l1In_iff.1 h1
    have hw := whole_loop x1 x2 100 1 [] rfl (Nat.le_refl _) (Nat.zero_le _)
    simp only [Bool.not_true, cond_false]
    have hw' : i_WholeRisers_L1 [] x 1 250 1 = some (candL x 1 100, true) := hw
    rw [hw']
    cases h2 : s_l1In sum 1 2000
    · rfl
    · cases h3 : s_l1In t 1 500
      · rfl
      · obtain ⟨s1, s2⟩ := l1In_iff.1 h2
        obtain ⟨t1, t2⟩ := l1In_iff.1 h3
        have := i_best_loop ⟨x1, x2, s1, s2, t1, t2⟩ (candL x 1 100) (by have := candL_len x 100 1; omega) (fun n hn => by have := candL_mem hn; exact ⟨by omega, by omega, this.2.2⟩) 0 0
        simp only [Option.bind_some, Bool.not_true, cond_false, Bool.and_self, cond_true]
        rw [this]
        show some (bestR x sum t, decide (bestR x sum t > 0)) = _
        rcases bestR_or (x := x) (sum := sum) (t := t) with h | ⟨h, f, hf⟩
        · rw [h]; rfl
        · have := (candL_mem hf.mem).1
          have hz : (bestR x sum t == 0) = false := by rw [beq_eq_false_iff_ne]; exact h
          rw [hz, decide_eq_true (by omega)]; rfl
/-! ### the reference's answers are the program's -/
theorem Head_eq (a b c p q : Int) : i_HeadRoom a b c p q = s_HeadRoom a b c p q ∧ ∃ r, s_HeadRoom a b c p q = some r ∧ (r.2 = true → s_riPlace a b c q = true ∧ 1 ≤ p ∧ p ≤ 20000 ∧ hat a b c q < p ∧ r.1 = p - hat a b c q) := by
  unfold i_HeadRoom s_HeadRoom
  rw [HAR_i, within_eq]
  cases h : s_riPlace a b c q
  · exact ⟨by first | rfl | trivial, _, rfl, fun h => by cases h⟩
  · have hp := riPlace_pl h
    have hb := hat_bd hp
    rw [riAt_eq hp]
    cases h1 : s_l1In p 1 20000
    · exact ⟨by first | rfl | trivial, _, rfl, fun h => by cases h⟩
    · obtain ⟨p1, p2⟩ := l1In_iff.1 h1
      simp only [Bool.not_true, cond_false, cond_true, Option.bind_some]
      by_cases h2 : hat a b c q ≥ p
      · rw [decide_eq_true h2]
        exact ⟨by first | rfl | trivial, _, rfl, fun h => by cases h⟩
      · rw [decide_eq_false h2, wrapI (n := p - hat a b c q) (by omega) (by omega)]
        exact ⟨by first | rfl | trivial, _, rfl, fun _ => ⟨by first | rfl | trivial, p1, p2, by omega, rfl⟩⟩
theorem Split_eq (a b c l : Int) : i_SplitFlight a b c l = s_SplitFlight a b c l := by unfold i_SplitFlight s_SplitFlight; rw [flight_eq, within_eq]
theorem Times_eq (a b c l : Int) : i_TimesFlight a b c l = s_TimesFlight a b c l := by unfold i_TimesFlight s_TimesFlight; rw [flight_eq, flight_eq, within_eq]
theorem Tread_eq (a b : Int) : i_TreadFor a b = s_TreadFor a b := by unfold i_TreadFor s_TreadFor i_isSum; simp only [within_eq]
theorem Split_of {a b c l : Int} (h : (s_SplitFlight a b c l).2.2 = true) : s_riGood a b c = true ∧ 1 ≤ l ∧ l ≤ a - 1 ∧ s_SplitFlight a b c l = ((l, b, c), (a - l, b, c), true) := by
  unfold s_SplitFlight at h ⊢
  cases hg : s_riGood a b c
  · rw [hg] at h; cases h
  · obtain ⟨⟨a1, a2⟩, ⟨b1, b2⟩, c1, c2⟩ := riGood_iff.1 hg
    rw [hg, wrapI (n := a - 1) (by omega) (by omega)] at h
    rw [wrapI (n := a - 1) (by omega) (by omega)]
    cases hl : s_l1In l 1 (a - 1)
    · rw [hl] at h; cases h
    · obtain ⟨l1, l2⟩ := l1In_iff.1 hl
      rw [wrapI (n := a - l) (by omega) (by omega)]
      exact ⟨rfl, l1, l2, rfl⟩
theorem Times_of {a b c l : Int} (h : (s_TimesFlight a b c l).2 = true) : s_riGood a b c = true ∧ 1 ≤ l ∧ l ≤ 500 ∧ s_riGood a (b * l) (c * l) = true ∧ s_TimesFlight a b c l = ((a, b * l, c * l), true) := by
  unfold s_TimesFlight at h ⊢
  cases hg : s_riGood a b c
  · rw [hg] at h; cases h
  · obtain ⟨⟨a1, a2⟩, ⟨b1, b2⟩, c1, c2⟩ := riGood_iff.1 hg
    rw [hg] at h
    cases hl : s_l1In l 1 500
    · rw [hl] at h; cases h
    · obtain ⟨l1, l2⟩ := l1In_iff.1 hl
      have m1 := mul_bd (x := b) (y := l) (m := 250) (k := 500) (by omega) (by omega) (by omega) (by omega)
      have m2 := mul_bd (x := c) (y := l) (m := 500) (k := 500) (by omega) (by omega) (by omega) (by omega)
      rw [hl, wrapI (n := b * l) (by omega) (by omega), wrapI (n := c * l) (by omega) (by omega)] at h
      rw [wrapI (n := b * l) (by omega) (by omega), wrapI (n := c * l) (by omega) (by omega)]
      cases h2 : s_riGood a (b * l) (c * l)
      · rw [h2] at h; cases h
      · exact ⟨rfl, l1, l2, rfl, rfl⟩
theorem Fewest_eq (h m : Int) : i_FewestRisers h m = s_FewestRisers h m ∧ ∃ r, s_FewestRisers h m = some r ∧ (r.2 = true → (1 ≤ h ∧ h ≤ 6000) ∧ (1 ≤ m ∧ m ≤ 250) ∧ r.1 = (h + m - 1) / m) := by
  unfold i_FewestRisers s_FewestRisers i_isHigh s_riHigh
  simp only [within_eq]
  cases h1 : s_l1In h 1 6000
  · exact ⟨by first | rfl | trivial, _, rfl, fun h => by cases h⟩
  · cases h2 : s_l1In m 1 250
    · exact ⟨by first | rfl | trivial, _, rfl, fun h => by cases h⟩
    · have g1 := l1In_iff.1 h1
      have g2 := l1In_iff.1 h2
      have hz : (m == 0) = false := by rw [beq_eq_false_iff_ne]; omega
      have e : Int.tdiv (h + m - 1) m = (h + m - 1) / m := Int.tdiv_eq_ediv_of_nonneg (by omega)
      have b1 : 0 ≤ (h + m - 1) / m := Int.ediv_nonneg (by omega) (by omega)
      have b2 : (h + m - 1) / m ≤ h + m - 1 := Int.ediv_le_self _ (by omega)
      rw [hz, wrapI (n := h + m) (by omega) (by omega), wrapI (n := h + m - 1) (by omega) (by omega), e, wrapI (by omega) (by omega)]
      exact ⟨by first | rfl | trivial, _, rfl, fun _ => ⟨g1, g2, rfl⟩⟩
theorem Most_eq (r t : Int) : i_MostRisers r t = s_MostRisers r t ∧ ∃ v, s_MostRisers r t = some v ∧ (v.2 = true → (0 ≤ r ∧ r ≤ 50000) ∧ (1 ≤ t ∧ t ≤ 500) ∧ v.1 = min 100 (r / t + 1)) := by
  unfold i_MostRisers s_MostRisers
  simp only [within_eq]
  cases h1 : s_l1In r 0 50000
  · exact ⟨by first | rfl | trivial, _, rfl, fun h => by cases h⟩
  · cases h2 : s_l1In t 1 500
    · exact ⟨by first | rfl | trivial, _, rfl, fun h => by cases h⟩
    · have g1 := l1In_iff.1 h1
      have g2 := l1In_iff.1 h2
      have hz : (t == 0) = false := by rw [beq_eq_false_iff_ne]; omega
      have e : Int.tdiv r t = r / t := Int.tdiv_eq_ediv_of_nonneg (by omega)
      have b1 : 0 ≤ r / t := Int.ediv_nonneg (by omega) (by omega)
      have b2 : r / t ≤ r := Int.ediv_le_self _ (by omega)
      rw [hz, e, wrapI (n := r / t) (by omega) (by omega), wrapI (n := r / t + 1) (by omega) (by omega)]
      have e1 : s_l1Least 100 (r / t + 1) = min 100 (r / t + 1) := by unfold s_l1Least; by_cases hh : (100 : Int) < r / t + 1 <;> simp [hh] <;> omega
      have e2 : (bif decide (r / t + 1 < 100) then r / t + 1 else 100) = min 100 (r / t + 1) := by by_cases hh : r / t + 1 < (100 : Int) <;> simp [hh] <;> omega
      rw [e1, e2]
      exact ⟨by first | rfl | trivial, _, rfl, fun _ => ⟨g1, g2, rfl⟩⟩
theorem Slope_eq {a b c : Int} (h : s_riGood a b c = true) : i_SlopeOf a b c = some (((b.toNat / Nat.gcd b.toNat c.toNat : Nat) : Int), ((c.toNat / Nat.gcd b.toNat c.toNat : Nat) : Int), true) := by
  obtain ⟨⟨a1, a2⟩, ⟨b1, b2⟩, c1, c2⟩ := riGood_iff.1 h
  unfold i_SlopeOf
  rw [flight_eq, h]
  have e : i_part b c = some (((b.toNat / Nat.gcd b.toNat c.toNat : Nat) : Int), ((c.toNat / Nat.gcd b.toNat c.toNat : Nat) : Int), true) := by
    have := part_eq b.toNat c.toNat (by omega) (by omega) (by omega)
    rw [Int.toNat_of_nonneg (by omega), Int.toNat_of_nonneg (by omega)] at this
    exact this
  rw [e]; rfl
end Go.Proofs.Ythenlapjhlljnaa.V
