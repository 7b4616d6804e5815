/- Functions of the program, as plain functions. No condition. -/
import Derived.Test.YthenlapjhlljnaaC5
set_option linter.unusedVariables false
set_option linter.unusedSimpArgs false
set_option maxRecDepth 100000
namespace Go.Proofs.Ythenlapjhlljnaa.V
open Go Go.Ev Go.Proofs
/-! ### divisors and fractions -/
theorem within_eq (x lo hi : Int) : i_within x lo hi = s_l1In x lo hi := by unfold i_within s_l1In; simp
theorem l1In_iff {x lo hi : Int} : s_l1In x lo hi = true ↔ lo ≤ x ∧ x ≤ hi := by
  unfold s_l1In
  by_cases h1 : lo ≤ x <;> by_cases h2 : x ≤ hi <;> simp [h1, h2]
theorem l1In_not {x lo hi : Int} (h : s_l1In x lo hi = false) : ¬ (lo ≤ x ∧ x ≤ hi) := fun k => by rw [l1In_iff.2 k] at h; cases h
theorem gcd_loop : ∀ (b a : Nat), i_gcd_L1 (a : Int) (b : Int) = some ((Nat.gcd a b : Nat) : Int) := by
  intro b
  induction b using Nat.strongRecOn with
  | ind b ih =>
    intro a
    rw [i_gcd_u1, i_gcd_t1]
    by_cases hb : b = 0
    · subst hb
      simp
    · have h0 : ((b : Int) == 0) = false := by rw [beq_eq_false_iff_ne]; omega
      have h1 : ((b : Int) != 0) = true := by rw [bne, h0]; rfl
      have h2 : Int.tmod (a : Int) (b : Int) = ((a % b : Nat) : Int) := by
        rw [Int.tmod_eq_emod_of_nonneg (by omega)]; rfl
      rw [h0, h1, h2]
      simp only [cond_true, cond_false]
      rw [ih (a % b) (Nat.mod_lt a (by omega)) b]
      congr 2
      rw [Nat.gcd_comm b, ← Nat.gcd_rec, Nat.gcd_comm]
theorem gcd_eq (a b : Nat) : i_gcd (a : Int) (b : Int) = some ((Nat.gcd a b : Nat) : Int) := gcd_loop b a
theorem part_eq (n d : Nat) (hd : 0 < d) (hn : n ≤ 4000000000000000000) (hd' : d ≤ 4000000000000000000) : i_part (n : Int) (d : Int) = some (((n / Nat.gcd n d : Nat) : Int), ((d / Nat.gcd n d : Nat) : Int), true) := by
  unfold i_part
  have h1 : ¬ ((d : Int) ≤ 0) := by omega
  have hg : 0 < Nat.gcd n d := Nat.gcd_pos_of_pos_right n hd
  have h2 : (((Nat.gcd n d : Nat) : Int) == 0) = false := by rw [beq_eq_false_iff_ne]; omega
  have e1 : Int.tdiv (n : Int) ((Nat.gcd n d : Nat) : Int) = ((n / Nat.gcd n d : Nat) : Int) := by rw [Int.tdiv_eq_ediv_of_nonneg (by omega)]; rfl
  have e2 : Int.tdiv (d : Int) ((Nat.gcd n d : Nat) : Int) = ((d / Nat.gcd n d : Nat) : Int) := by rw [Int.tdiv_eq_ediv_of_nonneg (by omega)]; rfl
  have b1 : n / Nat.gcd n d ≤ n := Nat.div_le_self _ _
  have b2 : d / Nat.gcd n d ≤ d := Nat.div_le_self _ _
  rw [decide_eq_false h1, gcd_eq]
  have w : ∀ q : Nat, q ≤ 4000000000000000000 → IntKind.wrap .i64 (q : Int) = q := fun q hq => wrapI (by omega) (by omega)
  simp only [cond_false, Option.bind_some, h2, e1, e2]
  rw [w _ (by omega), w _ (by omega)]
theorem part_mul (n d k : Nat) (hk : 0 < k) : (k * n) / Nat.gcd (k * n) (k * d) = n / Nat.gcd n d ∧ (k * d) / Nat.gcd (k * n) (k * d) = d / Nat.gcd n d := by
  rw [Nat.gcd_mul_left]
  exact ⟨Nat.mul_div_mul_left _ _ hk, Nat.mul_div_mul_left _ _ hk⟩
/-! ### draws: they end, whatever is given -/
def Ok {α : Type} (x : Option α) (P : α → Prop) : Prop := ∃ a, x = some a ∧ P a
theorem Ok.bind {α β : Type} {x : Option α} {f : α → Option β} {P : α → Prop} {Q : β → Prop} (h : Ok x P) (k : ∀ a, P a → Ok (f a) Q) : Ok (x.bind f) Q := by
  obtain ⟨a, rfl, ha⟩ := h
  exact k a ha
theorem Ok.cond {α : Type} {b : Bool} {x y : Option α} {P : α → Prop} (h : b = true → Ok x P) (k : b = false → Ok y P) : Ok (cond b x y) P := by
  cases b
  · exact k rfl
  · exact h rfl
theorem Ok.ret {α : Type} {a : α} {P : α → Prop} (h : P a) : Ok (some a) P := ⟨a, rfl, h⟩
theorem Ok.mono {α : Type} {x : Option α} {P Q : α → Prop} (h : Ok x P) (k : ∀ a, P a → Q a) : Ok x Q := by
  obtain ⟨a, e, ha⟩ := h
  exact ⟨a, e, k a ha⟩
def Bytes (l : List Int) : Prop := ∀ x, x ∈ l → 0 ≤ x ∧ x ≤ 255
/-- a cursor that has come so far at most -/
structure Cur (c : List Int × Int × Int) (n : Int) : Prop where
  by_ : Bytes c.1
  lo : 0 ≤ c.2.1
  hi : c.2.1 ≤ n
theorem Cur.mono {c : List Int × Int × Int} {n m : Int} (h : Cur c n) (hm : n ≤ m) : Cur c m := ⟨h.by_, h.lo, by have := h.hi; omega⟩
theorem bytes_rdk {l : List Int} (h : Bytes l) {i : Int} (h0 : 0 ≤ i) (h1 : i < l.length) : 0 ≤ rdk kuint8 l i ∧ rdk kuint8 l i ≤ 255 := by
  obtain ⟨k, rfl⟩ : ∃ k : Nat, i = k := ⟨i.toNat, by omega⟩
  have hk : k < l.length := by omega
  rw [rdk_get (k := kuint8) hk]
  exact h _ (List.getElem_mem hk)
theorem and255 (x : Int) : 0 ≤ IntKind.wrap IntKind.i64 (IntKind.wrap IntKind.u64 (((BitVec.ofInt (IntKind.bits IntKind.u64) x &&& BitVec.ofInt (IntKind.bits IntKind.u64) 255).toNat : Nat) : Int)) ∧
    IntKind.wrap IntKind.i64 (IntKind.wrap IntKind.u64 (((BitVec.ofInt (IntKind.bits IntKind.u64) x &&& BitVec.ofInt (IntKind.bits IntKind.u64) 255).toNat : Nat) : Int)) ≤ 255 := by
  have h : (BitVec.ofInt (IntKind.bits IntKind.u64) x &&& BitVec.ofInt (IntKind.bits IntKind.u64) 255).toNat ≤ 255 := by
    rw [BitVec.toNat_and]
    have e : (BitVec.ofInt (IntKind.bits IntKind.u64) 255).toNat = 255 := by decide
    rw [e]
    exact Nat.and_le_right
  generalize (BitVec.ofInt (IntKind.bits IntKind.u64) x &&& BitVec.ofInt (IntKind.bits IntKind.u64) 255).toNat = n at h
  have e1 : IntKind.wrap IntKind.u64 (n : Int) = n := by unfold IntKind.wrap; simp [IntKind.signed, IntKind.bits]; omega
  rw [e1, wrapI (by omega) (by omega)]
  omega
theorem next_ok {a : List Int} {b c n : Int} (h : Cur (a, b, c) n) (hn : n ≤ 1000000000000) : Ok (s_l1Cur_next a b c) fun r => Cur r.2 (n + 1) ∧ 0 ≤ r.1 ∧ r.1 ≤ 255 := by
  have h0 : 0 ≤ b := h.lo
  have h1 : b ≤ n := h.hi
  have hw : IntKind.wrap IntKind.i64 (b + 1) = b + 1 := wrapI (by omega) (by omega)
  have hc : Cur (a, b + 1, (0 : Int)) (n + 1) := ⟨h.by_, by show 0 ≤ b + 1; omega, by show b + 1 ≤ n + 1; omega⟩
  have hcc : ∀ s, Cur (a, b + 1, s) (n + 1) := fun s => ⟨hc.by_, hc.lo, hc.hi⟩
  unfold s_l1Cur_next
  rw [hw]
  refine Ok.cond (fun e => ?_) (fun e => ?_)
  · have e := of_decide_eq_true e
    rw [decide_eq_true h0, decide_eq_true e]
    simp only [cond_true]
    obtain ⟨g1, g2⟩ := bytes_rdk h.by_ h0 e
    have gw : IntKind.wrap IntKind.i64 (rdk kuint8 a b) = rdk kuint8 a b := wrapI (Int.le_trans (by decide) g1) (Int.le_trans g2 (by decide))
    refine Ok.cond (fun _ => Ok.ret ⟨hcc _, ?_⟩) (fun _ => Ok.ret ⟨hcc _, and255 _⟩)
    show 0 ≤ IntKind.wrap IntKind.i64 (rdk kuint8 a b) ∧ _ ≤ _
    rw [gw]; exact ⟨g1, g2⟩
  · refine Ok.cond (fun _ => Ok.ret ⟨hcc _, by show (0 : Int) ≤ 0 ∧ (0 : Int) ≤ 255; omega⟩) (fun _ => Ok.ret ⟨hcc _, and255 _⟩)
theorem tmodP {a b : Int} (h : 0 ≤ a) (hb : 0 < b) : 0 ≤ Int.tmod a b ∧ Int.tmod a b < b := by
  rw [Int.tmod_eq_emod_of_nonneg h]
  exact ⟨Int.emod_nonneg a (by omega), Int.emod_lt_of_pos a hb⟩
theorem pick_ok {a : List Int} {b c n : Int} (k : Int) (h : Cur (a, b, c) n) (hn : n ≤ 100000000000) : Ok (s_l1Cur_pick a b c k) fun r => Cur r.2 (n + 2) ∧ 0 ≤ r.1 ∧ (r.1 < k ∨ r.1 = 0) := by
  unfold s_l1Cur_pick
  refine Ok.cond (fun _ => Ok.ret ⟨h.mono (by omega), by show (0 : Int) ≤ 0; omega, .inr rfl⟩) (fun e => ?_)
  have e := of_decide_eq_false e
  have hk : (k == 0) = false := by rw [beq_eq_false_iff_ne]; omega
  refine (next_ok h (by omega)).bind fun r hr => ?_
  refine Ok.cond (fun e2 => ?_) (fun e2 => ?_)
  · refine (next_ok (n := n + 1) hr.1 (by omega)).bind fun s hs => ?_
    rw [hk, cond_false, wrapI (n := r.1 * 256) (by omega) (by omega), wrapI (by omega) (by omega)]
    have := tmodP (a := r.1 * 256 + s.1) (b := k) (by omega) (by omega)
    exact Ok.ret ⟨hs.1.mono (by omega), this.1, .inl this.2⟩
  · rw [hk, cond_false]
    have := tmodP (a := r.1) (b := k) hr.2.1 (by omega)
    exact Ok.ret ⟨hr.1.mono (by omega), this.1, .inl this.2⟩
theorem one_ok {a : List Int} {b c n : Int} (k : Int) (h : Cur (a, b, c) n) (hn : n ≤ 100000000000) : Ok (s_l1Cur_one a b c k) fun r => Cur r.2 (n + 2) := by
  unfold s_l1Cur_one
  exact (pick_ok k h hn).bind fun r hr => Ok.ret hr.1
theorem among_ok {a : List Int} {b c n : Int} (l : List Int) (h : Cur (a, b, c) n) (hl : l ≠ []) (hn : n ≤ 100000000000) : Ok (s_l1Cur_among a b c l) fun r => Cur r.2 (n + 2) ∧ r.1 ∈ l := by
  unfold s_l1Cur_among
  have hp : 0 < l.length := List.length_pos_iff.2 hl
  refine (pick_ok _ h hn).bind fun r hr => ?_
  have h1 : r.1 < (l.length : Int) := by omega
  rw [decide_eq_true hr.2.1, decide_eq_true h1]
  refine Ok.ret ⟨hr.1, ?_⟩
  obtain ⟨k, hk⟩ : ∃ k : Nat, r.1 = k := ⟨r.1.toNat, by omega⟩
  have hkl : k < l.length := by omega
  show rdk kint l r.1 ∈ l
  rw [hk, rdk_get (k := kint) hkl]
  exact List.getElem_mem hkl
theorem bytes_wf {l : List Int} (h : Wf kSuint8 l) : Bytes l := fun x hx => by
  have h1 : (Lit.int IntKind.u8 x).wf = true := h.2 x hx
  simp only [Lit.wf, Bool.and_eq_true, decide_eq_true_eq] at h1
  have e1 : IntKind.u8.min = 0 := by decide
  have e2 : IntKind.u8.max = 255 := by decide
  omega
theorem cur0 {l : List Int} (h : Bytes l) : Cur (l, 0, 0) 0 := ⟨h, Int.le_refl _, Int.le_refl _⟩
/-! ### balls: paths -/
structure GoodJ (J : List Int) : Prop where
  lo : 1 ≤ J.length
  hi : J.length ≤ 30
  bd : ∀ x, x ∈ J → -30 ≤ x ∧ x ≤ 30
/-- a place that is one of the steps -/
def InJ (J : List Int) (p : Int) : Prop := 0 ≤ p ∧ p < (J.length : Int)
def jm (J : List Int) (p : Int) : Int := rdk kint J p
theorem jm_eq (J : List Int) (p : Int) : rdk kint J p = jm J p := rfl
def bhd (J : List Int) (p : Int) : Int := p + jm J p
def nx (J : List Int) (p : Int) : Int := if bhd J p < 0 then -1 else if bhd J p > (J.length : Int) then (J.length : Int) else bhd J p
theorem rdk_bd {J : List Int} (h : GoodJ J) {p : Int} (hp : InJ J p) : -30 ≤ jm J p ∧ jm J p ≤ 30 := by
  unfold jm
  obtain ⟨k, rfl⟩ : ∃ k : Nat, p = k := ⟨p.toNat, by have := hp.1; omega⟩
  have hk : k < J.length := by have := hp.2; omega
  rw [rdk_get (k := kint) hk]
  exact h.bd _ (List.getElem_mem hk)
theorem nx_cases {J : List Int} (p : Int) : (bhd J p < 0 ∧ nx J p = -1) ∨ (bhd J p ≥ (J.length : Int) ∧ nx J p = (J.length : Int)) ∨ ((0 ≤ bhd J p ∧ bhd J p < (J.length : Int)) ∧ nx J p = bhd J p) := by
  unfold nx
  by_cases h1 : bhd J p < 0
  · exact .inl ⟨h1, if_pos h1⟩
  · rw [if_neg h1]
    by_cases h2 : bhd J p > (J.length : Int)
    · exact .inr (.inl ⟨by omega, if_pos h2⟩)
    · rw [if_neg h2]
      by_cases h3 : bhd J p < (J.length : Int)
      · exact .inr (.inr ⟨⟨by omega, h3⟩, rfl⟩)
      · exact .inr (.inl ⟨by omega, by omega⟩)
theorem nx_bd {J : List Int} (p : Int) : -1 ≤ nx J p ∧ nx J p ≤ (J.length : Int) := by
  rcases nx_cases (J := J) p with ⟨h1, h2⟩ | ⟨h1, h2⟩ | ⟨h1, h2⟩ <;> omega
theorem nx_in {J : List Int} {p : Int} (h : InJ J (nx J p)) : nx J p = bhd J p := by
  rcases nx_cases (J := J) p with ⟨h1, h2⟩ | ⟨h1, h2⟩ | ⟨h1, h2⟩
  · have := h.1; omega
  · have := h.2; omega
  · exact h2
theorem i_next_eq {J : List Int} (h : GoodJ J) {p : Int} (hp : InJ J p) : i_next J p = some (nx J p) := by
  have hb := rdk_bd h hp
  have h1 := hp.1
  have h2 := hp.2
  have hh := h.hi
  unfold i_next i_land nx bhd
  rw [jm_eq, decide_eq_true h1, decide_eq_true h2]
  generalize jm J p = r at *
  rw [wrapI (n := p + r) (by omega) (by omega)]
  simp only [cond_true]
  by_cases c1 : p + r < 0
  · rw [decide_eq_false (show ¬ ((J.length : Int) < p + r) by omega), cond_false, decide_eq_false (show ¬ (p + r > -1) by omega), cond_false, if_pos c1]
  · rw [if_neg c1]
    by_cases c2 : (J.length : Int) < p + r
    · rw [decide_eq_true c2, cond_true, decide_eq_true (show (J.length : Int) > -1 by omega), cond_true, if_pos c2]
    · rw [decide_eq_false c2, cond_false, decide_eq_true (show p + r > -1 by omega), cond_true, if_neg (by omega)]
theorem s_next_eq {J : List Int} (h : GoodJ J) {p : Int} (hp : InJ J p) : s_baNext J p = some (nx J p) := by
  have hb := rdk_bd h hp
  have h1 := hp.1
  have h2 := hp.2
  have hh := h.hi
  unfold s_baNext nx bhd
  rw [jm_eq, decide_eq_false (show ¬ (p < 0) by omega), decide_eq_false (show ¬ (p ≥ (J.length : Int)) by omega), decide_eq_true h1, decide_eq_true h2]
  generalize jm J p = r at *
  rw [wrapI (n := p + r) (by omega) (by omega)]
  simp only [cond_true, cond_false]
  by_cases c1 : p + r < 0
  · rw [decide_eq_true c1, cond_true, if_pos c1]
  · rw [decide_eq_false c1, cond_false, if_neg c1]
    by_cases c2 : p + r > (J.length : Int)
    · rw [decide_eq_true c2, cond_true, if_pos c2]
    · rw [decide_eq_false c2, cond_false, if_neg c2]
theorem within_eqB (x lo hi : Int) : i_within x lo hi = (decide (lo ≤ x) && decide (x ≤ hi)) := by unfold i_within; simp
theorem isOut_eq {J : List Int} (hJ : J.length ≤ 30) (p : Int) : i_isOut J p = !(decide (0 ≤ p) && decide (p < (J.length : Int))) := by
  unfold i_isOut
  rw [within_eqB, wrapI (by omega) (by omega)]
  congr 2
  exact decide_eq_decide.2 (by omega)
theorem isOut_in {J : List Int} (hJ : J.length ≤ 30) {p : Int} (hp : InJ J p) : i_isOut J p = false := by
  rw [isOut_eq hJ, decide_eq_true hp.1, decide_eq_true hp.2]; rfl
theorem isOut_out {J : List Int} (hJ : J.length ≤ 30) {p : Int} (hp : ¬ InJ J p) : i_isOut J p = true := by
  rw [isOut_eq hJ]
  by_cases h1 : 0 ≤ p
  · rw [decide_eq_true h1, decide_eq_false (fun h2 => hp ⟨h1, h2⟩)]; rfl
  · rw [decide_eq_false h1]; rfl
theorem cont_eq (l : List Int) (v : Int) : slices_Contains_int l v = decide (v ∈ l) := by
  unfold slices_Contains_int slices_Index_int_n
  rw [idxF_any]
  by_cases h : v ∈ l
  · rw [decide_eq_true h]; exact List.any_eq_true.2 ⟨v, h, by simp⟩
  · rw [decide_eq_false h]
    rw [Bool.eq_false_iff]
    intro h2
    obtain ⟨x, hx, he⟩ := List.any_eq_true.1 h2
    exact h (by rw [beq_iff_eq.1 he]; exact hx)
/-- where a ball is after so many seconds -/
def itJ (J : List Int) (p : Int) : Nat → Int
  | 0 => p
  | k + 1 => nx J (itJ J p k)
def itL (J : List Int) (p : Int) (m : Nat) : List Int := (List.range m).map (itJ J p)
theorem itL_len (J : List Int) (p : Int) (m : Nat) : (itL J p m).length = m := by unfold itL; simp
theorem itL_get {J : List Int} {p : Int} {m i : Nat} (h : i < (itL J p m).length) : (itL J p m)[i] = itJ J p i := by
  have h' : i < ((List.range m).map (itJ J p)).length := h
  exact (show (itL J p m)[i] = ((List.range m).map (itJ J p))[i]'h' from rfl).trans (by rw [List.getElem_map, List.getElem_range])
theorem itL_succ (J : List Int) (p : Int) (m : Nat) : itL J p (m + 1) = itL J p m ++ [itJ J p m] := by unfold itL; rw [List.range_succ, List.map_append]; rfl
theorem itL_mem {J : List Int} {p : Int} {m : Nat} {x : Int} : x ∈ itL J p m ↔ ∃ i, i < m ∧ itJ J p i = x := by
  unfold itL
  simp [List.mem_map]
theorem itJ_add (J : List Int) (p : Int) (i k : Nat) : itJ J p (i + k) = itJ J (itJ J p i) k := by
  induction k with
  | zero => rfl
  | succ k ih => show nx J (itJ J p (i + k)) = _; rw [ih]; rfl
theorem pig : ∀ (n : Nat) (l : List Nat), l.Nodup → (∀ x, x ∈ l → x < n) → l.length ≤ n
  | 0, l, _, h => by
    cases l with
    | nil => simp
    | cons x l => exact absurd (h x (by simp)) (by omega)
  | n + 1, l, hn, h => by
    by_cases hm : n ∈ l
    · have h1 := pig n (l.erase n) (hn.erase n) (fun x hx => by
        have h2 := h x (List.mem_of_mem_erase hx)
        have h3 : x ≠ n := fun e => by subst e; exact hn.not_mem_erase hx
        omega)
      have := List.length_erase_of_mem hm
      omega
    · have h1 := pig n l hn (fun x hx => by
        have h2 := h x hx
        have h3 : x ≠ n := fun e => by subst e; exact hm hx
        omega)
      omega
theorem pigF {f : Nat → Int} {k n : Nat} (h : ∀ i, i < k → 0 ≤ f i ∧ f i < (n : Int)) (inj : ∀ i j, i < j → j < k → f i ≠ f j) : k ≤ n := by
  have := pig n ((List.range k).map fun i => (f i).toNat) (by
    unfold List.Nodup
    rw [List.pairwise_map]
    refine List.Pairwise.imp_of_mem (R := (· < ·)) (fun {a b} ha hb hab => ?_) List.pairwise_lt_range
    have ha := List.mem_range.1 ha
    have hb := List.mem_range.1 hb
    have h1 := h a ha
    have h2 := h b hb
    have h3 := inj a b hab hb
    omega) (fun x hx => by
    obtain ⟨i, hi, rfl⟩ := List.mem_map.1 hx
    have := h i (List.mem_range.1 hi)
    show (f i).toNat < n
    omega)
  simpa using this
structure Pth (J : List Int) (p : Int) (m : Nat) : Prop where
  pos : 1 ≤ m
  le : m ≤ J.length
  ins : ∀ i, i < m → InJ J (itJ J p i)
  inj : ∀ i j, i < j → j < m → itJ J p i ≠ itJ J p j
  fin : ¬ InJ J (itJ J p m) ∨ ∃ f, f < m ∧ itJ J p f = itJ J p m
theorem path_loop {J : List Int} (h : GoodJ J) (p : Int) : ∀ (d k : Nat), k + d = J.length + 1 → (1 ≤ k ∨ InJ J p) → (∀ i, i < k → InJ J (itJ J p i)) → (∀ i j, i < j → j < k → itJ J p i ≠ itJ J p j) →
    ∃ m, Pth J p m ∧ i_path_L1 J (itL J p k) (itJ J p k) = some (itL J p m, itJ J p m) ∧ s_baPath_L1 J (itL J p k) (itJ J p k) = some (itL J p m, itJ J p m)
  | 0, k, hk, _, h1, h2 => by have := pigF (f := itJ J p) h1 h2; omega
  | d + 1, k, hk, h0, h1, h2 => by
    have hle := pigF (f := itJ J p) h1 h2
    have hh := h.hi
    rw [i_path_u1, i_path_t1, s_baPath_u1, s_baPath_t1]
    by_cases ho : InJ J (itJ J p k)
    · rw [isOut_in hh ho, cont_eq, decide_eq_true (show itJ J p k ≥ 0 from ho.1), decide_eq_true ho.2]
      unfold s_l1Has_n
      by_cases hm : itJ J p k ∈ itL J p k
      · obtain ⟨f, hf1, hf2⟩ := itL_mem.1 hm
        rw [decide_eq_true hm]
        exact ⟨k, ⟨by omega, hle, h1, h2, .inr ⟨f, hf1, hf2⟩⟩, rfl, rfl⟩
      · have hbl : Nat.ble ((itL J p k).length + 1) 4294967296 = true := by rw [ble_dec, itL_len]; exact decide_eq_true (by omega)
        rw [decide_eq_false hm, hbl, i_next_eq h ho, s_next_eq h ho]
        simp only [Bool.not_false, cond_true, Option.bind_some]
        have hin : ∀ i, i < k + 1 → InJ J (itJ J p i) := fun i hi => by
          by_cases e : i = k
          · subst e; exact ho
          · exact h1 i (by omega)
        have hij : ∀ i j, i < j → j < k + 1 → itJ J p i ≠ itJ J p j := fun i j a b => by
          by_cases e : j = k
          · subst e; exact fun e2 => hm (itL_mem.2 ⟨i, a, e2⟩)
          · exact h2 i j a (by omega)
        obtain ⟨m, g1, g2, g3⟩ := path_loop h p d (k + 1) (by omega) (.inl (by omega)) hin hij
        rw [itL_succ] at g2 g3
        exact ⟨m, g1, g2, g3⟩
    · have hk1 : 1 ≤ k := by
        rcases h0 with h0 | h0
        · exact h0
        · rcases Nat.eq_zero_or_pos k with e | e
          · subst e; exact absurd h0 ho
          · exact e
      refine ⟨k, ⟨hk1, hle, h1, h2, .inl ho⟩, ?_, ?_⟩
      · rw [isOut_out hh ho]; rfl
      · by_cases c1 : itJ J p k ≥ 0
        · rw [decide_eq_true c1, decide_eq_false (fun c2 => ho ⟨c1, c2⟩)]; rfl
        · rw [decide_eq_false c1]; rfl
theorem path_ex {J : List Int} (h : GoodJ J) {p : Int} (hp : InJ J p) : ∃ m, Pth J p m ∧ i_path J p = some (itL J p m, itJ J p m) ∧ s_baPath J p = some (itL J p m, itJ J p m) :=
  path_loop h p (J.length + 1) 0 (by omega) (.inr hp) (fun i hi => by omega) (fun i j _ hj => by omega)
/-! what is given -/
noncomputable def jOk (J : List Int) : Bool := s_baGood J
theorem jOk_iff {J : List Int} (h : s_baGood J = true) : GoodJ J := by
  unfold s_baGood at h
  cases h1 : s_l1In (J.length : Int) 1 30
  · rw [h1] at h; cases h
  · rw [h1, cond_true] at h
    have g := l1In_iff.1 h1
    refine ⟨by omega, by omega, fun x hx => ?_⟩
    unfold s_l1All_n at h
    have := List.all_eq_true.1 h x hx
    unfold inB at this
    simpa using this
/-! ### balls: what is told of one -/
theorem cf_eq (J : List Int) : slices_ContainsFunc_int__i_AreJumps_c1 J = J.any (fun n => !inB (-30) 30 n) := by
  unfold slices_ContainsFunc_int__i_AreJumps_c1 slices_IndexFunc_int__i_AreJumps_c1_n
  rw [idxF_any]
  congr 1
  funext n
  unfold i_AreJumps_c1
  rw [within_eqB]; rfl
theorem not_any {α : Type} (p : α → Bool) : ∀ l : List α, (!l.any fun n => !p n) = l.all p
  | [] => rfl
  | x :: l => by rw [List.any_cons, List.all_cons, ← not_any p l]; cases p x <;> simp
theorem areJ_eq (J : List Int) : i_AreJumps J = s_baGood J := by
  unfold i_AreJumps s_baGood s_l1All_n
  rw [within_eq, cf_eq, not_any]
theorem have1 (J : List Int) (p : Int) : i_haveSteps J [p] = some (s_baStep J p) := by
  have e : i_haveSteps_L1 J [p] 1 1 = some (i_AreJumps J) := by rw [i_haveSteps_u1, i_haveSteps_t1]; rfl
  unfold i_haveSteps i_haveSteps_t0
  rw [i_haveSteps_u1, i_haveSteps_t1]
  show (bif !i_within p 0 (IntKind.wrap .i64 ((J.length : Int) - 1)) then some false else i_haveSteps_L1 J [p] 1 1) = _
  rw [e, areJ_eq, within_eq]
  unfold s_baStep
  cases s_l1In p 0 (IntKind.wrap .i64 ((J.length : Int) - 1)) <;> cases s_baGood J <;> rfl
theorem have2 (J : List Int) (p q : Int) : i_haveSteps J [p, q] = some (s_baStep J p && s_baStep J q) := by
  have e : i_haveSteps_L1 J [p, q] 2 2 = some (i_AreJumps J) := by rw [i_haveSteps_u1, i_haveSteps_t1]; rfl
  have e1 : i_haveSteps_L1 J [p, q] 2 1 = (bif !i_within q 0 (IntKind.wrap .i64 ((J.length : Int) - 1)) then some false else i_haveSteps_L1 J [p, q] 2 2) := by rw [i_haveSteps_u1, i_haveSteps_t1]; rfl
  unfold i_haveSteps i_haveSteps_t0
  rw [i_haveSteps_u1, i_haveSteps_t1]
  show (bif !i_within p 0 (IntKind.wrap .i64 ((J.length : Int) - 1)) then some false else i_haveSteps_L1 J [p, q] 2 1) = _
  rw [e1, e, areJ_eq, within_eq, within_eq]
  unfold s_baStep
  cases s_l1In p 0 (IntKind.wrap .i64 ((J.length : Int) - 1)) <;> cases s_l1In q 0 (IntKind.wrap .i64 ((J.length : Int) - 1)) <;> cases s_baGood J <;> rfl
theorem step_iff {J : List Int} {p : Int} (h : s_baStep J p = true) : GoodJ J ∧ InJ J p := by
  unfold s_baStep at h
  cases h1 : s_baGood J
  · rw [h1] at h; cases h
  · have g := jOk_iff h1
    have hl := g.hi
    rw [h1, cond_true, wrapI (by omega) (by omega)] at h
    have := l1In_iff.1 h
    exact ⟨g, this.1, by omega⟩
theorem idxF_first {α : Type} {p : α → Bool} : ∀ (l : List α) (i k : Nat) (h : i < l.length), (∀ j (hj : j < i), p (l[j]'(by omega)) = false) → p l[i] = true → idxF p l k = ((k + i : Nat) : Int)
  | [], i, k, h, _, _ => by simp at h
  | x :: l, 0, k, h, _, h2 => by rw [idxF, show p x = true from h2]; rfl
  | x :: l, i + 1, k, h, h1, h2 => by
    rw [idxF, show p x = false from h1 0 (by omega), cond_false, idxF_first l i (k + 1) (by simpa using h) (fun j hj => h1 (j + 1) (by omega)) h2]
    congr 1; omega
theorem idxF_no {α : Type} {p : α → Bool} : ∀ (l : List α) (k : Nat), (∀ x, x ∈ l → p x = false) → idxF p l k = -1
  | [], k, _ => rfl
  | x :: l, k, h => by rw [idxF, h x (by simp), cond_false]; exact idxF_no l (k + 1) (fun y hy => h y (List.mem_cons_of_mem _ hy))
theorem place_s (l : List Int) (v : Int) (hl : l.length ≤ 1000) : s_baPlace l v = some (idxF (fun x => x == v) l 0) := by
  unfold s_baPlace s_baPlace_t0
  refine loop_idx (L := fun i => s_baPlace_L1 l v (l.length : Int) (i : Int)) (fun i h => ?_) ?_
  · have c1 : (i : Int) < l.length := by omega
    rw [s_baPlace_u1, s_baPlace_t1, decide_eq_true c1, decide_eq_true (Int.natCast_nonneg i), rdk_get (k := kint) h, wrapI (n := (i : Int) + 1) (by omega) (by omega)]
    rfl
  · have : ¬ ((l.length : Int) < l.length) := by omega
    rw [s_baPlace_u1, s_baPlace_t1, decide_eq_false this]; rfl
theorem Pth.uni {J : List Int} {p : Int} {m : Nat} (P : Pth J p m) {i j : Nat} (hi : i < m) (hj : j < m) (h : itJ J p i = itJ J p j) : i = j := by
  rcases Nat.lt_trichotomy i j with h1 | h1 | h1
  · exact absurd h (P.inj i j h1 hj)
  · exact h1
  · exact absurd h.symm (P.inj j i h1 hi)
theorem Pth.idx {J : List Int} {p : Int} {m f : Nat} (P : Pth J p m) (hm : m ≤ 30) (hf : f < m) (e : itJ J p f = itJ J p m) : slices_Index_int_n (itL J p m) (itJ J p m) = (f : Int) ∧ s_baPlace (itL J p m) (itJ J p m) = some (f : Int) := by
  have hl := itL_len J p m
  have hf' : f < (itL J p m).length := by omega
  constructor
  · unfold slices_Index_int_n
    rw [idxF_first _ f 0 hf' (fun j hj => ?_) ?_, Nat.zero_add]
    · rw [itL_get, beq_iff_eq, e]
    · rw [itL_get, beq_eq_false_iff_ne, ← e]
      exact fun h => P.inj j f hj hf h.symm
  · rw [place_s _ _ (by omega), idxF_first _ f 0 hf' (fun j hj => ?_) ?_, Nat.zero_add]
    · rw [itL_get, beq_iff_eq, e]
    · rw [itL_get, beq_eq_false_iff_ne, ← e]
      exact P.inj j f hj hf
theorem Pth.idx_no {J : List Int} {p : Int} {m : Nat} (P : Pth J p m) (h : ¬ InJ J (itJ J p m)) : slices_Index_int_n (itL J p m) (itJ J p m) = -1 := by
  unfold slices_Index_int_n
  refine idxF_no _ _ fun x hx => ?_
  obtain ⟨i, hi, rfl⟩ := itL_mem.1 hx
  rw [beq_eq_false_iff_ne]
  intro h2
  rw [h2] at h
  exact h (P.ins i hi)
/-! ends -/
def endV (J : List Int) (last : Int) : ByteArray := if last < 0 then ⟨#[97]⟩ else if last ≥ (J.length : Int) then ⟨#[98]⟩ else ⟨#[108]⟩
theorem itJ_bd {J : List Int} {p : Int} (hp : InJ J p) : ∀ k, -1 ≤ itJ J p k ∧ itJ J p k ≤ (J.length : Int)
  | 0 => by have h1 := hp.1; have h2 := hp.2; show -1 ≤ p ∧ p ≤ _; omega
  | k + 1 => nx_bd _
theorem end_i {J : List Int} {p : Int} {m : Nat} (hp : InJ J p) (h : i_path J p = some (itL J p m, itJ J p m)) : i_end J p = some (endV J (itJ J p m)) := by
  have hb := itJ_bd hp m
  unfold i_end endV
  rw [h]
  simp only [Option.bind_some]
  by_cases c1 : itJ J p m < 0
  · rw [decide_eq_true c1, if_pos c1]; rfl
  · rw [decide_eq_false c1, if_neg c1]
    by_cases c2 : itJ J p m = (J.length : Int)
    · rw [show (itJ J p m == (J.length : Int)) = true from beq_iff_eq.2 c2, if_pos (by omega)]; rfl
    · rw [show (itJ J p m == (J.length : Int)) = false from beq_eq_false_iff_ne.2 c2, if_neg (by omega)]; rfl
theorem end_s {J : List Int} {p : Int} {m : Nat} (h : s_baPath J p = some (itL J p m, itJ J p m)) : s_baEnd J p = some (endV J (itJ J p m)) := by
  unfold s_baEnd endV
  rw [h]
  simp only [Option.bind_some]
  by_cases c1 : itJ J p m < 0
  · rw [decide_eq_true c1, if_pos c1]; rfl
  · rw [decide_eq_false c1, if_neg c1]
    by_cases c2 : itJ J p m ≥ (J.length : Int)
    · rw [decide_eq_true c2, if_pos c2]; rfl
    · rw [decide_eq_false c2, if_neg c2]; rfl
theorem endV_a {J : List Int} (last : Int) : ((endV J last).toList == (⟨#[97]⟩ : ByteArray).toList) = decide (last < 0) := by
  unfold endV
  by_cases c1 : last < 0
  · rw [if_pos c1, decide_eq_true c1, beq_self_eq_true]
  · rw [if_neg c1, decide_eq_false c1]
    by_cases c2 : last ≥ (J.length : Int)
    · rw [if_pos c2, ByteArray.toList_eq, ByteArray.toList_eq]; decide
    · rw [if_neg c2, ByteArray.toList_eq, ByteArray.toList_eq]; decide
theorem endV_b {J : List Int} (last : Int) : ((endV J last).toList == (⟨#[98]⟩ : ByteArray).toList) = decide (last ≥ (J.length : Int)) := by
  unfold endV
  by_cases c1 : last < 0
  · rw [if_pos c1, decide_eq_false (show ¬ last ≥ (J.length : Int) by omega), ByteArray.toList_eq, ByteArray.toList_eq]; decide
  · rw [if_neg c1]
    by_cases c2 : last ≥ (J.length : Int)
    · rw [if_pos c2, decide_eq_true c2, beq_self_eq_true]
    · rw [if_neg c2, decide_eq_false c2, ByteArray.toList_eq, ByteArray.toList_eq]; decide
theorem endV_l {J : List Int} (last : Int) : ((endV J last).toList == (⟨#[108]⟩ : ByteArray).toList) = (decide (0 ≤ last) && decide (last < (J.length : Int))) := by
  unfold endV
  by_cases c1 : last < 0
  · rw [if_pos c1, decide_eq_false (show ¬ 0 ≤ last by omega), ByteArray.toList_eq, ByteArray.toList_eq, Bool.false_and]; decide
  · rw [if_neg c1, decide_eq_true (show 0 ≤ last by omega)]
    by_cases c2 : last ≥ (J.length : Int)
    · rw [if_pos c2, decide_eq_false (show ¬ last < (J.length : Int) by omega), ByteArray.toList_eq, ByteArray.toList_eq]; decide
    · rw [if_neg c2, decide_eq_true (show last < (J.length : Int) by omega), beq_self_eq_true]; rfl
theorem endV_self (J : List Int) (last : Int) : ((endV J last).toList == (endV J last).toList) = true := beq_self_eq_true _
/-! places -/
def plcV (J : List Int) (p : Int) (m : Nat) (t : Nat) : Int := if t < m then itJ J p t else if ¬ (0 ≤ itJ J p m ∧ itJ J p m < (J.length : Int)) then itJ J p m else itJ J p t
theorem it_per {J : List Int} {p : Int} {m f : Nat} (hf : f < m) (e : itJ J p f = itJ J p m) : ∀ k, itJ J p (f + k) = itJ J p (f + k % (m - f)) := by
  intro k
  induction k using Nat.strongRecOn with
  | ind k ih =>
    by_cases hk : k < m - f
    · rw [Nat.mod_eq_of_lt hk]
    · have h1 := ih (k - (m - f)) (by omega)
      rw [Nat.mod_eq_sub_mod (by omega), ← h1, show f + k = m + (k - (m - f)) from by omega, itJ_add, ← e, ← itJ_add]
theorem place_val {J : List Int} {p : Int} {m f t : Nat} (P : Pth J p m) (hf : f < m) (e : itJ J p f = itJ J p m) (ht : m ≤ t) (ht2 : (t : Int) ≤ 1000000000000) (hm : m ≤ 30) :
    IntKind.wrap .i64 ((f : Int) + Int.tmod (IntKind.wrap .i64 ((t : Int) - (f : Int))) (IntKind.wrap .i64 ((m : Int) - (f : Int)))) = ((f + (t - f) % (m - f) : Nat) : Int) ∧ f + (t - f) % (m - f) < m ∧ itJ J p (f + (t - f) % (m - f)) = itJ J p t := by
  have e1 : IntKind.wrap .i64 ((t : Int) - (f : Int)) = ((t - f : Nat) : Int) := by rw [wrapI (by omega) (by omega)]; omega
  have e2 : IntKind.wrap .i64 ((m : Int) - (f : Int)) = ((m - f : Nat) : Int) := by rw [wrapI (by omega) (by omega)]; omega
  have hl := Nat.mod_lt (t - f) (show m - f > 0 by omega)
  have e3 : Int.tmod ((t - f : Nat) : Int) ((m - f : Nat) : Int) = (((t - f) % (m - f) : Nat) : Int) := by rw [Int.tmod_eq_emod_of_nonneg (by omega)]; rfl
  rw [e1, e2, e3]
  have h4 := it_per (J := J) (p := p) hf e (t - f)
  rw [show f + (t - f) = t from by omega] at h4
  refine ⟨?_, by omega, h4.symm⟩
  generalize (t - f) % (m - f) = z at *
  rw [wrapI (by omega) (by omega)]; push_cast; rfl
theorem PlaceAfter_i {J : List Int} {p : Int} {m : Nat} (h : s_baStep J p = true) (P : Pth J p m) (hi : i_path J p = some (itL J p m, itJ J p m)) (t : Int) :
    i_PlaceAfter J p t = some (bif s_l1In t 0 1000000000000 then (plcV J p m t.toNat, true) else (0, false)) := by
  obtain ⟨g, hp⟩ := step_iff h
  have hh := g.hi
  have hm := P.le
  unfold i_PlaceAfter
  rw [have1, h, within_eq]
  simp only [Option.bind_some, Bool.not_true, cond_false]
  cases ht : s_l1In t 0 1000000000000
  · rfl
  · have ht := l1In_iff.1 ht
    obtain ⟨t, rfl⟩ : ∃ k : Nat, t = k := ⟨t.toNat, by omega⟩
    rw [hi]
    simp only [Option.bind_some, Bool.not_true, cond_false, cond_true, itL_len, Int.toNat_natCast]
    unfold plcV
    by_cases c1 : t < m
    · have c1' : (t : Int) < (m : Int) := by omega
      rw [decide_eq_true c1', decide_eq_true (Int.natCast_nonneg t), rdk_get (k := kint) (show t < (itL J p m).length by rw [itL_len]; exact c1), itL_get, if_pos c1]; rfl
    · rw [decide_eq_false (show ¬ (t : Int) < (m : Int) by omega), if_neg c1, cond_false]
      by_cases c2 : InJ J (itJ J p m)
      · obtain ⟨f, hf, e⟩ : ∃ f, f < m ∧ itJ J p f = itJ J p m := P.fin.resolve_left (fun h => h c2)
        obtain ⟨v1, v2, v3⟩ := place_val (J := J) (p := p) (t := t) P hf e (by omega) (by omega) (by omega)
        have hz : (IntKind.wrap .i64 ((m : Int) - (f : Int)) == 0) = false := by rw [beq_eq_false_iff_ne, wrapI (by omega) (by omega)]; omega
        rw [isOut_in hh c2, (P.idx (by omega) hf e).1, v1, hz, decide_eq_true (Int.natCast_nonneg _), decide_eq_true (show ((f + (t - f) % (m - f) : Nat) : Int) < (m : Int) by omega),
          rdk_get (k := kint) (show f + (t - f) % (m - f) < (itL J p m).length by rw [itL_len]; exact v2), itL_get, v3, if_neg (fun h => h c2)]
        rfl
      · rw [isOut_out hh c2, if_pos (show ¬ (0 ≤ itJ J p m ∧ itJ J p m < (J.length : Int)) from c2)]; rfl
theorem PlaceAfter_s {J : List Int} {p : Int} {m : Nat} (h : s_baStep J p = true) (P : Pth J p m) (hi : s_baPath J p = some (itL J p m, itJ J p m)) (t : Int) :
    s_PlaceAfter J p t = some (bif s_l1In t 0 1000000000000 then (plcV J p m t.toNat, true) else (0, false)) := by
  obtain ⟨g, hp⟩ := step_iff h
  have hh := g.hi
  have hm := P.le
  unfold s_PlaceAfter
  rw [h]
  simp only [Option.bind_some, Bool.not_true, cond_false]
  cases ht : s_l1In t 0 1000000000000
  · rfl
  · have ht := l1In_iff.1 ht
    obtain ⟨t, rfl⟩ : ∃ k : Nat, t = k := ⟨t.toNat, by omega⟩
    rw [hi]
    simp only [Option.bind_some, Bool.not_true, cond_false, cond_true, itL_len, Int.toNat_natCast]
    unfold plcV
    by_cases c1 : t < m
    · have c1' : (t : Int) < (m : Int) := by omega
      rw [decide_eq_true c1', decide_eq_true (Int.natCast_nonneg t), rdk_get (k := kint) (show t < (itL J p m).length by rw [itL_len]; exact c1), itL_get, if_pos c1]; rfl
    · rw [decide_eq_false (show ¬ (t : Int) < (m : Int) by omega), if_neg c1, cond_false]
      by_cases c2 : InJ J (itJ J p m)
      · obtain ⟨f, hf, e⟩ : ∃ f, f < m ∧ itJ J p f = itJ J p m := P.fin.resolve_left (fun h => h c2)
        obtain ⟨v1, v2, v3⟩ := place_val (J := J) (p := p) (t := t) P hf e (by omega) (by omega) (by omega)
        have hz : (IntKind.wrap .i64 ((m : Int) - (f : Int)) == 0) = false := by rw [beq_eq_false_iff_ne, wrapI (by omega) (by omega)]; omega
        have c3 := c2.1
        have c4 := c2.2
        rw [decide_eq_false (show ¬ itJ J p m < 0 by omega), decide_eq_false (show ¬ itJ J p m ≥ (J.length : Int) by omega), (P.idx (by omega) hf e).2]
        simp only [Option.bind_some, cond_false]
        rw [v1, hz, decide_eq_true (Int.natCast_nonneg _), decide_eq_true (show ((f + (t - f) % (m - f) : Nat) : Int) < (m : Int) by omega),
          rdk_get (k := kint) (show f + (t - f) % (m - f) < (itL J p m).length by rw [itL_len]; exact v2), itL_get, v3, if_neg (fun h => h c2)]
        rfl
      · rw [if_pos (show ¬ (0 ≤ itJ J p m ∧ itJ J p m < (J.length : Int)) from c2)]
        by_cases c3 : itJ J p m < 0
        · rw [decide_eq_true c3]; rfl
        · rw [decide_eq_false c3, decide_eq_true (show itJ J p m ≥ (J.length : Int) by
            by_cases c4 : itJ J p m < (J.length : Int)
            · exact absurd ⟨by omega, c4⟩ c2
            · omega)]; rfl
/-! ### balls: loops -/
/-- the first least of the first so many -/
structure FA (a : Nat → Int) (k c : Nat) : Prop where
  lt : k < c
  first : ∀ j, j < k → a k < a j
  least : ∀ j, j < c → a k ≤ a j
theorem FA.next {a : Nat → Int} {k c : Nat} (h : FA a k c) : (a c < a k → FA a c (c + 1)) ∧ (¬ a c < a k → FA a k (c + 1)) := by
  refine ⟨fun hl => ⟨by omega, fun j hj => ?_, fun j hj => ?_⟩, fun hl => ⟨by have := h.lt; omega, h.first, fun j hj => ?_⟩⟩
  · have := h.least j hj; omega
  · by_cases e : j = c
    · subst e; omega
    · have := h.least j (by omega); omega
  · by_cases e : j = c
    · subst e; omega
    · exact h.least j (by omega)
def fL (a : Nat → Int) (c : Nat) : List Int := (List.range c).map a
theorem fL_len (a : Nat → Int) (c : Nat) : (fL a c).length = c := by unfold fL; simp
theorem fL_get {a : Nat → Int} {c i : Nat} (h : i < (fL a c).length) : (fL a c)[i] = a i := by
  have h' : i < ((List.range c).map a).length := h
  exact (show (fL a c)[i] = ((List.range c).map a)[i]'h' from rfl).trans (by rw [List.getElem_map, List.getElem_range])
theorem fL_rdk {a : Nat → Int} {c i : Nat} (h : i < c) : rdk kint (fL a c) (i : Int) = a i := by
  rw [rdk_get (k := kint) (show i < (fL a c).length by rw [fL_len]; exact h), fL_get]
def rotL (a : Nat → Int) (c k : Nat) : List Int := (fL a c).drop k ++ (fL a c).take k
theorem own_n (l : List Int) (h : l.length ≤ 1000) : s_l1Own_n l = some l := by unfold s_l1Own_n; rw [decide_eq_true (by omega)]; rfl
theorem min_loop {a : Nat → Int} {c : Nat} (hc : c ≤ 30) (from_ : Int) : ∀ (d i k : Nat), i + d = c → FA a k i → ∃ k', FA a k' c ∧ slices_Min_int_L1 (fL a c) (a k) (i : Int) = some (a k') ∧ s_baLoop_L1 (fL a c) from_ (k : Int) (c : Int) (i : Int) = some (rotL a c k', from_)
  | 0, i, k, h1, h2 => by
    obtain rfl : i = c := by omega
    have hk := h2.lt
    have n1 : ¬ ((i : Int) < (i : Int)) := by omega
    refine ⟨k, h2, ?_, ?_⟩
    · rw [slices_Min_int_u1, slices_Min_int_t1, fL_len, decide_eq_false n1]; rfl
    · have hb : Nat.ble (((fL a i).drop k).length + ((fL a i).take k).length) 4294967296 = true := by rw [ble_dec, List.length_drop, List.length_take, fL_len]; exact decide_eq_true (by omega)
      rw [s_baLoop_u1, s_baLoop_t1, decide_eq_false n1, decide_eq_true (Int.natCast_nonneg k), fL_len, decide_eq_true (show (k : Int) ≤ (i : Int) by omega)]
      simp only [cond_true, cond_false, Int.toNat_natCast]
      have e1 : ((fL a i).drop k).take (i - k) = (fL a i).drop k := List.take_of_length_le (by rw [List.length_drop, fL_len]; omega)
      have e2 : ((fL a i).drop (Int.toNat 0)).take (k - Int.toNat 0) = (fL a i).take k := rfl
      rw [e1, e2, own_n _ (by rw [List.length_drop, fL_len]; omega)]
      simp only [Option.bind_some, hb, cond_true]
      rfl
  | d + 1, i, k, h1, h2 => by
    have hk := h2.lt
    have c1 : (i : Int) < (c : Int) := by omega
    have hw : IntKind.wrap .i64 ((i : Int) + 1) = ((i + 1 : Nat) : Int) := by rw [wrapI (by omega) (by omega)]; omega
    rw [slices_Min_int_u1, slices_Min_int_t1, s_baLoop_u1, s_baLoop_t1, fL_len, decide_eq_true c1, decide_eq_true (Int.natCast_nonneg i), decide_eq_true (Int.natCast_nonneg k), decide_eq_true (show (k : Int) < (c : Int) by omega), fL_rdk (by omega), fL_rdk (show k < c by omega), hw]
    simp only [cond_true]
    by_cases c2 : a i < a k
    · rw [decide_eq_true c2]
      exact min_loop hc from_ d (i + 1) i (by omega) (h2.next.1 c2)
    · rw [decide_eq_false c2]
      exact min_loop hc from_ d (i + 1) k (by omega) (h2.next.2 c2)
theorem concat_eq (x y : List Int) (h : x.length + y.length ≤ 1000) : slices_Concat_int [x, y] = some (x ++ y) := by
  have g : ∀ n : Nat, n ≤ 1000 → slices_Grow_int (n : Int) = some [] := fun n hn => by
    unfold slices_Grow_int
    rw [decide_eq_false (show ¬ ((n : Int) < 0) by omega), show IntKind.wrap .i64 (0 - 0) = 0 from rfl, wrapI (by omega) (by omega), Int.sub_zero, decide_eq_true (Int.natCast_nonneg n)]
    by_cases h0 : (n : Int) > 0
    · rw [decide_eq_true h0, decide_eq_true (show (n : Int) ≤ 4294967296 by omega)]; rfl
    · rw [decide_eq_false h0]; rfl
  have hx : rdk kSint [x, y] 0 = x := rfl
  have hy : rdk kSint [x, y] 1 = y := rfl
  have l3 : slices_Concat_int_L2 (x ++ y) [x, y] 2 2 = some (x ++ y) := by rw [slices_Concat_int_u2, slices_Concat_int_t2]; rfl
  have l2 : slices_Concat_int_L2 x [x, y] 2 1 = some (x ++ y) := by
    rw [slices_Concat_int_u2, slices_Concat_int_t2, hy, ble_dec, decide_eq_true (show x.length + y.length ≤ 4294967296 by omega)]
    exact l3
  have l1 : slices_Concat_int_L2 [] [x, y] 2 0 = some (x ++ y) := by
    rw [slices_Concat_int_u2, slices_Concat_int_t2, hx, ble_dec, decide_eq_true (show ([] : List Int).length + x.length ≤ 4294967296 by simp; omega)]
    exact l2
  have k3 : slices_Concat_int_L1 [x, y] ((x.length + y.length : Nat) : Int) 2 2 = some (x ++ y) := by
    rw [slices_Concat_int_u1, slices_Concat_int_t1, g _ h]
    exact l1
  have k2 : slices_Concat_int_L1 [x, y] ((x.length : Nat) : Int) 2 1 = some (x ++ y) := by
    rw [slices_Concat_int_u1, slices_Concat_int_t1, hy, wrapI (n := (x.length : Int) + (y.length : Int)) (by omega) (by omega), decide_eq_false (show ¬ ((x.length : Int) + (y.length : Int) < 0) by omega)]
    exact k3
  unfold slices_Concat_int slices_Concat_int_t0
  rw [slices_Concat_int_u1, slices_Concat_int_t1, hx, Int.zero_add, wrapI (n := (x.length : Int)) (by omega) (by omega), decide_eq_false (show ¬ ((x.length : Int) < 0) by omega)]
  exact k2
theorem fromLeast_eq {a : Nat → Int} {c : Nat} (hc : c ≤ 30) (h1 : 1 ≤ c) (from_ : Int) : ∃ k, FA a k c ∧ i_fromLeast (fL a c) = some (rotL a c k) ∧ s_baLoop_L1 (fL a c) from_ 0 (c : Int) 0 = some (rotL a c k, from_) := by
  have fa0 : FA a 0 1 := by
    refine ⟨by omega, fun j hj => by omega, fun j hj => ?_⟩
    obtain rfl : j = 0 := by omega
    exact Int.le_refl _
  obtain ⟨k, hk, hm, hl⟩ := min_loop (a := a) hc from_ (c - 1) 1 0 (by omega) fa0
  have hkc := hk.lt
  refine ⟨k, hk, ?_, ?_⟩
  · unfold i_fromLeast slices_Min_int slices_Min_int_t0
    have r0 : rdk kint (fL a c) 0 = a 0 := fL_rdk (i := 0) (by omega)
    have hx : slices_Index_int_n (fL a c) (a k) = (k : Int) := by
      unfold slices_Index_int_n
      rw [idxF_first _ k 0 (by rw [fL_len]; exact hkc) (fun j hj => ?_) ?_, Nat.zero_add]
      · rw [fL_get, beq_self_eq_true]
      · rw [fL_get, beq_eq_false_iff_ne]
        have := hk.first j hj
        omega
    rw [fL_len, decide_eq_false (show ¬ ((c : Int) < 1) by omega), decide_eq_true (show (0 : Int) < (c : Int) by omega), r0]
    simp only [cond_true, cond_false]
    rw [show slices_Min_int_L1 (fL a c) (a 0) 1 = some (a k) from hm]
    simp only [Option.bind_some, hx, decide_eq_true (Int.natCast_nonneg k), decide_eq_true (show (k : Int) ≤ (c : Int) by omega), cond_true, Int.toNat_natCast]
    have e1 : ((fL a c).drop k).take (c - k) = (fL a c).drop k := List.take_of_length_le (by rw [List.length_drop, fL_len]; omega)
    have e2 : ((fL a c).drop (Int.toNat 0)).take (k - Int.toNat 0) = (fL a c).take k := rfl
    rw [e1, e2, concat_eq _ _ (by rw [List.length_drop, List.length_take, fL_len]; omega)]
    rfl
  · have r0 : rdk kint (fL a c) 0 = a 0 := fL_rdk (i := 0) (by omega)
    rw [s_baLoop_u1, s_baLoop_t1, fL_len, decide_eq_true (show (0 : Int) < (c : Int) by omega), r0, decide_eq_false (show ¬ a 0 < a 0 by omega)]
    exact hl
theorem drop_it {J : List Int} {p : Int} {m f : Nat} (hf : f ≤ m) : List.take (Int.toNat (m : Int) - Int.toNat (f : Int)) (List.drop (Int.toNat (f : Int)) (itL J p m)) = fL (fun i => itJ J p (f + i)) (m - f) := by
  rw [Int.toNat_natCast, Int.toNat_natCast, List.take_of_length_le (by rw [List.length_drop, itL_len]; omega)]
  apply List.ext_getElem
  · rw [List.length_drop, itL_len, fL_len]
  · intro i h1 h2
    rw [List.getElem_drop, itL_get, fL_get]
/-- the loop of a path, if there is one -/
structure Loop (J : List Int) (p : Int) (m f k : Nat) : Prop where
  f_lt : f < m
  back : itJ J p f = itJ J p m
  fa : FA (fun i => itJ J p (f + i)) k (m - f)
def lpL (J : List Int) (p : Int) (m f k : Nat) : List Int := rotL (fun i => itJ J p (f + i)) (m - f) k
theorem loop_of {J : List Int} {p : Int} {m : Nat} (h : s_baStep J p = true) (P : Pth J p m) (hi : i_path J p = some (itL J p m, itJ J p m)) (hs : s_baPath J p = some (itL J p m, itJ J p m)) (hin : InJ J (itJ J p m)) :
    ∃ f k, Loop J p m f k ∧ i_LoopOfBall J p = some (lpL J p m f k, true) ∧ s_LoopOfBall J p = some (lpL J p m f k, true) ∧ i_TimeToLoop J p = some ((f : Int), true) ∧ s_TimeToLoop J p = some ((f : Int), true) := by
  obtain ⟨g, hp⟩ := step_iff h
  have hh := g.hi
  have hm := P.le
  obtain ⟨f, hf, e⟩ : ∃ f, f < m ∧ itJ J p f = itJ J p m := P.fin.resolve_left (fun h => h hin)
  obtain ⟨k, hk, h1, h2⟩ := fromLeast_eq (a := fun i => itJ J p (f + i)) (c := m - f) (by omega) (by omega) (f : Int)
  obtain ⟨x1, x2⟩ := P.idx (by omega) hf e
  have il : i_loop J p = some (fL (fun i => itJ J p (f + i)) (m - f), (f : Int)) := by
    unfold i_loop
    rw [hi]
    simp only [Option.bind_some]
    rw [x1, decide_eq_false (show ¬ ((f : Int) < 0) by omega), decide_eq_true (Int.natCast_nonneg f), itL_len, decide_eq_true (show (f : Int) ≤ (m : Int) by omega), drop_it (by omega)]
    rfl
  have sl : s_baLoop J p = some (lpL J p m f k, (f : Int)) := by
    unfold s_baLoop s_baLoop_t0
    rw [hs]
    simp only [Option.bind_some]
    rw [x2]
    simp only [Option.bind_some]
    rw [decide_eq_true (Int.natCast_nonneg f), itL_len, decide_eq_true (show (f : Int) ≤ (m : Int) by omega), drop_it (by omega), fL_len]
    exact h2
  have hend : (endV J (itJ J p m)).toList == (⟨#[108]⟩ : ByteArray).toList := by rw [endV_l, decide_eq_true hin.1, decide_eq_true hin.2]; rfl
  refine ⟨f, k, ⟨hf, e, hk⟩, ?_, ?_, ?_, ?_⟩
  · unfold i_LoopOfBall
    rw [have1, h]
    simp only [Option.bind_some, Bool.not_true, cond_false, il, fL_len]
    rw [show (((m - f : Nat) : Int) == 0) = false from by rw [beq_eq_false_iff_ne]; omega, cond_false, h1]
    rfl
  · unfold s_LoopOfBall
    rw [h, end_s hs]
    simp only [Option.bind_some, Bool.not_true, cond_false, hend, sl]
  · unfold i_TimeToLoop
    rw [have1, h]
    simp only [Option.bind_some, Bool.not_true, cond_false, il, fL_len]
    rw [decide_eq_true (show ((m - f : Nat) : Int) > 0 by omega)]
  · unfold s_TimeToLoop
    rw [h, end_s hs]
    simp only [Option.bind_some, Bool.not_true, cond_false, hend, sl]
theorem loop_no {J : List Int} {p : Int} {m : Nat} (h : s_baStep J p = true) (P : Pth J p m) (hi : i_path J p = some (itL J p m, itJ J p m)) (hs : s_baPath J p = some (itL J p m, itJ J p m)) (hin : ¬ InJ J (itJ J p m)) :
    i_LoopOfBall J p = some ([], false) ∧ s_LoopOfBall J p = some ([], false) ∧ i_TimeToLoop J p = some (0, false) ∧ s_TimeToLoop J p = some (0, false) := by
  have il : i_loop J p = some ([], 0) := by
    unfold i_loop
    rw [hi]
    simp only [Option.bind_some]
    rw [P.idx_no hin]
    rfl
  have hend : ((endV J (itJ J p m)).toList == (⟨#[108]⟩ : ByteArray).toList) = false := by
    rw [endV_l]
    by_cases c : 0 ≤ itJ J p m
    · rw [decide_eq_true c, decide_eq_false (fun c2 => hin ⟨c, c2⟩)]; rfl
    · rw [decide_eq_false c]; rfl
  refine ⟨?_, ?_, ?_, ?_⟩
  · unfold i_LoopOfBall
    rw [have1, h]
    simp only [Option.bind_some, Bool.not_true, cond_false, il]
    rfl
  · unfold s_LoopOfBall
    rw [h, end_s hs]
    simp only [Option.bind_some, Bool.not_true, Bool.not_false, cond_false, cond_true, hend]
  · unfold i_TimeToLoop
    rw [have1, h]
    simp only [Option.bind_some, Bool.not_true, cond_false, il]
    rfl
  · unfold s_TimeToLoop
    rw [h, end_s hs]
    simp only [Option.bind_some, Bool.not_true, Bool.not_false, cond_false, cond_true, hend]
/-! what the law compares with -/
theorem lSame_self {a : List Int} (ha : a.length ≤ 100000) : w_lSame a a = some true := by
  unfold w_lSame w_lSame_t0
  rw [bne_self_eq_false, cond_false]
  refine drop_ind a (fun i l => w_lSame_L1 a a (a.length : Int) (i : Int) = some true) ?_ (fun i hi ih => ?_)
  · have : ¬ ((a.length : Int) < a.length) := by omega
    rw [w_lSame_u1, w_lSame_t1, decide_eq_false this]; rfl
  · have c1 : (i : Int) < a.length := by omega
    rw [w_lSame_u1, w_lSame_t1, decide_eq_true c1, decide_eq_true (Int.natCast_nonneg i), rdk_get (k := kint) hi, bne_self_eq_false, wrapI (n := (i : Int) + 1) (by omega) (by omega)]
    exact ih
theorem lHas_eq {a : List Int} (ha : a.length ≤ 100000) (n : Int) : w_lHas a n = some (decide (n ∈ a)) := by
  unfold w_lHas w_lHas_t0
  refine drop_ind a (fun i l => w_lHas_L1 a n (a.length : Int) (i : Int) = some (decide (n ∈ l))) ?_ (fun i hi ih => ?_)
  · have : ¬ ((a.length : Int) < a.length) := by omega
    rw [w_lHas_u1, w_lHas_t1, decide_eq_false this]; simp
  · have c1 : (i : Int) < a.length := by omega
    rw [w_lHas_u1, w_lHas_t1, decide_eq_true c1, decide_eq_true (Int.natCast_nonneg i), rdk_get (k := kint) hi, wrapI (n := (i : Int) + 1) (by omega) (by omega)]
    simp only [cond_true]
    by_cases h : a[i] = n
    · rw [show (a[i] == n) = true from beq_iff_eq.2 h, decide_eq_true (show n ∈ a[i] :: a.drop (i + 1) from by rw [h]; exact List.mem_cons_self)]; rfl
    · rw [show (a[i] == n) = false from beq_eq_false_iff_ne.2 h, cond_false]
      have e : decide (n ∈ a[i] :: a.drop (i + 1)) = decide (n ∈ a.drop (i + 1)) := decide_eq_decide.2 ⟨fun m => (List.mem_cons.1 m).resolve_left (fun e => h e.symm), fun m => List.mem_cons_of_mem _ m⟩
      rw [e]
      exact ih
/-! ### two balls -/
def inQ (J : List Int) (p : Int) : Bool := decide (0 ≤ p) && decide (p < (J.length : Int))
theorem inQ_iff {J : List Int} {p : Int} : inQ J p = true ↔ InJ J p := by unfold inQ InJ; simp
theorem inQ_no {J : List Int} {p : Int} (h : ¬ InJ J p) : inQ J p = false := by
  cases hq : inQ J p
  · rfl
  · exact absurd (inQ_iff.1 hq) h
theorem isOut_q {J : List Int} (hJ : J.length ≤ 30) (p : Int) : i_isOut J p = !inQ J p := isOut_eq hJ p
def runB (J : List Int) : Nat → Int → Int → Nat → Int × Int × Bool
  | 0, _, _, _ => (0, 0, false)
  | d + 1, a, b, t => bif !inQ J (nx J a) then (0, 0, false) else bif !inQ J (nx J b) then (0, 0, false) else bif nx J a == nx J b then ((t : Int), nx J a, true) else runB J d (nx J a) (nx J b) (t + 1)
theorem meet_i {J : List Int} (g : GoodJ J) : ∀ (d t : Nat) (a b : Int), t + d = 1801 → InJ J a → InJ J b → i_BallsMeet_L1 J a b (t : Int) = some (runB J d a b t)
  | 0, t, a, b, h1, ha, hb => by
    rw [i_BallsMeet_u1, i_BallsMeet_t1, decide_eq_false (show ¬ ((t : Int) ≤ 1800) by omega)]; rfl
  | d + 1, t, a, b, h1, ha, hb => by
    have hw : IntKind.wrap .i64 ((t : Int) + 1) = ((t + 1 : Nat) : Int) := by rw [wrapI (by omega) (by omega)]; omega
    rw [i_BallsMeet_u1, i_BallsMeet_t1, decide_eq_true (show (t : Int) ≤ 1800 by omega), i_next_eq g ha, i_next_eq g hb, hw, runB]
    simp only [cond_true, Option.bind_some]
    rw [isOut_q g.hi, isOut_q g.hi]
    cases h2 : inQ J (nx J a)
    · rfl
    · cases h3 : inQ J (nx J b)
      · rfl
      · rw [meet_i g d (t + 1) _ _ (by omega) (inQ_iff.1 h2) (inQ_iff.1 h3)]
        cases nx J a == nx J b <;> rfl
theorem meet_s {J : List Int} (g : GoodJ J) {N : Nat} (hN : J.length * J.length = N) (hN2 : N ≤ 900) : ∀ (d t : Nat) (a b : Int), t + d = N + 1 → InJ J a → InJ J b → s_BallsMeet_L1 J a b (t : Int) = some (runB J d a b t) := by
  have e0 : IntKind.wrap .i64 ((J.length : Int) * (J.length : Int)) = (N : Int) := by
    rw [show (J.length : Int) * (J.length : Int) = (N : Int) from by rw [← hN]; push_cast; rfl, wrapI (by omega) (by omega)]
  intro d
  induction d with
  | zero =>
    intro t a b h1 ha hb
    rw [s_BallsMeet_u1, s_BallsMeet_t1, e0, decide_eq_false (show ¬ ((t : Int) ≤ (N : Int)) by omega)]; rfl
  | succ d ih =>
    intro t a b h1 ha hb
    have hw : IntKind.wrap .i64 ((t : Int) + 1) = ((t + 1 : Nat) : Int) := by rw [wrapI (by omega) (by omega)]; omega
    rw [s_BallsMeet_u1, s_BallsMeet_t1, e0, decide_eq_true (show (t : Int) ≤ (N : Int) by omega), s_next_eq g ha, s_next_eq g hb, hw, runB]
    simp only [cond_true, Option.bind_some]
    have b1 := nx_bd (J := J) a
    have b2 := nx_bd (J := J) b
    by_cases c1 : InJ J (nx J a)
    · have d1 := c1.1
      have d2 := c1.2
      rw [inQ_iff.2 c1, decide_eq_false (show ¬ nx J a < 0 by omega), decide_eq_false (show ¬ nx J a ≥ (J.length : Int) by omega)]
      by_cases c2 : InJ J (nx J b)
      · have d3 := c2.1
        have d4 := c2.2
        rw [inQ_iff.2 c2, decide_eq_false (show ¬ nx J b < 0 by omega), decide_eq_false (show ¬ nx J b ≥ (J.length : Int) by omega), ih (t + 1) _ _ (by omega) c1 c2]
        cases nx J a == nx J b <;> rfl
      · rw [inQ_no c2]
        by_cases d3 : nx J b < 0
        · rw [decide_eq_true d3]; rfl
        · rw [decide_eq_false d3, decide_eq_true (show nx J b ≥ (J.length : Int) by
            by_cases d4 : nx J b < (J.length : Int)
            · exact absurd ⟨by omega, d4⟩ c2
            · omega)]; rfl
    · rw [inQ_no c1]
      by_cases d3 : nx J a < 0
      · rw [decide_eq_true d3]; rfl
      · rw [decide_eq_false d3, decide_eq_true (show nx J a ≥ (J.length : Int) by
          by_cases d4 : nx J a < (J.length : Int)
          · exact absurd ⟨by omega, d4⟩ c1
          · omega)]
        cases decide (nx J b < 0) <;> rfl
/-- nothing has come to an end -/
def Goes (J : List Int) (a b : Int) (k : Nat) : Prop := InJ J (itJ J a k) ∧ InJ J (itJ J b k) ∧ itJ J a k ≠ itJ J b k
theorem itJ_suc (J : List Int) (a : Int) (k : Nat) : itJ J a (k + 1) = itJ J (nx J a) k := by rw [Nat.add_comm, itJ_add]; rfl
theorem run_on {J : List Int} : ∀ (K e t : Nat) (a b : Int), (∀ j, 1 ≤ j → j ≤ K → Goes J a b j) → runB J (K + e) a b t = runB J e (itJ J a K) (itJ J b K) (t + K)
  | 0, e, t, a, b, _ => by rw [Nat.zero_add]; rfl
  | K + 1, e, t, a, b, h => by
    have h1 := h 1 (by omega) (by omega)
    have g1 : inQ J (nx J a) = true := inQ_iff.2 h1.1
    have g2 : inQ J (nx J b) = true := inQ_iff.2 h1.2.1
    have g3 : (nx J a == nx J b) = false := beq_eq_false_iff_ne.2 h1.2.2
    rw [show K + 1 + e = (K + e) + 1 from by omega, runB, g1, g2, g3]
    simp only [Bool.not_true, cond_false]
    rw [run_on K e (t + 1) _ _ (fun j j1 j2 => by
      have := h (j + 1) (by omega) (by omega)
      unfold Goes at this ⊢
      rw [itJ_suc, itJ_suc] at this
      exact this), itJ_suc, itJ_suc, show t + 1 + K = t + (K + 1) from by omega]
theorem run_meet {J : List Int} {k d t : Nat} {a b : Int} (hk : 1 ≤ k) (hd : k ≤ d) (h : ∀ j, 1 ≤ j → j < k → Goes J a b j) (h1 : InJ J (itJ J a k)) (h2 : itJ J a k = itJ J b k) : runB J d a b t = (((t + k - 1 : Nat) : Int), itJ J a k, true) := by
  obtain ⟨q, rfl⟩ : ∃ q, k = q + 1 := ⟨k - 1, by omega⟩
  obtain ⟨e, rfl⟩ : ∃ e, d = q + (e + 1) := ⟨d - q - 1, by omega⟩
  rw [run_on q (e + 1) t a b (fun j j1 j2 => h j j1 (by omega)), runB]
  have g1 : inQ J (nx J (itJ J a q)) = true := inQ_iff.2 h1
  have g2 : inQ J (nx J (itJ J b q)) = true := inQ_iff.2 (by rw [h2] at h1; exact h1)
  have g3 : (nx J (itJ J a q) == nx J (itJ J b q)) = true := beq_iff_eq.2 h2
  rw [g1, g2, g3]
  rfl
theorem run_out {J : List Int} {k d t : Nat} {a b : Int} (hk : 1 ≤ k) (hd : k ≤ d) (h : ∀ j, 1 ≤ j → j < k → Goes J a b j) (h1 : ¬ (InJ J (itJ J a k) ∧ InJ J (itJ J b k))) : runB J d a b t = (0, 0, false) := by
  obtain ⟨q, rfl⟩ : ∃ q, k = q + 1 := ⟨k - 1, by omega⟩
  obtain ⟨e, rfl⟩ : ∃ e, d = q + (e + 1) := ⟨d - q - 1, by omega⟩
  rw [run_on q (e + 1) t a b (fun j j1 j2 => h j j1 (by omega)), runB]
  by_cases c1 : InJ J (itJ J a (q + 1))
  · have g2 : inQ J (nx J (itJ J b q)) = false := inQ_no (fun c => h1 ⟨c1, c⟩)
    have g1 : inQ J (nx J (itJ J a q)) = true := inQ_iff.2 c1
    rw [g1, g2]; rfl
  · have g1 : inQ J (nx J (itJ J a q)) = false := inQ_no c1
    rw [g1]; rfl
theorem first_ex {P : Nat → Prop} : ∀ k, P k → ∃ m, m ≤ k ∧ P m ∧ ∀ j, j < m → ¬ P j := by
  intro k
  induction k using Nat.strongRecOn with
  | ind k ih =>
    intro hk
    by_cases h : ∃ j, j < k ∧ P j
    · obtain ⟨j, hj, hp⟩ := h
      obtain ⟨m, h1, h2, h3⟩ := ih j hj hp
      exact ⟨m, by omega, h2, h3⟩
    · exact ⟨k, Nat.le_refl _, hk, fun j hj hp => h ⟨j, hj, hp⟩⟩
/-- when two balls meet, if they do -/
structure Meet (J : List Int) (a b : Int) (k : Nat) : Prop where
  pos : 1 ≤ k
  goes : ∀ j, 1 ≤ j → j < k → Goes J a b j
  ins : InJ J (itJ J a k)
  eq : itJ J a k = itJ J b k
theorem meet_ex {J : List Int} (g : GoodJ J) {a b : Int} (ha : InJ J a) (hb : InJ J b) : (∃ k, Meet J a b k ∧ k ≤ J.length * J.length) ∨ ∀ d t, J.length * J.length ≤ d → d ≤ 100000 → runB J d a b t = (0, 0, false) := by
  by_cases hs : ∃ k, 1 ≤ k ∧ ¬ Goes J a b k
  · obtain ⟨k0, hk0⟩ := hs
    obtain ⟨k, _, ⟨k1, k2⟩, k3⟩ := first_ex (P := fun k => 1 ≤ k ∧ ¬ Goes J a b k) k0 hk0
    have hg : ∀ j, 1 ≤ j → j < k → Goes J a b j := fun j j1 j2 => Classical.byContradiction fun h => k3 j j2 ⟨j1, h⟩
    have hin : ∀ j, j < k → InJ J (itJ J a j) ∧ InJ J (itJ J b j) := fun j hj => by
      by_cases h0 : j = 0
      · subst h0; exact ⟨ha, hb⟩
      · have := hg j (by omega) hj; exact ⟨this.1, this.2.1⟩
    have hle : k ≤ J.length * J.length := by
      refine pigF (f := fun i => itJ J a i * (J.length : Int) + itJ J b i) (fun i hi => ?_) (fun i j hij hj => ?_)
      · obtain ⟨⟨x1, x2⟩, y1, y2⟩ := hin i hi
        have e1 : itJ J a i * (J.length : Int) ≤ ((J.length : Int) - 1) * (J.length : Int) := Int.mul_le_mul_of_nonneg_right (by omega) (by omega)
        have e2 : ((J.length : Int) - 1) * (J.length : Int) = (J.length : Int) * (J.length : Int) - (J.length : Int) := by rw [Int.sub_mul, Int.one_mul]
        have e3 : 0 ≤ itJ J a i * (J.length : Int) := Int.mul_nonneg x1 (by omega)
        show 0 ≤ itJ J a i * (J.length : Int) + itJ J b i ∧ itJ J a i * (J.length : Int) + itJ J b i < ((J.length * J.length : Nat) : Int)
        push_cast
        omega
      · intro he
        replace he : itJ J a i * (J.length : Int) + itJ J b i = itJ J a j * (J.length : Int) + itJ J b j := he
        obtain ⟨⟨x1, x2⟩, y1, y2⟩ := hin i (by omega)
        obtain ⟨⟨z1, z2⟩, w1, w2⟩ := hin j hj
        have hn : (0 : Int) < (J.length : Int) := by have := g.lo; omega
        have eb : itJ J b i = itJ J b j := by
          have h1 := congrArg (fun x => x % (J.length : Int)) he
          simp only [Int.mul_comm _ (J.length : Int), Int.mul_add_emod_self_left] at h1
          rwa [Int.emod_eq_of_lt y1 y2, Int.emod_eq_of_lt w1 w2] at h1
        have ea : itJ J a i = itJ J a j := by
          rw [eb] at he
          exact Int.eq_of_mul_eq_mul_right (by omega) (show itJ J a i * (J.length : Int) = itJ J a j * (J.length : Int) by omega)
        have e1 : itJ J a (i + (k - j)) = itJ J a k := by rw [itJ_add, ea, ← itJ_add]; congr 1; omega
        have e2 : itJ J b (i + (k - j)) = itJ J b k := by rw [itJ_add, eb, ← itJ_add]; congr 1; omega
        have := hg (i + (k - j)) (by omega) (by omega)
        unfold Goes at this
        rw [e1, e2] at this
        exact k2 this
    by_cases hi : InJ J (itJ J a k) ∧ InJ J (itJ J b k)
    · left
      refine ⟨k, ⟨k1, hg, hi.1, Classical.byContradiction fun h => k2 ⟨hi.1, hi.2, h⟩⟩, hle⟩
    · right
      intro d t hd _
      exact run_out k1 (by omega) hg hi
  · right
    intro d t _ _
    have := run_on (J := J) d 0 t a b (fun j j1 _ => Classical.byContradiction fun h => hs ⟨j, j1, h⟩)
    rw [Nat.add_zero] at this
    rw [this]; rfl
theorem Meet.swap {J : List Int} {a b : Int} {k : Nat} (h : Meet J a b k) : Meet J b a k :=
  ⟨h.pos, fun j j1 j2 => by obtain ⟨x, y, z⟩ := h.goes j j1 j2; exact ⟨y, x, fun e => z e.symm⟩, by rw [← h.eq]; exact h.ins, h.eq.symm⟩
theorem sq_le {n : Nat} (h : n ≤ 30) : n * n ≤ 900 := Nat.mul_le_mul h h
/-- what both functions tell -/
theorem BallsMeet_no {J : List Int} {a b : Int} (h : (s_baStep J a && s_baStep J b) = false ∨ a = b) : i_BallsMeet J a b = some (0, 0, false) ∧ s_BallsMeet J a b = some (0, 0, false) := by
  unfold i_BallsMeet i_BallsMeet_t0 s_BallsMeet s_BallsMeet_t0
  rw [have2]
  rcases h with h | h
  · cases h1 : s_baStep J a
    · exact ⟨rfl, rfl⟩
    · cases h2 : s_baStep J b
      · exact ⟨rfl, rfl⟩
      · rw [h1, h2] at h; cases h
  · subst h
    rw [beq_self_eq_true]
    cases s_baStep J a <;> exact ⟨rfl, rfl⟩
theorem BallsMeet_run {J : List Int} {a b : Int} (ha : s_baStep J a = true) (hb : s_baStep J b = true) (hab : a ≠ b) : i_BallsMeet J a b = some (runB J 1800 a b 1) ∧ s_BallsMeet J a b = some (runB J (J.length * J.length) a b 1) := by
  obtain ⟨g, h1⟩ := step_iff ha
  obtain ⟨_, h2⟩ := step_iff hb
  have hN := sq_le g.hi
  unfold i_BallsMeet i_BallsMeet_t0 s_BallsMeet s_BallsMeet_t0
  rw [have2, ha, hb, show (a == b) = false from beq_eq_false_iff_ne.2 hab]
  exact ⟨meet_i g 1800 1 a b rfl h1 h2, meet_s g rfl hN _ 1 a b (by omega) h1 h2⟩
theorem BallsMeet_both {J : List Int} {a b : Int} (ha : s_baStep J a = true) (hb : s_baStep J b = true) (hab : a ≠ b) :
    (∃ k, Meet J a b k ∧ k ≤ 900 ∧ i_BallsMeet J a b = some ((k : Int), itJ J a k, true) ∧ s_BallsMeet J a b = some ((k : Int), itJ J a k, true)) ∨ (i_BallsMeet J a b = some (0, 0, false) ∧ s_BallsMeet J a b = some (0, 0, false)) := by
  obtain ⟨g, h1⟩ := step_iff ha
  obtain ⟨_, h2⟩ := step_iff hb
  have hN := sq_le g.hi
  obtain ⟨r1, r2⟩ := BallsMeet_run ha hb hab
  rw [r1, r2]
  rcases meet_ex g h1 h2 with ⟨k, hk, hk2⟩ | h
  · left
    refine ⟨k, hk, by omega, ?_, ?_⟩
    · rw [run_meet hk.pos (by omega) hk.goes hk.ins hk.eq, show 1 + k - 1 = k from by omega]
    · rw [run_meet hk.pos hk2 hk.goes hk.ins hk.eq, show 1 + k - 1 = k from by omega]
  · right
    exact ⟨by rw [h 1800 1 (by omega) (by omega)], by rw [h _ 1 (Nat.le_refl _) (by omega)]⟩
theorem Meet.all_in {J : List Int} {a b : Int} {k : Nat} (h : Meet J a b k) (ha : InJ J a) : ∀ j, j ≤ k → InJ J (itJ J a j) := fun j hj => by
  by_cases h0 : j = 0
  · subst h0; exact ha
  · by_cases h1 : j = k
    · subst h1; exact h.ins
    · exact (h.goes j (by omega) (by omega)).1
theorem plc_in {J : List Int} {p : Int} {m t : Nat} (h : ∀ j, j ≤ t → InJ J (itJ J p j)) : plcV J p m t = itJ J p t := by
  unfold plcV
  by_cases c : t < m
  · rw [if_pos c]
  · rw [if_neg c, if_neg (fun hn => hn (h m (by omega)))]
theorem it_mem {J : List Int} {p : Int} {m t : Nat} (P : Pth J p m) (h : ∀ j, j ≤ t → InJ J (itJ J p j)) : itJ J p t ∈ itL J p m := by
  rw [itL_mem]
  by_cases c : t < m
  · exact ⟨t, c, rfl⟩
  · obtain ⟨f, hf, e⟩ : ∃ f, f < m ∧ itJ J p f = itJ J p m := P.fin.resolve_left (fun hn => hn (h m (by omega)))
    refine ⟨f + (t - f) % (m - f), ?_, ?_⟩
    · have := Nat.mod_lt (t - f) (show m - f > 0 by omega); omega
    · rw [← it_per hf e, show f + (t - f) = t from by omega]
/-! the first step on both paths -/
def fsL (r : List Int) : List Int → Option Int
  | [] => none
  | x :: l => if x ∈ r then some x else fsL r l
def fsV (o : Option Int) : Int × Bool := match o with | some x => (x, true) | none => (0, false)
theorem fsL_mem {r : List Int} {x : Int} : ∀ {l : List Int}, fsL r l = some x → x ∈ r
  | [], h => by cases h
  | y :: l, h => by
    unfold fsL at h
    by_cases hy : y ∈ r
    · rw [if_pos hy] at h; cases h; exact hy
    · rw [if_neg hy] at h; exact fsL_mem h
theorem fsL_some {r : List Int} {x : Int} : ∀ {l : List Int}, x ∈ l → x ∈ r → ∃ y, fsL r l = some y
  | y :: l, h, hr => by
    unfold fsL
    by_cases hy : y ∈ r
    · rw [if_pos hy]; exact ⟨y, rfl⟩
    · rw [if_neg hy]
      rcases List.mem_cons.1 h with e | e
      · subst e; exact absurd hr hy
      · exact fsL_some e hr
theorem first_i (r0 r1 : List Int) (h : r1.length ≤ 1000) : i_FirstSame_L1 r0 r1 (r1.length : Int) 0 = some (fsV (fsL r0 r1)) := by
  refine drop_ind r1 (fun i l => i_FirstSame_L1 r0 r1 (r1.length : Int) (i : Int) = some (fsV (fsL r0 l))) ?_ (fun i hi ih => ?_)
  · have : ¬ ((r1.length : Int) < r1.length) := by omega
    rw [i_FirstSame_u1, i_FirstSame_t1, decide_eq_false this]; rfl
  · have c1 : (i : Int) < r1.length := by omega
    rw [i_FirstSame_u1, i_FirstSame_t1, decide_eq_true c1, decide_eq_true (Int.natCast_nonneg i), rdk_get (k := kint) hi, wrapI (n := (i : Int) + 1) (by omega) (by omega), cont_eq, fsL]
    simp only [cond_true]
    by_cases hm : r1[i] ∈ r0
    · rw [decide_eq_true hm, if_pos hm]; rfl
    · rw [decide_eq_false hm, if_neg hm]
      exact ih
theorem first_s (r0 r1 : List Int) (h : r1.length ≤ 1000) : s_FirstSame_L1 r0 r1 (r1.length : Int) 0 = some (fsV (fsL r0 r1)) := by
  refine drop_ind r1 (fun i l => s_FirstSame_L1 r0 r1 (r1.length : Int) (i : Int) = some (fsV (fsL r0 l))) ?_ (fun i hi ih => ?_)
  · have : ¬ ((r1.length : Int) < r1.length) := by omega
    rw [s_FirstSame_u1, s_FirstSame_t1, decide_eq_false this]; rfl
  · have c1 : (i : Int) < r1.length := by omega
    rw [s_FirstSame_u1, s_FirstSame_t1, decide_eq_true c1, decide_eq_true (Int.natCast_nonneg i), rdk_get (k := kint) hi, wrapI (n := (i : Int) + 1) (by omega) (by omega), fsL]
    simp only [cond_true]
    unfold s_l1Has_n
    by_cases hm : r1[i] ∈ r0
    · rw [decide_eq_true hm, if_pos hm]; rfl
    · rw [decide_eq_false hm, if_neg hm]
      exact ih
theorem FirstSame_no {J : List Int} {a b : Int} (h : (s_baStep J a && s_baStep J b) = false) : i_FirstSame J a b = some (0, false) ∧ s_FirstSame J a b = some (0, false) := by
  unfold i_FirstSame i_FirstSame_t0 s_FirstSame s_FirstSame_t0
  rw [have2]
  cases h1 : s_baStep J a
  · exact ⟨rfl, rfl⟩
  · cases h2 : s_baStep J b
    · exact ⟨rfl, rfl⟩
    · rw [h1, h2] at h; cases h
theorem FirstSame_yes {J : List Int} {a b : Int} {m q : Nat} (ha : s_baStep J a = true) (hb : s_baStep J b = true) (hm : m ≤ 30) (i1 : i_path J a = some (itL J a m, itJ J a m)) (i2 : i_path J b = some (itL J b q, itJ J b q))
    (s1 : s_baPath J a = some (itL J a m, itJ J a m)) (s2 : s_baPath J b = some (itL J b q, itJ J b q)) : i_FirstSame J a b = some (fsV (fsL (itL J b q) (itL J a m))) ∧ s_FirstSame J a b = some (fsV (fsL (itL J b q) (itL J a m))) := by
  unfold i_FirstSame i_FirstSame_t0 s_FirstSame s_FirstSame_t0
  rw [have2, ha, hb, i1, i2, s1, s2]
  simp only [Option.bind_some, Bool.not_true, Bool.and_self, cond_false]
  exact ⟨first_i _ _ (by rw [itL_len]; omega), first_s _ _ (by rw [itL_len]; omega)⟩
theorem sureJ_loop : ∀ (k : Nat) (a l : List Int) (b c n : Int), Cur (a, b, c) n → n + 2 * k ≤ 10000000000 → l.length + k ≤ 100 → Ok (s_l1Cur_sureJumps_L1 b c l a (k : Int)) fun r => Cur r.2 (n + 2 * k) ∧ r.1.length = l.length + k
  | 0, a, l, b, c, n, h, hn, hl => by
    rw [s_l1Cur_sureJumps_u1, s_l1Cur_sureJumps_t1]
    exact Ok.ret ⟨h.mono (by omega), rfl⟩
  | k + 1, a, l, b, c, n, h, hn, hl => by
    rw [s_l1Cur_sureJumps_u1, s_l1Cur_sureJumps_t1, decide_eq_true (show ((k + 1 : Nat) : Int) > 0 by omega), cond_true]
    refine (pick_ok (n := n) _ h (by omega)).bind fun r hr => ?_
    have hbl : Nat.ble (l.length + 1) 4294967296 = true := by rw [ble_dec]; exact decide_eq_true (by omega)
    have hw : IntKind.wrap .i64 (((k + 1 : Nat) : Int) - 1) = (k : Int) := by rw [wrapI (by omega) (by omega)]; omega
    rw [hbl, hw, cond_true]
    refine (sureJ_loop k _ _ _ _ (n + 2) hr.1 (by omega) (by simp; omega)).mono fun s hs => ⟨hs.1.mono (by omega), by have := hs.2; simp at this; omega⟩
theorem sureJumps_ok {a : List Int} {b c n : Int} (h : Cur (a, b, c) n) (hn : n ≤ 1000000000) : Ok (s_l1Cur_sureJumps a b c) fun r => Cur r.2 (n + 22) ∧ 1 ≤ r.1.length := by
  unfold s_l1Cur_sureJumps s_l1Cur_sureJumps_t0
  refine (pick_ok (n := n) _ h (by omega)).bind fun r hr => ?_
  have hr2 := hr.2
  obtain ⟨k, hk⟩ : ∃ k : Nat, r.1 = k := ⟨r.1.toNat, by omega⟩
  rw [hk, wrapI (by omega) (by omega), show (1 : Int) + (k : Int) = ((k + 1 : Nat) : Int) from by omega]
  refine (sureJ_loop (k + 1) r.2.1 [] r.2.2.1 r.2.2.2 (n + 2) hr.1 (by omega) (by simp; omega)).mono fun s hs => ⟨hs.1.mono (by omega), by have := hs.2; simp at this; omega⟩
theorem jumps_loop : ∀ (k : Nat) (a l : List Int) (b c n : Int), Cur (a, b, c) n → n + 4 * k ≤ 10000000000 → 31 ≤ l.length + k → l.length ≤ 100 → Ok (s_l1Cur_jumps_L1 b c l a) fun r => Cur r.2 (n + 4 * k + 2) ∧ r.1.length ≤ 100
  | 0, a, l, b, c, n, h, hn, hl, hl2 => by
    rw [s_l1Cur_jumps_u1, s_l1Cur_jumps_t1]
    refine (pick_ok (n := n) _ h (by omega)).bind fun r hr => ?_
    have hr2 := hr.2
    rw [wrapI (n := 30 + r.1) (by omega) (by omega), decide_eq_false (show ¬ ((l.length : Int) < 30 + r.1) by omega), cond_false]
    exact Ok.ret ⟨hr.1.mono (by omega), hl2⟩
  | k + 1, a, l, b, c, n, h, hn, hl, hl2 => by
    rw [s_l1Cur_jumps_u1, s_l1Cur_jumps_t1]
    refine (pick_ok (n := n) _ h (by omega)).bind fun r hr => ?_
    have hr2 := hr.2
    rw [wrapI (n := 30 + r.1) (by omega) (by omega)]
    refine Ok.cond (fun e => ?_) (fun e => Ok.ret ⟨hr.1.mono (by omega), hl2⟩)
    have e := of_decide_eq_true e
    refine (pick_ok (n := n + 2) _ hr.1 (by omega)).bind fun s hs => ?_
    have hbl : Nat.ble (l.length + 1) 4294967296 = true := by rw [ble_dec]; exact decide_eq_true (by omega)
    rw [hbl, cond_true]
    exact (jumps_loop k _ _ _ _ (n + 2 + 2) hs.1 (by omega) (by simp; omega) (by simp; omega)).mono fun s hs => ⟨hs.1.mono (by omega), hs.2⟩
theorem sureJ_len {a : List Int} {b c n : Int} (h : Cur (a, b, c) n) (hn : n ≤ 1000000000) : Ok (s_l1Cur_sureJumps a b c) fun r => Cur r.2 (n + 22) ∧ 1 ≤ r.1.length ∧ r.1.length ≤ 100 := by
  unfold s_l1Cur_sureJumps s_l1Cur_sureJumps_t0
  refine (pick_ok (n := n) _ h (by omega)).bind fun r hr => ?_
  have hr2 := hr.2
  obtain ⟨k, hk⟩ : ∃ k : Nat, r.1 = k := ⟨r.1.toNat, by omega⟩
  rw [hk, wrapI (by omega) (by omega), show (1 : Int) + (k : Int) = ((k + 1 : Nat) : Int) from by omega]
  refine (sureJ_loop (k + 1) r.2.1 [] r.2.2.1 r.2.2.2 (n + 2) hr.1 (by omega) (by simp; omega)).mono fun s hs => ⟨hs.1.mono (by omega), by have := hs.2; simp at this; omega⟩
theorem jumps_ok {a : List Int} {b c n : Int} (h : Cur (a, b, c) n) (hn : n ≤ 100000000) : Ok (s_l1Cur_jumps a b c) fun r => Cur r.2 (n + 200) ∧ r.1.length ≤ 100 := by
  unfold s_l1Cur_jumps s_l1Cur_jumps_t0
  refine (sureJ_len (n := n) h (by omega)).bind fun r hr => ?_
  refine (pick_ok (n := n + 22) _ hr.1 (by omega)).bind fun s hs => ?_
  refine Ok.cond (fun _ => Ok.ret ⟨hs.1.mono (by omega), by simp⟩) (fun _ => ?_)
  refine Ok.cond (fun _ => ?_) (fun _ => ?_)
  · refine (among_ok (n := n + 22 + 2) _ hs.1 (by simp) (by omega)).bind fun t ht => ?_
    rw [decide_eq_true (show (0 : Int) < (r.1.length : Int) by have := hr.2.1; omega), cond_true]
    exact Ok.ret ⟨ht.1.mono (by omega), by rw [List.length_set]; exact hr.2.2⟩
  · refine Ok.cond (fun _ => ?_) (fun _ => Ok.ret ⟨hs.1.mono (by omega), hr.2.2⟩)
    exact (jumps_loop 31 s.2.1 r.1 s.2.2.1 s.2.2.2 (n + 22 + 2) hs.1 (by omega) (by omega) hr.2.2).mono fun u hu => ⟨hu.1.mono (by omega), hu.2⟩
theorem onStep_ok {a : List Int} {b c n : Int} (l : List Int) (h : Cur (a, b, c) n) (hn : n ≤ 1000000000) : Ok (s_l1Cur_onStep a b c l) fun r => Cur r.2 (n + 4) := by
  unfold s_l1Cur_onStep
  refine (pick_ok (n := n) _ h (by omega)).bind fun r hr => ?_
  refine (pick_ok (n := n + 2) _ hr.1 (by omega)).bind fun s hs => ?_
  exact Ok.ret (hs.1.mono (by omega))
theorem s_DrawPlaceAfter_ok {code : List Int} (h : Bytes code) : Ok (s_DrawPlaceAfter code) fun _ => True := by
  unfold s_DrawPlaceAfter
  refine (jumps_ok (n := 0) (cur0 h) (by omega)).bind fun r1 h1 => ?_
  refine (onStep_ok (n := 0 + 200) _ h1.1 (by omega)).bind fun r2 h2 => ?_
  refine (among_ok (n := 0 + 200 + 4) _ h2 (by simp) (by omega)).bind fun r3 h3 => ?_
  exact Ok.ret trivial
theorem s_DrawBallsMeet_ok {code : List Int} (h : Bytes code) : Ok (s_DrawBallsMeet code) fun _ => True := by
  unfold s_DrawBallsMeet
  refine (jumps_ok (n := 0) (cur0 h) (by omega)).bind fun r1 h1 => ?_
  refine (onStep_ok (n := 0 + 200) _ h1.1 (by omega)).bind fun r2 h2 => ?_
  refine (onStep_ok (n := 0 + 200 + 4) _ h2 (by omega)).bind fun r3 h3 => ?_
  exact Ok.ret trivial
end Go.Proofs.Ythenlapjhlljnaa.V
