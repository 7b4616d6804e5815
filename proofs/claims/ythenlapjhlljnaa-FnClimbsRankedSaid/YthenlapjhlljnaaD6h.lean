/- Functions of the program, as plain functions. No condition. -/
import Derived.Test.YthenlapjhlljnaaD4h
import Derived.Test.YthenlapjhlljnaaD6
set_option linter.unusedVariables false
set_option linter.unusedSimpArgs false
set_option maxRecDepth 100000
namespace Go.Proofs.Ythenlapjhlljnaa.V
open Go Go.Ev Go.Proofs
/-! ### draws: they end, whatever is given -/
def Ok {α : Type} (x : Option α) (P : α → Prop) : Prop := ∃ a, x = some a ∧ P a
theorem Ok.bind {α β : Type} {x : Option α} {f : α → Option β} {P : α → Prop} {Q : β → Prop} (h : Ok x P) (k : ∀ a, P a → Ok (f a) Q) : Ok (x.bind f) Q := by
  obtain ⟨a, rfl, ha⟩ := h
  exact k a ha
theorem Ok.cond {α : Type} {b : Bool} {x y : Option α} {P : α → Prop} (h : b = true → Ok x P) (k : b = false → Ok y P) : Ok (cond b x y) P := by
  cases b
  · exact k rfl
  · exact h rfl
theorem Ok.ret {α : Type} {a : α} {P : α → Prop} (h : P a) : Ok (some a) P := ⟨a, rfl, h⟩
theorem Ok.mono {α : Type} {x : Option α} {P Q : α → Prop} (h : Ok x P) (k : ∀ a, P a → Q a) : Ok x Q := by
  obtain ⟨a, e, ha⟩ := h
  exact ⟨a, e, k a ha⟩
def Bytes (l : List Int) : Prop := ∀ x, x ∈ l → 0 ≤ x ∧ x ≤ 255
/-- a cursor that has come so far at most -/
structure Cur (c : List Int × Int × Int) (n : Int) : Prop where
  by_ : Bytes c.1
  lo : 0 ≤ c.2.1
  hi : c.2.1 ≤ n
theorem Cur.mono {c : List Int × Int × Int} {n m : Int} (h : Cur c n) (hm : n ≤ m) : Cur c m := ⟨h.by_, h.lo, by have := h.hi; omega⟩
theorem bytes_rdk {l : List Int} (h : Bytes l) {i : Int} (h0 : 0 ≤ i) (h1 : i < l.length) : 0 ≤ rdk kuint8 l i ∧ rdk kuint8 l i ≤ 255 := by
  obtain ⟨k, rfl⟩ : ∃ k : Nat, i = k := ⟨i.toNat, by omega⟩
  have hk : k < l.length := by omega
  rw [rdk_get (k := kuint8) hk]
  exact h _ (List.getElem_mem hk)
theorem and255 (x : Int) : 0 ≤ IntKind.wrap IntKind.i64 (IntKind.wrap IntKind.u64 (((BitVec.ofInt (IntKind.bits IntKind.u64) x &&& BitVec.ofInt (IntKind.bits IntKind.u64) 255).toNat : Nat) : Int)) ∧
    IntKind.wrap IntKind.i64 (IntKind.wrap IntKind.u64 (((BitVec.ofInt (IntKind.bits IntKind.u64) x &&& BitVec.ofInt (IntKind.bits IntKind.u64) 255).toNat : Nat) : Int)) ≤ 255 := by
  have h : (BitVec.ofInt (IntKind.bits IntKind.u64) x &&& BitVec.ofInt (IntKind.bits IntKind.u64) 255).toNat ≤ 255 := by
    rw [BitVec.toNat_and]
    have e : (BitVec.ofInt (IntKind.bits IntKind.u64) 255).toNat = 255 := by decide
    rw [e]
    exact Nat.and_le_right
  generalize (BitVec.ofInt (IntKind.bits IntKind.u64) x &&& BitVec.ofInt (IntKind.bits IntKind.u64) 255).toNat = n at h
  have e1 : IntKind.wrap IntKind.u64 (n : Int) = n := by unfold IntKind.wrap; simp [IntKind.signed, IntKind.bits]; omega
  rw [e1, wrapI (by omega) (by omega)]
  omega
theorem next_ok {a : List Int} {b c n : Int} (h : Cur (a, b, c) n) (hn : n ≤ 1000000000000) : Ok (s_l1Cur_next a b c) fun r => Cur r.2 (n + 1) ∧ 0 ≤ r.1 ∧ r.1 ≤ 255 := by
  have h0 : 0 ≤ b := h.lo
  have h1 : b ≤ n := h.hi
  have hw : IntKind.wrap IntKind.i64 (b + 1) = b + 1 := wrapI (by omega) (by omega)
  have hc : Cur (a, b + 1, (0 : Int)) (n + 1) := ⟨h.by_, by show 0 ≤ b + 1; omega, by show b + 1 ≤ n + 1; omega⟩
  have hcc : ∀ s, Cur (a, b + 1, s) (n + 1) := fun s => ⟨hc.by_, hc.lo, hc.hi⟩
  unfold s_l1Cur_next
  rw [hw]
  refine Ok.cond (fun e => ?_) (fun e => ?_)
  · have e := of_decide_eq_true e
    rw [decide_eq_true h0, decide_eq_true e]
    simp only [cond_true]
    obtain ⟨g1, g2⟩ := bytes_rdk h.by_ h0 e
    have gw : IntKind.wrap IntKind.i64 (rdk kuint8 a b) = rdk kuint8 a b := wrapI (Int.le_trans (by decide) g1) (Int.le_trans g2 (by decide))
    refine Ok.cond (fun _ => Ok.ret ⟨hcc _, ?_⟩) (fun _ => Ok.ret ⟨hcc _, and255 _⟩)
    show 0 ≤ IntKind.wrap IntKind.i64 (rdk kuint8 a b) ∧ _ ≤ _
    rw [gw]; exact ⟨g1, g2⟩
  · refine Ok.cond (fun _ => Ok.ret ⟨hcc _, by show (0 : Int) ≤ 0 ∧ (0 : Int) ≤ 255; omega⟩) (fun _ => Ok.ret ⟨hcc _, and255 _⟩)
theorem tmodP {a b : Int} (h : 0 ≤ a) (hb : 0 < b) : 0 ≤ Int.tmod a b ∧ Int.tmod a b < b := by
  rw [Int.tmod_eq_emod_of_nonneg h]
  exact ⟨Int.emod_nonneg a (by omega), Int.emod_lt_of_pos a hb⟩
theorem pick_ok {a : List Int} {b c n : Int} (k : Int) (h : Cur (a, b, c) n) (hn : n ≤ 100000000000) : Ok (s_l1Cur_pick a b c k) fun r => Cur r.2 (n + 2) ∧ 0 ≤ r.1 ∧ (r.1 < k ∨ r.1 = 0) := by
  unfold s_l1Cur_pick
  refine Ok.cond (fun _ => Ok.ret ⟨h.mono (by omega), by show (0 : Int) ≤ 0; omega, .inr rfl⟩) (fun e => ?_)
  have e := of_decide_eq_false e
  have hk : (k == 0) = false := by rw [beq_eq_false_iff_ne]; omega
  refine (next_ok h (by omega)).bind fun r hr => ?_
  refine Ok.cond (fun e2 => ?_) (fun e2 => ?_)
  · refine (next_ok (n := n + 1) hr.1 (by omega)).bind fun s hs => ?_
    rw [hk, cond_false, wrapI (n := r.1 * 256) (by omega) (by omega), wrapI (by omega) (by omega)]
    have := tmodP (a := r.1 * 256 + s.1) (b := k) (by omega) (by omega)
    exact Ok.ret ⟨hs.1.mono (by omega), this.1, .inl this.2⟩
  · rw [hk, cond_false]
    have := tmodP (a := r.1) (b := k) hr.2.1 (by omega)
    exact Ok.ret ⟨hr.1.mono (by omega), this.1, .inl this.2⟩
theorem one_ok {a : List Int} {b c n : Int} (k : Int) (h : Cur (a, b, c) n) (hn : n ≤ 100000000000) : Ok (s_l1Cur_one a b c k) fun r => Cur r.2 (n + 2) := by
  unfold s_l1Cur_one
  exact (pick_ok k h hn).bind fun r hr => Ok.ret hr.1
theorem among_ok {a : List Int} {b c n : Int} (l : List Int) (h : Cur (a, b, c) n) (hl : l ≠ []) (hn : n ≤ 100000000000) : Ok (s_l1Cur_among a b c l) fun r => Cur r.2 (n + 2) ∧ r.1 ∈ l := by
  unfold s_l1Cur_among
  have hp : 0 < l.length := List.length_pos_iff.2 hl
  refine (pick_ok _ h hn).bind fun r hr => ?_
  have h1 : r.1 < (l.length : Int) := by omega
  rw [decide_eq_true hr.2.1, decide_eq_true h1]
  refine Ok.ret ⟨hr.1, ?_⟩
  obtain ⟨k, hk⟩ : ∃ k : Nat, r.1 = k := ⟨r.1.toNat, by omega⟩
  have hkl : k < l.length := by omega
  show rdk kint l r.1 ∈ l
  rw [hk, rdk_get (k := kint) hkl]
  exact List.getElem_mem hkl
theorem bytes_wf {l : List Int} (h : Wf kSuint8 l) : Bytes l := fun x hx => by
  have h1 : (Lit.int IntKind.u8 x).wf = true := h.2 x hx
  simp only [Lit.wf, Bool.and_eq_true, decide_eq_true_eq] at h1
  have e1 : IntKind.u8.min = 0 := by decide
  have e2 : IntKind.u8.max = 255 := by decide
  omega
theorem cur0 {l : List Int} (h : Bytes l) : Cur (l, 0, 0) 0 := ⟨h, Int.le_refl _, Int.le_refl _⟩
/-! ### drawn stairs -/
theorem sure2_ok {b2 : Int} (r4 r5 r6 : List Int) (b1 : Int) : ∀ (d k : Nat) (a : List Int) (b c n : Int) (r7 : List Int), b2 ≤ k + d → k + d ≤ 5000 → r7.length ≤ k → Cur (a, b, c) n → n + 2 * d ≤ 10000000000 →
    Ok (s_l1Cur_sureStairs_L2 b c b1 b2 a r4 r5 r6 r7 k) fun r => Cur r.2 (n + 2 * d) ∧ r.1.1 = b2 ∧ r.1.2.1 = r6 ∧ r.1.2.2.length ≤ 5000
  | 0, k, a, b, c, n, r7, h1, h2, h3, h4, h5 => by
    have : ¬ ((k : Int) < b2) := by omega
    rw [s_l1Cur_sureStairs_u2, s_l1Cur_sureStairs_t2, decide_eq_false this]
    exact Ok.ret ⟨h4.mono (by omega), rfl, rfl, by simp only; omega⟩
  | d + 1, k, a, b, c, n, r7, h1, h2, h3, h4, h5 => by
    have hw : IntKind.wrap .i64 ((k : Int) + 1) = ((k + 1 : Nat) : Int) := by rw [wrapI (by omega) (by omega)]; omega
    have hb : Nat.ble (r7.length + 1) 4294967296 = true := by rw [ble_dec]; exact decide_eq_true (by omega)
    rw [s_l1Cur_sureStairs_u2, s_l1Cur_sureStairs_t2, hw, hb]
    refine Ok.cond (fun _ => ?_) (fun _ => Ok.ret ⟨h4.mono (by omega), rfl, rfl, by simp only; omega⟩)
    refine (one_ok 6 h4 (by omega)).bind fun r hr => ?_
    refine Ok.cond (fun _ => ?_) (fun _ => ?_)
    · exact (sure2_ok r4 r5 r6 b1 d (k + 1) _ _ _ (n + 2) _ (by omega) (by omega) (by simp; omega) hr (by omega)).mono fun s hs => ⟨hs.1.mono (by omega), hs.2⟩
    · exact (sure2_ok r4 r5 r6 b1 d (k + 1) _ _ _ (n + 2) _ (by omega) (by omega) (by omega) hr (by omega)).mono fun s hs => ⟨hs.1.mono (by omega), hs.2⟩
theorem sure1_ok {b2 : Int} (hb2 : b2 ≤ 2000) (r4 r5 r7 : List Int) (hr7 : r7.length ≤ 1) (b1 : Int) : ∀ (d k : Nat) (a : List Int) (b c n : Int) (r6 : List Int), k + d = 5 → r6.length ≤ k → Cur (a, b, c) n → n + 2 * d ≤ 1000000000 →
    Ok (s_l1Cur_sureStairs_L1 b c b1 b2 a r4 r5 r6 r7 k) fun r => Cur r.2 (n + 2 * d + 4000) ∧ r.1.1 = b2 ∧ r.1.2.1.length ≤ 5 ∧ r.1.2.2.length ≤ 5000
  | 0, k, a, b, c, n, r6, h1, h2, h3, h4 => by
    have : ¬ ((k : Int) ≤ 4) := by omega
    rw [s_l1Cur_sureStairs_u1, s_l1Cur_sureStairs_t1, decide_eq_false this]
    simp only [cond_false]
    refine Ok.cond (fun _ => ?_) (fun _ => ?_)
    · exact (sure2_ok r4 r5 [1, 2] b1 2000 1 a b c n r7 (by omega) (by omega) hr7 h3 (by omega)).mono fun s hs => ⟨hs.1.mono (by omega), hs.2.1, by rw [hs.2.2.1]; simp, hs.2.2.2⟩
    · exact (sure2_ok r4 r5 r6 b1 2000 1 a b c n r7 (by omega) (by omega) hr7 h3 (by omega)).mono fun s hs => ⟨hs.1.mono (by omega), hs.2.1, by rw [hs.2.2.1]; omega, hs.2.2.2⟩
  | d + 1, k, a, b, c, n, r6, h1, h2, h3, h4 => by
    have c1 : (k : Int) ≤ 4 := by omega
    have hw : IntKind.wrap .i64 ((k : Int) + 1) = ((k + 1 : Nat) : Int) := by rw [wrapI (by omega) (by omega)]; omega
    have hb : Nat.ble (r6.length + 1) 4294967296 = true := by rw [ble_dec]; exact decide_eq_true (by omega)
    rw [s_l1Cur_sureStairs_u1, s_l1Cur_sureStairs_t1, hw, hb, decide_eq_true c1]
    simp only [cond_true]
    refine (one_ok 2 h3 (by omega)).bind fun r hr => ?_
    refine Ok.cond (fun _ => ?_) (fun _ => ?_)
    · exact (sure1_ok hb2 r4 r5 r7 hr7 b1 d (k + 1) _ _ _ (n + 2) _ (by omega) (by simp; omega) hr (by omega)).mono fun s hs => ⟨hs.1.mono (by omega), hs.2⟩
    · exact (sure1_ok hb2 r4 r5 r7 hr7 b1 d (k + 1) _ _ _ (n + 2) _ (by omega) (by omega) hr (by omega)).mono fun s hs => ⟨hs.1.mono (by omega), hs.2⟩
theorem sureStairs_ok {a : List Int} {b c n : Int} (m : Int) (hm : m ≤ 2000) (h : Cur (a, b, c) n) (hn : n ≤ 100000000) : Ok (s_l1Cur_sureStairs a b c m) fun r => Cur r.2 (n + 5000) ∧ r.1.2.1.length ≤ 5 ∧ r.1.2.2.length ≤ 5000 ∧ 1 ≤ r.1.1 ∧ r.1.1 ≤ 2001 := by
  unfold s_l1Cur_sureStairs s_l1Cur_sureStairs_t0
  refine (pick_ok m h (by omega)).bind fun r hr => ?_
  have hw : IntKind.wrap .i64 (1 + r.1) = 1 + r.1 := wrapI (by omega) (by omega)
  rw [hw]
  exact (sure1_ok (b2 := 1 + r.1) (by omega) [] [] [] (by simp) 0 4 1 _ _ _ (n + 2) [] rfl (by simp) hr.1 (by omega)).mono fun s hs => ⟨hs.1.mono (by omega), hs.2.2.1, hs.2.2.2, by omega, by omega⟩
/-! ### drawn stairs and climbs -/
theorem stairs_okC {a : List Int} {b c n : Int} (h : Cur (a, b, c) n) (hn : n ≤ 1000000) : Ok (s_l1Cur_stairs a b c) fun r => Cur r.2 (n + 6000) := by
  unfold s_l1Cur_stairs
  refine (sureStairs_ok 12 (by omega) h (by omega)).bind fun r hr => ?_
  refine (pick_ok 18 hr.1 (by omega)).bind fun q hq => ?_
  refine Ok.cond (fun _ => ?_) (fun _ => Ok.cond (fun _ => ?_) (fun _ => Ok.cond (fun _ => ?_) (fun _ => Ok.cond (fun _ => ?_) (fun _ => ?_))))
  · refine (among_ok _ hq.1 (by simp) (by omega)).bind fun p hp => Ok.ret (hp.1.mono (by omega))
  · refine (pick_ok 8 hq.1 (by omega)).bind fun p hp => ?_
    have h8 : p.1 < 8 := by omega
    rw [decide_eq_true hp.2.1, decide_eq_true h8]
    exact Ok.ret (hp.1.mono (by omega))
  · refine (among_ok _ hq.1 (by simp) (by omega)).bind fun p hp => ?_
    have hb : Nat.ble (r.1.2.2.length + 1) 4294967296 = true := by rw [ble_dec]; exact decide_eq_true (by omega)
    rw [hb]
    exact Ok.ret (hp.1.mono (by omega))
  · exact Ok.ret (hq.1.mono (by omega))
  · exact Ok.ret (hq.1.mono (by omega))
section
variable {N : Nat} {D B : List Int}
def chs (N : Nat) (D B : List Int) (p : Nat) (l : List Int) : List Int := l.filter fun d => decide (p + d.toNat ≤ N) && decide (0 < U N D B (p + d.toNat))
theorem cd_in (G : GoodS N D B) {p : Nat} (hp : p < N) (code : List Int) (b c : Int) (acc : List Int) (r8 r9 : List Int) :
    s_l1Cur_climbed_L2 b c 0 (N : Int) acc (ar (fun j => sat (U N D B j)) (N + 1)) [] D code r8 r9 B (p : Int) (D.length : Int) 0 =
    (s_l1Cur_among code b c (chs N D B p D)).bind fun r => bif Nat.ble (acc.length + 1) 4294967296 then s_l1Cur_climbed_L1 r.2.2.1 r.2.2.2 0 (N : Int) (acc ++ [r.1]) (ar (fun j => sat (U N D B j)) (N + 1)) r.2.1 r8 r9 D B (IntKind.wrap .i64 ((p : Int) + r.1)) else none := by
  have hN := G.n2
  have hD := G.d2
  have key := loop_inv (L := fun i r5 => s_l1Cur_climbed_L2 b c 0 (N : Int) acc (ar (fun j => sat (U N D B j)) (N + 1)) r5 D code r8 r9 B (p : Int) (D.length : Int) (i : Int)) (l := D)
    (e := fun l r5 => (s_l1Cur_among code b c (r5 ++ chs N D B p l)).bind fun r => bif Nat.ble (acc.length + 1) 4294967296 then s_l1Cur_climbed_L1 r.2.2.1 r.2.2.2 0 (N : Int) (acc ++ [r.1]) (ar (fun j => sat (U N D B j)) (N + 1)) r.2.1 r8 r9 D B (IntKind.wrap .i64 ((p : Int) + r.1)) else none)
    (P := fun l r5 => (∀ d, d ∈ l → 1 ≤ d ∧ d ≤ 9) ∧ r5.length + l.length ≤ 5) ?_ ?_ [] ⟨G.db, by simpa using hD⟩
  · exact key
  · rintro r5 ⟨_, p1⟩
    show s_l1Cur_climbed_L2 b c 0 (N : Int) acc (ar (fun j => sat (U N D B j)) (N + 1)) r5 D code r8 r9 B (p : Int) (D.length : Int) (D.length : Int) = _
    rw [s_l1Cur_climbed_u2, s_l1Cur_climbed_t2, decide_eq_false (show ¬ ((D.length : Int) < D.length) by omega), show chs N D B p [] = [] from rfl, List.append_nil]
    rfl
  · rintro i hi r5 ⟨p1, p2⟩
    have hd := p1 D[i] List.mem_cons_self
    have hrd := rdk_get (k := kint) hi
    have c1 : (i : Int) < D.length := by omega
    have hw1 : IntKind.wrap .i64 ((i : Int) + 1) = ((i + 1 : Nat) : Int) := by rw [wrapI (by omega) (by omega)]; omega
    rw [List.length_cons] at p2
    generalize D[i] = x at *
    obtain ⟨d, rfl, d1, d2⟩ := natOf hd
    have hw2 : IntKind.wrap .i64 ((p : Int) + (d : Int)) = ((p + d : Nat) : Int) := by rw [wrapI (by omega) (by omega)]; omega
    have hb : Nat.ble (r5.length + 1) 4294967296 = true := by rw [Nat.ble_eq]; omega
    have hch : chs N D B p ((d : Int) :: D.drop (i + 1)) = (if p + d ≤ N ∧ 0 < U N D B (p + d) then [(d : Int)] else []) ++ chs N D B p (D.drop (i + 1)) := by
      unfold chs
      rw [List.filter_cons, Int.toNat_natCast]
      by_cases c1 : p + d ≤ N ∧ 0 < U N D B (p + d)
      · rw [if_pos c1, decide_eq_true c1.1, decide_eq_true c1.2]; rfl
      · rw [if_neg c1]
        have : (decide (p + d ≤ N) && decide (0 < U N D B (p + d))) = false := by
          rw [Bool.eq_false_iff]; intro h
          simp only [Bool.and_eq_true, decide_eq_true_iff] at h
          exact c1 h
        rw [this]; rfl
    rw [hch, ← List.append_assoc]
    refine ⟨r5 ++ (if p + d ≤ N ∧ 0 < U N D B (p + d) then [(d : Int)] else []), ?_, ⟨fun y hy => p1 y (List.mem_cons_of_mem _ hy), ?_⟩, rfl⟩
    · show s_l1Cur_climbed_L2 b c 0 (N : Int) acc (ar (fun j => sat (U N D B j)) (N + 1)) r5 D code r8 r9 B (p : Int) (D.length : Int) (i : Int) =
        s_l1Cur_climbed_L2 b c 0 (N : Int) acc (ar (fun j => sat (U N D B j)) (N + 1)) (r5 ++ (if p + d ≤ N ∧ 0 < U N D B (p + d) then [(d : Int)] else [])) D code r8 r9 B (p : Int) (D.length : Int) ((i + 1 : Nat) : Int)
      rw [s_l1Cur_climbed_u2 b c 0 (N : Int) acc (ar (fun j => sat (U N D B j)) (N + 1)) r5 D code r8 r9 B (p : Int) (D.length : Int) (i : Int), s_l1Cur_climbed_t2, decide_eq_true c1, decide_eq_true (Int.natCast_nonneg i), hrd, hw1, hw2, hb]
      by_cases e1 : p + d ≤ N
      · rw [decide_eq_true (show ((p + d : Nat) : Int) ≤ N by omega), ar_len, ar_rdk (show p + d < N + 1 by omega), decide_eq_true (Int.natCast_nonneg (p + d)), decide_eq_true (show ((p + d : Nat) : Int) < ((N + 1 : Nat) : Int) by omega), decide_eq_decide.2 (show sat (U N D B (p + d)) > 0 ↔ 0 < U N D B (p + d) from sat_pos)]
        by_cases e2 : 0 < U N D B (p + d)
        · rw [if_pos ⟨e1, e2⟩, decide_eq_true e2]; rfl
        · rw [if_neg (fun h => e2 h.2), decide_eq_false e2, List.append_nil]; rfl
      · rw [if_neg (fun h => e1 h.1), decide_eq_false (show ¬ ((p + d : Nat) : Int) ≤ N by omega), List.append_nil]; rfl
    · rw [List.length_append]
      by_cases c1 : p + d ≤ N ∧ 0 < U N D B (p + d)
      · rw [if_pos c1]; simp only [List.length_cons, List.length_nil]; omega
      · rw [if_neg c1]; simp only [List.length_nil]; omega
theorem end_ok {a : List Int} {b c n : Int} (st : Int × List Int × List Int) {acc : List Int} (ha : acc.length ≤ 60) (h : Cur (a, b, c) n) (hn : n ≤ 100000000) :
    Ok (Option.bind (s_l1Cur_one a b c 12) fun r => bif r.1 then Option.bind (s_l1Cur_among r.2.1 r.2.2.1 r.2.2.2 [-1, 0, 1, 4611686018427387904]) fun r => bif Nat.ble (acc.length + 1) 4294967296 then some (st, acc ++ [r.1], r.2.1, r.2.2.1, r.2.2.2) else none
      else some (st, acc, r.2.1, r.2.2.1, r.2.2.2)) fun r => r.2.1.length ≤ 61 := by
  refine (one_ok 12 h (by omega)).bind fun r hr => ?_
  refine Ok.cond (fun _ => ?_) (fun _ => Ok.ret (by show acc.length ≤ 61; omega))
  refine (among_ok _ hr (by simp) (by omega)).bind fun q hq => ?_
  have hb : Nat.ble (acc.length + 1) 4294967296 = true := by rw [ble_dec]; exact decide_eq_true (by omega)
  rw [hb]
  exact Ok.ret (by show (acc ++ [q.1]).length ≤ 61; rw [List.length_append]; simp; omega)
theorem climb1_ok (G : GoodS N D B) (r8 r9 : List Int) : ∀ (e p : Nat) (acc code : List Int) (b c n : Int), p ≤ N → N - p ≤ e → acc.length ≤ p → Cur (code, b, c) n → n + 2 * e ≤ 10000000 →
    Ok (s_l1Cur_climbed_L1 b c 0 (N : Int) acc (ar (fun j => sat (U N D B j)) (N + 1)) code r8 r9 D B (p : Int)) fun r => r.2.1.length ≤ 61
  | e, p, acc, code, b, c, n, hp, he, ha, h, hn => by
    have hN := G.n2
    rw [s_l1Cur_climbed_u1, s_l1Cur_climbed_t1]
    by_cases c0 : p = N
    · rw [decide_eq_false (show ¬ (p : Int) < N by omega)]
      exact end_ok ((N : Int), D, B) (by omega) h (by omega)
    · rw [decide_eq_true (show (p : Int) < N by omega), decide_eq_true (Int.natCast_nonneg p), ar_len, ar_rdk (show p < N + 1 by omega), decide_eq_true (show (p : Int) < ((N + 1 : Nat) : Int) by omega), decide_eq_decide.2 (show sat (U N D B p) > 0 ↔ 0 < U N D B p from sat_pos)]
      by_cases c1 : 0 < U N D B p
      · rw [decide_eq_true c1]
        simp only [cond_true]
        rw [cd_in G (show p < N by omega)]
        obtain ⟨e, rfl⟩ : ∃ f, e = f + 1 := ⟨e - 1, by omega⟩
        have hne : chs N D B p D ≠ [] := by
          have c2 := c1
          rw [U_rec G (by omega)] at c2
          obtain ⟨d, hd, hg⟩ := sm_pos (fun d _ => by
            unfold gU
            by_cases c : p + d.toNat ≤ N
            · rw [if_pos c, if_neg (U_nbrk G hp c1)]; exact U_nn G c
            · rw [if_neg c]; exact Int.le_refl _) c2
          unfold gU at hg
          by_cases c : p + d.toNat ≤ N
          · rw [if_pos c, if_neg (U_nbrk G hp c1)] at hg
            intro hz
            have : d ∈ chs N D B p D := List.mem_filter.2 ⟨hd, by rw [decide_eq_true c, decide_eq_true hg]; rfl⟩
            rw [hz] at this
            exact absurd this List.not_mem_nil
          · rw [if_neg c] at hg; omega
        refine (among_ok _ h hne (by omega)).bind fun q hq => ?_
        have hb : Nat.ble (acc.length + 1) 4294967296 = true := by rw [ble_dec]; exact decide_eq_true (by omega)
        obtain ⟨m1, m2⟩ := List.mem_filter.1 hq.2
        simp only [Bool.and_eq_true, decide_eq_true_iff] at m2
        have hd := (G.db _ m1)
        have hw : IntKind.wrap .i64 ((p : Int) + q.1) = ((p + q.1.toNat : Nat) : Int) := by rw [wrapI (by omega) (by omega)]; omega
        rw [hb, hw]
        exact climb1_ok G r8 r9 e (p + q.1.toNat) (acc ++ [q.1]) q.2.1 q.2.2.1 q.2.2.2 (n + 2) m2.1 (by omega) (by rw [List.length_append]; simp; omega) hq.1 (by omega)
      · rw [decide_eq_false c1]
        exact end_ok ((N : Int), D, B) (by omega) h (by omega)
  termination_by e => e
end
theorem climbed_ok {a : List Int} {b c n : Int} (h : Cur (a, b, c) n) (hn : n ≤ 1000000) : Ok (s_l1Cur_climbed a b c) fun r => r.2.1.length ≤ 61 := by
  unfold s_l1Cur_climbed s_l1Cur_climbed_t0
  refine (stairs_okC h hn).bind fun r hr => ?_
  cases hg : s_clGood r.1.1 r.1.2.1 r.1.2.2
  · refine (one_ok 12 hr (by omega)).bind fun q hq => ?_
    refine Ok.cond (fun _ => ?_) (fun _ => Ok.ret (by simp))
    exact (among_ok _ hq (by simp) (by omega)).bind fun p hp => Ok.ret (by simp)
  · obtain ⟨N, hN, G⟩ := goodS_of hg
    rw [hN, ways_eq G]
    exact climb1_ok G [] [] N 0 [] r.2.1 r.2.2.1 r.2.2.2 _ (by omega) (by omega) (by simp) hr (by have := G.n2; omega)
theorem drawRoc_ok {code : List Int} (h : Bytes code) : Ok (s_DrawRankOfClimb code) fun r => r.2.length ≤ 61 := by
  unfold s_DrawRankOfClimb s_DrawIsClimb
  refine Ok.bind (P := fun r => r.2.length ≤ 61) ?_ fun r hr => Ok.ret hr
  exact (climbed_ok (cur0 h) (by omega)).bind fun r hr => Ok.ret hr
theorem drawCor_ok {code : List Int} (h : Bytes code) : Ok (s_DrawClimbOfRank code) fun _ => True := by
  unfold s_DrawClimbOfRank
  refine (stairs_okC (cur0 h) (by omega)).bind fun r hr => ?_
  exact (among_ok _ hr (by simp) (by omega)).bind fun q hq => Ok.ret trivial
theorem drawCbs_ok {code : List Int} (h : Bytes code) : Ok (s_DrawCountByStrides code) fun _ => True := by
  unfold s_DrawCountByStrides
  refine (stairs_okC (cur0 h) (by omega)).bind fun r hr => ?_
  exact (among_ok _ hr (by simp) (by omega)).bind fun q hq => Ok.ret trivial
end Go.Proofs.Ythenlapjhlljnaa.V
