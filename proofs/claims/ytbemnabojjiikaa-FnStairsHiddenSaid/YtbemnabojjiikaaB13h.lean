/- Functions of the program, as plain functions. No condition. -/
import Derived.Test.YtbemnabojjiikaaB13
import Derived.Test.YtbemnabojjiikaaB12h
set_option linter.unusedVariables false
set_option linter.unusedSimpArgs false
set_option maxRecDepth 100000
namespace Go.Proofs.Ytbemnabojjiikaa.V
open Go Go.Ev Go.Proofs
/-! ### draws: they end, whatever is given -/
def Ok {α : Type} (x : Option α) (P : α → Prop) : Prop := ∃ a, x = some a ∧ P a
theorem Ok.bind {α β : Type} {x : Option α} {f : α → Option β} {P : α → Prop} {Q : β → Prop} (h : Ok x P) (k : ∀ a, P a → Ok (f a) Q) : Ok (x.bind f) Q := by
  obtain ⟨a, rfl, ha⟩ := h
  exact k a ha
theorem Ok.cond {α : Type} {b : Bool} {x y : Option α} {P : α → Prop} (h : b = true → Ok x P) (k : b = false → Ok y P) : Ok (cond b x y) P := by
  cases b
  · exact k rfl
  · exact h rfl
theorem Ok.ret {α : Type} {a : α} {P : α → Prop} (h : P a) : Ok (some a) P := ⟨a, rfl, h⟩
theorem Ok.mono {α : Type} {x : Option α} {P Q : α → Prop} (h : Ok x P) (k : ∀ a, P a → Q a) : Ok x Q := by
  obtain ⟨a, e, ha⟩ := h
  exact ⟨a, e, k a ha⟩
def Bytes (l : List Int) : Prop := ∀ x, x ∈ l → 0 ≤ x ∧ x ≤ 255
/-- a cursor that has come so far at most -/
structure Cur (c : List Int × Int × Int) (n : Int) : Prop where
  by_ : Bytes c.1
  lo : 0 ≤ c.2.1
  hi : c.2.1 ≤ n
theorem Cur.mono {c : List Int × Int × Int} {n m : Int} (h : Cur c n) (hm : n ≤ m) : Cur c m := ⟨h.by_, h.lo, by have := h.hi; omega⟩
theorem bytes_rdk {l : List Int} (h : Bytes l) {i : Int} (h0 : 0 ≤ i) (h1 : i < l.length) : 0 ≤ rdk kuint8 l i ∧ rdk kuint8 l i ≤ 255 := by
  obtain ⟨k, rfl⟩ : ∃ k : Nat, i = k := ⟨i.toNat, by omega⟩
  have hk : k < l.length := by omega
  rw [rdk_get (k := kuint8) hk]
  exact h _ (List.getElem_mem hk)
theorem and255 (x : Int) : 0 ≤ IntKind.wrap IntKind.i64 (IntKind.wrap IntKind.u64 (((BitVec.ofInt (IntKind.bits IntKind.u64) x &&& BitVec.ofInt (IntKind.bits IntKind.u64) 255).toNat : Nat) : Int)) ∧
    IntKind.wrap IntKind.i64 (IntKind.wrap IntKind.u64 (((BitVec.ofInt (IntKind.bits IntKind.u64) x &&& BitVec.ofInt (IntKind.bits IntKind.u64) 255).toNat : Nat) : Int)) ≤ 255 := by
  have h : (BitVec.ofInt (IntKind.bits IntKind.u64) x &&& BitVec.ofInt (IntKind.bits IntKind.u64) 255).toNat ≤ 255 := by
    rw [BitVec.toNat_and]
    have e : (BitVec.ofInt (IntKind.bits IntKind.u64) 255).toNat = 255 := by decide
    rw [e]
    exact Nat.and_le_right
  generalize (BitVec.ofInt (IntKind.bits IntKind.u64) x &&& BitVec.ofInt (IntKind.bits IntKind.u64) 255).toNat = n at h
  have e1 : IntKind.wrap IntKind.u64 (n : Int) = n := by unfold IntKind.wrap; simp [IntKind.signed, IntKind.bits]; omega
  rw [e1, wrapI (by omega) (by omega)]
  omega
theorem next_ok {a : List Int} {b c n : Int} (h : Cur (a, b, c) n) (hn : n ≤ 1000000000000) : Ok (s_l1Cur_next a b c) fun r => Cur r.2 (n + 1) ∧ 0 ≤ r.1 ∧ r.1 ≤ 255 := by
  have h0 : 0 ≤ b := h.lo
  have h1 : b ≤ n := h.hi
  have hw : IntKind.wrap IntKind.i64 (b + 1) = b + 1 := wrapI (by omega) (by omega)
  have hc : Cur (a, b + 1, (0 : Int)) (n + 1) := ⟨h.by_, by show 0 ≤ b + 1; omega, by show b + 1 ≤ n + 1; omega⟩
  have hcc : ∀ s, Cur (a, b + 1, s) (n + 1) := fun s => ⟨hc.by_, hc.lo, hc.hi⟩
  unfold s_l1Cur_next
  rw [hw]
  refine Ok.cond (fun e => ?_) (fun e => ?_)
  · have e := of_decide_eq_true e
    rw [decide_eq_true h0, decide_eq_true e]
    simp only [cond_true]
    obtain ⟨g1, g2⟩ := bytes_rdk h.by_ h0 e
    have gw : IntKind.wrap IntKind.i64 (rdk kuint8 a b) = rdk kuint8 a b := wrapI (Int.le_trans (by decide) g1) (Int.le_trans g2 (by decide))
    refine Ok.cond (fun _ => Ok.ret ⟨hcc _, ?_⟩) (fun _ => Ok.ret ⟨hcc _, and255 _⟩)
    show 0 ≤ IntKind.wrap IntKind.i64 (rdk kuint8 a b) ∧ _ ≤ _
    rw [gw]; exact ⟨g1, g2⟩
  · refine Ok.cond (fun _ => Ok.ret ⟨hcc _, by show (0 : Int) ≤ 0 ∧ (0 : Int) ≤ 255; omega⟩) (fun _ => Ok.ret ⟨hcc _, and255 _⟩)
theorem tmodP {a b : Int} (h : 0 ≤ a) (hb : 0 < b) : 0 ≤ Int.tmod a b ∧ Int.tmod a b < b := by
  rw [Int.tmod_eq_emod_of_nonneg h]
  exact ⟨Int.emod_nonneg a (by omega), Int.emod_lt_of_pos a hb⟩
theorem pick_ok {a : List Int} {b c n : Int} (k : Int) (h : Cur (a, b, c) n) (hn : n ≤ 100000000000) : Ok (s_l1Cur_pick a b c k) fun r => Cur r.2 (n + 2) ∧ 0 ≤ r.1 ∧ (r.1 < k ∨ r.1 = 0) := by
  unfold s_l1Cur_pick
  refine Ok.cond (fun _ => Ok.ret ⟨h.mono (by omega), by show (0 : Int) ≤ 0; omega, .inr rfl⟩) (fun e => ?_)
  have e := of_decide_eq_false e
  have hk : (k == 0) = false := by rw [beq_eq_false_iff_ne]; omega
  refine (next_ok h (by omega)).bind fun r hr => ?_
  refine Ok.cond (fun e2 => ?_) (fun e2 => ?_)
  · refine (next_ok (n := n + 1) hr.1 (by omega)).bind fun s hs => ?_
    rw [hk, cond_false, wrapI (n := r.1 * 256) (by omega) (by omega), wrapI (by omega) (by omega)]
    have := tmodP (a := r.1 * 256 + s.1) (b := k) (by omega) (by omega)
    exact Ok.ret ⟨hs.1.mono (by omega), this.1, .inl this.2⟩
  · rw [hk, cond_false]
    have := tmodP (a := r.1) (b := k) hr.2.1 (by omega)
    exact Ok.ret ⟨hr.1.mono (by omega), this.1, .inl this.2⟩
theorem one_ok {a : List Int} {b c n : Int} (k : Int) (h : Cur (a, b, c) n) (hn : n ≤ 100000000000) : Ok (s_l1Cur_one a b c k) fun r => Cur r.2 (n + 2) := by
  unfold s_l1Cur_one
  exact (pick_ok k h hn).bind fun r hr => Ok.ret hr.1
theorem among_ok {a : List Int} {b c n : Int} (l : List Int) (h : Cur (a, b, c) n) (hl : l ≠ []) (hn : n ≤ 100000000000) : Ok (s_l1Cur_among a b c l) fun r => Cur r.2 (n + 2) ∧ r.1 ∈ l := by
  unfold s_l1Cur_among
  have hp : 0 < l.length := List.length_pos_iff.2 hl
  refine (pick_ok _ h hn).bind fun r hr => ?_
  have h1 : r.1 < (l.length : Int) := by omega
  rw [decide_eq_true hr.2.1, decide_eq_true h1]
  refine Ok.ret ⟨hr.1, ?_⟩
  obtain ⟨k, hk⟩ : ∃ k : Nat, r.1 = k := ⟨r.1.toNat, by omega⟩
  have hkl : k < l.length := by omega
  show rdk kint l r.1 ∈ l
  rw [hk, rdk_get (k := kint) hkl]
  exact List.getElem_mem hkl
theorem bytes_wf {l : List Int} (h : Wf kSuint8 l) : Bytes l := fun x hx => by
  have h1 : (Lit.int IntKind.u8 x).wf = true := h.2 x hx
  simp only [Lit.wf, Bool.and_eq_true, decide_eq_true_eq] at h1
  have e1 : IntKind.u8.min = 0 := by decide
  have e2 : IntKind.u8.max = 255 := by decide
  omega
theorem cur0 {l : List Int} (h : Bytes l) : Cur (l, 0, 0) 0 := ⟨h, Int.le_refl _, Int.le_refl _⟩
/-! ### drawn stairs -/
theorem sure2_ok {b2 : Int} (r4 r5 r6 : List Int) (b1 : Int) : ∀ (d k : Nat) (a : List Int) (b c n : Int) (r7 : List Int), b2 ≤ k + d → k + d ≤ 5000 → r7.length ≤ k → Cur (a, b, c) n → n + 2 * d ≤ 10000000000 →
    Ok (s_l1Cur_sureStairs_L2 b c b1 b2 a r4 r5 r6 r7 k) fun r => Cur r.2 (n + 2 * d) ∧ r.1.1 = b2 ∧ r.1.2.1 = r6 ∧ r.1.2.2.length ≤ 5000
  | 0, k, a, b, c, n, r7, h1, h2, h3, h4, h5 => by
    have : ¬ ((k : Int) < b2) := by omega
    rw [s_l1Cur_sureStairs_u2, s_l1Cur_sureStairs_t2, decide_eq_false this]
    exact Ok.ret ⟨h4.mono (by omega), rfl, rfl, by simp only; omega⟩
  | d + 1, k, a, b, c, n, r7, h1, h2, h3, h4, h5 => by
    have hw : IntKind.wrap .i64 ((k : Int) + 1) = ((k + 1 : Nat) : Int) := by rw [wrapI (by omega) (by omega)]; omega
    have hb : Nat.ble (r7.length + 1) 4294967296 = true := by rw [ble_dec]; exact decide_eq_true (by omega)
    rw [s_l1Cur_sureStairs_u2, s_l1Cur_sureStairs_t2, hw, hb]
    refine Ok.cond (fun _ => ?_) (fun _ => Ok.ret ⟨h4.mono (by omega), rfl, rfl, by simp only; omega⟩)
    refine (one_ok 6 h4 (by omega)).bind fun r hr => ?_
    refine Ok.cond (fun _ => ?_) (fun _ => ?_)
    · exact (sure2_ok r4 r5 r6 b1 d (k + 1) _ _ _ (n + 2) _ (by omega) (by omega) (by simp; omega) hr (by omega)).mono fun s hs => ⟨hs.1.mono (by omega), hs.2⟩
    · exact (sure2_ok r4 r5 r6 b1 d (k + 1) _ _ _ (n + 2) _ (by omega) (by omega) (by omega) hr (by omega)).mono fun s hs => ⟨hs.1.mono (by omega), hs.2⟩
theorem sure1_ok {b2 : Int} (hb2 : b2 ≤ 2000) (r4 r5 r7 : List Int) (hr7 : r7.length ≤ 1) (b1 : Int) : ∀ (d k : Nat) (a : List Int) (b c n : Int) (r6 : List Int), k + d = 5 → r6.length ≤ k → Cur (a, b, c) n → n + 2 * d ≤ 1000000000 →
    Ok (s_l1Cur_sureStairs_L1 b c b1 b2 a r4 r5 r6 r7 k) fun r => Cur r.2 (n + 2 * d + 4000) ∧ r.1.1 = b2 ∧ r.1.2.1.length ≤ 5 ∧ r.1.2.2.length ≤ 5000
  | 0, k, a, b, c, n, r6, h1, h2, h3, h4 => by
    have : ¬ ((k : Int) ≤ 4) := by omega
    rw [s_l1Cur_sureStairs_u1, s_l1Cur_sureStairs_t1, decide_eq_false this]
    simp only [cond_false]
    refine Ok.cond (fun _ => ?_) (fun _ => ?_)
    · exact (sure2_ok r4 r5 [1, 2] b1 2000 1 a b c n r7 (by omega) (by omega) hr7 h3 (by omega)).mono fun s hs => ⟨hs.1.mono (by omega), hs.2.1, by rw [hs.2.2.1]; simp, hs.2.2.2⟩
    · exact (sure2_ok r4 r5 r6 b1 2000 1 a b c n r7 (by omega) (by omega) hr7 h3 (by omega)).mono fun s hs => ⟨hs.1.mono (by omega), hs.2.1, by rw [hs.2.2.1]; omega, hs.2.2.2⟩
  | d + 1, k, a, b, c, n, r6, h1, h2, h3, h4 => by
    have c1 : (k : Int) ≤ 4 := by omega
    have hw : IntKind.wrap .i64 ((k : Int) + 1) = ((k + 1 : Nat) : Int) := by rw [wrapI (by omega) (by omega)]; omega
    have hb : Nat.ble (r6.length + 1) 4294967296 = true := by rw [ble_dec]; exact decide_eq_true (by omega)
    rw [s_l1Cur_sureStairs_u1, s_l1Cur_sureStairs_t1, hw, hb, decide_eq_true c1]
    simp only [cond_true]
    refine (one_ok 2 h3 (by omega)).bind fun r hr => ?_
    refine Ok.cond (fun _ => ?_) (fun _ => ?_)
    · exact (sure1_ok hb2 r4 r5 r7 hr7 b1 d (k + 1) _ _ _ (n + 2) _ (by omega) (by simp; omega) hr (by omega)).mono fun s hs => ⟨hs.1.mono (by omega), hs.2⟩
    · exact (sure1_ok hb2 r4 r5 r7 hr7 b1 d (k + 1) _ _ _ (n + 2) _ (by omega) (by omega) hr (by omega)).mono fun s hs => ⟨hs.1.mono (by omega), hs.2⟩
theorem sureStairs_ok {a : List Int} {b c n : Int} (m : Int) (hm : m ≤ 2000) (h : Cur (a, b, c) n) (hn : n ≤ 100000000) : Ok (s_l1Cur_sureStairs a b c m) fun r => Cur r.2 (n + 5000) ∧ r.1.2.1.length ≤ 5 ∧ r.1.2.2.length ≤ 5000 ∧ 1 ≤ r.1.1 ∧ r.1.1 ≤ 2001 := by
  unfold s_l1Cur_sureStairs s_l1Cur_sureStairs_t0
  refine (pick_ok m h (by omega)).bind fun r hr => ?_
  have hw : IntKind.wrap .i64 (1 + r.1) = 1 + r.1 := wrapI (by omega) (by omega)
  rw [hw]
  exact (sure1_ok (b2 := 1 + r.1) (by omega) [] [] [] (by simp) 0 4 1 _ _ _ (n + 2) [] rfl (by simp) hr.1 (by omega)).mono fun s hs => ⟨hs.1.mono (by omega), hs.2.2.1, hs.2.2.2, by omega, by omega⟩
theorem s_l1Cur_clue_ok {a : List Int} {b c n : Int} (h : Cur (a, b, c) n) (hn : n ≤ 10000000000) : Ok (s_l1Cur_clue a b c ) fun r => Cur r.2 (n + 16) := by
  unfold s_l1Cur_clue
  refine (pick_ok (n := n) _ h (by omega)).bind fun r1 h1 => ?_
  refine (pick_ok (n := n + 2) _ h1.1 (by omega)).bind fun r2 h2 => ?_
  refine (pick_ok (n := n + 2 + 2) _ h2.1 (by omega)).bind fun r3 h3 => ?_
  refine (pick_ok (n := n + 2 + 2 + 2) _ h3.1 (by omega)).bind fun r4 h4 => ?_
  refine Ok.cond (fun _ => ?_) (fun _ => ?_)
  · refine (pick_ok (n := n + 2 + 2 + 2 + 2) _ h4.1 (by omega)).bind fun r5 h5 => ?_
    refine (pick_ok (n := n + 2 + 2 + 2 + 2 + 2) _ h5.1 (by omega)).bind fun r6 h6 => ?_
    refine (one_ok (n := n + 2 + 2 + 2 + 2 + 2 + 2) _ h6.1 (by omega)).bind fun r7 h7 => ?_
    refine Ok.cond (fun _ => ?_) (fun _ => ?_)
    · refine (pick_ok (n := n + 2 + 2 + 2 + 2 + 2 + 2 + 2) _ h7 (by omega)).bind fun r8 h8 => ?_
      exact Ok.ret (h8.1.mono (by omega))
    · exact Ok.ret (h7.mono (by omega))
  · refine Ok.cond (fun _ => ?_) (fun _ => ?_)
    · refine (pick_ok (n := n + 2 + 2 + 2 + 2) _ h4.1 (by omega)).bind fun r9 h9 => ?_
      refine (pick_ok (n := n + 2 + 2 + 2 + 2 + 2) _ h9.1 (by omega)).bind fun r10 h10 => ?_
      refine (one_ok (n := n + 2 + 2 + 2 + 2 + 2 + 2) _ h10.1 (by omega)).bind fun r11 h11 => ?_
      refine Ok.cond (fun _ => ?_) (fun _ => ?_)
      · refine (pick_ok (n := n + 2 + 2 + 2 + 2 + 2 + 2 + 2) _ h11 (by omega)).bind fun r12 h12 => ?_
        exact Ok.ret (h12.1.mono (by omega))
      · exact Ok.ret (h11.mono (by omega))
    · refine (one_ok (n := n + 2 + 2 + 2 + 2) _ h4.1 (by omega)).bind fun r13 h13 => ?_
      refine Ok.cond (fun _ => ?_) (fun _ => ?_)
      · refine (pick_ok (n := n + 2 + 2 + 2 + 2 + 2) _ h13 (by omega)).bind fun r14 h14 => ?_
        exact Ok.ret (h14.1.mono (by omega))
      · exact Ok.ret (h13.mono (by omega))
theorem s_DrawIsClue_ok {code : List Int} (h : Bytes code) : Ok (s_DrawIsClue code) fun _ => True := by
  unfold s_DrawIsClue
  refine (one_ok (n := 0) _ (cur0 h) (by omega)).bind fun r1 h1 => ?_
  refine Ok.cond (fun _ => ?_) (fun _ => ?_)
  · refine (pick_ok (n := 0 + 2) _ h1 (by omega)).bind fun r2 h2 => ?_
    refine (pick_ok (n := 0 + 2 + 2) _ h2.1 (by omega)).bind fun r3 h3 => ?_
    refine (among_ok (n := 0 + 2 + 2 + 2) _ h3.1 (by simp) (by omega)).bind fun r4 h4 => ?_
    refine (among_ok (n := 0 + 2 + 2 + 2 + 2) _ h4.1 (by simp) (by omega)).bind fun r5 h5 => ?_
    exact Ok.ret trivial
  · refine (s_l1Cur_clue_ok (n := 0 + 2) h1 (by omega)).bind fun r6 h6 => ?_
    exact Ok.ret trivial
/-! ### drawn puzzles -/
theorem pz_strides : s_pzStrides = hidS := rfl
theorem hidden_ok {a : List Int} {b c n : Int} (h : Cur (a, b, c) n) (hn : n ≤ 100000000) : Ok (s_l1Cur_hidden a b c) fun r => Cur r.2 (n + 6) ∧ r.1 ∈ hidAll := by
  unfold s_l1Cur_hidden
  refine (pick_ok 7 h (by omega)).bind fun r hr => ?_
  have hl : (s_pzStrides.length : Int) = 7 := rfl
  rw [hl]
  refine (pick_ok 7 hr.1 (by omega)).bind fun q hq => ?_
  have q1 : q.1 < 7 := by omega
  rw [decide_eq_true hq.2.1, decide_eq_true q1, wrapI (n := 1 + r.1) (by omega) (by omega)]
  simp only [cond_true]
  refine (pick_ok (1 + r.1) hq.1 (by omega)).bind fun p hp => ?_
  obtain ⟨i, hi⟩ : ∃ i : Nat, r.1 = i := ⟨r.1.toNat, by omega⟩
  obtain ⟨j, hj⟩ : ∃ j : Nat, q.1 = j := ⟨q.1.toNat, by omega⟩
  obtain ⟨k, hk⟩ : ∃ k : Nat, p.1 = k := ⟨p.1.toNat, by omega⟩
  have hj7 : j < hidS.length := by show j < 7; omega
  have hmem : hidS[j] ∈ hidS := List.getElem_mem hj7
  have hls : hidS[j].length ≤ 4294967296 := by
    have : ∀ l, l ∈ hidS → l.length ≤ 3 := by decide
    have := this _ hmem; omega
  have e1 : (1 : Int) + r.1 = ((i + 1 : Nat) : Int) := by omega
  have e2 : s_pzStairs (1 + r.1) (rdk kSint s_pzStrides q.1) p.1 = some (mkH (i + 1) hidS[j] k) := by
    rw [hj, pz_strides, rdk_get (k := kSint) hj7, e1, hk]
    unfold s_pzStairs s_l1Own_n mkH
    rw [decide_eq_true hls]
    cases decide ((k : Int) > 0) <;> rfl
  have hin : mkH (i + 1) hidS[j] k ∈ hidAll := rowH_mem (n := i + 1) (k := k) (d := 1) (by omega) hmem (by omega) (by simp [rowH])
  rw [e2]
  exact Ok.ret ⟨hp.1.mono (by omega), hin⟩
theorem make_ok (a : Int) (b c : List Int) (n s : Int) : Ok (s_MakePuzzle a b c n s) fun r => r.1.length ≤ 6 ∧ (r.2 = true → (r.1.length : Int) = n) :=
  ⟨_, (MakePuzzle_both' a b c n s).1, makeN_len a b c n s, fun h => (makeN_made h).len⟩
theorem surePuzzle_ok {a : List Int} {b c n : Int} (m : Int) (hm : -1000 ≤ m ∧ m ≤ 1000) (h : Cur (a, b, c) n) (hn : n ≤ 10000000) : Ok (s_l1Cur_surePuzzle a b c m) fun r => Cur r.2 (n + 10) ∧ r.1.length ≤ 6 := by
  unfold s_l1Cur_surePuzzle
  refine (hidden_ok h (by omega)).bind fun r hr => ?_
  refine (pick_ok _ hr.1 (by omega)).bind fun q hq => ?_
  refine (pick_ok _ hq.1 (by omega)).bind fun p hp => ?_
  refine (make_ok _ _ _ _ _).bind fun s hs => ?_
  exact Ok.ret ⟨hp.1.mono (by omega), hs.1⟩
theorem puzzle1_ok (r4 : List (Int × Int × Int)) : ∀ (d : Nat) (a : List Int) (b c n : Int) (r5 : List (Int × Int × Int)), 8 ≤ r5.length + d → r5.length ≤ 8 → Cur (a, b, c) n → n + 2 * d ≤ 100000000 →
    Ok (s_l1Cur_puzzle_L1 b c a r4 r5) fun r => Cur r.2 (n + 2 * d + 2) ∧ r.1.length ≤ 8
  | 0, a, b, c, n, r5, h1, h2, h3, h4 => by
    rw [s_l1Cur_puzzle_u1, s_l1Cur_puzzle_t1]
    refine (pick_ok 2 h3 (by omega)).bind fun r hr => ?_
    have hw : IntKind.wrap .i64 (6 + r.1) = 6 + r.1 := wrapI (by omega) (by omega)
    have : ¬ ((r5.length : Int) < 6 + r.1) := by omega
    rw [hw, decide_eq_false this]
    exact Ok.ret ⟨hr.1.mono (by omega), h2⟩
  | d + 1, a, b, c, n, r5, h1, h2, h3, h4 => by
    rw [s_l1Cur_puzzle_u1, s_l1Cur_puzzle_t1]
    refine (pick_ok 2 h3 (by omega)).bind fun r hr => ?_
    have hw : IntKind.wrap .i64 (6 + r.1) = 6 + r.1 := wrapI (by omega) (by omega)
    have hb : Nat.ble (r5.length + 1) 4294967296 = true := by rw [ble_dec]; exact decide_eq_true (by omega)
    rw [hw, hb]
    by_cases h : (r5.length : Int) < 6 + r.1
    · rw [decide_eq_true h]
      exact (puzzle1_ok r4 d _ _ _ (n + 2) (r5 ++ [(4, 0, 5)]) (by simp; omega) (by simp; omega) hr.1 (by omega)).mono fun s hs => ⟨hs.1.mono (by omega), hs.2⟩
    · rw [decide_eq_false h]
      exact Ok.ret ⟨hr.1.mono (by omega), h2⟩
theorem puzzle_ok {a : List Int} {b c n : Int} (h : Cur (a, b, c) n) (hn : n ≤ 1000000) : Ok (s_l1Cur_puzzle a b c) fun r => Cur r.2 (n + 60) ∧ r.1.length ≤ 8 := by
  unfold s_l1Cur_puzzle s_l1Cur_puzzle_t0
  refine (surePuzzle_ok 5 (by omega) h (by omega)).bind fun r hr => ?_
  refine (pick_ok 12 hr.1 (by omega)).bind fun q hq => ?_
  have hb : Nat.ble (r.1.length + 1) 4294967296 = true := by rw [ble_dec]; exact decide_eq_true (by omega)
  rw [hb]
  have one : Ok ((s_l1Cur_clue q.2.1 q.2.2.1 q.2.2.2).bind fun r_2 => bif true then some (r.1 ++ [(r_2.1.1, r_2.1.2.1, r_2.1.2.2)], r_2.2.1, r_2.2.2.1, r_2.2.2.2) else none) fun r => Cur r.2 (n + 60) ∧ r.1.length ≤ 8 := by
    refine (s_l1Cur_clue_ok hq.1 (by omega)).bind fun p hp => ?_
    exact Ok.ret ⟨hp.mono (by omega), by simp; omega⟩
  refine Ok.cond (fun _ => one) (fun _ => Ok.cond (fun _ => one) (fun _ => Ok.cond (fun _ => ?_) (fun _ => ?_)))
  · exact (puzzle1_ok [] 8 _ _ _ (n + 12) r.1 (by omega) (by omega) (hq.1.mono (by omega)) (by omega)).mono fun s hs => ⟨hs.1.mono (by omega), hs.2⟩
  · exact Ok.ret ⟨hq.1.mono (by omega), by show r.1.length ≤ 8; omega⟩
theorem harder1_ok {s : Int × List Int × List Int} (hs : s ∈ hidAll) (r3 : List (Int × Int × Int)) : ∀ (d k : Nat) (r6 : List (Int × Int × Int)), k + d = 3 → r6.length ≤ 10 + k →
    Ok (s_DrawHarderPuzzle_L1 s.1 r3 s.2.1 s.2.2 r6 k) fun r => r.length ≤ 20
  | 0, k, r6, h1, h2 => by
    have : ¬ ((k : Int) < 3) := by omega
    have hb : Nat.ble (r6.length + 1) 4294967296 = true := by rw [ble_dec]; exact decide_eq_true (by omega)
    rw [s_DrawHarderPuzzle_u1, s_DrawHarderPuzzle_t1, decide_eq_false this, hb]
    simp only [cond_false]
    by_cases h : (s.2.2.length : Int) > 0
    · have h' : (0 : Int) < (s.2.2.length : Int) := by omega
      simp only [decide_eq_true h, decide_eq_true h', cond_true]
      exact Ok.ret (by simp; omega)
    · rw [decide_eq_false h]
      exact Ok.ret (by show r6.length ≤ 20; omega)
  | d + 1, k, r6, h1, h2 => by
    have c1 : (k : Int) < 3 := by omega
    have hw : IntKind.wrap .i64 ((k : Int) + 1) = ((k + 1 : Nat) : Int) := by rw [wrapI (by omega) (by omega)]; omega
    have hb : Nat.ble (r6.length + 1) 4294967296 = true := by rw [ble_dec]; exact decide_eq_true (by omega)
    rw [s_DrawHarderPuzzle_u1, s_DrawHarderPuzzle_t1, decide_eq_true c1, hb, hw]
    simp only [cond_true]
    have e : ∃ v, s_pzOf 2 k s.1 s.2.1 s.2.2 = some v := by
      unfold s_pzOf
      have : ((2 : Int) == 2) = true := rfl
      rw [this, pzValue_eq (mem_hidden hs) 2 _ (by omega)]
      exact ⟨_, rfl⟩
    obtain ⟨v, e⟩ := e
    rw [e]
    exact harder1_ok hs r3 d (k + 1) _ (by omega) (by simp; omega)
theorem drawHarder_ok {code : List Int} (h : Bytes code) : Ok (s_DrawHarderPuzzle code) fun r => r.length ≤ 20 := by
  unfold s_DrawHarderPuzzle s_DrawHarderPuzzle_t0
  refine (one_ok 4 (cur0 h) (by omega)).bind fun r hr => ?_
  refine Ok.cond (fun _ => ?_) (fun _ => ?_)
  · refine (puzzle_ok hr (by omega)).bind fun q hq => Ok.ret (by show q.1.length ≤ 20; omega)
  · refine (hidden_ok hr (by omega)).bind fun q hq => ?_
    refine (pick_ok 2 hq.1 (by omega)).bind fun p hp => ?_
    refine (pick_ok 10000 hp.1 (by omega)).bind fun t ht => ?_
    refine (make_ok _ _ _ _ _).bind fun m hm => ?_
    have hb : Nat.ble (m.1.length + 1) 4294967296 = true := by rw [ble_dec]; exact decide_eq_true (by omega)
    rw [hb]
    exact harder1_ok hq.2 [] 3 0 _ rfl (by simp; omega)
theorem stairs_ok {a : List Int} {b c n : Int} (h : Cur (a, b, c) n) (hn : n ≤ 1000000) : Ok (s_l1Cur_stairs a b c) fun r => Cur r.2 (n + 6000) := by
  unfold s_l1Cur_stairs
  refine (sureStairs_ok 12 (by omega) h (by omega)).bind fun r hr => ?_
  refine (pick_ok 18 hr.1 (by omega)).bind fun q hq => ?_
  refine Ok.cond (fun _ => ?_) (fun _ => Ok.cond (fun _ => ?_) (fun _ => Ok.cond (fun _ => ?_) (fun _ => Ok.cond (fun _ => ?_) (fun _ => ?_))))
  · refine (among_ok _ hq.1 (by simp) (by omega)).bind fun p hp => Ok.ret (hp.1.mono (by omega))
  · refine (pick_ok 8 hq.1 (by omega)).bind fun p hp => ?_
    have h8 : p.1 < 8 := by omega
    rw [decide_eq_true hp.2.1, decide_eq_true h8]
    exact Ok.ret (hp.1.mono (by omega))
  · refine (among_ok _ hq.1 (by simp) (by omega)).bind fun p hp => ?_
    have hb : Nat.ble (r.1.2.2.length + 1) 4294967296 = true := by rw [ble_dec]; exact decide_eq_true (by omega)
    rw [hb]
    exact Ok.ret (hp.1.mono (by omega))
  · exact Ok.ret (hq.1.mono (by omega))
  · exact Ok.ret (hq.1.mono (by omega))
theorem drawMake_ok {code : List Int} (h : Bytes code) : Ok (s_DrawMakePuzzle code) fun _ => True := by
  unfold s_DrawMakePuzzle
  refine (one_ok 12 (cur0 h) (by omega)).bind fun r hr => ?_
  refine Ok.cond (fun _ => ?_) (fun _ => ?_)
  · refine (stairs_ok hr (by omega)).bind fun q hq => ?_
    refine (among_ok _ hq (by simp) (by omega)).bind fun p hp => ?_
    refine (among_ok _ hp.1 (by simp) (by omega)).bind fun t ht => ?_
    exact Ok.ret trivial
  · refine (hidden_ok hr (by omega)).bind fun q hq => ?_
    refine (pick_ok _ hq.1 (by omega)).bind fun p hp => ?_
    refine (pick_ok _ hp.1 (by omega)).bind fun t ht => ?_
    exact Ok.ret trivial
theorem drawAdd_ok {code : List Int} (h : Bytes code) : Ok (s_DrawAddClue code) fun _ => True := by
  unfold s_DrawAddClue
  refine (puzzle_ok (cur0 h) (by omega)).bind fun r hr => ?_
  refine (s_l1Cur_clue_ok hr.1 (by omega)).bind fun q hq => ?_
  exact Ok.ret trivial
theorem drawDrop_ok {code : List Int} (h : Bytes code) : Ok (s_DrawDropClue code) fun _ => True := by
  unfold s_DrawDropClue
  refine (puzzle_ok (cur0 h) (by omega)).bind fun r hr => ?_
  refine (pick_ok _ hr.1 (by omega)).bind fun q hq => ?_
  refine (pick_ok _ hq.1 (by omega)).bind fun p hp => ?_
  exact Ok.ret trivial
theorem drawFit_ok {code : List Int} (h : Bytes code) : Ok (s_DrawDoesFit code) fun _ => True := by
  unfold s_DrawDoesFit
  refine (hidden_ok (cur0 h) (by omega)).bind fun r hr => ?_
  refine (pick_ok _ hr.1 (by omega)).bind fun q hq => ?_
  refine (make_ok _ _ _ _ _).bind fun m hm => ?_
  refine Ok.cond (fun e => ?_) (fun _ => ?_)
  · refine (one_ok 3 hq.1 (by omega)).bind fun p hp => ?_
    refine Ok.cond (fun _ => ?_) (fun _ => ?_)
    · have hl := hm.2 e
      rw [decide_eq_true (show (0 : Int) < (m.1.length : Int) by omega)]
      exact Ok.ret trivial
    · refine (one_ok 10 hp (by omega)).bind fun t ht => ?_
      refine Ok.cond (fun _ => ?_) (fun _ => ?_)
      · refine (stairs_ok ht (by omega)).bind fun s hs => ?_
        refine (s_l1Cur_clue_ok hs (by omega)).bind fun u hu => ?_
        exact Ok.ret trivial
      · refine (s_l1Cur_clue_ok ht (by omega)).bind fun u hu => ?_
        exact Ok.ret trivial
  · refine (one_ok 10 hq.1 (by omega)).bind fun t ht => ?_
    refine Ok.cond (fun _ => ?_) (fun _ => ?_)
    · refine (stairs_ok ht (by omega)).bind fun s hs => ?_
      refine (s_l1Cur_clue_ok hs (by omega)).bind fun u hu => ?_
      exact Ok.ret trivial
    · refine (s_l1Cur_clue_ok ht (by omega)).bind fun u hu => ?_
      exact Ok.ret trivial
end Go.Proofs.Ytbemnabojjiikaa.V
