/- Functions of the program, as plain functions. No condition. -/
import Derived.Test.YtoldoplpnkojdaaGreatDoorK5
import Derived.Test.YtoldoplpnkojdaaGreatDoorK4h
set_option linter.unusedVariables false
set_option linter.unusedSimpArgs false
set_option maxRecDepth 100000
namespace Go.Proofs.YtoldoplpnkojdaaGreatDoor.V
open Go Go.Ev Go.Proofs
/-! ### draws: they end, whatever is given -/
def Ok {α : Type} (x : Option α) (P : α → Prop) : Prop := ∃ a, x = some a ∧ P a
theorem Ok.bind {α β : Type} {x : Option α} {f : α → Option β} {P : α → Prop} {Q : β → Prop} (h : Ok x P) (k : ∀ a, P a → Ok (f a) Q) : Ok (x.bind f) Q := by
  obtain ⟨a, rfl, ha⟩ := h
  exact k a ha
theorem Ok.cond {α : Type} {b : Bool} {x y : Option α} {P : α → Prop} (h : b = true → Ok x P) (k : b = false → Ok y P) : Ok (cond b x y) P := by
  cases b
  · exact k rfl
  · exact h rfl
theorem Ok.ret {α : Type} {a : α} {P : α → Prop} (h : P a) : Ok (some a) P := ⟨a, rfl, h⟩
theorem Ok.mono {α : Type} {x : Option α} {P Q : α → Prop} (h : Ok x P) (k : ∀ a, P a → Q a) : Ok x Q := by
  obtain ⟨a, e, ha⟩ := h
  exact ⟨a, e, k a ha⟩
def Bytes (l : List Int) : Prop := ∀ x, x ∈ l → 0 ≤ x ∧ x ≤ 255
/-- a cursor that has come so far at most -/
structure Cur (c : List Int × Int × Int) (n : Int) : Prop where
  by_ : Bytes c.1
  lo : 0 ≤ c.2.1
  hi : c.2.1 ≤ n
theorem Cur.mono {c : List Int × Int × Int} {n m : Int} (h : Cur c n) (hm : n ≤ m) : Cur c m := ⟨h.by_, h.lo, by have := h.hi; omega⟩
theorem bytes_rdk {l : List Int} (h : Bytes l) {i : Int} (h0 : 0 ≤ i) (h1 : i < l.length) : 0 ≤ rdk kuint8 l i ∧ rdk kuint8 l i ≤ 255 := by
  obtain ⟨k, rfl⟩ : ∃ k : Nat, i = k := ⟨i.toNat, by omega⟩
  have hk : k < l.length := by omega
  rw [rdk_get (k := kuint8) hk]
  exact h _ (List.getElem_mem hk)
theorem and255 (x : Int) : 0 ≤ IntKind.wrap IntKind.i64 (IntKind.wrap IntKind.u64 (((BitVec.ofInt (IntKind.bits IntKind.u64) x &&& BitVec.ofInt (IntKind.bits IntKind.u64) 255).toNat : Nat) : Int)) ∧
    IntKind.wrap IntKind.i64 (IntKind.wrap IntKind.u64 (((BitVec.ofInt (IntKind.bits IntKind.u64) x &&& BitVec.ofInt (IntKind.bits IntKind.u64) 255).toNat : Nat) : Int)) ≤ 255 := by
  have h : (BitVec.ofInt (IntKind.bits IntKind.u64) x &&& BitVec.ofInt (IntKind.bits IntKind.u64) 255).toNat ≤ 255 := by
    rw [BitVec.toNat_and]
    have e : (BitVec.ofInt (IntKind.bits IntKind.u64) 255).toNat = 255 := by decide
    rw [e]
    exact Nat.and_le_right
  generalize (BitVec.ofInt (IntKind.bits IntKind.u64) x &&& BitVec.ofInt (IntKind.bits IntKind.u64) 255).toNat = n at h
  have e1 : IntKind.wrap IntKind.u64 (n : Int) = n := by unfold IntKind.wrap; simp [IntKind.signed, IntKind.bits]; omega
  rw [e1, wrapI (by omega) (by omega)]
  omega
theorem next_ok {a : List Int} {b c n : Int} (h : Cur (a, b, c) n) (hn : n ≤ 1000000000000) : Ok (s_l1Cur_next a b c) fun r => Cur r.2 (n + 1) ∧ 0 ≤ r.1 ∧ r.1 ≤ 255 := by
  have h0 : 0 ≤ b := h.lo
  have h1 : b ≤ n := h.hi
  have hw : IntKind.wrap IntKind.i64 (b + 1) = b + 1 := wrapI (by omega) (by omega)
  have hc : Cur (a, b + 1, (0 : Int)) (n + 1) := ⟨h.by_, by show 0 ≤ b + 1; omega, by show b + 1 ≤ n + 1; omega⟩
  have hcc : ∀ s, Cur (a, b + 1, s) (n + 1) := fun s => ⟨hc.by_, hc.lo, hc.hi⟩
  unfold s_l1Cur_next
  rw [hw]
  refine Ok.cond (fun e => ?_) (fun e => ?_)
  · have e := of_decide_eq_true e
    rw [decide_eq_true h0, decide_eq_true e]
    simp only [cond_true]
    obtain ⟨g1, g2⟩ := bytes_rdk h.by_ h0 e
    have gw : IntKind.wrap IntKind.i64 (rdk kuint8 a b) = rdk kuint8 a b := wrapI (Int.le_trans (by decide) g1) (Int.le_trans g2 (by decide))
    refine Ok.cond (fun _ => Ok.ret ⟨hcc _, ?_⟩) (fun _ => Ok.ret ⟨hcc _, and255 _⟩)
    show 0 ≤ IntKind.wrap IntKind.i64 (rdk kuint8 a b) ∧ _ ≤ _
    rw [gw]; exact ⟨g1, g2⟩
  · refine Ok.cond (fun _ => Ok.ret ⟨hcc _, by show (0 : Int) ≤ 0 ∧ (0 : Int) ≤ 255; omega⟩) (fun _ => Ok.ret ⟨hcc _, and255 _⟩)
theorem tmodP {a b : Int} (h : 0 ≤ a) (hb : 0 < b) : 0 ≤ Int.tmod a b ∧ Int.tmod a b < b := by
  rw [Int.tmod_eq_emod_of_nonneg h]
  exact ⟨Int.emod_nonneg a (by omega), Int.emod_lt_of_pos a hb⟩
theorem pick_ok {a : List Int} {b c n : Int} (k : Int) (h : Cur (a, b, c) n) (hn : n ≤ 100000000000) : Ok (s_l1Cur_pick a b c k) fun r => Cur r.2 (n + 2) ∧ 0 ≤ r.1 ∧ (r.1 < k ∨ r.1 = 0) := by
  unfold s_l1Cur_pick
  refine Ok.cond (fun _ => Ok.ret ⟨h.mono (by omega), by show (0 : Int) ≤ 0; omega, .inr rfl⟩) (fun e => ?_)
  have e := of_decide_eq_false e
  have hk : (k == 0) = false := by rw [beq_eq_false_iff_ne]; omega
  refine (next_ok h (by omega)).bind fun r hr => ?_
  refine Ok.cond (fun e2 => ?_) (fun e2 => ?_)
  · refine (next_ok (n := n + 1) hr.1 (by omega)).bind fun s hs => ?_
    rw [hk, cond_false, wrapI (n := r.1 * 256) (by omega) (by omega), wrapI (by omega) (by omega)]
    have := tmodP (a := r.1 * 256 + s.1) (b := k) (by omega) (by omega)
    exact Ok.ret ⟨hs.1.mono (by omega), this.1, .inl this.2⟩
  · rw [hk, cond_false]
    have := tmodP (a := r.1) (b := k) hr.2.1 (by omega)
    exact Ok.ret ⟨hr.1.mono (by omega), this.1, .inl this.2⟩
theorem one_ok {a : List Int} {b c n : Int} (k : Int) (h : Cur (a, b, c) n) (hn : n ≤ 100000000000) : Ok (s_l1Cur_one a b c k) fun r => Cur r.2 (n + 2) := by
  unfold s_l1Cur_one
  exact (pick_ok k h hn).bind fun r hr => Ok.ret hr.1
theorem bytes_wf {l : List Int} (h : Wf kSuint8 l) : Bytes l := fun x hx => by
  have h1 : (Lit.int IntKind.u8 x).wf = true := h.2 x hx
  simp only [Lit.wf, Bool.and_eq_true, decide_eq_true_eq] at h1
  have e1 : IntKind.u8.min = 0 := by decide
  have e2 : IntKind.u8.max = 255 := by decide
  omega
theorem cur0 {l : List Int} (h : Bytes l) : Cur (l, 0, 0) 0 := ⟨h, Int.le_refl _, Int.le_refl _⟩
/-! ### puzzles that are drawn -/
theorem s_l1Cur_clue_ok {a : List Int} {b c n : Int} (h : Cur (a, b, c) n) (hn : n ≤ 10000000000) : Ok (s_l1Cur_clue a b c ) fun r => Cur r.2 (n + 16) := by
  unfold s_l1Cur_clue
  refine (pick_ok (n := n) _ h (by omega)).bind fun r1 h1 => ?_
  refine (pick_ok (n := n + 2) _ h1.1 (by omega)).bind fun r2 h2 => ?_
  refine (pick_ok (n := n + 2 + 2) _ h2.1 (by omega)).bind fun r3 h3 => ?_
  refine (pick_ok (n := n + 2 + 2 + 2) _ h3.1 (by omega)).bind fun r4 h4 => ?_
  refine Ok.cond (fun _ => ?_) (fun _ => ?_)
  · refine (pick_ok (n := n + 2 + 2 + 2 + 2) _ h4.1 (by omega)).bind fun r5 h5 => ?_
    refine (pick_ok (n := n + 2 + 2 + 2 + 2 + 2) _ h5.1 (by omega)).bind fun r6 h6 => ?_
    refine (one_ok (n := n + 2 + 2 + 2 + 2 + 2 + 2) _ h6.1 (by omega)).bind fun r7 h7 => ?_
    refine Ok.cond (fun _ => ?_) (fun _ => ?_)
    · refine (pick_ok (n := n + 2 + 2 + 2 + 2 + 2 + 2 + 2) _ h7 (by omega)).bind fun r8 h8 => ?_
      exact Ok.ret (h8.1.mono (by omega))
    · exact Ok.ret (h7.mono (by omega))
  · refine Ok.cond (fun _ => ?_) (fun _ => ?_)
    · refine (pick_ok (n := n + 2 + 2 + 2 + 2) _ h4.1 (by omega)).bind fun r9 h9 => ?_
      refine (pick_ok (n := n + 2 + 2 + 2 + 2 + 2) _ h9.1 (by omega)).bind fun r10 h10 => ?_
      refine (one_ok (n := n + 2 + 2 + 2 + 2 + 2 + 2) _ h10.1 (by omega)).bind fun r11 h11 => ?_
      refine Ok.cond (fun _ => ?_) (fun _ => ?_)
      · refine (pick_ok (n := n + 2 + 2 + 2 + 2 + 2 + 2 + 2) _ h11 (by omega)).bind fun r12 h12 => ?_
        exact Ok.ret (h12.1.mono (by omega))
      · exact Ok.ret (h11.mono (by omega))
    · refine (one_ok (n := n + 2 + 2 + 2 + 2) _ h4.1 (by omega)).bind fun r13 h13 => ?_
      refine Ok.cond (fun _ => ?_) (fun _ => ?_)
      · refine (pick_ok (n := n + 2 + 2 + 2 + 2 + 2) _ h13 (by omega)).bind fun r14 h14 => ?_
        exact Ok.ret (h14.1.mono (by omega))
      · exact Ok.ret (h13.mono (by omega))
theorem hidVal_chk : hidAll.all (fun s => match hidV s with | some (u, f, m) => decide (0 ≤ u) && (decide (u ≤ 60) && (decide (0 ≤ f) && (decide (f ≤ 60) && (decide (0 ≤ m) && (decide (m ≤ 60) && (decide (0 ≤ s.1) && decide (s.1 ≤ 60))))))) | none => false) = true := by kernel_rfl
theorem hidVal_bd {s : Int × List Int × List Int} (h : s ∈ hidAll) (k x : Int) : 0 ≤ hidVal k x s.1 s.2.1 s.2.2 ∧ hidVal k x s.1 s.2.1 s.2.2 ≤ 60 ∧ (k = 2 ∨ k = 3 → hidVal k x s.1 s.2.1 s.2.2 ≤ 1) := by
  have hc := List.all_eq_true.1 hidVal_chk s h
  obtain ⟨u, f, m, h1, -, -⟩ := hid_mem h
  unfold hidVal
  rw [h1] at hc
  have e : hidV (s.1, s.2.1, s.2.2) = some (u, f, m) := h1
  rw [e]
  simp only [Bool.and_eq_true, decide_eq_true_eq] at hc
  simp only [Bool.cond_eq_ite, beq_iff_eq, decide_eq_true_eq]
  refine ⟨?_, ?_, ?_⟩
  · repeat' split
    all_goals omega
  · repeat' split
    all_goals omega
  · intro hk
    repeat' split
    all_goals omega
def zN (z : Int) : Int := Int.tmod (IntKind.wrap IntKind.i64 (IntKind.wrap IntKind.i64 (293 * z) + 907)) 10007
theorem zN_bd {z : Int} (h0 : 0 ≤ z) (h1 : z ≤ 10006) : 0 ≤ zN z ∧ zN z ≤ 10006 := by
  unfold zN
  rw [wrapI (n := 293 * z) (by omega) (by omega), wrapI (by omega) (by omega), Int.tmod_eq_emod_of_nonneg (by omega)]
  omega
theorem tmod_bd {a b : Int} (h : 0 ≤ a) (hb : 0 < b) : 0 ≤ Int.tmod a b ∧ Int.tmod a b < b := by
  rw [Int.tmod_eq_emod_of_nonneg h]
  exact ⟨Int.emod_nonneg a (by omega), Int.emod_lt_of_pos a hb⟩
noncomputable def mkA (z : Int) : Int := bif Int.tmod (zN z) 6 == 2 then Int.tmod (zN (zN z)) 3 + 1 else bif Int.tmod (zN z) 6 == 3 then Int.tmod (zN (zN z)) 7 + 1 else 0
noncomputable def mkC (s : Int × List Int × List Int) (z : Int) : Int × Int × Int := (Int.tmod (zN z) 6, mkA z, hidVal (Int.tmod (zN z) 6) (mkA z) s.1 s.2.1 s.2.2)
noncomputable def mkL (s : Int × List Int × List Int) : Nat → Int → List (Int × Int × Int)
  | 0, _ => []
  | n + 1, z => mkC s z :: mkL s n (zN (zN z))
theorem mkL_len (s : Int × List Int × List Int) : ∀ (n : Nat) (z : Int), (mkL s n z).length = n
  | 0, _ => rfl
  | n + 1, z => by rw [mkL, List.length_cons, mkL_len s n]
theorem mkC_good {s : Int × List Int × List Int} (h : s ∈ hidAll) {z : Int} (h0 : 0 ≤ z) (h1 : z ≤ 10006) : s_pzClue (mkC s z).1 (mkC s z).2.1 (mkC s z).2.2 = true ∧ fitC s (mkC s z) = true := by
  refine ⟨?_, by unfold fitC mkC; simp⟩
  obtain ⟨a1, a2⟩ := zN_bd h0 h1
  obtain ⟨b1, b2⟩ := zN_bd a1 a2
  obtain ⟨k1, k2⟩ := tmod_bd (b := 6) a1 (by omega)
  obtain ⟨x1, x2⟩ := tmod_bd (b := 3) b1 (by omega)
  obtain ⟨y1, y2⟩ := tmod_bd (b := 7) b1 (by omega)
  obtain ⟨v1, v2, v3⟩ := hidVal_bd h (Int.tmod (zN z) 6) (mkA z)
  unfold mkC s_pzClue s_l1In
  show (bif _ then _ else _) = true
  generalize hv : hidVal (Int.tmod (zN z) 6) (mkA z) s.1 s.2.1 s.2.2 = v at v1 v2 v3 ⊢
  unfold mkA
  generalize hk : Int.tmod (zN z) 6 = k at k1 k2 v3 ⊢
  simp only [Bool.cond_eq_ite]
  have : k = 0 ∨ k = 1 ∨ k = 2 ∨ k = 3 ∨ k = 4 ∨ k = 5 := by omega
  rcases this with rfl | rfl | rfl | rfl | rfl | rfl <;> simp <;> omega
theorem mkL_good {s : Int × List Int × List Int} (h : s ∈ hidAll) : ∀ (n : Nat) {z : Int}, 0 ≤ z → z ≤ 10006 → ∀ c, c ∈ mkL s n z → s_pzClue c.1 c.2.1 c.2.2 = true ∧ fitC s c = true
  | 0, _, _, _, c, hc => by cases hc
  | n + 1, z, h0, h1, c, hc => by
    rcases List.mem_cons.1 hc with rfl | hc
    · exact mkC_good h h0 h1
    · obtain ⟨a1, a2⟩ := zN_bd h0 h1
      obtain ⟨b1, b2⟩ := zN_bd a1 a2
      exact mkL_good h n b1 b2 c hc
theorem pzOf_eq {s : Int × List Int × List Int} (h : s ∈ hidAll) {z : Int} (h0 : 0 ≤ z) (h1 : z ≤ 10006) : s_pzOf (Int.tmod (s_pzNext z) 6) (s_pzNext (s_pzNext z)) s.1 s.2.1 s.2.2 = some (mkC s z) := by
  obtain ⟨a1, a2⟩ := zN_bd h0 h1
  obtain ⟨b1, b2⟩ := zN_bd a1 a2
  obtain ⟨k1, k2⟩ := tmod_bd (b := 6) a1 (by omega)
  obtain ⟨x1, x2⟩ := tmod_bd (b := 3) b1 (by omega)
  obtain ⟨y1, y2⟩ := tmod_bd (b := 7) b1 (by omega)
  show s_pzOf (Int.tmod (zN z) 6) (zN (zN z)) s.1 s.2.1 s.2.2 = _
  unfold s_pzOf mkC mkA
  have hk : 0 ≤ Int.tmod (zN z) 6 ∧ Int.tmod (zN z) 6 ≤ 5 := by omega
  rw [wrapI (n := Int.tmod (zN (zN z)) 3 + 1) (by omega) (by omega), wrapI (n := Int.tmod (zN (zN z)) 7 + 1) (by omega) (by omega), pzValue_eq (mem_hidden h) _ _ hk, pzValue_eq (mem_hidden h) _ _ hk, pzValue_eq (mem_hidden h) _ _ hk]
  cases Int.tmod (zN z) 6 == 2 <;> cases Int.tmod (zN z) 6 == 3 <;> rfl
theorem s_make_loop {s : Int × List Int × List Int} (h : s ∈ hidAll) : ∀ (d : Nat) (z : Int) (acc : List (Int × Int × Int)), 0 ≤ z → z ≤ 10006 → d ≤ 6 → acc.length + d ≤ 1000 →
    s_MakePuzzle_L1 s.1 s.2.1 s.2.2 [] acc d z = some (acc ++ mkL s d z, true)
  | 0, z, acc, h0, h1, hd, ha => by rw [s_MakePuzzle_u1, s_MakePuzzle_t1]; simp [mkL]
  | d + 1, z, acc, h0, h1, hd, ha => by
    obtain ⟨a1, a2⟩ := zN_bd h0 h1
    obtain ⟨b1, b2⟩ := zN_bd a1 a2
    have hw : IntKind.wrap .i64 (((d + 1 : Nat) : Int) - 1) = (d : Int) := by rw [wrapI (by omega) (by omega)]; omega
    have hb : Nat.ble (acc.length + 1) 4294967296 = true := by rw [ble_dec]; exact decide_eq_true (by omega)
    have c1 : decide (((d + 1 : Nat) : Int) > 0) = true := decide_eq_true (by omega)
    rw [s_MakePuzzle_u1, s_MakePuzzle_t1, c1, pzOf_eq h h0 h1, hb, hw]
    simp only [cond_true, Option.bind_some]
    have := s_make_loop h d (zN (zN z)) (acc ++ [mkC s z]) b1 b2 (by omega) (by simp; omega)
    refine Eq.trans this ?_
    rw [mkL, List.append_assoc]; rfl
noncomputable def makeN (a : Int) (b c : List Int) (n seed : Int) : List (Int × Int × Int) × Bool :=
  bif i_isHidden a b c && (s_l1In n 0 6 && s_l1In seed 0 9999) then (mkL (a, b, c) n.toNat seed, true) else ([], false)
theorem makeN_len (a : Int) (b c : List Int) (n seed : Int) : (makeN a b c n seed).1.length ≤ 6 := by
  unfold makeN
  cases i_isHidden a b c
  · exact Nat.zero_le _
  · cases h1 : s_l1In n 0 6
    · exact Nat.zero_le _
    · cases h2 : s_l1In seed 0 9999
      · exact Nat.zero_le _
      · have hn : 0 ≤ n ∧ n ≤ 6 := by unfold s_l1In at h1; simpa using h1
        simp only [Bool.and_true, cond_true, mkL_len]
        omega
theorem MakePuzzle_s (a : Int) (b c : List Int) (n seed : Int) : s_MakePuzzle a b c n seed = some (makeN a b c n seed) := by
  unfold s_MakePuzzle s_MakePuzzle_t0 makeN
  rw [hidden_eq' a b c]
  cases hh : i_isHidden a b c
  · rfl
  · obtain ⟨hm, -⟩ := hidAll_mem hh
    cases h1 : s_l1In n 0 6
    · rfl
    · cases h2 : s_l1In seed 0 9999
      · rfl
      · have hn : 0 ≤ n ∧ n ≤ 6 := by unfold s_l1In at h1; simpa using h1
        have hs : 0 ≤ seed ∧ seed ≤ 9999 := by unfold s_l1In at h2; simpa using h2
        obtain ⟨m, rfl⟩ : ∃ m : Nat, n = m := ⟨n.toNat, by omega⟩
        exact s_make_loop hm m seed [] (by omega) (by omega) (by omega) (by simp; omega)
theorem makeN_good (a : Int) (b c : List Int) (n seed : Int) : s_pzGood_n (makeN a b c n seed).1 = true := by
  refine good_of_all (makeN_len a b c n seed) (fun q hq => ?_)
  unfold makeN at hq
  cases hh : i_isHidden a b c
  · rw [hh] at hq; exact absurd hq List.not_mem_nil
  · cases h1 : s_l1In n 0 6
    · rw [hh, h1] at hq; exact absurd hq List.not_mem_nil
    · cases h2 : s_l1In seed 0 9999
      · rw [hh, h1, h2] at hq; exact absurd hq List.not_mem_nil
      · rw [hh, h1, h2] at hq
        have hn : 0 ≤ n ∧ n ≤ 6 := by unfold s_l1In at h1; simpa using h1
        have hs : 0 ≤ seed ∧ seed ≤ 9999 := by unfold s_l1In at h2; simpa using h2
        exact (mkL_good (hidAll_mem hh).1 n.toNat hs.1 (by omega) q hq).1
theorem pz_strides : s_pzStrides = hidS := rfl
theorem hidden_ok {a : List Int} {b c n : Int} (h : Cur (a, b, c) n) (hn : n ≤ 100000000) : Ok (s_l1Cur_hidden a b c) fun r => Cur r.2 (n + 6) ∧ r.1 ∈ hidAll := by
  unfold s_l1Cur_hidden
  refine (pick_ok 7 h (by omega)).bind fun r hr => ?_
  have hl : (s_pzStrides.length : Int) = 7 := rfl
  rw [hl]
  refine (pick_ok 7 hr.1 (by omega)).bind fun q hq => ?_
  have q1 : q.1 < 7 := by omega
  rw [decide_eq_true hq.2.1, decide_eq_true q1, wrapI (n := 1 + r.1) (by omega) (by omega)]
  simp only [cond_true]
  refine (pick_ok (1 + r.1) hq.1 (by omega)).bind fun p hp => ?_
  obtain ⟨i, hi⟩ : ∃ i : Nat, r.1 = i := ⟨r.1.toNat, by omega⟩
  obtain ⟨j, hj⟩ : ∃ j : Nat, q.1 = j := ⟨q.1.toNat, by omega⟩
  obtain ⟨k, hk⟩ : ∃ k : Nat, p.1 = k := ⟨p.1.toNat, by omega⟩
  have hj7 : j < hidS.length := by show j < 7; omega
  have hmem : hidS[j] ∈ hidS := List.getElem_mem hj7
  have hls : hidS[j].length ≤ 4294967296 := by
    have : ∀ l, l ∈ hidS → l.length ≤ 3 := by decide
    have := this _ hmem; omega
  have e1 : (1 : Int) + r.1 = ((i + 1 : Nat) : Int) := by omega
  have e2 : s_pzStairs (1 + r.1) (rdk kSint s_pzStrides q.1) p.1 = some (mkH (i + 1) hidS[j] k) := by
    rw [hj, pz_strides, rdk_get (k := kSint) hj7, e1, hk]
    unfold s_pzStairs s_l1Own_n mkH
    rw [decide_eq_true hls]
    cases decide ((k : Int) > 0) <;> rfl
  have hin : mkH (i + 1) hidS[j] k ∈ hidAll := rowH_mem (n := i + 1) (k := k) (d := 1) (by omega) hmem (by omega) (by simp [rowH])
  rw [e2]
  exact Ok.ret ⟨hp.1.mono (by omega), hin⟩
theorem make_ok (a : Int) (b c : List Int) (n s : Int) : Ok (s_MakePuzzle a b c n s) fun r => r.1.length ≤ 6 ∧ s_pzGood_n r.1 = true :=
  ⟨_, MakePuzzle_s a b c n s, makeN_len a b c n s, makeN_good a b c n s⟩
theorem surePuzzle_ok {a : List Int} {b c n : Int} (m : Int) (hm : -1000 ≤ m ∧ m ≤ 1000) (h : Cur (a, b, c) n) (hn : n ≤ 10000000) : Ok (s_l1Cur_surePuzzle a b c m) fun r => Cur r.2 (n + 10) ∧ r.1.length ≤ 6 ∧ s_pzGood_n r.1 = true := by
  unfold s_l1Cur_surePuzzle
  refine (hidden_ok h (by omega)).bind fun r hr => ?_
  refine (pick_ok _ hr.1 (by omega)).bind fun q hq => ?_
  refine (pick_ok _ hq.1 (by omega)).bind fun p hp => ?_
  refine (make_ok _ _ _ _ _).bind fun s hs => ?_
  exact Ok.ret ⟨hp.1.mono (by omega), hs⟩
theorem puzzle1_ok (r4 : List (Int × Int × Int)) : ∀ (d : Nat) (a : List Int) (b c n : Int) (r5 : List (Int × Int × Int)), 8 ≤ r5.length + d → r5.length ≤ 8 → Cur (a, b, c) n → n + 2 * d ≤ 100000000 →
    Ok (s_l1Cur_puzzle_L1 b c a r4 r5) fun r => Cur r.2 (n + 2 * d + 2) ∧ r.1.length ≤ 8
  | 0, a, b, c, n, r5, h1, h2, h3, h4 => by
    rw [s_l1Cur_puzzle_u1, s_l1Cur_puzzle_t1]
    refine (pick_ok 2 h3 (by omega)).bind fun r hr => ?_
    have hw : IntKind.wrap .i64 (6 + r.1) = 6 + r.1 := wrapI (by omega) (by omega)
    have : ¬ ((r5.length : Int) < 6 + r.1) := by omega
    rw [hw, decide_eq_false this]
    exact Ok.ret ⟨hr.1.mono (by omega), h2⟩
  | d + 1, a, b, c, n, r5, h1, h2, h3, h4 => by
    rw [s_l1Cur_puzzle_u1, s_l1Cur_puzzle_t1]
    refine (pick_ok 2 h3 (by omega)).bind fun r hr => ?_
    have hw : IntKind.wrap .i64 (6 + r.1) = 6 + r.1 := wrapI (by omega) (by omega)
    have hb : Nat.ble (r5.length + 1) 4294967296 = true := by rw [ble_dec]; exact decide_eq_true (by omega)
    rw [hw, hb]
    by_cases h : (r5.length : Int) < 6 + r.1
    · rw [decide_eq_true h]
      exact (puzzle1_ok r4 d _ _ _ (n + 2) (r5 ++ [(4, 0, 5)]) (by simp; omega) (by simp; omega) hr.1 (by omega)).mono fun s hs => ⟨hs.1.mono (by omega), hs.2⟩
    · rw [decide_eq_false h]
      exact Ok.ret ⟨hr.1.mono (by omega), h2⟩
theorem puzzle_ok {a : List Int} {b c n : Int} (h : Cur (a, b, c) n) (hn : n ≤ 1000000) : Ok (s_l1Cur_puzzle a b c) fun r => Cur r.2 (n + 60) ∧ r.1.length ≤ 8 := by
  unfold s_l1Cur_puzzle s_l1Cur_puzzle_t0
  refine (surePuzzle_ok 5 (by omega) h (by omega)).bind fun r hr => ?_
  refine (pick_ok 12 hr.1 (by omega)).bind fun q hq => ?_
  have hb : Nat.ble (r.1.length + 1) 4294967296 = true := by rw [ble_dec]; exact decide_eq_true (by omega)
  rw [hb]
  have one : Ok ((s_l1Cur_clue q.2.1 q.2.2.1 q.2.2.2).bind fun r_2 => bif true then some (r.1 ++ [(r_2.1.1, r_2.1.2.1, r_2.1.2.2)], r_2.2.1, r_2.2.2.1, r_2.2.2.2) else none) fun r => Cur r.2 (n + 60) ∧ r.1.length ≤ 8 := by
    refine (s_l1Cur_clue_ok hq.1 (by omega)).bind fun p hp => ?_
    exact Ok.ret ⟨hp.mono (by omega), by simp; omega⟩
  refine Ok.cond (fun _ => one) (fun _ => Ok.cond (fun _ => one) (fun _ => Ok.cond (fun _ => ?_) (fun _ => ?_)))
  · exact (puzzle1_ok [] 8 _ _ _ (n + 12) r.1 (by omega) (by omega) (hq.1.mono (by omega)) (by omega)).mono fun s hs => ⟨hs.1.mono (by omega), hs.2⟩
  · exact Ok.ret ⟨hq.1.mono (by omega), by show r.1.length ≤ 8; omega⟩
theorem drawSol_ok {code : List Int} (h : Bytes code) : Ok (s_DrawSolutions code) fun r => r.length ≤ 8 := by
  unfold s_DrawSolutions s_DrawIsPuzzle
  refine Ok.bind (P := fun r => r.length ≤ 8) ?_ (fun r hr => Ok.ret hr)
  refine (puzzle_ok (cur0 h) (by omega)).bind fun q hq => Ok.ret hq.2
theorem ble63 {m : Nat} (h : m ≤ 1000000) : Nat.ble m 9223372036854775807 = true := by rw [Nat.ble_eq]; omega
theorem push1_size (x : Int) : (List.foldl (fun (r : ByteArray) (n : Int) => ByteArray.push r (UInt8.ofNat (Int.toNat n))) ByteArray.empty [x]).size = 1 := rfl
theorem spoilt1_ok (w : ByteArray) (hw : 0 < w.size ∧ w.size ≤ 100) : ∀ (d : Nat) (a : List Int) (b c n : Int) (t : ByteArray), Cur (a, b, c) n → n + 10 * d ≤ 1000000 → t.size + d ≤ 100000 →
    Ok (s_l1Cur_spoilt_L1 b c a t w (d : Int)) fun r => r.1.size ≤ t.size + d
  | 0, a, b, c, n, t, h, h1, h2 => by
    rw [s_l1Cur_spoilt_u1, s_l1Cur_spoilt_t1, decide_eq_false (show ¬ (((0 : Nat) : Int) > 0) by omega)]
    exact Ok.ret (by simp)
  | d + 1, a, b, c, n, t, h, h1, h2 => by
    have hwd : IntKind.wrap .i64 (((d + 1 : Nat) : Int) - 1) = (d : Int) := by rw [wrapI (by omega) (by omega)]; omega
    rw [s_l1Cur_spoilt_u1, s_l1Cur_spoilt_t1, decide_eq_true (show ((d + 1 : Nat) : Int) > 0 by omega), hwd]
    simp only [cond_true]
    refine Ok.cond (fun e => ?_) (fun _ => Ok.ret (by simp))
    have e := of_decide_eq_true e
    refine (pick_ok _ h (by omega)).bind fun r hr => ?_
    refine (pick_ok _ hr.1 (by omega)).bind fun q hq => ?_
    rw [decide_eq_true hq.2.1, decide_eq_true (show q.1 < (w.size : Int) by omega)]
    simp only [cond_true]
    refine (pick_ok _ hq.1 (by omega)).bind fun s hs => ?_
    obtain ⟨i, hi⟩ : ∃ i : Nat, r.1 = i := ⟨r.1.toNat, by omega⟩
    have hil : i < t.size := by omega
    have hwi : IntKind.wrap .i64 ((i : Int) + 1) = ((i + 1 : Nat) : Int) := by rw [wrapI (by omega) (by omega)]; omega
    have z1 : (ByteArray.extract t 0 i).size = i := by rw [ByteArray.size_extract]; omega
    have z2 : (ByteArray.extract t i t.size).size = t.size - i := by rw [ByteArray.size_extract]; omega
    have z3 : (ByteArray.extract t (i + 1) t.size).size = t.size - (i + 1) := by rw [ByteArray.size_extract]; omega
    have t0 : Int.toNat (0 : Int) = 0 := rfl
    simp only [hi, hwi, t0, Int.toNat_natCast, ByteArray.size_append, push1_size, z1, z2, z3, decide_eq_true (Int.natCast_nonneg i), decide_eq_true (Int.natCast_nonneg (i + 1)), decide_eq_true (show (i : Int) ≤ (t.size : Int) by omega), decide_eq_true (show ((i + 1 : Nat) : Int) ≤ (t.size : Int) by omega), cond_true,
      ble63 (show i + 1 ≤ 1000000 by omega), ble63 (show i + 1 + (t.size - i) ≤ 1000000 by omega), ble63 (show i + 1 + (t.size - (i + 1)) ≤ 1000000 by omega), ble63 (show i + (t.size - (i + 1)) ≤ 1000000 by omega)]
    have key : ∀ t' : ByteArray, t'.size ≤ t.size + 1 → Ok (s_l1Cur_spoilt_L1 s.2.2.1 s.2.2.2 s.2.1 t' w (d : Int)) fun r => r.1.size ≤ t.size + (d + 1) := fun t' ht' =>
      (spoilt1_ok w hw d _ _ _ (n + 2 + 2 + 2) t' hs.1 (by omega) (by omega)).mono fun x hx => by omega
    refine Ok.cond (fun _ => key _ ?_) (fun _ => Ok.cond (fun _ => key _ ?_) (fun _ => key _ ?_))
    · simp only [ByteArray.size_append, push1_size, z1, z2]; omega
    · simp only [ByteArray.size_append, push1_size, z1, z3]; omega
    · simp only [ByteArray.size_append, z1, z3]; omega
theorem spoilt_ok {a : List Int} {b c n : Int} {t w : ByteArray} (hw : 0 < w.size ∧ w.size ≤ 100) (h : Cur (a, b, c) n) (hn : n ≤ 900000) (ht : t.size ≤ 90000) : Ok (s_l1Cur_spoilt a b c t w) fun r => r.1.size ≤ t.size + 2 := by
  unfold s_l1Cur_spoilt s_l1Cur_spoilt_t0
  refine (pick_ok 2 h (by omega)).bind fun r hr => ?_
  obtain ⟨i, hi⟩ : ∃ i : Nat, r.1 = i := ⟨r.1.toNat, by omega⟩
  have hwi : IntKind.wrap .i64 (1 + r.1) = ((i + 1 : Nat) : Int) := by rw [wrapI (by omega) (by omega)]; omega
  rw [hwi]
  exact (spoilt1_ok w hw (i + 1) _ _ _ (n + 2) t hr.1 (by omega) (by omega)).mono fun x hx => by omega
theorem drawParse_ok {code : List Int} (h : Bytes code) : Ok (s_DrawParsePuzzle code) fun t => t.size ≤ 1048576 := by
  unfold s_DrawParsePuzzle
  refine (surePuzzle_ok 4 (by omega) (cur0 h) (by omega)).bind fun r hr => ?_
  have hg := puzzle_good hr.2.2
  have hz := pz_bd6 hr.2.2
  have hb : (⟨(Lib.join (r.1.map cT) [44]).toArray⟩ : ByteArray) = (ptN r.1).1 := by unfold ptN; rw [hr.2.2]; rfl
  have h6 : (ptN r.1).1.size ≤ 1000 := pz_bd60 hr.2.2
  rw [puzzle_s hg, hb]
  simp only [Option.bind_some]
  refine (one_ok 3 hr.1 (by omega)).bind fun q hq => ?_
  refine Ok.cond (fun _ => ?_) (fun _ => Ok.ret (by omega))
  refine (spoilt_ok ⟨by decide, by decide⟩ hq (by omega) (by omega)).bind fun s hs => Ok.ret (by omega)
end Go.Proofs.YtoldoplpnkojdaaGreatDoor.V
