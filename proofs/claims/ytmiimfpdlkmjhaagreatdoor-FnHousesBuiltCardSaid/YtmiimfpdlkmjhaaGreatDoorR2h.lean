/- Functions of the program, as plain functions. No condition. -/
import Derived.Test.YtmiimfpdlkmjhaaGreatDoorR2
import Derived.Test.YtmiimfpdlkmjhaaGreatDoorR1h
set_option linter.unusedVariables false
set_option linter.unusedSimpArgs false
set_option maxRecDepth 100000
namespace Go.Proofs.YtmiimfpdlkmjhaaGreatDoor.V
open Go Go.Ev Go.Proofs
/-! ### lists that are compared -/
theorem wSame_self {a : List Int} (ha : a.length ≤ 100000) : w_wSame a a = some true := by
  unfold w_wSame w_wSame_t0
  rw [bne_self_eq_false, cond_false]
  refine drop_ind a (fun i l => w_wSame_L1 a a (a.length : Int) (i : Int) = some true) ?_ (fun i hi ih => ?_)
  · have : ¬ ((a.length : Int) < a.length) := by omega
    rw [w_wSame_u1, w_wSame_t1, decide_eq_false this]; rfl
  · have c1 : (i : Int) < a.length := by omega
    rw [w_wSame_u1, w_wSame_t1, decide_eq_true c1, decide_eq_true (Int.natCast_nonneg i), rdk_get (k := kint) hi, bne_self_eq_false, wrapI (n := (i : Int) + 1) (by omega) (by omega)]
    exact ih
theorem wRises_ok {a : List Int} (ha : a.length ≤ 100000) (h : ∀ i (hi : i + 1 < a.length), a[i] < a[i + 1]) : w_wRises a = some true := by
  unfold w_wRises w_wRises_t0
  have go : ∀ (d k : Nat), k + d = a.length → 1 ≤ k → w_wRises_L1 a (k : Int) = some true := by
    intro d
    induction d with
    | zero =>
      intro k hk _
      have : ¬ ((k : Int) < a.length) := by omega
      rw [w_wRises_u1, w_wRises_t1, decide_eq_false this]; rfl
    | succ d ih =>
      intro k hk h1
      obtain ⟨j, rfl⟩ : ∃ j, k = j + 1 := ⟨k - 1, by omega⟩
      have c1 : ((j + 1 : Nat) : Int) < a.length := by omega
      have c2 : (j : Int) < a.length := by omega
      have hw : IntKind.wrap .i64 (((j + 1 : Nat) : Int) - 1) = (j : Int) := by rw [wrapI (by omega) (by omega)]; omega
      have hw2 : IntKind.wrap .i64 (((j + 1 : Nat) : Int) + 1) = ((j + 1 + 1 : Nat) : Int) := by rw [wrapI (by omega) (by omega)]; omega
      have hlt := h j (by omega)
      have c3 : ¬ (a[j] ≥ a[j + 1]) := by omega
      rw [w_wRises_u1, w_wRises_t1, hw, hw2, decide_eq_true c1, decide_eq_true c2, decide_eq_true (Int.natCast_nonneg _), decide_eq_true (Int.natCast_nonneg _), rdk_get (k := kint) (by omega : j < a.length), rdk_get (k := kint) (by omega : j + 1 < a.length), decide_eq_false c3]
      exact ih (j + 1 + 1) (by omega) (by omega)
  by_cases h0 : 1 ≤ a.length
  · exact go (a.length - 1) 1 (by omega) (by omega)
  · have : ¬ ((1 : Int) < a.length) := by omega
    rw [w_wRises_u1, w_wRises_t1, decide_eq_false this]; rfl
theorem wHas_eq {a : List Int} (ha : a.length ≤ 100000) (n : Int) : w_wHas a n = some (decide (n ∈ a)) := by
  unfold w_wHas w_wHas_t0
  refine drop_ind a (fun i l => w_wHas_L1 a n (a.length : Int) (i : Int) = some (decide (n ∈ l))) ?_ (fun i hi ih => ?_)
  · have : ¬ ((a.length : Int) < a.length) := by omega
    rw [w_wHas_u1, w_wHas_t1, decide_eq_false this]; simp
  · have c1 : (i : Int) < a.length := by omega
    rw [w_wHas_u1, w_wHas_t1, decide_eq_true c1, decide_eq_true (Int.natCast_nonneg i), rdk_get (k := kint) hi, wrapI (n := (i : Int) + 1) (by omega) (by omega)]
    simp only [cond_true]
    by_cases h : a[i] = n
    · rw [show (a[i] == n) = true from beq_iff_eq.2 h, decide_eq_true (show n ∈ a[i] :: a.drop (i + 1) from by rw [h]; exact List.mem_cons_self)]; rfl
    · rw [show (a[i] == n) = false from beq_eq_false_iff_ne.2 h, cond_false]
      have e : decide (n ∈ a[i] :: a.drop (i + 1)) = decide (n ∈ a.drop (i + 1)) := decide_eq_decide.2 ⟨fun m => (List.mem_cons.1 m).resolve_left (fun e => h e.symm), fun m => List.mem_cons_of_mem _ m⟩
      rw [e]
      exact ih
/-! ### draws: they end, whatever is given -/
def Ok {α : Type} (x : Option α) (P : α → Prop) : Prop := ∃ a, x = some a ∧ P a
theorem Ok.bind {α β : Type} {x : Option α} {f : α → Option β} {P : α → Prop} {Q : β → Prop} (h : Ok x P) (k : ∀ a, P a → Ok (f a) Q) : Ok (x.bind f) Q := by
  obtain ⟨a, rfl, ha⟩ := h
  exact k a ha
theorem Ok.cond {α : Type} {b : Bool} {x y : Option α} {P : α → Prop} (h : b = true → Ok x P) (k : b = false → Ok y P) : Ok (cond b x y) P := by
  cases b
  · exact k rfl
  · exact h rfl
theorem Ok.ret {α : Type} {a : α} {P : α → Prop} (h : P a) : Ok (some a) P := ⟨a, rfl, h⟩
theorem Ok.mono {α : Type} {x : Option α} {P Q : α → Prop} (h : Ok x P) (k : ∀ a, P a → Q a) : Ok x Q := by
  obtain ⟨a, e, ha⟩ := h
  exact ⟨a, e, k a ha⟩
def Bytes (l : List Int) : Prop := ∀ x, x ∈ l → 0 ≤ x ∧ x ≤ 255
/-- a cursor that has come so far at most -/
structure Cur (c : List Int × Int × Int) (n : Int) : Prop where
  by_ : Bytes c.1
  lo : 0 ≤ c.2.1
  hi : c.2.1 ≤ n
theorem Cur.mono {c : List Int × Int × Int} {n m : Int} (h : Cur c n) (hm : n ≤ m) : Cur c m := ⟨h.by_, h.lo, by have := h.hi; omega⟩
theorem bytes_rdk {l : List Int} (h : Bytes l) {i : Int} (h0 : 0 ≤ i) (h1 : i < l.length) : 0 ≤ rdk kuint8 l i ∧ rdk kuint8 l i ≤ 255 := by
  obtain ⟨k, rfl⟩ : ∃ k : Nat, i = k := ⟨i.toNat, by omega⟩
  have hk : k < l.length := by omega
  rw [rdk_get (k := kuint8) hk]
  exact h _ (List.getElem_mem hk)
theorem and255 (x : Int) : 0 ≤ IntKind.wrap IntKind.i64 (IntKind.wrap IntKind.u64 (((BitVec.ofInt (IntKind.bits IntKind.u64) x &&& BitVec.ofInt (IntKind.bits IntKind.u64) 255).toNat : Nat) : Int)) ∧
    IntKind.wrap IntKind.i64 (IntKind.wrap IntKind.u64 (((BitVec.ofInt (IntKind.bits IntKind.u64) x &&& BitVec.ofInt (IntKind.bits IntKind.u64) 255).toNat : Nat) : Int)) ≤ 255 := by
  have h : (BitVec.ofInt (IntKind.bits IntKind.u64) x &&& BitVec.ofInt (IntKind.bits IntKind.u64) 255).toNat ≤ 255 := by
    rw [BitVec.toNat_and]
    have e : (BitVec.ofInt (IntKind.bits IntKind.u64) 255).toNat = 255 := by decide
    rw [e]
    exact Nat.and_le_right
  generalize (BitVec.ofInt (IntKind.bits IntKind.u64) x &&& BitVec.ofInt (IntKind.bits IntKind.u64) 255).toNat = n at h
  have e1 : IntKind.wrap IntKind.u64 (n : Int) = n := by unfold IntKind.wrap; simp [IntKind.signed, IntKind.bits]; omega
  rw [e1, wrapI (by omega) (by omega)]
  omega
theorem next_ok {a : List Int} {b c n : Int} (h : Cur (a, b, c) n) (hn : n ≤ 1000000000000) : Ok (s_l1Cur_next a b c) fun r => Cur r.2 (n + 1) ∧ 0 ≤ r.1 ∧ r.1 ≤ 255 := by
  have h0 : 0 ≤ b := h.lo
  have h1 : b ≤ n := h.hi
  have hw : IntKind.wrap IntKind.i64 (b + 1) = b + 1 := wrapI (by omega) (by omega)
  have hc : Cur (a, b + 1, (0 : Int)) (n + 1) := ⟨h.by_, by show 0 ≤ b + 1; omega, by show b + 1 ≤ n + 1; omega⟩
  have hcc : ∀ s, Cur (a, b + 1, s) (n + 1) := fun s => ⟨hc.by_, hc.lo, hc.hi⟩
  unfold s_l1Cur_next
  rw [hw]
  refine Ok.cond (fun e => ?_) (fun e => ?_)
  · have e := of_decide_eq_true e
    rw [decide_eq_true h0, decide_eq_true e]
    simp only [cond_true]
    obtain ⟨g1, g2⟩ := bytes_rdk h.by_ h0 e
    have gw : IntKind.wrap IntKind.i64 (rdk kuint8 a b) = rdk kuint8 a b := wrapI (Int.le_trans (by decide) g1) (Int.le_trans g2 (by decide))
    refine Ok.cond (fun _ => Ok.ret ⟨hcc _, ?_⟩) (fun _ => Ok.ret ⟨hcc _, and255 _⟩)
    show 0 ≤ IntKind.wrap IntKind.i64 (rdk kuint8 a b) ∧ _ ≤ _
    rw [gw]; exact ⟨g1, g2⟩
  · refine Ok.cond (fun _ => Ok.ret ⟨hcc _, by show (0 : Int) ≤ 0 ∧ (0 : Int) ≤ 255; omega⟩) (fun _ => Ok.ret ⟨hcc _, and255 _⟩)
theorem tmodP {a b : Int} (h : 0 ≤ a) (hb : 0 < b) : 0 ≤ Int.tmod a b ∧ Int.tmod a b < b := by
  rw [Int.tmod_eq_emod_of_nonneg h]
  exact ⟨Int.emod_nonneg a (by omega), Int.emod_lt_of_pos a hb⟩
theorem pick_ok {a : List Int} {b c n : Int} (k : Int) (h : Cur (a, b, c) n) (hn : n ≤ 100000000000) : Ok (s_l1Cur_pick a b c k) fun r => Cur r.2 (n + 2) ∧ 0 ≤ r.1 ∧ (r.1 < k ∨ r.1 = 0) := by
  unfold s_l1Cur_pick
  refine Ok.cond (fun _ => Ok.ret ⟨h.mono (by omega), by show (0 : Int) ≤ 0; omega, .inr rfl⟩) (fun e => ?_)
  have e := of_decide_eq_false e
  have hk : (k == 0) = false := by rw [beq_eq_false_iff_ne]; omega
  refine (next_ok h (by omega)).bind fun r hr => ?_
  refine Ok.cond (fun e2 => ?_) (fun e2 => ?_)
  · refine (next_ok (n := n + 1) hr.1 (by omega)).bind fun s hs => ?_
    rw [hk, cond_false, wrapI (n := r.1 * 256) (by omega) (by omega), wrapI (by omega) (by omega)]
    have := tmodP (a := r.1 * 256 + s.1) (b := k) (by omega) (by omega)
    exact Ok.ret ⟨hs.1.mono (by omega), this.1, .inl this.2⟩
  · rw [hk, cond_false]
    have := tmodP (a := r.1) (b := k) hr.2.1 (by omega)
    exact Ok.ret ⟨hr.1.mono (by omega), this.1, .inl this.2⟩
theorem one_ok {a : List Int} {b c n : Int} (k : Int) (h : Cur (a, b, c) n) (hn : n ≤ 100000000000) : Ok (s_l1Cur_one a b c k) fun r => Cur r.2 (n + 2) := by
  unfold s_l1Cur_one
  exact (pick_ok k h hn).bind fun r hr => Ok.ret hr.1
theorem among_ok {a : List Int} {b c n : Int} (l : List Int) (h : Cur (a, b, c) n) (hl : l ≠ []) (hn : n ≤ 100000000000) : Ok (s_l1Cur_among a b c l) fun r => Cur r.2 (n + 2) ∧ r.1 ∈ l := by
  unfold s_l1Cur_among
  have hp : 0 < l.length := List.length_pos_iff.2 hl
  refine (pick_ok _ h hn).bind fun r hr => ?_
  have h1 : r.1 < (l.length : Int) := by omega
  rw [decide_eq_true hr.2.1, decide_eq_true h1]
  refine Ok.ret ⟨hr.1, ?_⟩
  obtain ⟨k, hk⟩ : ∃ k : Nat, r.1 = k := ⟨r.1.toNat, by omega⟩
  have hkl : k < l.length := by omega
  show rdk kint l r.1 ∈ l
  rw [hk, rdk_get (k := kint) hkl]
  exact List.getElem_mem hkl
theorem bytes_wf {l : List Int} (h : Wf kSuint8 l) : Bytes l := fun x hx => by
  have h1 : (Lit.int IntKind.u8 x).wf = true := h.2 x hx
  simp only [Lit.wf, Bool.and_eq_true, decide_eq_true_eq] at h1
  have e1 : IntKind.u8.min = 0 := by decide
  have e2 : IntKind.u8.max = 255 := by decide
  omega
theorem cur0 {l : List Int} (h : Bytes l) : Cur (l, 0, 0) 0 := ⟨h, Int.le_refl _, Int.le_refl _⟩
/-! ### texts that are spoilt -/
theorem ble63 {m : Nat} (h : m ≤ 1000000) : Nat.ble m 9223372036854775807 = true := by rw [Nat.ble_eq]; omega
theorem push1_size (x : Int) : (List.foldl (fun (r : ByteArray) (n : Int) => ByteArray.push r (UInt8.ofNat (Int.toNat n))) ByteArray.empty [x]).size = 1 := rfl
theorem spoilt1_ok (w : ByteArray) (hw : 0 < w.size ∧ w.size ≤ 100) : ∀ (d : Nat) (a : List Int) (b c n : Int) (t : ByteArray), Cur (a, b, c) n → n + 10 * d ≤ 1000000 → t.size + d ≤ 100000 →
    Ok (s_l1Cur_spoilt_L1 b c a t w (d : Int)) fun r => r.1.size ≤ t.size + d
  | 0, a, b, c, n, t, h, h1, h2 => by
    rw [s_l1Cur_spoilt_u1, s_l1Cur_spoilt_t1, decide_eq_false (show ¬ (((0 : Nat) : Int) > 0) by omega)]
    exact Ok.ret (by simp)
  | d + 1, a, b, c, n, t, h, h1, h2 => by
    have hwd : IntKind.wrap .i64 (((d + 1 : Nat) : Int) - 1) = (d : Int) := by rw [wrapI (by omega) (by omega)]; omega
    rw [s_l1Cur_spoilt_u1, s_l1Cur_spoilt_t1, decide_eq_true (show ((d + 1 : Nat) : Int) > 0 by omega), hwd]
    simp only [cond_true]
    refine Ok.cond (fun e => ?_) (fun _ => Ok.ret (by simp))
    have e := of_decide_eq_true e
    refine (pick_ok _ h (by omega)).bind fun r hr => ?_
    refine (pick_ok _ hr.1 (by omega)).bind fun q hq => ?_
    rw [decide_eq_true hq.2.1, decide_eq_true (show q.1 < (w.size : Int) by omega)]
    simp only [cond_true]
    refine (pick_ok _ hq.1 (by omega)).bind fun s hs => ?_
    obtain ⟨i, hi⟩ : ∃ i : Nat, r.1 = i := ⟨r.1.toNat, by omega⟩
    have hil : i < t.size := by omega
    have hwi : IntKind.wrap .i64 ((i : Int) + 1) = ((i + 1 : Nat) : Int) := by rw [wrapI (by omega) (by omega)]; omega
    have z1 : (ByteArray.extract t 0 i).size = i := by rw [ByteArray.size_extract]; omega
    have z2 : (ByteArray.extract t i t.size).size = t.size - i := by rw [ByteArray.size_extract]; omega
    have z3 : (ByteArray.extract t (i + 1) t.size).size = t.size - (i + 1) := by rw [ByteArray.size_extract]; omega
    have t0 : Int.toNat (0 : Int) = 0 := rfl
    simp only [hi, hwi, t0, Int.toNat_natCast, ByteArray.size_append, push1_size, z1, z2, z3, decide_eq_true (Int.natCast_nonneg i), decide_eq_true (Int.natCast_nonneg (i + 1)), decide_eq_true (show (i : Int) ≤ (t.size : Int) by omega), decide_eq_true (show ((i + 1 : Nat) : Int) ≤ (t.size : Int) by omega), cond_true,
      ble63 (show i + 1 ≤ 1000000 by omega), ble63 (show i + 1 + (t.size - i) ≤ 1000000 by omega), ble63 (show i + 1 + (t.size - (i + 1)) ≤ 1000000 by omega), ble63 (show i + (t.size - (i + 1)) ≤ 1000000 by omega)]
    have key : ∀ t' : ByteArray, t'.size ≤ t.size + 1 → Ok (s_l1Cur_spoilt_L1 s.2.2.1 s.2.2.2 s.2.1 t' w (d : Int)) fun r => r.1.size ≤ t.size + (d + 1) := fun t' ht' =>
      (spoilt1_ok w hw d _ _ _ (n + 2 + 2 + 2) t' hs.1 (by omega) (by omega)).mono fun x hx => by omega
    refine Ok.cond (fun _ => key _ ?_) (fun _ => Ok.cond (fun _ => key _ ?_) (fun _ => key _ ?_))
    · simp only [ByteArray.size_append, push1_size, z1, z2]; omega
    · simp only [ByteArray.size_append, push1_size, z1, z3]; omega
    · simp only [ByteArray.size_append, z1, z3]; omega
theorem spoilt_ok {a : List Int} {b c n : Int} {t w : ByteArray} (hw : 0 < w.size ∧ w.size ≤ 100) (h : Cur (a, b, c) n) (hn : n ≤ 900000) (ht : t.size ≤ 90000) : Ok (s_l1Cur_spoilt a b c t w) fun r => r.1.size ≤ t.size + 2 := by
  unfold s_l1Cur_spoilt s_l1Cur_spoilt_t0
  refine (pick_ok 2 h (by omega)).bind fun r hr => ?_
  obtain ⟨i, hi⟩ : ∃ i : Nat, r.1 = i := ⟨r.1.toNat, by omega⟩
  have hwi : IntKind.wrap .i64 (1 + r.1) = ((i + 1 : Nat) : Int) := by rw [wrapI (by omega) (by omega)]; omega
  rw [hwi]
  exact (spoilt1_ok w hw (i + 1) _ _ _ (n + 2) t hr.1 (by omega) (by omega)).mono fun x hx => by omega
/-! ### draws of houses -/
theorem sureH_loop : ∀ (d : Nat) (a : List Int) (b c n : Int) (S D : List Int), Cur (a, b, c) n → n + 4 * (d : Int) ≤ 100000 → S.length + 1 = D.length → S.length + d ≤ 50 → (∀ x, x ∈ S → 1 ≤ x ∧ x ≤ 40) → (∀ x, x ∈ D → 0 ≤ x ∧ x ≤ 20) →
    Ok (s_l1Cur_sureHouse_L1 b c a [] [] S D (d : Int)) fun r => Cur r.2 (n + 4 * (d : Int)) ∧ r.1.1.length + 1 = r.1.2.length ∧ r.1.1.length = S.length + d ∧ (∀ x, x ∈ r.1.1 → 1 ≤ x ∧ x ≤ 40) ∧ ∀ x, x ∈ r.1.2 → 0 ≤ x ∧ x ≤ 20
  | 0, a, b, c, n, S, D, h, h1, h2, h3, h4, h5 => by
    rw [s_l1Cur_sureHouse_u1, s_l1Cur_sureHouse_t1, decide_eq_false (show ¬ (((0 : Nat) : Int) > 0) by omega)]
    exact Ok.ret ⟨h.mono (by omega), h2, rfl, h4, h5⟩
  | d + 1, a, b, c, n, S, D, h, h1, h2, h3, h4, h5 => by
    have hw : IntKind.wrap .i64 (((d + 1 : Nat) : Int) - 1) = (d : Int) := by rw [wrapI (by omega) (by omega)]; omega
    have b1 : Nat.ble (S.length + 1) 4294967296 = true := by rw [Nat.ble_eq]; omega
    have b2 : Nat.ble (D.length + 1) 4294967296 = true := by rw [Nat.ble_eq]; omega
    rw [s_l1Cur_sureHouse_u1, s_l1Cur_sureHouse_t1, decide_eq_true (show ((d + 1 : Nat) : Int) > 0 by omega), hw, b1, b2]
    simp only [cond_true]
    refine (pick_ok 12 h (by omega)).bind fun r hr => ?_
    refine (pick_ok 4 hr.1 (by omega)).bind fun q hq => ?_
    rw [wrapI (n := 1 + r.1) (by omega) (by omega)]
    refine (sureH_loop d _ _ _ (n + 2 + 2) (S ++ [1 + r.1]) (D ++ [q.1]) hq.1 (by omega) (by simp; omega) (by simp; omega) (fun x hx => ?_) (fun x hx => ?_)).mono fun s hs => ?_
    · rcases List.mem_append.1 hx with e | e
      · exact h4 x e
      · rw [List.mem_singleton] at e; omega
    · rcases List.mem_append.1 hx with e | e
      · exact h5 x e
      · rw [List.mem_singleton] at e; omega
    · obtain ⟨k1, k2, k3, k4⟩ := hs
      simp only [List.length_append, List.length_singleton] at k3
      exact ⟨k1.mono (by omega), k2, by omega, k4⟩
theorem sureH_ok {a : List Int} {b c n : Int} (m : Int) (hm : m ≤ 5) (hm0 : 1 ≤ m) (h : Cur (a, b, c) n) (hn : n ≤ 1000) : Ok (s_l1Cur_sureHouse a b c m) fun r => Cur r.2 (n + 100) ∧ GoodH r.1.1 r.1.2 ∧ r.1.1.length ≤ 5 := by
  unfold s_l1Cur_sureHouse s_l1Cur_sureHouse_t0
  refine (pick_ok 4 h (by omega)).bind fun r hr => ?_
  refine (pick_ok m hr.1 (by omega)).bind fun q hq => ?_
  obtain ⟨i, hi⟩ : ∃ i : Nat, q.1 = i := ⟨q.1.toNat, by omega⟩
  have hw : IntKind.wrap .i64 (1 + q.1) = ((i + 1 : Nat) : Int) := by rw [wrapI (by omega) (by omega)]; omega
  rw [hw]
  refine (sureH_loop (i + 1) _ _ _ (n + 2 + 2) [] [r.1] hq.1 (by omega) (by simp) (by simp; omega) (by simp) (fun x hx => by rw [List.mem_singleton] at hx; omega)).mono fun s hs => ?_
  obtain ⟨k1, k2, k3, k4, k5⟩ := hs
  simp only [List.length_nil] at k3
  exact ⟨k1.mono (by omega), ⟨by omega, by omega, k2, k4, k5⟩, by omega⟩
theorem house_loop : ∀ (d : Nat) (a : List Int) (b c n : Int) (S D : List Int), Cur (a, b, c) n → n + 2 * (d : Int) ≤ 100000 → 14 ≤ D.length + d → S.length ≤ 100 → D.length ≤ 100 → S.length + d ≤ 100 → Ok (s_l1Cur_house_L1 b c a [] [] S D) fun r => Cur r.2 (n + 2 * (d : Int) + 2)
  | 0, a, b, c, n, S, D, h, h1, h2, h3, h4, h5 => by
    rw [s_l1Cur_house_u1, s_l1Cur_house_t1]
    refine (pick_ok 2 h (by omega)).bind fun r hr => ?_
    rw [wrapI (n := 12 + r.1) (by omega) (by omega), decide_eq_false (show ¬ (D.length : Int) < 12 + r.1 by omega)]
    exact Ok.ret (hr.1.mono (by omega))
  | d + 1, a, b, c, n, S, D, h, h1, h2, h3, h4, h5 => by
    have b1 : Nat.ble (S.length + 1) 4294967296 = true := by rw [Nat.ble_eq]; omega
    have b2 : Nat.ble (D.length + 1) 4294967296 = true := by rw [Nat.ble_eq]; omega
    rw [s_l1Cur_house_u1, s_l1Cur_house_t1, b1, b2]
    refine (pick_ok 2 h (by omega)).bind fun r hr => ?_
    rw [wrapI (n := 12 + r.1) (by omega) (by omega)]
    refine Ok.cond (fun e => ?_) (fun _ => Ok.ret (hr.1.mono (by omega)))
    have e := of_decide_eq_true e
    exact (house_loop d _ _ _ (n + 2) (S ++ [3]) (D ++ [1]) hr.1 (by omega) (by simp; omega) (by simp; omega) (by simp; omega) (by simp; omega)).mono fun s hs => hs.mono (by omega)
theorem houseD_ok {a : List Int} {b c n : Int} (h : Cur (a, b, c) n) (hn : n ≤ 100) : Ok (s_l1Cur_house a b c) fun r => Cur r.2 (n + 1000) := by
  unfold s_l1Cur_house s_l1Cur_house_t0
  refine (sureH_ok 5 (by omega) (by omega) h (by omega)).bind fun r hr => ?_
  obtain ⟨h1, g, h2⟩ := hr
  have hs := g.sl
  have b1 : Nat.ble (r.1.1.length + 1) 4294967296 = true := by rw [Nat.ble_eq]; omega
  have b2 : Nat.ble (r.1.2.length + 1) 4294967296 = true := by rw [Nat.ble_eq]; omega
  rw [b1, b2]
  refine (pick_ok 20 h1 (by omega)).bind fun q hq => ?_
  simp only [cond_true]
  refine Ok.cond (fun _ => ?_) (fun _ => Ok.cond (fun _ => ?_) (fun _ => Ok.cond (fun _ => ?_) (fun _ => Ok.cond (fun _ => Ok.ret (hq.1.mono (by omega))) (fun _ => Ok.ret (hq.1.mono (by omega))))))
  · exact (among_ok _ hq.1 (by simp) (by omega)).bind fun p hp => Ok.ret (hp.1.mono (by omega))
  · exact (among_ok _ hq.1 (by simp) (by omega)).bind fun p hp => Ok.ret (hp.1.mono (by omega))
  · exact (house_loop 14 _ _ _ _ _ _ hq.1 (by omega) (by omega) (by omega) (by omega) (by omega)).mono fun s hs => hs.mono (by omega)
theorem drawLand_ok {code : List Int} (h : Bytes code) : Ok (s_DrawLandingsAt code) fun _ => True := by
  unfold s_DrawLandingsAt s_DrawLandingsNeeded
  refine Ok.bind (P := fun _ => True) ?_ (fun r _ => Ok.ret trivial)
  refine (houseD_ok (cur0 h) (by omega)).bind fun r hr => ?_
  exact (among_ok _ hr (by simp) (by omega)).bind fun p hp => Ok.ret trivial
theorem drawAdd_ok {code : List Int} (h : Bytes code) : Ok (s_DrawAddFloor code) fun _ => True := by
  unfold s_DrawAddFloor
  refine (houseD_ok (cur0 h) (by omega)).bind fun r hr => ?_
  refine (among_ok _ hr (by simp) (by omega)).bind fun p hp => ?_
  exact (among_ok _ hp.1 (by simp) (by omega)).bind fun p hp => Ok.ret trivial
theorem drawAbove_ok {code : List Int} (h : Bytes code) : Ok (s_DrawStairsAbove code) fun _ => True := by
  unfold s_DrawStairsAbove
  refine (houseD_ok (cur0 h) (by omega)).bind fun r hr => ?_
  exact (among_ok _ hr (by simp) (by omega)).bind fun p hp => Ok.ret trivial
theorem drawParseH_ok {code : List Int} (h : Bytes code) : Ok (s_DrawParseHouse code) fun t => t.size ≤ 2000000 := by
  unfold s_DrawParseHouse
  refine (sureH_ok 4 (by omega) (by omega) (cur0 h) (by omega)).bind fun r hr => ?_
  obtain ⟨h1, g, h2⟩ := hr
  have hl := hT_len g
  have hz : (⟨(hT r.1.1 r.1.2).toArray⟩ : ByteArray).size ≤ 84 := by rw [bsz]; exact hl
  rw [ldText_ok g, Option.bind_some]
  refine (one_ok 3 h1 (by omega)).bind fun q hq => ?_
  refine Ok.cond (fun _ => ?_) (fun _ => Ok.ret (by omega))
  exact (spoilt_ok ⟨by decide, by decide⟩ hq (by omega) (by omega)).bind fun s hs => Ok.ret (by omega)
end Go.Proofs.YtmiimfpdlkmjhaaGreatDoor.V
