/- Functions of the program, as plain functions. No condition. -/
import Derived.Test.YtgflffacaobkoaaGreatDoorL1
set_option linter.unusedVariables false
set_option linter.unusedSimpArgs false
set_option maxRecDepth 100000
namespace Go.Proofs.YtgflffacaobkoaaGreatDoor.V
open Go Go.Ev Go.Proofs
/-! ### sums, arrays, tables -/
def sm {α : Type} : List α → (α → Int) → Int
  | [], _ => 0
  | x :: l, f => f x + sm l f
section
variable {α β : Type}
theorem sm_congr {f g : α → Int} : ∀ {l : List α}, (∀ x, x ∈ l → f x = g x) → sm l f = sm l g
  | [], _ => rfl
  | x :: l, h => by rw [sm, sm, h x (by simp), sm_congr (l := l) (fun y hy => h y (List.mem_cons_of_mem _ hy))]
theorem sm_add {f g : α → Int} : ∀ {l : List α}, sm l (fun x => f x + g x) = sm l f + sm l g
  | [] => rfl
  | x :: l => by rw [sm, sm, sm, sm_add (l := l)]; omega
theorem sm_mul {f : α → Int} (c : Int) : ∀ {l : List α}, sm l (fun x => c * f x) = c * sm l f
  | [] => by rw [sm, sm, Int.mul_zero]
  | x :: l => by rw [sm, sm, sm_mul c (l := l), Int.mul_add]
theorem sm_zero {f : α → Int} : ∀ {l : List α}, (∀ x, x ∈ l → f x = 0) → sm l f = 0
  | [], _ => rfl
  | x :: l, h => by rw [sm, h x (by simp), sm_zero (l := l) (fun y hy => h y (List.mem_cons_of_mem _ hy))]; rfl
theorem sm_nonneg {f : α → Int} : ∀ {l : List α}, (∀ x, x ∈ l → 0 ≤ f x) → 0 ≤ sm l f
  | [], _ => Int.le_refl _
  | x :: l, h => by
    have h1 := h x (by simp)
    have h2 := sm_nonneg (l := l) (fun y hy => h y (List.mem_cons_of_mem _ hy))
    rw [sm]; omega
theorem sm_le {f g : α → Int} : ∀ {l : List α}, (∀ x, x ∈ l → f x ≤ g x) → sm l f ≤ sm l g
  | [], _ => Int.le_refl _
  | x :: l, h => by
    have h1 := h x (by simp)
    have h2 := sm_le (l := l) (fun y hy => h y (List.mem_cons_of_mem _ hy))
    rw [sm, sm]; omega
theorem sm_append {f : α → Int} : ∀ {l m : List α}, sm (l ++ m) f = sm l f + sm m f
  | [], m => by rw [List.nil_append, sm]; omega
  | x :: l, m => by rw [List.cons_append, sm, sm, sm_append (l := l)]; omega
theorem sm_map {f : β → Int} {h : α → β} : ∀ {l : List α}, sm (l.map h) f = sm l (fun x => f (h x))
  | [] => rfl
  | x :: l => by rw [List.map_cons, sm, sm, sm_map (l := l)]
theorem sm_swap {f : α → β → Int} : ∀ {l : List α} {m : List β}, sm l (fun x => sm m (fun y => f x y)) = sm m (fun y => sm l (fun x => f x y))
  | [], m => (sm_zero fun _ _ => rfl).symm
  | x :: l, m => by
    rw [sm, sm_swap (l := l)]
    exact sm_add.symm
theorem sm_mem_le {f : α → Int} : ∀ {l : List α} {x : α}, (∀ y, y ∈ l → 0 ≤ f y) → x ∈ l → f x ≤ sm l f
  | y :: l, x, h, hx => by
    have h1 := h y (by simp)
    have h3 := sm_nonneg (l := l) (fun z hz => h z (List.mem_cons_of_mem _ hz))
    rw [sm]
    rcases List.mem_cons.1 hx with e | e
    · subst e; omega
    · have h2 := sm_mem_le (l := l) (fun z hz => h z (List.mem_cons_of_mem _ hz)) e
      omega
theorem sm_pos {f : α → Int} {l : List α} (h : ∀ y, y ∈ l → 0 ≤ f y) (hs : 0 < sm l f) : ∃ x, x ∈ l ∧ 0 < f x :=
  Classical.byContradiction fun hn => by
    have : sm l f = 0 := sm_zero fun x hx => by
      have := h x hx
      by_cases c : 0 < f x
      · exact absurd ⟨x, hx, c⟩ hn
      · omega
    omega
end
def sr (n : Nat) (f : Nat → Int) : Int := sm (List.range n) f
theorem sr_succ (n : Nat) (f : Nat → Int) : sr (n + 1) f = sr n f + f n := by unfold sr; rw [List.range_succ, sm_append, sm, sm]; omega
theorem sr_one {p : Nat} {x : Int} : ∀ n : Nat, sr n (fun k => if k = p then x else 0) = if p < n then x else 0
  | 0 => by rw [if_neg (by omega)]; rfl
  | n + 1 => by
    rw [sr_succ, sr_one n]
    by_cases h : n = p
    · rw [if_neg (by omega), if_pos h, if_pos (by omega)]; omega
    · rw [if_neg h]
      by_cases h2 : p < n
      · rw [if_pos h2, if_pos (by omega)]; omega
      · rw [if_neg h2, if_neg (by omega)]; rfl
theorem sr_congr {n : Nat} {f g : Nat → Int} (h : ∀ k, k < n → f k = g k) : sr n f = sr n g := sm_congr fun k hk => h k (List.mem_range.1 hk)
theorem sr_nonneg {n : Nat} {f : Nat → Int} (h : ∀ k, k < n → 0 ≤ f k) : 0 ≤ sr n f := sm_nonneg fun k hk => h k (List.mem_range.1 hk)
theorem sr_zero {n : Nat} {f : Nat → Int} (h : ∀ k, k < n → f k = 0) : sr n f = 0 := sm_zero fun k hk => h k (List.mem_range.1 hk)
def ar (a : Nat → Int) (c : Nat) : List Int := (List.range c).map a
theorem ar_len (a : Nat → Int) (c : Nat) : (ar a c).length = c := by unfold ar; simp
theorem ar_get {a : Nat → Int} {c i : Nat} (h : i < (ar a c).length) : (ar a c)[i] = a i := by
  have h' : i < ((List.range c).map a).length := h
  exact (show (ar a c)[i] = ((List.range c).map a)[i]'h' from rfl).trans (by rw [List.getElem_map, List.getElem_range])
theorem ar_rdk {a : Nat → Int} {c i : Nat} (h : i < c) : rdk kint (ar a c) (i : Int) = a i := by
  rw [rdk_get (k := kint) (show i < (ar a c).length by rw [ar_len]; exact h), ar_get]
def upd (a : Nat → Int) (i : Nat) (v : Int) : Nat → Int := fun j => if j = i then v else a j
theorem upd_same (a : Nat → Int) (i : Nat) (v : Int) : upd a i v i = v := if_pos rfl
theorem upd_ne (a : Nat → Int) {i j : Nat} (v : Int) (h : j ≠ i) : upd a i v j = a j := if_neg h
theorem upd_upd (a : Nat → Int) (i : Nat) (v w : Int) : upd (upd a i v) i w = upd a i w := by
  funext j; unfold upd; by_cases h : j = i
  · rw [if_pos h, if_pos h]
  · rw [if_neg h, if_neg h, if_neg h]
theorem upd_id (a : Nat → Int) (i : Nat) : upd a i (a i) = a := by
  funext j; unfold upd; by_cases h : j = i
  · rw [if_pos h, h]
  · rw [if_neg h]
theorem ar_congr {a b : Nat → Int} {c : Nat} (h : ∀ i, i < c → a i = b i) : ar a c = ar b c := List.map_congr_left fun i hi => h i (List.mem_range.1 hi)
theorem ar_set (a : Nat → Int) (c i : Nat) (v : Int) : (ar a c).set i v = ar (upd a i v) c := by
  apply List.ext_getElem
  · rw [List.length_set, ar_len, ar_len]
  · intro j h1 h2
    rw [List.getElem_set, ar_get, ar_get]
    unfold upd
    by_cases h : i = j
    · rw [if_pos h, if_pos h.symm]
    · rw [if_neg h, if_neg (fun e => h e.symm)]
theorem ar_zero (c : Nat) : List.replicate c (0 : Int) = ar (fun _ => 0) c := by
  apply List.ext_getElem
  · rw [List.length_replicate, ar_len]
  · intro j h1 h2
    rw [List.getElem_replicate, ar_get]
/-- a table that is filled from the top down -/
def dpF (N : Nat) (top : Int) (st : Nat → (Nat → Int) → Int) : Nat → Nat → Int
  | 0 => fun j => if j = N then top else 0
  | m + 1 => upd (dpF N top st m) (N - (m + 1)) (st (N - (m + 1)) (dpF N top st m))
section
variable {N : Nat} {top : Int} {st : Nat → (Nat → Int) → Int}
theorem dpF_succ (m : Nat) : dpF N top st (m + 1) = upd (dpF N top st m) (N - (m + 1)) (st (N - (m + 1)) (dpF N top st m)) := rfl
theorem dpF_hi {m j : Nat} : ∀ e : Nat, m + e ≤ N → N - m ≤ j → dpF N top st (m + e) j = dpF N top st m j
  | 0, _, _ => rfl
  | e + 1, h, hj => by
    rw [show m + (e + 1) = (m + e) + 1 from rfl, dpF, upd_ne _ _ (by omega)]
    exact dpF_hi e (by omega) hj
theorem dpF_lo : ∀ {m j : Nat}, m ≤ N → j < N - m → dpF N top st m j = 0
  | 0, j, _, hj => if_neg (by omega)
  | m + 1, j, hm, hj => by
    rw [dpF, upd_ne _ _ (by omega)]
    exact dpF_lo (by omega) (by omega)
theorem dpF_at {m j : Nat} (hm : m ≤ N) (hj : N - m ≤ j) : dpF N top st m j = dpF N top st N j := by
  have := dpF_hi (N := N) (top := top) (st := st) (m := m) (j := j) (N - m) (by omega) hj
  rw [show m + (N - m) = N from by omega] at this
  exact this.symm
theorem dpF_top : dpF N top st N N = top := by
  rw [← dpF_at (m := 0) (by omega) (by omega)]
  exact if_pos rfl
theorem dpF_rec (hst : ∀ k a b, k < N → (∀ j, k < j → j ≤ N → a j = b j) → st k a = st k b) {k : Nat} (hk : k < N) : dpF N top st N k = st k (dpF N top st N) := by
  rw [← dpF_at (m := N - k) (by omega) (by omega), show N - k = (N - k - 1) + 1 from by omega, dpF, show N - (N - k - 1 + 1) = k from by omega, upd_same]
  exact hst k _ _ hk (fun j h1 h2 => dpF_at (by omega) (by omega))
end
/-- a loop with a state for which something holds -/
theorem loop_inv {α β σ : Type} {L : Nat → σ → Option β} {l : List α} {e : List α → σ → Option β} {P : List α → σ → Prop} (h0 : ∀ s, P [] s → L l.length s = e [] s)
    (h1 : ∀ (i : Nat) (h : i < l.length) s, P (l[i] :: l.drop (i + 1)) s → ∃ s', L i s = L (i + 1) s' ∧ P (l.drop (i + 1)) s' ∧ e (l.drop (i + 1)) s' = e (l[i] :: l.drop (i + 1)) s) (s : σ) (hs : P l s) : L 0 s = e l s :=
  drop_ind l (fun i r => ∀ s, P r s → L i s = e r s) h0 (fun i h ih s hs => by
    obtain ⟨s', g1, g2, g3⟩ := h1 i h s hs
    rw [g1, ih s' g2, g3]) s hs
/-! ### powers of two -/
def p2 (n : Nat) : Int := ((2 ^ n : Nat) : Int)
theorem p2_succ (n : Nat) : p2 (n + 1) = 2 * p2 n := by unfold p2; rw [Nat.pow_succ]; push_cast; omega
theorem p2_pos (n : Nat) : 1 ≤ p2 n := by unfold p2; have := Nat.pow_pos (n := n) (show 0 < 2 by omega); omega
theorem p2_mono {m n : Nat} (h : m ≤ n) : p2 m ≤ p2 n := by unfold p2; have := Nat.pow_le_pow_right (show 0 < 2 by omega) h; omega
theorem p2_60 : p2 60 = 1152921504606846976 := by decide
/-- strides that are all different -/
theorem p2_sum (m : Nat) : ∀ (D : List Int) (lo : Nat), D.Pairwise (· < ·) → (∀ d, d ∈ D → (lo : Int) ≤ d) → lo ≤ m + 1 → sm D (fun d => if d.toNat ≤ m then p2 (m - d.toNat) else 0) ≤ p2 (m + 1 - lo)
  | [], lo, _, _, _ => by have := p2_pos (m + 1 - lo); rw [sm]; omega
  | d :: D, lo, h1, h2, h3 => by
    obtain ⟨g1, g2⟩ := List.pairwise_cons.1 h1
    have hd := h2 d (by simp)
    obtain ⟨d, rfl⟩ : ∃ k : Nat, d = k := ⟨d.toNat, by omega⟩
    rw [sm, Int.toNat_natCast]
    by_cases c : d ≤ m
    · have ih := p2_sum m D (d + 1) g2 (fun x hx => by have := g1 x hx; omega) (by omega)
      rw [if_pos c]
      rw [show m + 1 - (d + 1) = m - d from by omega] at ih
      have h4 := p2_succ (m - d)
      have h5 := p2_mono (show m - d + 1 ≤ m + 1 - lo by omega)
      omega
    · rw [if_neg c, sm_zero (fun x hx => by have := g1 x hx; rw [if_neg (by omega)])]
      have := p2_pos (m + 1 - lo)
      omega
/-! ### stairs: ways to the top -/
structure GoodS (N : Nat) (D B : List Int) : Prop where
  n1 : 1 ≤ N
  n2 : N ≤ 60
  d1 : 1 ≤ D.length
  d2 : D.length ≤ 5
  dp : D.Pairwise (· < ·)
  db : ∀ d, d ∈ D → 1 ≤ d ∧ d ≤ 9
  bp : B.Pairwise (· < ·)
  bb : ∀ b, b ∈ B → 1 ≤ b ∧ b ≤ (N : Int) - 1
theorem goodS_of {a : Int} {D B : List Int} (h : s_clGood a D B = true) : ∃ N : Nat, a = N ∧ GoodS N D B := by
  obtain ⟨h1, h2, h3, h4⟩ := s_clGood_iff.1 h
  obtain ⟨N, rfl⟩ : ∃ N : Nat, a = N := ⟨a.toNat, by omega⟩
  obtain ⟨g1, g2⟩ := rising_iff.1 h3
  obtain ⟨g3, g4⟩ := rising_iff.1 h4
  exact ⟨N, rfl, by omega, by omega, h2.1, h2.2, g1, g2, g3, g4⟩
theorem good_of {N : Nat} {D B : List Int} (G : GoodS N D B) : s_clGood (N : Int) D B = true :=
  s_clGood_iff.2 ⟨by have := G.n1; have := G.n2; omega, ⟨G.d1, G.d2⟩, rising_iff.2 ⟨G.dp, G.db⟩, rising_iff.2 ⟨G.bp, G.bb⟩⟩
def brk (B : List Int) (k : Nat) : Prop := (k : Int) ∈ B
instance (B : List Int) (k : Nat) : Decidable (brk B k) := inferInstanceAs (Decidable ((k : Int) ∈ B))
theorem cont_eqS (l : List Int) (v : Int) : slices_Contains_int l v = decide (v ∈ l) := by
  unfold slices_Contains_int slices_Index_int_n
  rw [idxF_any]
  by_cases h : v ∈ l
  · rw [decide_eq_true h]; exact List.any_eq_true.2 ⟨v, h, by simp⟩
  · rw [decide_eq_false h]
    rw [Bool.eq_false_iff]
    intro h2
    obtain ⟨x, hx, he⟩ := List.any_eq_true.1 h2
    exact h (by rw [beq_iff_eq.1 he]; exact hx)
theorem isBr (N : Int) (D B : List Int) (k : Nat) : i_Stairs_isBroken N D B (k : Int) = decide (brk B k) := by
  unfold i_Stairs_isBroken; rw [cont_eqS]; rfl
theorem l1In_inS {x lo hi : Int} : s_l1In x lo hi = (decide (lo ≤ x) && decide (x ≤ hi)) := by rw [s_l1In_inB]; rfl
theorem stands {N : Nat} (D B : List Int) {k : Nat} (h : k ≤ N) : s_clStands (N : Int) D B (k : Int) = !decide (brk B k) := by
  unfold s_clStands s_l1Has_n
  rw [l1In_inS, decide_eq_true (Int.natCast_nonneg k), decide_eq_true (show (k : Int) ≤ N by omega)]
  rfl
theorem stands_no {N : Nat} (D B : List Int) {x : Int} (h : x > N) : s_clStands (N : Int) D B x = false := by
  unfold s_clStands
  rw [l1In_inS, decide_eq_false (show ¬ x ≤ N by omega), Bool.and_false]; rfl
theorem brk_no {N : Nat} {D B : List Int} (G : GoodS N D B) : ¬ brk B 0 ∧ ¬ brk B N := by
  constructor
  · intro h; have := (G.bb _ h).1; omega
  · intro h; have := (G.bb _ h).2; omega
def gU (N : Nat) (B : List Int) (k : Nat) (a : Nat → Int) (d : Int) : Int := if k + d.toNat ≤ N then (if brk B k then 0 else a (k + d.toNat)) else 0
def stU (N : Nat) (D B : List Int) (k : Nat) (a : Nat → Int) : Int := sm D (gU N B k a)
/-- how many ways lead from a step to the top -/
def U (N : Nat) (D B : List Int) : Nat → Int := dpF N 1 (stU N D B) N
theorem gU_nat (N : Nat) (B : List Int) (k : Nat) (a : Nat → Int) (d : Nat) : gU N B k a (d : Int) = if k + d ≤ N then (if brk B k then 0 else a (k + d)) else 0 := by unfold gU; rw [Int.toNat_natCast]
theorem gU_congr {N : Nat} {B : List Int} {k : Nat} {a b : Nat → Int} (h : ∀ j, k < j → j ≤ N → a j = b j) {d : Int} (hd : 1 ≤ d) : gU N B k a d = gU N B k b d := by
  unfold gU
  by_cases c : k + d.toNat ≤ N
  · rw [if_pos c, if_pos c, h _ (by omega) c]
  · rw [if_neg c, if_neg c]
section
variable {N : Nat} {D B : List Int}
theorem stU_congr (G : GoodS N D B) : ∀ k a b, k < N → (∀ j, k < j → j ≤ N → a j = b j) → stU N D B k a = stU N D B k b := fun k a b _ h => sm_congr fun d hd => gU_congr h (G.db d hd).1
theorem U_top : U N D B N = 1 := dpF_top
theorem U_rec (G : GoodS N D B) {k : Nat} (hk : k < N) : U N D B k = sm D (gU N B k (U N D B)) := dpF_rec (stU_congr G) hk
theorem gU_nonneg {a : Nat → Int} {k : Nat} (h : ∀ j, k < j → j ≤ N → 0 ≤ a j) {d : Int} (hd : 1 ≤ d) : 0 ≤ gU N B k a d := by
  unfold gU
  by_cases c : k + d.toNat ≤ N
  · rw [if_pos c]
    by_cases c2 : brk B k
    · rw [if_pos c2]; exact Int.le_refl _
    · rw [if_neg c2]; exact h _ (by omega) c
  · rw [if_neg c]; exact Int.le_refl _
theorem gU_bd (G : GoodS N D B) {a : Nat → Int} {k : Nat} (hk : k ≤ N) (h : ∀ j, k < j → j ≤ N → 0 ≤ a j ∧ a j ≤ p2 (N - j)) : sm D (gU N B k a) ≤ p2 (N - k) := by
  refine Int.le_trans (sm_le fun d hd => ?_) (p2_sum (N - k) D 1 G.dp (fun d hd => (G.db d hd).1) (by omega))
  have hd1 := (G.db d hd).1
  unfold gU
  by_cases c : k + d.toNat ≤ N
  · rw [if_pos c, if_pos (show d.toNat ≤ N - k by omega)]
    have h1 := p2_pos (N - k - d.toNat)
    have h2 := h (k + d.toNat) (by omega) c
    rw [show N - (k + d.toNat) = N - k - d.toNat from by omega] at h2
    by_cases c2 : brk B k
    · rw [if_pos c2]; omega
    · rw [if_neg c2]; omega
  · rw [if_neg c, if_neg (show ¬ d.toNat ≤ N - k by omega)]; exact Int.le_refl _
theorem U_bd (G : GoodS N D B) : ∀ (e k : Nat), k + e = N → 0 ≤ U N D B k ∧ U N D B k ≤ p2 (N - k) := by
  intro e
  induction e using Nat.strongRecOn with
  | ind e ih =>
    intro k hk
    by_cases h0 : k = N
    · subst h0; rw [U_top]; have := p2_pos (k - k); omega
    · have hr : ∀ j, k < j → j ≤ N → 0 ≤ U N D B j ∧ U N D B j ≤ p2 (N - j) := fun j h1 h2 => ih (N - j) (by omega) j (by omega)
      rw [U_rec G (by omega)]
      exact ⟨sm_nonneg fun d hd => gU_nonneg (fun j h1 h2 => (hr j h1 h2).1) (G.db d hd).1, gU_bd G (by omega) hr⟩
theorem U_nn (G : GoodS N D B) {k : Nat} (hk : k ≤ N) : 0 ≤ U N D B k := (U_bd G (N - k) k (by omega)).1
theorem U_le (G : GoodS N D B) {k : Nat} (hk : k ≤ N) : U N D B k ≤ 1152921504606846976 := by
  have h1 := (U_bd G (N - k) k (by omega)).2
  have h2 := p2_mono (show N - k ≤ 60 by have := G.n2; omega)
  rw [p2_60] at h2
  omega
theorem U_brk (G : GoodS N D B) {k : Nat} (hk : k < N) (h : brk B k) : U N D B k = 0 := by
  rw [U_rec G hk]
  refine sm_zero fun d hd => ?_
  unfold gU
  rw [if_pos h]
  by_cases c : k + d.toNat ≤ N
  · rw [if_pos c]
  · rw [if_neg c]
theorem natOf {d : Int} (h : 1 ≤ d ∧ d ≤ 9) : ∃ m : Nat, d = m ∧ 1 ≤ m ∧ m ≤ 9 := ⟨d.toNat, by omega, by omega, by omega⟩
theorem up_in (G : GoodS N D B) {k : Nat} (hk : k < N) {a : Nat → Int} (ha : ∀ j, k < j → j ≤ N → 0 ≤ a j) (s : Int) (h0 : 0 ≤ s) (hs : s + sm D (gU N B k a) ≤ 4611686018427387904) :
    i_Stairs_up_L2 (N : Int) (ar (upd a k s) (N + 1)) D B (k : Int) (D.length : Int) 0 = i_Stairs_up_L1 (N : Int) (ar (upd a k (s + sm D (gU N B k a))) (N + 1)) D B ((k : Int) - 1) := by
  have hN := G.n2
  have hD := G.d2
  refine loop_inv (L := fun i s => i_Stairs_up_L2 (N : Int) (ar (upd a k s) (N + 1)) D B (k : Int) (D.length : Int) (i : Int)) (l := D) (e := fun l s => i_Stairs_up_L1 (N : Int) (ar (upd a k (s + sm l (gU N B k a))) (N + 1)) D B ((k : Int) - 1))
    (P := fun l s => (∀ d, d ∈ l → 1 ≤ d ∧ d ≤ 9) ∧ 0 ≤ s ∧ s + sm l (gU N B k a) ≤ 4611686018427387904) ?_ ?_ s ⟨G.db, h0, hs⟩
  · intro s _
    show i_Stairs_up_L2 (N : Int) (ar (upd a k s) (N + 1)) D B (k : Int) (D.length : Int) (D.length : Int) = _
    rw [i_Stairs_up_u2, i_Stairs_up_t2, decide_eq_false (show ¬ ((D.length : Int) < D.length) by omega), wrapI (n := (k : Int) - 1) (by omega) (by omega)]
    show _ = i_Stairs_up_L1 (N : Int) (ar (upd a k (s + 0)) (N + 1)) D B ((k : Int) - 1)
    rw [Int.add_zero]; rfl
  · intro i hi s ⟨p1, p2, p3⟩
    have hd := p1 D[i] List.mem_cons_self
    have hr : 0 ≤ sm (D.drop (i + 1)) (gU N B k a) := sm_nonneg fun d hd => gU_nonneg ha (p1 d (List.mem_cons_of_mem _ hd)).1
    have hg := gU_nonneg (N := N) (B := B) ha hd.1
    rw [sm] at p3
    have hrd := rdk_get (k := kint) hi
    have c1 : (i : Int) < D.length := by omega
    have hw1 : IntKind.wrap .i64 ((i : Int) + 1) = ((i + 1 : Nat) : Int) := by rw [wrapI (by omega) (by omega)]; omega
    generalize D[i] = x at *
    obtain ⟨d, rfl, d1, d2⟩ := natOf hd
    have hw2 : IntKind.wrap .i64 ((k : Int) + (d : Int)) = ((k + d : Nat) : Int) := by rw [wrapI (by omega) (by omega)]; omega
    refine ⟨s + gU N B k a (d : Int), ?_, ⟨fun y hy => p1 y (List.mem_cons_of_mem _ hy), by omega, by omega⟩, ?_⟩
    · show i_Stairs_up_L2 (N : Int) (ar (upd a k s) (N + 1)) D B (k : Int) (D.length : Int) (i : Int) = i_Stairs_up_L2 (N : Int) (ar (upd a k (s + gU N B k a (d : Int))) (N + 1)) D B (k : Int) (D.length : Int) ((i + 1 : Nat) : Int)
      rw [i_Stairs_up_u2, i_Stairs_up_t2, decide_eq_true c1, decide_eq_true (Int.natCast_nonneg i), hrd, hw1, hw2, isBr]
      rw [gU_nat] at p3 ⊢
      by_cases e1 : k + d ≤ N
      · rw [if_pos e1] at p3 ⊢
        rw [decide_eq_true (show ((k + d : Nat) : Int) ≤ N by omega)]
        by_cases e2 : brk B k
        · rw [decide_eq_true e2, if_pos e2, Int.add_zero]; rfl
        · rw [if_neg e2] at p3 ⊢
          rw [decide_eq_false e2, ar_len, ar_rdk (show k < N + 1 by omega), ar_rdk (show k + d < N + 1 by omega), upd_same, upd_ne _ _ (show k + d ≠ k by omega), wrapI (n := s + a (k + d)) (by have := ha (k + d) (by omega) e1; omega) (by omega),
            decide_eq_true (Int.natCast_nonneg k), decide_eq_true (show (k : Int) < ((N + 1 : Nat) : Int) by omega), decide_eq_true (Int.natCast_nonneg _), decide_eq_true (show ((k + d : Nat) : Int) < ((N + 1 : Nat) : Int) by omega), Int.toNat_natCast, ar_set, upd_upd]
          rfl
      · rw [if_neg e1, decide_eq_false (show ¬ ((k + d : Nat) : Int) ≤ N by omega), Int.add_zero]; rfl
    · show i_Stairs_up_L1 (N : Int) (ar (upd a k (s + gU N B k a (d : Int) + sm (D.drop (i + 1)) (gU N B k a))) (N + 1)) D B ((k : Int) - 1) = i_Stairs_up_L1 (N : Int) (ar (upd a k (s + sm ((d : Int) :: D.drop (i + 1)) (gU N B k a))) (N + 1)) D B ((k : Int) - 1)
      rw [sm, Int.add_assoc]
theorem dpU_hi (G : GoodS N D B) {m j : Nat} (hm : m ≤ N) (h : N - m ≤ j) (hj : j ≤ N) : 0 ≤ dpF N 1 (stU N D B) m j ∧ dpF N 1 (stU N D B) m j ≤ p2 (N - j) := by
  rw [dpF_at hm h]
  exact U_bd G (N - j) j (by omega)
theorem up_loop (G : GoodS N D B) : ∀ e m : Nat, m + e = N → i_Stairs_up_L1 (N : Int) (ar (dpF N 1 (stU N D B) m) (N + 1)) D B ((N : Int) - 1 - m) = some (ar (U N D B) (N + 1))
  | 0, m, h => by
    obtain rfl : m = N := by omega
    rw [i_Stairs_up_u1, i_Stairs_up_t1, decide_eq_false (show ¬ ((m : Int) - 1 - m ≥ 0) by omega)]
    rfl
  | e + 1, m, h => by
    obtain ⟨k, hk⟩ : ∃ k : Nat, k + (m + 1) = N := ⟨e, by omega⟩
    have hb := fun j (h1 : k < j) (h2 : j ≤ N) => dpU_hi G (m := m) (by omega) (show N - m ≤ j by omega) h2
    have e0 : (N : Int) - 1 - m = (k : Int) := by omega
    have hz : dpF N 1 (stU N D B) m k = 0 := dpF_lo (by omega) (by omega)
    have h60 := p2_mono (show N - k ≤ 60 by have := G.n2; omega)
    have hg := gU_bd G (show k ≤ N by omega) hb
    rw [p2_60] at h60
    rw [e0, i_Stairs_up_u1, i_Stairs_up_t1, decide_eq_true (show (k : Int) ≥ 0 by omega), cond_true]
    have := up_in G (k := k) (by omega) (a := dpF N 1 (stU N D B) m) (fun j h1 h2 => (hb j h1 h2).1) 0 (by omega) (by omega)
    rw [← hz, upd_id, hz, Int.zero_add] at this
    have ih := up_loop G e (m + 1) (by omega)
    rw [dpF_succ, show N - (m + 1) = k from by omega, show (N : Int) - 1 - ((m + 1 : Nat) : Int) = (k : Int) - 1 from by omega] at ih
    exact this.trans ih
theorem up_eq (G : GoodS N D B) : i_Stairs_up (N : Int) D B = some (ar (U N D B) (N + 1)) := by
  have hN := G.n2
  have hw : IntKind.wrap .i64 ((N : Int) + 1) = ((N + 1 : Nat) : Int) := by rw [wrapI (by omega) (by omega)]; omega
  have hw2 : IntKind.wrap .i64 ((N : Int) - 1) = (N : Int) - 1 := wrapI (by omega) (by omega)
  unfold i_Stairs_up i_Stairs_up_t0
  rw [hw, hw2, beq_self_eq_true, decide_eq_true (Int.natCast_nonneg _), decide_eq_true (show ((N + 1 : Nat) : Int) ≤ (4294967296 : Int) by omega), decide_eq_true (Int.natCast_nonneg _), List.length_replicate, Int.toNat_natCast, Int.toNat_natCast, decide_eq_true (show (N : Int) < ((N + 1 : Nat) : Int) by omega)]
  simp only [cond_true]
  rw [show List.replicate (N + 1) (Kd.zero kint) = ar (fun _ => 0) (N + 1) from ar_zero _, ar_set]
  have := up_loop G N 0 (by omega)
  rw [show (N : Int) - 1 - ((0 : Nat) : Int) = (N : Int) - 1 from by omega] at this
  exact this
def sat (x : Int) : Int := if x < 1000000000000001 then x else 1000000000000001
theorem least_sat (x : Int) : s_l1Least x 1000000000000001 = sat x := by
  unfold s_l1Least sat
  by_cases h : x < 1000000000000001
  · rw [decide_eq_true h, if_pos h]; rfl
  · rw [decide_eq_false h, if_neg h]; rfl
theorem sat_bd {x : Int} (h : 0 ≤ x) : 0 ≤ sat x ∧ sat x ≤ 1000000000000001 ∧ sat x ≤ x := by
  unfold sat
  by_cases c : x < 1000000000000001
  · rw [if_pos c]; omega
  · rw [if_neg c]; omega
theorem sat_add {x y : Int} (hx : 0 ≤ x) (hy : 0 ≤ y) : sat (sat x + sat y) = sat (x + y) := by
  unfold sat
  by_cases c1 : x < 1000000000000001
  · rw [if_pos c1]
    by_cases c2 : y < 1000000000000001
    · rw [if_pos c2]
    · rw [if_neg c2, if_neg (by omega), if_neg (by omega)]
  · rw [if_neg c1]
    by_cases c2 : y < 1000000000000001
    · rw [if_pos c2, if_neg (by omega), if_neg (by omega)]
    · rw [if_neg c2, if_neg (by omega), if_neg (by omega)]
theorem sat_id {x : Int} (h : x ≤ 1000000000000000) : sat x = x := if_pos (by omega)
theorem sat_le {x : Int} : sat x ≤ 1000000000000000 ↔ x ≤ 1000000000000000 := by
  unfold sat
  by_cases c : x < 1000000000000001
  · rw [if_pos c]
  · rw [if_neg c]; omega
theorem sat_zero : sat 0 = 0 := rfl
theorem sat_pos {x : Int} : 0 < sat x ↔ 0 < x := by
  unfold sat
  by_cases c : x < 1000000000000001
  · rw [if_pos c]
  · rw [if_neg c]; omega
theorem upd_sat (a : Nat → Int) (k : Nat) (s : Int) : (fun j => sat (upd a k s j)) = upd (fun j => sat (a j)) k (sat s) := by
  funext j; unfold upd; by_cases h : j = k
  · rw [if_pos h, if_pos h]
  · rw [if_neg h, if_neg h]
theorem wy_in (G : GoodS N D B) {k : Nat} (hk : k < N) (hbk : ¬ brk B k) {a : Nat → Int} (ha : ∀ j, k < j → j ≤ N → 0 ≤ a j) (s : Int) (h0 : 0 ≤ s) :
    s_clWays_L2 (N : Int) (ar (fun j => sat (upd a k s j)) (N + 1)) D B (k : Int) (D.length : Int) 0 = s_clWays_L1 (N : Int) (ar (fun j => sat (upd a k (s + sm D (gU N B k a)) j)) (N + 1)) D B ((k : Int) - 1) := by
  have hN := G.n2
  have hD := G.d2
  refine loop_inv (L := fun i s => s_clWays_L2 (N : Int) (ar (fun j => sat (upd a k s j)) (N + 1)) D B (k : Int) (D.length : Int) (i : Int)) (l := D) (e := fun l s => s_clWays_L1 (N : Int) (ar (fun j => sat (upd a k (s + sm l (gU N B k a)) j)) (N + 1)) D B ((k : Int) - 1))
    (P := fun l s => (∀ d, d ∈ l → 1 ≤ d ∧ d ≤ 9) ∧ 0 ≤ s) ?_ ?_ s ⟨G.db, h0⟩
  · intro s _
    show s_clWays_L2 (N : Int) (ar (fun j => sat (upd a k s j)) (N + 1)) D B (k : Int) (D.length : Int) (D.length : Int) = _
    rw [s_clWays_u2, s_clWays_t2, decide_eq_false (show ¬ ((D.length : Int) < D.length) by omega), wrapI (n := (k : Int) - 1) (by omega) (by omega)]
    show _ = s_clWays_L1 (N : Int) (ar (fun j => sat (upd a k (s + 0) j)) (N + 1)) D B ((k : Int) - 1)
    rw [Int.add_zero]; rfl
  · intro i hi s ⟨p1, p2⟩
    have hd := p1 D[i] List.mem_cons_self
    have hg := gU_nonneg (N := N) (B := B) ha hd.1
    have hrd := rdk_get (k := kint) hi
    have c1 : (i : Int) < D.length := by omega
    have hw1 : IntKind.wrap .i64 ((i : Int) + 1) = ((i + 1 : Nat) : Int) := by rw [wrapI (by omega) (by omega)]; omega
    generalize D[i] = x at *
    obtain ⟨d, rfl, d1, d2⟩ := natOf hd
    have hw2 : IntKind.wrap .i64 ((k : Int) + (d : Int)) = ((k + d : Nat) : Int) := by rw [wrapI (by omega) (by omega)]; omega
    refine ⟨s + gU N B k a (d : Int), ?_, ⟨fun y hy => p1 y (List.mem_cons_of_mem _ hy), by omega⟩, ?_⟩
    · show s_clWays_L2 (N : Int) (ar (fun j => sat (upd a k s j)) (N + 1)) D B (k : Int) (D.length : Int) (i : Int) = s_clWays_L2 (N : Int) (ar (fun j => sat (upd a k (s + gU N B k a (d : Int)) j)) (N + 1)) D B (k : Int) (D.length : Int) ((i + 1 : Nat) : Int)
      rw [s_clWays_u2, s_clWays_t2, decide_eq_true c1, decide_eq_true (Int.natCast_nonneg i), hrd, hw1, hw2]
      rw [gU_nat]
      by_cases e1 : k + d ≤ N
      · have hkd := ha (k + d) (by omega) e1
        have b1 := sat_bd p2
        have b2 := sat_bd hkd
        rw [if_pos e1, if_neg hbk, decide_eq_true (show ((k + d : Nat) : Int) ≤ N by omega), ar_len, ar_rdk (show k < N + 1 by omega), ar_rdk (show k + d < N + 1 by omega), upd_same, upd_ne _ _ (show k + d ≠ k by omega), wrapI (n := sat s + sat (a (k + d))) (by omega) (by omega), least_sat, sat_add p2 hkd,
            decide_eq_true (Int.natCast_nonneg k), decide_eq_true (show (k : Int) < ((N + 1 : Nat) : Int) by omega), decide_eq_true (Int.natCast_nonneg _), decide_eq_true (show ((k + d : Nat) : Int) < ((N + 1 : Nat) : Int) by omega), Int.toNat_natCast, ar_set, upd_sat, upd_upd, upd_sat]
        rfl
      · rw [if_neg e1, decide_eq_false (show ¬ ((k + d : Nat) : Int) ≤ N by omega), Int.add_zero]; rfl
    · show s_clWays_L1 (N : Int) (ar (fun j => sat (upd a k (s + gU N B k a (d : Int) + sm (D.drop (i + 1)) (gU N B k a)) j)) (N + 1)) D B ((k : Int) - 1) = s_clWays_L1 (N : Int) (ar (fun j => sat (upd a k (s + sm ((d : Int) :: D.drop (i + 1)) (gU N B k a)) j)) (N + 1)) D B ((k : Int) - 1)
      rw [sm, Int.add_assoc]
theorem wy_loop (G : GoodS N D B) : ∀ e m : Nat, m + e = N → s_clWays_L1 (N : Int) (ar (fun j => sat (dpF N 1 (stU N D B) m j)) (N + 1)) D B ((N : Int) - 1 - m) = some (ar (fun j => sat (U N D B j)) (N + 1))
  | 0, m, h => by
    obtain rfl : m = N := by omega
    rw [s_clWays_u1, s_clWays_t1, decide_eq_false (show ¬ ((m : Int) - 1 - m ≥ 0) by omega)]
    rfl
  | e + 1, m, h => by
    have hN := G.n2
    obtain ⟨k, hk⟩ : ∃ k : Nat, k + (m + 1) = N := ⟨e, by omega⟩
    have hb := fun j (h1 : k < j) (h2 : j ≤ N) => dpU_hi G (m := m) (by omega) (show N - m ≤ j by omega) h2
    have e0 : (N : Int) - 1 - m = (k : Int) := by omega
    have hz : dpF N 1 (stU N D B) m k = 0 := dpF_lo (by omega) (by omega)
    rw [e0, s_clWays_u1, s_clWays_t1, decide_eq_true (show (k : Int) ≥ 0 by omega), cond_true, stands D B (show k ≤ N by omega), wrapI (n := (k : Int) - 1) (by omega) (by omega)]
    have ih := wy_loop G e (m + 1) (by omega)
    rw [dpF_succ, show N - (m + 1) = k from by omega, show (N : Int) - 1 - ((m + 1 : Nat) : Int) = (k : Int) - 1 from by omega] at ih
    by_cases hbk : brk B k
    · rw [decide_eq_true hbk]
      have : stU N D B k (dpF N 1 (stU N D B) m) = dpF N 1 (stU N D B) m k := by
        rw [hz]
        refine sm_zero fun d hd => ?_
        unfold gU
        rw [if_pos hbk]
        by_cases c : k + d.toNat ≤ N
        · rw [if_pos c]
        · rw [if_neg c]
      rw [this, upd_id] at ih
      exact ih
    · rw [decide_eq_false hbk]
      have := wy_in G (k := k) (by omega) hbk (a := dpF N 1 (stU N D B) m) (fun j h1 h2 => (hb j h1 h2).1) 0 (by omega)
      rw [← hz, upd_id, hz, Int.zero_add] at this
      exact this.trans ih
theorem ways_eq (G : GoodS N D B) : s_clWays (N : Int) D B = some (ar (fun j => sat (U N D B j)) (N + 1)) := by
  have hN := G.n2
  have hw : IntKind.wrap .i64 ((N : Int) + 1) = ((N + 1 : Nat) : Int) := by rw [wrapI (by omega) (by omega)]; omega
  have hw2 : IntKind.wrap .i64 ((N : Int) - 1) = (N : Int) - 1 := wrapI (by omega) (by omega)
  unfold s_clWays s_clWays_t0
  rw [hw, hw2, beq_self_eq_true, decide_eq_true (Int.natCast_nonneg _), decide_eq_true (show ((N + 1 : Nat) : Int) ≤ (4294967296 : Int) by omega), decide_eq_true (Int.natCast_nonneg _), List.length_replicate, Int.toNat_natCast, Int.toNat_natCast, decide_eq_true (show (N : Int) < ((N + 1 : Nat) : Int) by omega)]
  simp only [cond_true]
  rw [show List.replicate (N + 1) (Kd.zero kint) = ar (fun _ => 0) (N + 1) from ar_zero _, ar_set]
  have := wy_loop G N 0 (by omega)
  rw [show (N : Int) - 1 - ((0 : Nat) : Int) = (N : Int) - 1 from by omega] at this
  refine Eq.trans ?_ this
  congr 2
  funext j
  show upd (fun _ => 0) N 1 j = sat (if j = N then 1 else 0)
  unfold upd
  by_cases h : j = N
  · rw [if_pos h]; rfl
  · rw [if_neg h]; rfl
/-! counted -/
noncomputable def cntB (N : Nat) (D B : List Int) : Bool := decide (U N D B 0 ≤ 1000000000000000)
theorem counted_eq (G : GoodS N D B) : i_counted (N : Int) D B = some (ar (U N D B) (N + 1), cntB N D B) := by
  unfold i_counted
  have r0 : rdk kint (ar (U N D B) (N + 1)) 0 = U N D B 0 := ar_rdk (i := 0) (by omega)
  rw [i_AreStairs_eq, good_of G, up_eq G]
  simp only [Bool.not_true, cond_false, Option.bind_some]
  rw [ar_len, decide_eq_true (show (0 : Int) < ((N + 1 : Nat) : Int) by omega), r0]
  rfl
theorem clCounted_eq (G : GoodS N D B) : s_clCounted (N : Int) D B = some (cntB N D B) := by
  unfold s_clCounted
  have r0 : rdk kint (ar (fun j => sat (U N D B j)) (N + 1)) 0 = sat (U N D B 0) := ar_rdk (i := 0) (by omega)
  rw [good_of G, ways_eq G]
  simp only [cond_true, Option.bind_some]
  rw [ar_len, decide_eq_true (show (0 : Int) < ((N + 1 : Nat) : Int) by omega), r0]
  unfold cntB
  rw [decide_eq_decide.2 sat_le]
  rfl
theorem CountClimbs_i (G : GoodS N D B) : i_CountClimbs (N : Int) D B = some (bif cntB N D B then (U N D B 0, true) else (0, false)) := by
  unfold i_CountClimbs
  have r0 : rdk kint (ar (U N D B) (N + 1)) 0 = U N D B 0 := ar_rdk (i := 0) (by omega)
  rw [counted_eq G]
  simp only [Option.bind_some]
  rw [ar_len, r0, decide_eq_true (show (0 : Int) < ((N + 1 : Nat) : Int) by omega)]
  cases hc : cntB N D B
  · rfl
  · rfl
end
/-! ### sums, stairs turned -/
section
variable {N : Nat} {D B : List Int}
theorem sr_first (n : Nat) (f : Nat → Int) : sr (n + 1) f = f 0 + sr n (fun k => f (k + 1)) := by
  unfold sr; rw [List.range_succ_eq_map, sm, sm_map]
theorem sr_swap {n m : Nat} {f : Nat → Nat → Int} : sr n (fun x => sr m (fun y => f x y)) = sr m (fun y => sr n (fun x => f x y)) := sm_swap
theorem sr_mul {n : Nat} {f : Nat → Int} (c : Int) : sr n (fun k => c * f k) = c * sr n f := sm_mul c
theorem sm_mul_r {α : Type} {f : α → Int} (c : Int) {l : List α} : sm l (fun x => f x * c) = sm l f * c := by
  rw [Int.mul_comm, ← sm_mul]; exact sm_congr fun x _ => Int.mul_comm _ _
theorem turned (G : GoodS N D B) : GoodS N D (B.map fun x => (N : Int) - x).reverse ∧ ∀ k, k ≤ N → (brk (B.map fun x => (N : Int) - x).reverse k ↔ brk B (N - k)) := by
  constructor
  · refine ⟨G.n1, G.n2, G.d1, G.d2, G.dp, G.db, ?_, ?_⟩
    · rw [List.pairwise_reverse, List.pairwise_map]
      exact G.bp.imp (fun h => by omega)
    · intro b hb
      rw [List.mem_reverse] at hb
      obtain ⟨x, hx, rfl⟩ := List.mem_map.1 hb
      have := G.bb x hx
      omega
  · intro k hk
    unfold brk
    rw [List.mem_reverse, List.mem_map]
    constructor
    · rintro ⟨x, hx, h⟩
      rw [show ((N - k : Nat) : Int) = x from by omega]; exact hx
    · intro h
      exact ⟨_, h, by omega⟩
end
/-! ### numbers of which something holds -/
def numF (f : Nat → Bool) (n d : Nat) : List Int := ((List.range' n d).filter f).map (fun k : Nat => (k : Int))
theorem numF_zero (f : Nat → Bool) (n : Nat) : numF f n 0 = [] := rfl
theorem numF_succ (f : Nat → Bool) (n d : Nat) : numF f n (d + 1) = (bif f n then [(n : Int)] else []) ++ numF f (n + 1) d := by
  unfold numF
  rw [List.range'_succ, List.filter_cons]
  cases h : f n
  · simp
  · simp
theorem numF_mem {f : Nat → Bool} {n d : Nat} {x : Int} : x ∈ numF f n d ↔ ∃ k : Nat, (n ≤ k ∧ k < n + d) ∧ f k = true ∧ x = k := by
  unfold numF
  rw [List.mem_map]
  constructor
  · rintro ⟨k, hk, rfl⟩
    obtain ⟨h1, h2⟩ := List.mem_filter.1 hk
    exact ⟨k, List.mem_range'_1.1 h1, h2, rfl⟩
  · rintro ⟨k, h1, h2, rfl⟩
    exact ⟨k, List.mem_filter.2 ⟨List.mem_range'_1.2 h1, h2⟩, rfl⟩
theorem numF_nat {f : Nat → Bool} {n d k : Nat} : (k : Int) ∈ numF f n d ↔ (n ≤ k ∧ k < n + d) ∧ f k = true := by
  rw [numF_mem]
  constructor
  · rintro ⟨j, h1, h2, h3⟩
    rw [show k = j from by omega]; exact ⟨h1, h2⟩
  · rintro ⟨h1, h2⟩
    exact ⟨k, h1, h2, rfl⟩
theorem numF_len (f : Nat → Bool) (n d : Nat) : (numF f n d).length ≤ d := by
  unfold numF
  rw [List.length_map]
  refine Nat.le_trans (List.length_filter_le _ _) ?_
  rw [List.length_range']; exact Nat.le_refl _
theorem numF_pw (f : Nat → Bool) (n d : Nat) : (numF f n d).Pairwise (· < ·) := by
  unfold numF
  rw [List.pairwise_map]
  exact (List.Pairwise.filter _ List.pairwise_lt_range').imp fun {a b} h => by omega
theorem numF_congr {f g : Nat → Bool} {n d : Nat} (h : ∀ k, n ≤ k → k < n + d → f k = g k) : numF f n d = numF g n d := by
  unfold numF
  congr 1
  exact List.filter_congr fun k hk => by have := List.mem_range'_1.1 hk; exact h k this.1 this.2
/-- two lists that rise and have the same members are the same -/
theorem pw_ext : ∀ {l m : List Int}, l.Pairwise (· < ·) → m.Pairwise (· < ·) → (∀ x, x ∈ l ↔ x ∈ m) → l = m
  | [], [], _, _, _ => rfl
  | [], y :: m, _, _, h => absurd ((h y).2 (by simp)) (by simp)
  | x :: l, [], _, _, h => absurd ((h x).1 (by simp)) (by simp)
  | x :: l, y :: m, hl, hm, h => by
    obtain ⟨l1, l2⟩ := List.pairwise_cons.1 hl
    obtain ⟨m1, m2⟩ := List.pairwise_cons.1 hm
    have e : x = y := by
      have a := (h x).1 (by simp)
      have b := (h y).2 (by simp)
      rcases List.mem_cons.1 a with a | a
      · exact a
      · rcases List.mem_cons.1 b with b | b
        · exact b.symm
        · have := m1 x a; have := l1 y b; omega
    subst e
    rw [pw_ext l2 m2 (fun z => ?_)]
    constructor
    · intro hz
      rcases List.mem_cons.1 ((h z).1 (List.mem_cons_of_mem _ hz)) with e | e
      · have := l1 z hz; omega
      · exact e
    · intro hz
      rcases List.mem_cons.1 ((h z).2 (List.mem_cons_of_mem _ hz)) with e | e
      · have := m1 z hz; omega
      · exact e
/-- a row that goes up changes no more often than it rises -/
theorem joins_cnt (g : Nat → Int) : ∀ d : Nat, (∀ i, i < d → g i ≤ g (i + 1)) → (((List.range' 1 d).filter (fun i => !(g i == g (i - 1)))).length : Int) ≤ g d - g 0
  | 0, _ => by simp
  | d + 1, h => by
    have ih := joins_cnt g d (fun i hi => h i (by omega))
    have hd := h d (by omega)
    rw [List.range'_1_concat, List.filter_append, List.length_append]
    rw [show 1 + d = d + 1 from by omega]
    by_cases c : g (d + 1) = g d
    · have : [d + 1].filter (fun i => !(g i == g (i - 1))) = [] := by simp [c]
      rw [this, List.length_nil]; omega
    · have : ([d + 1].filter (fun i => !(g i == g (i - 1)))).length ≤ 1 := List.length_filter_le _ _
      omega
/-! ### ways through a step -/
section
variable {N : Nat} {D B : List Int}
def BM (N : Nat) (B : List Int) : List Int := (B.map fun x => (N : Int) - x).reverse
/-- the ways from the ground to a step -/
def Dn (N : Nat) (D B : List Int) (q : Nat) : Int := U N D (BM N B) (N - q)
theorem Dn_zero : Dn N D B 0 = 1 := U_top
theorem Dn_nn (G : GoodS N D B) (q : Nat) : 0 ≤ Dn N D B q := U_nn (turned G).1 (Nat.sub_le _ _)
theorem Dn_le (G : GoodS N D B) (q : Nat) : Dn N D B q ≤ 1152921504606846976 := U_le (turned G).1 (Nat.sub_le _ _)
theorem Dn_rec (G : GoodS N D B) {q : Nat} (h : 0 < q) (hq : q ≤ N) : Dn N D B q = sm D (fun d => if d.toNat ≤ q then (if brk B q then 0 else Dn N D B (q - d.toNat)) else 0) := by
  have G' : GoodS N D (BM N B) := (turned G).1
  have hb : brk (BM N B) (N - q) ↔ brk B (N - (N - q)) := (turned G).2 (N - q) (by omega)
  rw [show N - (N - q) = q from by omega] at hb
  unfold Dn
  rw [U_rec G' (show N - q < N by omega)]
  refine sm_congr fun d hd => ?_
  obtain ⟨m, rfl, h1, h2⟩ := natOf (G.db d hd)
  rw [gU_nat, Int.toNat_natCast]
  by_cases c : m ≤ q
  · rw [if_pos c, if_pos (by omega), show N - q + m = N - (q - m) from by omega]
    by_cases hbq : brk B q
    · rw [if_pos hbq, if_pos (hb.2 hbq)]
    · rw [if_neg hbq, if_neg (fun x => hbq (hb.1 x))]
  · rw [if_neg c, if_neg (by omega)]
theorem Dn_brk (G : GoodS N D B) {q : Nat} (hq : q ≤ N) (h : brk B q) : Dn N D B q = 0 := by
  have h0 : 0 < q := by
    rcases Nat.eq_zero_or_pos q with rfl | h0
    · exact absurd h (brk_no G).1
    · exact h0
  rw [Dn_rec G h0 hq]
  exact sm_zero fun d _ => by split <;> first | rfl | (rw [if_pos h])
theorem shift {m : Nat} (f g : Nat → Int) : sr (N + 1) (fun i => if i + m ≤ N then f i * g (i + m) else 0) = sr (N + 1) (fun j => if m ≤ j then f (j - m) * g j else 0) := by
  have h1 : ∀ i, i < N + 1 → (if i + m ≤ N then f i * g (i + m) else 0) = sr (N + 1) (fun j => if j = i + m then f i * g (i + m) else 0) := fun i _ => by
    rw [sr_one]
    by_cases c : i + m ≤ N
    · rw [if_pos c, if_pos (by omega)]
    · rw [if_neg c, if_neg (by omega)]
  have h2 : ∀ j, j < N + 1 → (if m ≤ j then f (j - m) * g j else 0) = sr (N + 1) (fun i => if j = i + m then f i * g (i + m) else 0) := fun j hj => by
    by_cases c : m ≤ j
    · rw [if_pos c]
      have e : sr (N + 1) (fun i => if j = i + m then f i * g (i + m) else 0) = sr (N + 1) (fun i => if i = j - m then f (j - m) * g j else 0) := sr_congr fun i _ => by
        by_cases c2 : j = i + m
        · rw [if_pos c2, if_pos (by omega), ← c2, show j - m = i from by omega]
        · rw [if_neg c2, if_neg (by omega)]
      rw [e, sr_one, if_pos (by omega)]
    · rw [if_neg c]
      exact (sr_zero fun i _ => if_neg (by omega)).symm
  rw [sr_congr h1, sr_congr h2, sr_swap]
theorem sr_take {n k : Nat} (f : Nat → Int) (h : k < n) : sr n f = sr n (fun i => if i = k then 0 else f i) + f k := by
  have e : sr n f = sr n (fun i => (if i = k then 0 else f i) + (if i = k then f k else 0)) := sr_congr fun i _ => by
    by_cases c : i = k
    · rw [if_pos c, if_pos c, c]; omega
    · rw [if_neg c, if_neg c]; omega
  rw [e]
  unfold sr
  rw [sm_add]
  have := sr_one (p := k) (x := f k) n
  unfold sr at this
  rw [this, if_pos h]
/-- numbers that are told by those above them, but at one step, are at the ground what they are at this step, times the ways to it -/
theorem pair_at (G : GoodS N D B) (E : Nat → Int) {k : Nat} (hk : k ≤ N) (hr : ∀ i, i < N → i ≠ k → ¬ brk B i → E i = sm D (fun d => if i + d.toNat ≤ N then E (i + d.toNat) else 0))
    (hb : ∀ j, j ≤ N → brk B j → E j = 0) (hz : ∀ j, k < j → j ≤ N → E j = 0) : E 0 = Dn N D B k * E k := by
  have a1 : sm D (fun d => sr (N + 1) (fun i => if i + d.toNat ≤ N then Dn N D B i * E (i + d.toNat) else 0)) = sr (N + 1) (fun i => if i = k then 0 else Dn N D B i * E i) := by
    unfold sr
    rw [sm_swap]
    refine sr_congr fun i hi => ?_
    have e : sm D (fun d => if i + d.toNat ≤ N then Dn N D B i * E (i + d.toNat) else 0) = Dn N D B i * sm D (fun d => if i + d.toNat ≤ N then E (i + d.toNat) else 0) := by
      rw [← sm_mul]
      refine sm_congr fun d _ => ?_
      split
      · rfl
      · rw [Int.mul_zero]
    show sm D (fun d => if i + d.toNat ≤ N then Dn N D B i * E (i + d.toNat) else 0) = _
    rw [e]
    by_cases c : i = k
    · rw [if_pos c, sm_zero fun d hd => ?_, Int.mul_zero]
      have := (G.db d hd).1
      split
      · rename_i h; exact hz _ (by omega) h
      · rfl
    · rw [if_neg c]
      by_cases hbi : brk B i
      · rw [Dn_brk G (by omega) hbi, Int.zero_mul, Int.zero_mul]
      · by_cases hN : i = N
        · rw [hN, hz N (by omega) (by omega), sm_zero fun d hd => ?_]
          have := (G.db d hd).1
          exact if_neg (by omega)
        · rw [← hr i (by omega) c hbi]
  have a2 : sm D (fun d => sr (N + 1) (fun i => if i + d.toNat ≤ N then Dn N D B i * E (i + d.toNat) else 0)) = sr (N + 1) (fun j => if j = 0 then 0 else Dn N D B j * E j) := by
    rw [sm_congr (g := fun d => sr (N + 1) (fun j => if d.toNat ≤ j then Dn N D B (j - d.toNat) * E j else 0)) (fun d _ => shift (m := d.toNat) (Dn N D B) E)]
    unfold sr
    rw [sm_swap]
    refine sr_congr fun j hj => ?_
    have e : sm D (fun d => if d.toNat ≤ j then Dn N D B (j - d.toNat) * E j else 0) = sm D (fun d => if d.toNat ≤ j then Dn N D B (j - d.toNat) else 0) * E j := by
      rw [← sm_mul_r]
      refine sm_congr fun d _ => ?_
      split
      · rfl
      · rw [Int.zero_mul]
    show sm D (fun d => if d.toNat ≤ j then Dn N D B (j - d.toNat) * E j else 0) = _
    rw [e]
    by_cases c : j = 0
    · rw [if_pos c, sm_zero fun d hd => ?_, Int.zero_mul]
      have := (G.db d hd).1
      exact if_neg (by omega)
    · rw [if_neg c]
      by_cases hbj : brk B j
      · rw [hb j (by omega) hbj, Int.mul_zero, Int.mul_zero]
      · rw [Dn_rec G (by omega) (by omega)]
        congr 1
        refine sm_congr fun d _ => ?_
        by_cases c : d.toNat ≤ j
        · rw [if_pos c, if_pos c, if_neg hbj]
        · rw [if_neg c, if_neg c]
  have t1 := sr_take (n := N + 1) (k := k) (fun i => Dn N D B i * E i) (by omega)
  have t2 := sr_take (n := N + 1) (k := 0) (fun i => Dn N D B i * E i) (by omega)
  rw [← a1] at t1
  rw [← a2] at t2
  rw [Dn_zero, Int.one_mul] at t2
  omega
theorem gU_get (i : Nat) (a : Nat → Int) (hb : ¬ brk B i) : sm D (gU N B i a) = sm D (fun d => if i + d.toNat ≤ N then a (i + d.toNat) else 0) := sm_congr fun d _ => by
  unfold gU
  by_cases c : i + d.toNat ≤ N
  · rw [if_pos c, if_pos c, if_neg hb]
  · rw [if_neg c, if_neg c]
theorem U_all (G : GoodS N D B) : U N D B 0 = Dn N D B N := by
  have := pair_at G (U N D B) (k := N) (by omega) (fun i h1 _ h3 => by rw [U_rec G h1, gU_get i _ h3]) (fun j h1 h2 => by
    rcases Nat.lt_or_ge j N with h | h
    · exact U_brk G h h2
    · exact absurd (show brk B N from (by rw [show N = j from by omega]; exact h2)) (brk_no G).2) (fun j h1 h2 => by omega)
  rw [this, U_top, Int.mul_one]
theorem U_above {B' : List Int} (G : GoodS N D B) (G' : GoodS N D B') {k : Nat} (hb : ∀ j, j ≤ N → (brk B' j ↔ brk B j ∨ j = k)) : ∀ (e j : Nat), j + e = N → k < j → U N D B' j = U N D B j := by
  intro e
  induction e using Nat.strongRecOn with
  | _ e ih =>
    intro j hj hkj
    rcases Nat.eq_zero_or_pos e with h0 | h0
    · have : j = N := by omega
      subst this
      rw [U_top, U_top]
    · rw [U_rec G (by omega), U_rec G' (by omega)]
      refine sm_congr fun d hd => ?_
      obtain ⟨m, rfl, h1, h2⟩ := natOf (G.db d hd)
      rw [gU_nat, gU_nat]
      by_cases c : j + m ≤ N
      · rw [if_pos c, if_pos c, ih (N - (j + m)) (by omega) (j + m) (by omega) (by omega)]
        have := hb j (by omega)
        by_cases hbj : brk B j
        · rw [if_pos hbj, if_pos (this.2 (Or.inl hbj))]
        · rw [if_neg hbj, if_neg (fun x => by rcases this.1 x with h | h; exact hbj h; omega)]
      · rw [if_neg c, if_neg c]
/-- a break takes the climbs through the step away -/
theorem U_thru {B' : List Int} (G : GoodS N D B) (G' : GoodS N D B') {k : Nat} (hk : k < N) (hbk : ¬ brk B k) (hb : ∀ j, j ≤ N → (brk B' j ↔ brk B j ∨ j = k)) : U N D B 0 - U N D B' 0 = Dn N D B k * U N D B k := by
  have hu : U N D B' k = 0 := U_brk G' hk ((hb k (by omega)).2 (Or.inr rfl))
  have := pair_at G (fun j => U N D B j - U N D B' j) (k := k) (by omega) (fun i h1 h2 h3 => by
      have hbi : ¬ brk B' i := fun x => by rcases (hb i (by omega)).1 x with h | h; exact h3 h; exact h2 h
      rw [U_rec G h1, gU_get i _ h3, U_rec G' h1, gU_get i _ hbi]
      have e : sm D (fun d => if i + d.toNat ≤ N then U N D B (i + d.toNat) else 0) = sm D (fun d => (if i + d.toNat ≤ N then U N D B (i + d.toNat) - U N D B' (i + d.toNat) else 0) + (if i + d.toNat ≤ N then U N D B' (i + d.toNat) else 0)) := sm_congr fun d _ => by
        split <;> omega
      rw [e, sm_add]; omega)
    (fun j h1 h2 => by
      have hj : j < N := by
        rcases Nat.lt_or_ge j N with h | h
        · exact h
        · exact absurd (show brk B N from (by rw [show N = j from by omega]; exact h2)) (brk_no G).2
      rw [U_brk G hj h2, U_brk G' hj ((hb j h1).2 (Or.inl h2))]; rfl)
    (fun j h1 h2 => by rw [U_above G G' hb (N - j) j (by omega) h1]; omega)
  simp only [hu, Int.sub_zero] at this
  exact this
end
/-! ### stairs with a step broken more -/
def brkL (B : List Int) (x : Int) : List Int := B.takeWhile (fun y => decide (y < x)) ++ [x] ++ B.dropWhile (fun y => decide (y < x))
theorem brkL_mem {B : List Int} {x y : Int} : y ∈ brkL B x ↔ y ∈ B ∨ y = x := by
  have e : y ∈ B ↔ y ∈ B.takeWhile (fun y => decide (y < x)) ∨ y ∈ B.dropWhile (fun y => decide (y < x)) := by
    rw [← List.mem_append, List.takeWhile_append_dropWhile]
  unfold brkL
  rw [List.mem_append, List.mem_append, List.mem_singleton, e]
  constructor
  · rintro ((h | h) | h)
    · exact .inl (.inl h)
    · exact .inr h
    · exact .inl (.inr h)
  · rintro ((h | h) | h)
    · exact .inl (.inl h)
    · exact .inr h
    · exact .inl (.inr h)
theorem brkL_pw {B : List Int} {x : Int} (hB : B.Pairwise (· < ·)) (hx : x ∉ B) : (brkL B x).Pairwise (· < ·) := by
  have htw : ∀ y, y ∈ B.takeWhile (fun y => decide (y < x)) → y < x := fun y hy => by
    have := List.all_takeWhile (p := fun y => decide (y < x)) (l := B)
    exact of_decide_eq_true (List.all_eq_true.1 this y hy)
  have hdw : ∀ y, y ∈ B.dropWhile (fun y => decide (y < x)) → x < y := by
    have : ∀ l : List Int, l.Pairwise (· < ·) → x ∉ l → ∀ y, y ∈ l.dropWhile (fun y => decide (y < x)) → x < y := by
      intro l
      induction l with
      | nil => intro _ _ y hy; exact absurd hy List.not_mem_nil
      | cons a l ih =>
        intro hp hn y hy
        obtain ⟨g1, g2⟩ := List.pairwise_cons.1 hp
        have hxa : x ≠ a := fun e => hn (by rw [e]; exact List.mem_cons_self)
        rw [List.dropWhile_cons] at hy
        by_cases c : a < x
        · rw [if_pos (decide_eq_true c)] at hy
          exact ih g2 (fun h => hn (List.mem_cons_of_mem _ h)) y hy
        · rw [if_neg (by simpa using c)] at hy
          rcases List.mem_cons.1 hy with rfl | hy
          · omega
          · have := g1 y hy; omega
    exact this B hB hx
  unfold brkL
  rw [List.pairwise_append, List.pairwise_append]
  refine ⟨⟨hB.sublist (List.takeWhile_sublist _), List.pairwise_singleton _ _, fun a ha b hb => ?_⟩, hB.sublist (List.dropWhile_sublist _), fun a ha b hb => ?_⟩
  · have := htw a ha; rw [List.mem_singleton] at hb; omega
  · have h2 := hdw b hb
    rcases List.mem_append.1 ha with h | h
    · have := htw a h; omega
    · rw [List.mem_singleton] at h; omega
/-- mended again: as it was -/
theorem brkL_mend {B : List Int} {x : Int} (hB : B.Pairwise (· < ·)) (hx : x ∉ B) : (brkL B x).filter (fun y => !(y == x)) = B := by
  refine pw_ext (List.Pairwise.filter _ (brkL_pw hB hx)) hB (fun z => ?_)
  rw [List.mem_filter, brkL_mem]
  constructor
  · rintro ⟨h1, h2⟩
    rcases h1 with h1 | h1
    · exact h1
    · subst h1; simp at h2
  · intro h
    exact ⟨.inl h, by simp; intro e; subst e; exact hx h⟩
/-- broken again: as it was -/
theorem mend_brkL {B : List Int} {x : Int} (hB : B.Pairwise (· < ·)) (hx : x ∈ B) : brkL (B.filter (fun y => !(y == x))) x = B := by
  have hf : x ∉ B.filter (fun y => !(y == x)) := fun h => by
    have := (List.mem_filter.1 h).2
    simp at this
  refine pw_ext (brkL_pw (List.Pairwise.filter _ hB) hf) hB (fun z => ?_)
  rw [brkL_mem, List.mem_filter]
  constructor
  · rintro (h | h)
    · exact h.1
    · subst h; exact hx
  · intro h
    by_cases e : z = x
    · exact .inr e
    · exact .inl ⟨h, by simpa using e⟩
section
variable {N : Nat} {D B : List Int}
theorem brkL_good (G : GoodS N D B) {k : Nat} (h1 : 1 ≤ k) (h2 : k < N) (hb : ¬ brk B k) : GoodS N D (brkL B k) ∧ ∀ j, j ≤ N → (brk (brkL B k) j ↔ brk B j ∨ j = k) := by
  refine ⟨⟨G.n1, G.n2, G.d1, G.d2, G.dp, G.db, brkL_pw G.bp hb, fun b h => ?_⟩, fun j _ => ?_⟩
  · rcases brkL_mem.1 h with h | h
    · exact G.bb b h
    · omega
  · unfold brk
    rw [brkL_mem]
    constructor
    · rintro (h | h)
      · exact .inl h
      · exact .inr (by omega)
    · rintro (h | h)
      · exact .inl h
      · exact .inr (by omega)
/-- the climbs through a step -/
def thr (N : Nat) (D B : List Int) (k : Nat) : Int := Dn N D B k * U N D B k
theorem thr_top (G : GoodS N D B) : thr N D B N = U N D B 0 := by
  unfold thr
  rw [U_top, Int.mul_one, ← U_all G]
theorem thr_brk (G : GoodS N D B) {k : Nat} (hk : k ≤ N) (hb : brk B k) : thr N D B k = 0 := by
  unfold thr
  rw [Dn_brk G hk hb, Int.zero_mul]
theorem thr_brkL (G : GoodS N D B) {k : Nat} (h1 : 1 ≤ k) (h2 : k < N) (hb : ¬ brk B k) : U N D (brkL B k) 0 = U N D B 0 - thr N D B k := by
  obtain ⟨G', hb'⟩ := brkL_good G h1 h2 hb
  have := U_thru G G' h2 hb hb'
  unfold thr
  omega
theorem thr_bd (G : GoodS N D B) {k : Nat} (h1 : 1 ≤ k) (h2 : k ≤ N) : 0 ≤ thr N D B k ∧ thr N D B k ≤ U N D B 0 := by
  refine ⟨Int.mul_nonneg (Dn_nn G k) (U_nn G h2), ?_⟩
  by_cases hN : k = N
  · subst hN; rw [thr_top G]; exact Int.le_refl _
  · by_cases hb : brk B k
    · rw [thr_brk G h2 hb]; exact U_nn G (Nat.zero_le _)
    · have := thr_brkL G h1 (by omega) hb
      have := U_nn (brkL_good G h1 (by omega) hb).1 (Nat.zero_le N)
      omega
theorem thr_zero (G : GoodS N D B) {k : Nat} (hk : k ≤ N) (hd : 0 < Dn N D B k) : thr N D B k = 0 ↔ U N D B k = 0 := by
  unfold thr
  rw [Int.mul_eq_zero]
  constructor
  · rintro (h | h)
    · omega
    · exact h
  · exact .inr
end
/-! the greatest, the first of them -/
def wstF (f : Nat → Int) (n d : Nat) (a : Int × Int) : Int × Int := (List.range' n d).foldl (fun a k => if f k > a.2 then ((k : Int), f k) else a) a
theorem wstF_succ (f : Nat → Int) (n d : Nat) (a : Int × Int) : wstF f n (d + 1) a = wstF f (n + 1) d (if f n > a.2 then ((n : Int), f n) else a) := by
  unfold wstF; rw [List.range'_succ, List.foldl_cons]
theorem wst_inv (f : Nat → Int) : ∀ (d n : Nat) (a : Int × Int), (∀ k, n ≤ k → k < n + d → f k ≤ (wstF f n d a).2) ∧ (wstF f n d a = a ∨ a.2 < (wstF f n d a).2) ∧ a.2 ≤ (wstF f n d a).2 ∧
    (∀ k : Nat, n ≤ k → k < n + d → f k = (wstF f n d a).2 → a.2 < f k → (wstF f n d a).1 ≤ k) ∧ (wstF f n d a = a ∨ ∃ k : Nat, n ≤ k ∧ k < n + d ∧ wstF f n d a = ((k : Int), f k))
  | 0, n, a => ⟨fun k h1 h2 => by omega, .inl rfl, Int.le_refl _, fun k h1 h2 => by omega, .inl rfl⟩
  | d + 1, n, a => by
    rw [wstF_succ]
    by_cases c : f n > a.2
    · rw [if_pos c]
      obtain ⟨h1, h2, h3, h4, h5⟩ := wst_inv f d (n + 1) ((n : Int), f n)
      simp only at h2 h3 h4
      refine ⟨fun k k1 k2 => ?_, .inr (by omega), by omega, fun k k1 k2 k3 k4 => ?_, .inr ?_⟩
      · rcases Nat.eq_or_lt_of_le k1 with e | e
        · subst e; exact h3
        · exact h1 k e (by omega)
      · rcases h2 with h2 | h2
        · rw [h2]; show (n : Int) ≤ k; omega
        · rcases Nat.eq_or_lt_of_le k1 with e | e
          · subst e; omega
          · exact h4 k e (by omega) k3 (by omega)
      · rcases h5 with h5 | ⟨k, k1, k2, k3⟩
        · exact ⟨n, Nat.le_refl _, by omega, h5⟩
        · exact ⟨k, by omega, by omega, k3⟩
    · rw [if_neg c]
      obtain ⟨h1, h2, h3, h4, h5⟩ := wst_inv f d (n + 1) a
      refine ⟨fun k k1 k2 => ?_, h2, h3, fun k k1 k2 k3 k4 => ?_, ?_⟩
      · rcases Nat.eq_or_lt_of_le k1 with e | e
        · subst e; omega
        · exact h1 k e (by omega)
      · rcases Nat.eq_or_lt_of_le k1 with e | e
        · subst e; omega
        · exact h4 k e (by omega) k3 k4
      · rcases h5 with h5 | ⟨k, k1, k2, k3⟩
        · exact .inl h5
        · exact .inr ⟨k, by omega, by omega, k3⟩
/-! ### steps reached, stuck and needed -/
section
variable {N : Nat} {D B : List Int}
def rchB (N : Nat) (D B : List Int) (k : Nat) : Bool := decide (0 < Dn N D B k)
def stkB (N : Nat) (D B : List Int) (k : Nat) : Bool := decide (0 < Dn N D B k) && U N D B k == 0
def ndB (N : Nat) (D B : List Int) (k : Nat) : Bool := thr N D B k == U N D B 0
def rchL (N : Nat) (D B : List Int) : List Int := numF (rchB N D B) 1 N
def stkL (N : Nat) (D B : List Int) : List Int := numF (stkB N D B) 1 N
def ndL (N : Nat) (D B : List Int) : List Int := numF (ndB N D B) 1 N
theorem rch_mem {x : Int} : x ∈ rchL N D B ↔ ∃ k : Nat, (1 ≤ k ∧ k ≤ N) ∧ 0 < Dn N D B k ∧ x = k := by
  unfold rchL rchB
  rw [numF_mem]
  constructor
  · rintro ⟨k, h1, h2, h3⟩
    exact ⟨k, ⟨h1.1, by omega⟩, of_decide_eq_true h2, h3⟩
  · rintro ⟨k, h1, h2, h3⟩
    exact ⟨k, ⟨h1.1, by omega⟩, decide_eq_true h2, h3⟩
theorem stk_mem {x : Int} : x ∈ stkL N D B ↔ ∃ k : Nat, (1 ≤ k ∧ k ≤ N) ∧ 0 < Dn N D B k ∧ U N D B k = 0 ∧ x = k := by
  unfold stkL stkB
  rw [numF_mem]
  constructor
  · rintro ⟨k, h1, h2, h3⟩
    rw [Bool.and_eq_true, decide_eq_true_eq, beq_iff_eq] at h2
    exact ⟨k, ⟨h1.1, by omega⟩, h2.1, h2.2, h3⟩
  · rintro ⟨k, h1, h2, h3, h4⟩
    exact ⟨k, ⟨h1.1, by omega⟩, by rw [Bool.and_eq_true, decide_eq_true_eq, beq_iff_eq]; exact ⟨h2, h3⟩, h4⟩
theorem nd_mem {x : Int} : x ∈ ndL N D B ↔ ∃ k : Nat, (1 ≤ k ∧ k ≤ N) ∧ thr N D B k = U N D B 0 ∧ x = k := by
  unfold ndL ndB
  rw [numF_mem]
  constructor
  · rintro ⟨k, h1, h2, h3⟩
    exact ⟨k, ⟨h1.1, by omega⟩, beq_iff_eq.1 h2, h3⟩
  · rintro ⟨k, h1, h2, h3⟩
    exact ⟨k, ⟨h1.1, by omega⟩, beq_iff_eq.2 h2, h3⟩
theorem rch_top (G : GoodS N D B) : (N : Int) ∈ rchL N D B ↔ U N D B 0 ≠ 0 := by
  have h0 := U_nn G (Nat.zero_le N)
  rw [rch_mem, U_all G]
  rw [U_all G] at h0
  have := G.n1
  constructor
  · rintro ⟨k, h1, h2, h3⟩
    have : k = N := by omega
    subst this; omega
  · intro h
    exact ⟨N, ⟨by omega, Nat.le_refl _⟩, by omega, rfl⟩
theorem stk_top : (N : Int) ∉ stkL N D B := by
  rw [stk_mem]
  rintro ⟨k, h1, h2, h3, h4⟩
  have : k = N := by omega
  subst this
  rw [U_top] at h3; omega
theorem stk_all (G : GoodS N D B) (h : U N D B 0 = 0) : stkL N D B = rchL N D B := by
  refine numF_congr fun k h1 h2 => ?_
  unfold stkB rchB
  cases hd : decide (0 < Dn N D B k)
  · rfl
  · have hd := of_decide_eq_true hd
    have ht := thr_bd G (k := k) (by omega) (by omega)
    have : U N D B k = 0 := (thr_zero G (by omega) hd).1 (by omega)
    rw [this]; rfl
theorem stk_rch {x : Int} (h : x ∈ stkL N D B) : x ∈ rchL N D B := by
  obtain ⟨k, h1, h2, h3, h4⟩ := stk_mem.1 h
  exact rch_mem.2 ⟨k, h1, h2, h4⟩
theorem stk_nd (G : GoodS N D B) (h0 : U N D B 0 ≠ 0) {x : Int} (h : x ∈ stkL N D B) : x ∉ ndL N D B := by
  obtain ⟨k, h1, h2, h3, rfl⟩ := stk_mem.1 h
  intro hn
  obtain ⟨j, g1, g2, g3⟩ := nd_mem.1 hn
  have : j = k := by omega
  subst this
  have := (thr_zero G g1.2 h2).2 h3
  omega
theorem brk_rch (G : GoodS N D B) {x : Int} (h : x ∈ B) : x ∉ rchL N D B := by
  intro hr
  obtain ⟨k, h1, h2, rfl⟩ := rch_mem.1 hr
  rw [Dn_brk G h1.2 h] at h2; omega
theorem nd_top (G : GoodS N D B) : (N : Int) ∈ ndL N D B := nd_mem.2 ⟨N, ⟨by have := G.n1; omega, Nat.le_refl _⟩, thr_top G, rfl⟩
theorem nd_thr {k : Nat} (h1 : 1 ≤ k) (h2 : k ≤ N) : decide ((k : Int) ∈ ndL N D B) = (thr N D B k == U N D B 0) := by
  rw [Bool.eq_iff_iff, decide_eq_true_eq, beq_iff_eq, nd_mem]
  constructor
  · rintro ⟨j, g1, g2, g3⟩
    have : j = k := by omega
    subst this; exact g2
  · intro h
    exact ⟨k, ⟨h1, h2⟩, h, rfl⟩
theorem stk_thr (G : GoodS N D B) {k : Nat} (h1 : 1 ≤ k) (h2 : k ≤ N) (hd : 0 < Dn N D B k) : decide ((k : Int) ∈ stkL N D B) = (thr N D B k == 0) := by
  rw [Bool.eq_iff_iff, decide_eq_true_eq, beq_iff_eq, stk_mem, thr_zero G h2 hd]
  constructor
  · rintro ⟨j, g1, g2, g3, g4⟩
    have : j = k := by omega
    subst this; exact g3
  · intro h
    exact ⟨k, ⟨h1, h2⟩, hd, h, rfl⟩
/-- the needed steps below the top are those whose break leaves none -/
theorem nd_low (G : GoodS N D B) {k : Nat} (h1 : 1 ≤ k) (h2 : k < N) (h0 : U N D B 0 ≠ 0) : ndB N D B k = (!decide (brk B k) && U N D (brkL B k) 0 == 0) := by
  unfold ndB
  by_cases hb : brk B k
  · rw [thr_brk G (by omega) hb, decide_eq_true hb]
    have : ((0 : Int) == U N D B 0) = false := by rw [beq_eq_false_iff_ne]; omega
    rw [this]; rfl
  · rw [decide_eq_false hb, thr_brkL G h1 h2 hb, Bool.eq_iff_iff, beq_iff_eq]
    simp only [Bool.not_false, Bool.true_and, beq_iff_eq]
    omega
end
/-! ### ways from the ground, as the program counts them -/
section
variable {N : Nat} {D B : List Int}
def hD (B : List Int) (q : Nat) (a : Nat → Int) (d : Int) : Int := if d.toNat ≤ q then (if brk B q then 0 else a (q - d.toNat)) else 0
theorem hD_nat (B : List Int) (q : Nat) (a : Nat → Int) (d : Nat) : hD B q a (d : Int) = if d ≤ q then (if brk B q then 0 else a (q - d)) else 0 := by unfold hD; rw [Int.toNat_natCast]
theorem hD_nn {q : Nat} {a : Nat → Int} (h : ∀ j, j < q → 0 ≤ a j) {d : Int} (hd : 1 ≤ d ∧ d ≤ 9) : 0 ≤ hD B q a d := by
  obtain ⟨m, rfl, h1, h2⟩ := natOf hd
  rw [hD_nat]
  split
  · split
    · exact Int.le_refl _
    · exact h _ (by omega)
  · exact Int.le_refl _
theorem hD_congr {q : Nat} {a b : Nat → Int} (h : ∀ j, j < q → a j = b j) {d : Int} (hd : 1 ≤ d ∧ d ≤ 9) : hD B q a d = hD B q b d := by
  obtain ⟨m, rfl, h1, h2⟩ := natOf hd
  rw [hD_nat, hD_nat]
  split
  · split
    · rfl
    · exact h _ (by omega)
  · rfl
theorem Dn_hD (G : GoodS N D B) {q : Nat} (h : 0 < q) (hq : q ≤ N) : Dn N D B q = sm D (hD B q (Dn N D B)) := Dn_rec G h hq
def dnA (N : Nat) (D B : List Int) (m j : Nat) : Int := if j ≤ m then Dn N D B j else 0
theorem dnA_lo {m j : Nat} (h : j ≤ m) : dnA N D B m j = Dn N D B j := if_pos h
theorem dnA_next (m : Nat) : upd (dnA N D B m) (m + 1) (Dn N D B (m + 1)) = dnA N D B (m + 1) := by
  funext j
  unfold upd dnA
  by_cases h : j = m + 1
  · subst h; rw [if_pos rfl, if_pos (Nat.le_refl _)]
  · rw [if_neg h]
    by_cases h2 : j ≤ m
    · rw [if_pos h2, if_pos (by omega)]
    · rw [if_neg h2, if_neg (by omega)]
theorem dnA_hD (G : GoodS N D B) {m : Nat} (hm : m + 1 ≤ N) : sm D (hD B (m + 1) (dnA N D B m)) = Dn N D B (m + 1) := by
  rw [Dn_hD G (by omega) hm]
  exact sm_congr fun d hd => hD_congr (fun j hj => dnA_lo (by omega)) (G.db d hd)
theorem sm_pos_iff {α : Type} {f : α → Int} : ∀ {l : List α}, (∀ x, x ∈ l → 0 ≤ f x) → (0 < sm l f ↔ ∃ x, x ∈ l ∧ 0 < f x)
  | [], _ => by simp [sm]
  | a :: l, h => by
    have h0 := h a List.mem_cons_self
    have hl := sm_nonneg (l := l) (f := f) (fun x hx => h x (List.mem_cons_of_mem _ hx))
    have ih := sm_pos_iff (l := l) (f := f) (fun x hx => h x (List.mem_cons_of_mem _ hx))
    rw [sm]
    constructor
    · intro hp
      by_cases c : 0 < f a
      · exact ⟨a, List.mem_cons_self, c⟩
      · obtain ⟨x, hx, hf⟩ := ih.1 (by omega)
        exact ⟨x, List.mem_cons_of_mem _ hx, hf⟩
    · rintro ⟨x, hx, hf⟩
      rcases List.mem_cons.1 hx with rfl | hx
      · omega
      · have := ih.2 ⟨x, hx, hf⟩; omega
/-- one comes to a step by a stride from a step that one comes to -/
theorem Dn_pos (G : GoodS N D B) {q : Nat} (h : 0 < q) (hq : q ≤ N) : 0 < Dn N D B q ↔ D.any (fun d => decide (d ≤ q) && (decide (0 < Dn N D B (q - d.toNat)) && !decide (brk B q))) = true := by
  rw [Dn_hD G h hq, sm_pos_iff (fun d hd => hD_nn (fun j _ => Dn_nn G j) (G.db d hd)), List.any_eq_true]
  constructor
  · rintro ⟨d, hd, hp⟩
    obtain ⟨m, rfl, h1, h2⟩ := natOf (G.db d hd)
    refine ⟨_, hd, ?_⟩
    rw [hD_nat] at hp
    by_cases c : m ≤ q
    · rw [if_pos c] at hp
      by_cases c2 : brk B q
      · rw [if_pos c2] at hp; omega
      · rw [if_neg c2] at hp
        rw [Int.toNat_natCast, decide_eq_true (show (m : Int) ≤ q by omega), decide_eq_true hp, decide_eq_false c2]; rfl
    · rw [if_neg c] at hp; omega
  · rintro ⟨d, hd, hp⟩
    obtain ⟨m, rfl, h1, h2⟩ := natOf (G.db d hd)
    refine ⟨_, hd, ?_⟩
    simp only [Int.toNat_natCast, Bool.and_eq_true, decide_eq_true_eq, Bool.not_eq_true', decide_eq_false_iff_not] at hp
    rw [hD_nat, if_pos (by omega), if_neg hp.2.2]
    exact hp.2.1
end
/-! rows of truths -/
def arb (f : Nat → Bool) (c : Nat) : List Bool := (List.range c).map f
theorem arb_len (f : Nat → Bool) (c : Nat) : (arb f c).length = c := by unfold arb; simp
theorem arb_rdk {f : Nat → Bool} {c i : Nat} (h : i < c) : rdk kbool (arb f c) (i : Int) = f i := by
  rw [rdk_get (k := kbool) (show i < (arb f c).length by rw [arb_len]; exact h)]
  simp [arb]
def updb (f : Nat → Bool) (i : Nat) (v : Bool) : Nat → Bool := fun j => if j = i then v else f j
theorem arb_set (f : Nat → Bool) (c i : Nat) (v : Bool) : (arb f c).set i v = arb (updb f i v) c := by
  unfold arb updb
  apply List.ext_getElem
  · simp
  · intro j h1 h2
    rw [List.getElem_set, List.getElem_map, List.getElem_map, List.getElem_range]
    by_cases h : i = j
    · rw [if_pos h, if_pos h.symm]
    · rw [if_neg h, if_neg (fun e => h e.symm)]
theorem arb_false (c : Nat) : List.replicate c false = arb (fun _ => false) c := by
  unfold arb
  apply List.ext_getElem
  · simp
  · intro j h1 h2; simp
theorem arb_congr {f g : Nat → Bool} {c : Nat} (h : ∀ i, i < c → f i = g i) : arb f c = arb g c := List.map_congr_left fun i hi => h i (List.mem_range.1 hi)
/-! ### ways from the ground: the program's loops -/
section
variable {N : Nat} {D B : List Int}
theorem down_in (G : GoodS N D B) {q : Nat} (hq0 : 0 < q) (hq : q ≤ N) {a : Nat → Int} (ha : ∀ j, j < q → 0 ≤ a j) (s : Int) (h0 : 0 ≤ s) (hs : s + sm D (hD B q a) ≤ 4611686018427387904) :
    i_Stairs_down_L2 (N : Int) (ar (upd a q s) (N + 1)) D B (q : Int) (D.length : Int) 0 = i_Stairs_down_L1 (N : Int) (ar (upd a q (s + sm D (hD B q a))) (N + 1)) D B ((q : Int) + 1) := by
  have hN := G.n2
  have hD5 := G.d2
  refine loop_inv (L := fun i s => i_Stairs_down_L2 (N : Int) (ar (upd a q s) (N + 1)) D B (q : Int) (D.length : Int) (i : Int)) (l := D) (e := fun l s => i_Stairs_down_L1 (N : Int) (ar (upd a q (s + sm l (hD B q a))) (N + 1)) D B ((q : Int) + 1))
    (P := fun l s => (∀ d, d ∈ l → 1 ≤ d ∧ d ≤ 9) ∧ 0 ≤ s ∧ s + sm l (hD B q a) ≤ 4611686018427387904) ?_ ?_ s ⟨G.db, h0, hs⟩
  · intro s _
    show i_Stairs_down_L2 (N : Int) (ar (upd a q s) (N + 1)) D B (q : Int) (D.length : Int) (D.length : Int) = _
    rw [i_Stairs_down_u2, i_Stairs_down_t2, decide_eq_false (show ¬ ((D.length : Int) < D.length) by omega), wrapI (n := (q : Int) + 1) (by omega) (by omega)]
    show _ = i_Stairs_down_L1 (N : Int) (ar (upd a q (s + 0)) (N + 1)) D B ((q : Int) + 1)
    rw [Int.add_zero]; rfl
  · intro i hi s ⟨p1, p2, p3⟩
    have hd := p1 D[i] List.mem_cons_self
    have hr : 0 ≤ sm (D.drop (i + 1)) (hD B q a) := sm_nonneg fun d hd => hD_nn ha (p1 d (List.mem_cons_of_mem _ hd))
    have hg := hD_nn (B := B) ha hd
    rw [sm] at p3
    have hrd := rdk_get (k := kint) hi
    have c1 : (i : Int) < D.length := by omega
    have hw1 : IntKind.wrap .i64 ((i : Int) + 1) = ((i + 1 : Nat) : Int) := by rw [wrapI (by omega) (by omega)]; omega
    generalize D[i] = x at *
    obtain ⟨d, rfl, d1, d2⟩ := natOf hd
    refine ⟨s + hD B q a (d : Int), ?_, ⟨fun y hy => p1 y (List.mem_cons_of_mem _ hy), by omega, by omega⟩, ?_⟩
    · show i_Stairs_down_L2 (N : Int) (ar (upd a q s) (N + 1)) D B (q : Int) (D.length : Int) (i : Int) = i_Stairs_down_L2 (N : Int) (ar (upd a q (s + hD B q a (d : Int))) (N + 1)) D B (q : Int) (D.length : Int) ((i + 1 : Nat) : Int)
      rw [i_Stairs_down_u2, i_Stairs_down_t2, decide_eq_true c1, decide_eq_true (Int.natCast_nonneg i), hrd, hw1, isBr]
      rw [hD_nat] at p3 ⊢
      by_cases e1 : d ≤ q
      · have hw2 : IntKind.wrap .i64 ((q : Int) - (d : Int)) = ((q - d : Nat) : Int) := by rw [wrapI (by omega) (by omega)]; omega
        rw [if_pos e1] at p3 ⊢
        rw [hw2, decide_eq_true (show (d : Int) ≤ q by omega)]
        by_cases e2 : brk B q
        · rw [decide_eq_true e2, if_pos e2, Int.add_zero]; rfl
        · rw [if_neg e2] at p3 ⊢
          rw [decide_eq_false e2, ar_len, ar_rdk (show q < N + 1 by omega), ar_rdk (show q - d < N + 1 by omega), upd_same, upd_ne _ _ (show q - d ≠ q by omega), wrapI (n := s + a (q - d)) (by have := ha (q - d) (by omega); omega) (by omega),
            decide_eq_true (Int.natCast_nonneg q), decide_eq_true (show (q : Int) < ((N + 1 : Nat) : Int) by omega), decide_eq_true (Int.natCast_nonneg _), decide_eq_true (show ((q - d : Nat) : Int) < ((N + 1 : Nat) : Int) by omega), Int.toNat_natCast, ar_set, upd_upd]
          rfl
      · rw [if_neg e1, decide_eq_false (show ¬ (d : Int) ≤ q by omega), Int.add_zero]; rfl
    · show i_Stairs_down_L1 (N : Int) (ar (upd a q (s + hD B q a (d : Int) + sm (D.drop (i + 1)) (hD B q a))) (N + 1)) D B ((q : Int) + 1) = i_Stairs_down_L1 (N : Int) (ar (upd a q (s + sm ((d : Int) :: D.drop (i + 1)) (hD B q a))) (N + 1)) D B ((q : Int) + 1)
      rw [sm, Int.add_assoc]
theorem down_loop (G : GoodS N D B) : ∀ e m : Nat, m + e = N → i_Stairs_down_L1 (N : Int) (ar (dnA N D B m) (N + 1)) D B ((m + 1 : Nat) : Int) = some (ar (Dn N D B) (N + 1))
  | 0, m, h => by
    obtain rfl : m = N := by omega
    rw [i_Stairs_down_u1, i_Stairs_down_t1, decide_eq_false (show ¬ (((m + 1 : Nat) : Int) ≤ m) by omega), cond_false]
    exact congrArg some (ar_congr fun i hi => dnA_lo (by omega))
  | e + 1, m, h => by
    have h60 := Dn_le G (m + 1)
    have hz : dnA N D B m (m + 1) = 0 := if_neg (by omega)
    have hs := dnA_hD G (m := m) (by omega)
    rw [i_Stairs_down_u1, i_Stairs_down_t1, decide_eq_true (show ((m + 1 : Nat) : Int) ≤ N by omega), cond_true]
    have := down_in G (q := m + 1) (by omega) (by omega) (a := dnA N D B m) (fun j hj => by rw [dnA_lo (by omega)]; exact Dn_nn G j) 0 (by omega) (by omega)
    rw [hs, Int.zero_add, dnA_next] at this
    have h2 : upd (dnA N D B m) (m + 1) 0 = dnA N D B m := by
      have := upd_id (dnA N D B m) (m + 1)
      rw [hz] at this
      exact this
    rw [h2] at this
    have ih := down_loop G e (m + 1) (by omega)
    rw [show ((m + 1 + 1 : Nat) : Int) = ((m + 1 : Nat) : Int) + 1 from by omega] at ih
    exact this.trans ih
theorem down_eq (G : GoodS N D B) : i_Stairs_down (N : Int) D B = some (ar (Dn N D B) (N + 1)) := by
  have hN := G.n2
  have hw : IntKind.wrap .i64 ((N : Int) + 1) = ((N + 1 : Nat) : Int) := by rw [wrapI (by omega) (by omega)]; omega
  unfold i_Stairs_down i_Stairs_down_t0
  rw [hw, beq_self_eq_true, decide_eq_true (Int.natCast_nonneg _), decide_eq_true (show ((N + 1 : Nat) : Int) ≤ (4294967296 : Int) by omega), List.length_replicate, Int.toNat_natCast, decide_eq_true (show (0 : Int) < ((N + 1 : Nat) : Int) by omega)]
  simp only [cond_true]
  rw [show List.replicate (N + 1) (Kd.zero kint) = ar (fun _ => 0) (N + 1) from ar_zero _, show Int.toNat 0 = 0 from rfl, ar_set]
  have e : upd (fun _ => 0) 0 1 = dnA N D B 0 := by
    funext j
    unfold upd dnA
    by_cases h : j = 0
    · subst h; rw [if_pos rfl, if_pos (Nat.le_refl _), Dn_zero]
    · rw [if_neg h, if_neg (by omega)]
  rw [e]
  exact down_loop G N 0 (by omega)
end
/-! ### steps that are reached, as the reference finds them -/
section
variable {N : Nat} {D B : List Int}
def rg (B : List Int) (q : Nat) (f : Nat → Bool) (d : Int) : Bool := decide (d ≤ q) && (f (q - d.toNat) && !decide (brk B q))
theorem rg_congr {q : Nat} {f g : Nat → Bool} (h : ∀ j, j < q → f j = g j) {d : Int} (hd : 1 ≤ d ∧ d ≤ 9) : rg B q f d = rg B q g d := by
  obtain ⟨m, rfl, h1, h2⟩ := natOf hd
  unfold rg
  rw [Int.toNat_natCast]
  by_cases c : (m : Int) ≤ q
  · rw [h (q - m) (by omega)]
  · rw [decide_eq_false c]; rfl
theorem any_congr' {l : List Int} {f g : Int → Bool} (h : ∀ x, x ∈ l → f x = g x) : l.any f = l.any g := by
  induction l with
  | nil => rfl
  | cons a l ih =>
    rw [List.any_cons, List.any_cons, h a List.mem_cons_self, ih (fun x hx => h x (List.mem_cons_of_mem _ hx))]
def rcA (N : Nat) (D B : List Int) (m j : Nat) : Bool := if j ≤ m then decide (0 < Dn N D B j) else false
theorem rcA_rg (G : GoodS N D B) {m : Nat} (hm : m + 1 ≤ N) : D.any (rg B (m + 1) (rcA N D B m)) = decide (0 < Dn N D B (m + 1)) := by
  rw [Bool.eq_iff_iff, decide_eq_true_eq, Dn_pos G (by omega) hm, ← Bool.eq_iff_iff]
  exact any_congr' fun d hd => rg_congr (B := B) (fun j hj => if_pos (show j ≤ m by omega)) (G.db d hd)
theorem rcA_next (m : Nat) : updb (rcA N D B m) (m + 1) (decide (0 < Dn N D B (m + 1))) = rcA N D B (m + 1) := by
  funext j
  unfold updb rcA
  by_cases h : j = m + 1
  · subst h; rw [if_pos rfl, if_pos (Nat.le_refl _)]
  · rw [if_neg h]
    by_cases h2 : j ≤ m
    · rw [if_pos h2, if_pos (by omega)]
    · rw [if_neg h2, if_neg (by omega)]
theorem updb_same (f : Nat → Bool) (i : Nat) (v : Bool) : updb f i v i = v := if_pos rfl
theorem updb_ne (f : Nat → Bool) {i j : Nat} (v : Bool) (h : j ≠ i) : updb f i v j = f j := if_neg h
theorem updb_updb (f : Nat → Bool) (i : Nat) (v w : Bool) : updb (updb f i v) i w = updb f i w := by
  funext j
  unfold updb
  by_cases h : j = i
  · rw [if_pos h, if_pos h]
  · rw [if_neg h, if_neg h, if_neg h]
theorem rc_in (G : GoodS N D B) {q : Nat} (hq0 : 0 < q) (hq : q ≤ N) (f : Nat → Bool) (s : Bool) :
    s_clReached_L2 (N : Int) (arb (updb f q s) (N + 1)) D B (q : Int) (D.length : Int) 0 = s_clReached_L1 (N : Int) (arb (updb f q (s || D.any (rg B q f))) (N + 1)) D B ((q : Int) + 1) := by
  have hN := G.n2
  have hD5 := G.d2
  refine loop_inv (L := fun i s => s_clReached_L2 (N : Int) (arb (updb f q s) (N + 1)) D B (q : Int) (D.length : Int) (i : Int)) (l := D) (e := fun l s => s_clReached_L1 (N : Int) (arb (updb f q (s || l.any (rg B q f))) (N + 1)) D B ((q : Int) + 1))
    (P := fun l s => ∀ d, d ∈ l → 1 ≤ d ∧ d ≤ 9) ?_ ?_ s G.db
  · intro s _
    show s_clReached_L2 (N : Int) (arb (updb f q s) (N + 1)) D B (q : Int) (D.length : Int) (D.length : Int) = _
    rw [s_clReached_u2, s_clReached_t2, decide_eq_false (show ¬ ((D.length : Int) < D.length) by omega), wrapI (n := (q : Int) + 1) (by omega) (by omega)]
    show _ = s_clReached_L1 (N : Int) (arb (updb f q (s || false)) (N + 1)) D B ((q : Int) + 1)
    rw [Bool.or_false]; rfl
  · intro i hi s p1
    have hd := p1 D[i] List.mem_cons_self
    have hrd := rdk_get (k := kint) hi
    have c1 : (i : Int) < D.length := by omega
    have hw1 : IntKind.wrap .i64 ((i : Int) + 1) = ((i + 1 : Nat) : Int) := by rw [wrapI (by omega) (by omega)]; omega
    generalize D[i] = x at *
    obtain ⟨d, rfl, d1, d2⟩ := natOf hd
    refine ⟨s || rg B q f (d : Int), ?_, fun y hy => p1 y (List.mem_cons_of_mem _ hy), ?_⟩
    · show s_clReached_L2 (N : Int) (arb (updb f q s) (N + 1)) D B (q : Int) (D.length : Int) (i : Int) = s_clReached_L2 (N : Int) (arb (updb f q (s || rg B q f (d : Int))) (N + 1)) D B (q : Int) (D.length : Int) ((i + 1 : Nat) : Int)
      rw [s_clReached_u2, s_clReached_t2, decide_eq_true c1, decide_eq_true (Int.natCast_nonneg i), hrd, hw1]
      unfold rg
      rw [Int.toNat_natCast]
      by_cases e1 : d ≤ q
      · have hw2 : IntKind.wrap .i64 ((q : Int) - (d : Int)) = ((q - d : Nat) : Int) := by rw [wrapI (by omega) (by omega)]; omega
        rw [hw2, decide_eq_true (show (d : Int) ≤ q by omega), arb_len, arb_rdk (show q - d < N + 1 by omega), updb_ne _ _ (show q - d ≠ q by omega), stands D B hq, decide_eq_true (Int.natCast_nonneg _), decide_eq_true (show ((q - d : Nat) : Int) < ((N + 1 : Nat) : Int) by omega),
          decide_eq_true (Int.natCast_nonneg q), decide_eq_true (show (q : Int) < ((N + 1 : Nat) : Int) by omega), Int.toNat_natCast, arb_set, updb_updb]
        cases f (q - d) <;> cases decide (brk B q) <;> cases s <;> rfl
      · rw [decide_eq_false (show ¬ (d : Int) ≤ q by omega), Bool.false_and, Bool.or_false]; rfl
    · show s_clReached_L1 (N : Int) (arb (updb f q (s || rg B q f (d : Int) || (D.drop (i + 1)).any (rg B q f))) (N + 1)) D B ((q : Int) + 1) = s_clReached_L1 (N : Int) (arb (updb f q (s || ((d : Int) :: D.drop (i + 1)).any (rg B q f))) (N + 1)) D B ((q : Int) + 1)
      rw [List.any_cons, Bool.or_assoc]
theorem rc_loop (G : GoodS N D B) : ∀ e m : Nat, m + e = N → s_clReached_L1 (N : Int) (arb (rcA N D B m) (N + 1)) D B ((m + 1 : Nat) : Int) = some (arb (rchB N D B) (N + 1))
  | 0, m, h => by
    obtain rfl : m = N := by omega
    rw [s_clReached_u1, s_clReached_t1, decide_eq_false (show ¬ (((m + 1 : Nat) : Int) ≤ m) by omega), cond_false]
    exact congrArg some (arb_congr fun i hi => if_pos (show i ≤ m by omega))
  | e + 1, m, h => by
    have hz : rcA N D B m (m + 1) = false := if_neg (by omega)
    have hs := rcA_rg G (m := m) (by omega)
    rw [s_clReached_u1, s_clReached_t1, decide_eq_true (show ((m + 1 : Nat) : Int) ≤ N by omega), cond_true]
    have := rc_in G (q := m + 1) (by omega) (by omega) (rcA N D B m) false
    rw [hs, Bool.false_or, rcA_next] at this
    have h2 : updb (rcA N D B m) (m + 1) false = rcA N D B m := by
      funext j
      unfold updb
      by_cases h : j = m + 1
      · rw [if_pos h, h, hz]
      · rw [if_neg h]
    rw [h2] at this
    have ih := rc_loop G e (m + 1) (by omega)
    rw [show ((m + 1 + 1 : Nat) : Int) = ((m + 1 : Nat) : Int) + 1 from by omega] at ih
    exact this.trans ih
theorem reached_eq (G : GoodS N D B) : s_clReached (N : Int) D B = some (arb (rchB N D B) (N + 1)) := by
  have hN := G.n2
  have hw : IntKind.wrap .i64 ((N : Int) + 1) = ((N + 1 : Nat) : Int) := by rw [wrapI (by omega) (by omega)]; omega
  unfold s_clReached s_clReached_t0
  rw [hw, beq_self_eq_true, decide_eq_true (Int.natCast_nonneg _), decide_eq_true (show ((N + 1 : Nat) : Int) ≤ (4294967296 : Int) by omega), List.length_replicate, Int.toNat_natCast, decide_eq_true (show (0 : Int) < ((N + 1 : Nat) : Int) by omega)]
  simp only [cond_true]
  rw [show List.replicate (N + 1) (Kd.zero kbool) = arb (fun _ => false) (N + 1) from arb_false _, show Int.toNat 0 = 0 from rfl, arb_set]
  have e : updb (fun _ => false) 0 true = rcA N D B 0 := by
    funext j
    unfold updb rcA
    by_cases h : j = 0
    · subst h; rw [if_pos rfl, if_pos (Nat.le_refl _), Dn_zero]; rfl
    · rw [if_neg h, if_neg (by omega)]
  rw [e]
  exact rc_loop G N 0 (by omega)
end
end Go.Proofs.YtgflffacaobkoaaGreatDoor.V
