/- Functions of the program, as plain functions. No condition. -/
import Derived.Test.YthenlapjhlljnaaD4
set_option linter.unusedVariables false
set_option linter.unusedSimpArgs false
set_option maxRecDepth 100000
namespace Go.Proofs.Ythenlapjhlljnaa.V
open Go Go.Ev Go.Proofs
/-! ### sums, arrays, tables -/
def sm {α : Type} : List α → (α → Int) → Int
  | [], _ => 0
  | x :: l, f => f x + sm l f
section
variable {α β : Type}
theorem sm_congr {f g : α → Int} : ∀ {l : List α}, (∀ x, x ∈ l → f x = g x) → sm l f = sm l g
  | [], _ => rfl
  | x :: l, h => by rw [sm, sm, h x (by simp), sm_congr (l := l) (fun y hy => h y (List.mem_cons_of_mem _ hy))]
theorem sm_add {f g : α → Int} : ∀ {l : List α}, sm l (fun x => f x + g x) = sm l f + sm l g
  | [] => rfl
  | x :: l => by rw [sm, sm, sm, sm_add (l := l)]; omega
theorem sm_mul {f : α → Int} (c : Int) : ∀ {l : List α}, sm l (fun x => c * f x) = c * sm l f
  | [] => by rw [sm, sm, Int.mul_zero]
  | x :: l => by rw [sm, sm, sm_mul c (l := l), Int.mul_add]
theorem sm_zero {f : α → Int} : ∀ {l : List α}, (∀ x, x ∈ l → f x = 0) → sm l f = 0
  | [], _ => rfl
  | x :: l, h => by rw [sm, h x (by simp), sm_zero (l := l) (fun y hy => h y (List.mem_cons_of_mem _ hy))]; rfl
theorem sm_nonneg {f : α → Int} : ∀ {l : List α}, (∀ x, x ∈ l → 0 ≤ f x) → 0 ≤ sm l f
  | [], _ => Int.le_refl _
  | x :: l, h => by
    have h1 := h x (by simp)
    have h2 := sm_nonneg (l := l) (fun y hy => h y (List.mem_cons_of_mem _ hy))
    rw [sm]; omega
theorem sm_le {f g : α → Int} : ∀ {l : List α}, (∀ x, x ∈ l → f x ≤ g x) → sm l f ≤ sm l g
  | [], _ => Int.le_refl _
  | x :: l, h => by
    have h1 := h x (by simp)
    have h2 := sm_le (l := l) (fun y hy => h y (List.mem_cons_of_mem _ hy))
    rw [sm, sm]; omega
theorem sm_append {f : α → Int} : ∀ {l m : List α}, sm (l ++ m) f = sm l f + sm m f
  | [], m => by rw [List.nil_append, sm]; omega
  | x :: l, m => by rw [List.cons_append, sm, sm, sm_append (l := l)]; omega
theorem sm_map {f : β → Int} {h : α → β} : ∀ {l : List α}, sm (l.map h) f = sm l (fun x => f (h x))
  | [] => rfl
  | x :: l => by rw [List.map_cons, sm, sm, sm_map (l := l)]
theorem sm_swap {f : α → β → Int} : ∀ {l : List α} {m : List β}, sm l (fun x => sm m (fun y => f x y)) = sm m (fun y => sm l (fun x => f x y))
  | [], m => (sm_zero fun _ _ => rfl).symm
  | x :: l, m => by
    rw [sm, sm_swap (l := l)]
    exact sm_add.symm
theorem sm_mem_le {f : α → Int} : ∀ {l : List α} {x : α}, (∀ y, y ∈ l → 0 ≤ f y) → x ∈ l → f x ≤ sm l f
  | y :: l, x, h, hx => by
    have h1 := h y (by simp)
    have h3 := sm_nonneg (l := l) (fun z hz => h z (List.mem_cons_of_mem _ hz))
    rw [sm]
    rcases List.mem_cons.1 hx with e | e
    · subst e; omega
    · have h2 := sm_mem_le (l := l) (fun z hz => h z (List.mem_cons_of_mem _ hz)) e
      omega
theorem sm_pos {f : α → Int} {l : List α} (h : ∀ y, y ∈ l → 0 ≤ f y) (hs : 0 < sm l f) : ∃ x, x ∈ l ∧ 0 < f x :=
  Classical.byContradiction fun hn => by
    have : sm l f = 0 := sm_zero fun x hx => by
      have := h x hx
      by_cases c : 0 < f x
      · exact absurd ⟨x, hx, c⟩ hn
      · omega
    omega
end
def sr (n : Nat) (f : Nat → Int) : Int := sm (List.range n) f
theorem sr_succ (n : Nat) (f : Nat → Int) : sr (n + 1) f = sr n f + f n := by unfold sr; rw [List.range_succ, sm_append, sm, sm]; omega
theorem sr_one {p : Nat} {x : Int} : ∀ n : Nat, sr n (fun k => if k = p then x else 0) = if p < n then x else 0
  | 0 => by rw [if_neg (by omega)]; rfl
  | n + 1 => by
    rw [sr_succ, sr_one n]
    by_cases h : n = p
    · rw [if_neg (by omega), if_pos h, if_pos (by omega)]; omega
    · rw [if_neg h]
      by_cases h2 : p < n
      · rw [if_pos h2, if_pos (by omega)]; omega
      · rw [if_neg h2, if_neg (by omega)]; rfl
theorem sr_congr {n : Nat} {f g : Nat → Int} (h : ∀ k, k < n → f k = g k) : sr n f = sr n g := sm_congr fun k hk => h k (List.mem_range.1 hk)
theorem sr_nonneg {n : Nat} {f : Nat → Int} (h : ∀ k, k < n → 0 ≤ f k) : 0 ≤ sr n f := sm_nonneg fun k hk => h k (List.mem_range.1 hk)
theorem sr_zero {n : Nat} {f : Nat → Int} (h : ∀ k, k < n → f k = 0) : sr n f = 0 := sm_zero fun k hk => h k (List.mem_range.1 hk)
def ar (a : Nat → Int) (c : Nat) : List Int := (List.range c).map a
theorem ar_len (a : Nat → Int) (c : Nat) : (ar a c).length = c := by unfold ar; simp
theorem ar_get {a : Nat → Int} {c i : Nat} (h : i < (ar a c).length) : (ar a c)[i] = a i := by
  have h' : i < ((List.range c).map a).length := h
  exact (show (ar a c)[i] = ((List.range c).map a)[i]'h' from rfl).trans (by rw [List.getElem_map, List.getElem_range])
theorem ar_rdk {a : Nat → Int} {c i : Nat} (h : i < c) : rdk kint (ar a c) (i : Int) = a i := by
  rw [rdk_get (k := kint) (show i < (ar a c).length by rw [ar_len]; exact h), ar_get]
def upd (a : Nat → Int) (i : Nat) (v : Int) : Nat → Int := fun j => if j = i then v else a j
theorem upd_same (a : Nat → Int) (i : Nat) (v : Int) : upd a i v i = v := if_pos rfl
theorem upd_ne (a : Nat → Int) {i j : Nat} (v : Int) (h : j ≠ i) : upd a i v j = a j := if_neg h
theorem upd_upd (a : Nat → Int) (i : Nat) (v w : Int) : upd (upd a i v) i w = upd a i w := by
  funext j; unfold upd; by_cases h : j = i
  · rw [if_pos h, if_pos h]
  · rw [if_neg h, if_neg h, if_neg h]
theorem upd_id (a : Nat → Int) (i : Nat) : upd a i (a i) = a := by
  funext j; unfold upd; by_cases h : j = i
  · rw [if_pos h, h]
  · rw [if_neg h]
theorem ar_congr {a b : Nat → Int} {c : Nat} (h : ∀ i, i < c → a i = b i) : ar a c = ar b c := List.map_congr_left fun i hi => h i (List.mem_range.1 hi)
theorem ar_set (a : Nat → Int) (c i : Nat) (v : Int) : (ar a c).set i v = ar (upd a i v) c := by
  apply List.ext_getElem
  · rw [List.length_set, ar_len, ar_len]
  · intro j h1 h2
    rw [List.getElem_set, ar_get, ar_get]
    unfold upd
    by_cases h : i = j
    · rw [if_pos h, if_pos h.symm]
    · rw [if_neg h, if_neg (fun e => h e.symm)]
theorem ar_zero (c : Nat) : List.replicate c (0 : Int) = ar (fun _ => 0) c := by
  apply List.ext_getElem
  · rw [List.length_replicate, ar_len]
  · intro j h1 h2
    rw [List.getElem_replicate, ar_get]
/-- a table that is filled from the top down -/
def dpF (N : Nat) (top : Int) (st : Nat → (Nat → Int) → Int) : Nat → Nat → Int
  | 0 => fun j => if j = N then top else 0
  | m + 1 => upd (dpF N top st m) (N - (m + 1)) (st (N - (m + 1)) (dpF N top st m))
section
variable {N : Nat} {top : Int} {st : Nat → (Nat → Int) → Int}
theorem dpF_succ (m : Nat) : dpF N top st (m + 1) = upd (dpF N top st m) (N - (m + 1)) (st (N - (m + 1)) (dpF N top st m)) := rfl
theorem dpF_hi {m j : Nat} : ∀ e : Nat, m + e ≤ N → N - m ≤ j → dpF N top st (m + e) j = dpF N top st m j
  | 0, _, _ => rfl
  | e + 1, h, hj => by
    rw [show m + (e + 1) = (m + e) + 1 from rfl, dpF, upd_ne _ _ (by omega)]
    exact dpF_hi e (by omega) hj
theorem dpF_lo : ∀ {m j : Nat}, m ≤ N → j < N - m → dpF N top st m j = 0
  | 0, j, _, hj => if_neg (by omega)
  | m + 1, j, hm, hj => by
    rw [dpF, upd_ne _ _ (by omega)]
    exact dpF_lo (by omega) (by omega)
theorem dpF_at {m j : Nat} (hm : m ≤ N) (hj : N - m ≤ j) : dpF N top st m j = dpF N top st N j := by
  have := dpF_hi (N := N) (top := top) (st := st) (m := m) (j := j) (N - m) (by omega) hj
  rw [show m + (N - m) = N from by omega] at this
  exact this.symm
theorem dpF_top : dpF N top st N N = top := by
  rw [← dpF_at (m := 0) (by omega) (by omega)]
  exact if_pos rfl
theorem dpF_rec (hst : ∀ k a b, k < N → (∀ j, k < j → j ≤ N → a j = b j) → st k a = st k b) {k : Nat} (hk : k < N) : dpF N top st N k = st k (dpF N top st N) := by
  rw [← dpF_at (m := N - k) (by omega) (by omega), show N - k = (N - k - 1) + 1 from by omega, dpF, show N - (N - k - 1 + 1) = k from by omega, upd_same]
  exact hst k _ _ hk (fun j h1 h2 => dpF_at (by omega) (by omega))
end
/-- a loop with a state for which something holds -/
theorem loop_inv {α β σ : Type} {L : Nat → σ → Option β} {l : List α} {e : List α → σ → Option β} {P : List α → σ → Prop} (h0 : ∀ s, P [] s → L l.length s = e [] s)
    (h1 : ∀ (i : Nat) (h : i < l.length) s, P (l[i] :: l.drop (i + 1)) s → ∃ s', L i s = L (i + 1) s' ∧ P (l.drop (i + 1)) s' ∧ e (l.drop (i + 1)) s' = e (l[i] :: l.drop (i + 1)) s) (s : σ) (hs : P l s) : L 0 s = e l s :=
  drop_ind l (fun i r => ∀ s, P r s → L i s = e r s) h0 (fun i h ih s hs => by
    obtain ⟨s', g1, g2, g3⟩ := h1 i h s hs
    rw [g1, ih s' g2, g3]) s hs
/-! ### powers of two -/
def p2 (n : Nat) : Int := ((2 ^ n : Nat) : Int)
theorem p2_succ (n : Nat) : p2 (n + 1) = 2 * p2 n := by unfold p2; rw [Nat.pow_succ]; push_cast; omega
theorem p2_pos (n : Nat) : 1 ≤ p2 n := by unfold p2; have := Nat.pow_pos (n := n) (show 0 < 2 by omega); omega
theorem p2_mono {m n : Nat} (h : m ≤ n) : p2 m ≤ p2 n := by unfold p2; have := Nat.pow_le_pow_right (show 0 < 2 by omega) h; omega
theorem p2_60 : p2 60 = 1152921504606846976 := by decide
/-- strides that are all different -/
theorem p2_sum (m : Nat) : ∀ (D : List Int) (lo : Nat), D.Pairwise (· < ·) → (∀ d, d ∈ D → (lo : Int) ≤ d) → lo ≤ m + 1 → sm D (fun d => if d.toNat ≤ m then p2 (m - d.toNat) else 0) ≤ p2 (m + 1 - lo)
  | [], lo, _, _, _ => by have := p2_pos (m + 1 - lo); rw [sm]; omega
  | d :: D, lo, h1, h2, h3 => by
    obtain ⟨g1, g2⟩ := List.pairwise_cons.1 h1
    have hd := h2 d (by simp)
    obtain ⟨d, rfl⟩ : ∃ k : Nat, d = k := ⟨d.toNat, by omega⟩
    rw [sm, Int.toNat_natCast]
    by_cases c : d ≤ m
    · have ih := p2_sum m D (d + 1) g2 (fun x hx => by have := g1 x hx; omega) (by omega)
      rw [if_pos c]
      rw [show m + 1 - (d + 1) = m - d from by omega] at ih
      have h4 := p2_succ (m - d)
      have h5 := p2_mono (show m - d + 1 ≤ m + 1 - lo by omega)
      omega
    · rw [if_neg c, sm_zero (fun x hx => by have := g1 x hx; rw [if_neg (by omega)])]
      have := p2_pos (m + 1 - lo)
      omega
/-! ### stairs: ways to the top -/
structure GoodS (N : Nat) (D B : List Int) : Prop where
  n1 : 1 ≤ N
  n2 : N ≤ 60
  d1 : 1 ≤ D.length
  d2 : D.length ≤ 5
  dp : D.Pairwise (· < ·)
  db : ∀ d, d ∈ D → 1 ≤ d ∧ d ≤ 9
  bp : B.Pairwise (· < ·)
  bb : ∀ b, b ∈ B → 1 ≤ b ∧ b ≤ (N : Int) - 1
theorem goodS_of {a : Int} {D B : List Int} (h : s_clGood a D B = true) : ∃ N : Nat, a = N ∧ GoodS N D B := by
  obtain ⟨h1, h2, h3, h4⟩ := s_clGood_iff.1 h
  obtain ⟨N, rfl⟩ : ∃ N : Nat, a = N := ⟨a.toNat, by omega⟩
  obtain ⟨g1, g2⟩ := rising_iff.1 h3
  obtain ⟨g3, g4⟩ := rising_iff.1 h4
  exact ⟨N, rfl, by omega, by omega, h2.1, h2.2, g1, g2, g3, g4⟩
theorem good_of {N : Nat} {D B : List Int} (G : GoodS N D B) : s_clGood (N : Int) D B = true :=
  s_clGood_iff.2 ⟨by have := G.n1; have := G.n2; omega, ⟨G.d1, G.d2⟩, rising_iff.2 ⟨G.dp, G.db⟩, rising_iff.2 ⟨G.bp, G.bb⟩⟩
def brk (B : List Int) (k : Nat) : Prop := (k : Int) ∈ B
instance (B : List Int) (k : Nat) : Decidable (brk B k) := inferInstanceAs (Decidable ((k : Int) ∈ B))
theorem cont_eqS (l : List Int) (v : Int) : slices_Contains_int l v = decide (v ∈ l) := by
  unfold slices_Contains_int slices_Index_int_n
  rw [idxF_any]
  by_cases h : v ∈ l
  · rw [decide_eq_true h]; exact List.any_eq_true.2 ⟨v, h, by simp⟩
  · rw [decide_eq_false h]
    rw [Bool.eq_false_iff]
    intro h2
    obtain ⟨x, hx, he⟩ := List.any_eq_true.1 h2
    exact h (by rw [beq_iff_eq.1 he]; exact hx)
theorem isBr (N : Int) (D B : List Int) (k : Nat) : i_Stairs_isBroken N D B (k : Int) = decide (brk B k) := by
  unfold i_Stairs_isBroken; rw [cont_eqS]; rfl
theorem l1In_inS {x lo hi : Int} : s_l1In x lo hi = (decide (lo ≤ x) && decide (x ≤ hi)) := by rw [s_l1In_inB]; rfl
theorem stands {N : Nat} (D B : List Int) {k : Nat} (h : k ≤ N) : s_clStands (N : Int) D B (k : Int) = !decide (brk B k) := by
  unfold s_clStands s_l1Has_n
  rw [l1In_inS, decide_eq_true (Int.natCast_nonneg k), decide_eq_true (show (k : Int) ≤ N by omega)]
  rfl
theorem stands_no {N : Nat} (D B : List Int) {x : Int} (h : x > N) : s_clStands (N : Int) D B x = false := by
  unfold s_clStands
  rw [l1In_inS, decide_eq_false (show ¬ x ≤ N by omega), Bool.and_false]; rfl
theorem brk_no {N : Nat} {D B : List Int} (G : GoodS N D B) : ¬ brk B 0 ∧ ¬ brk B N := by
  constructor
  · intro h; have := (G.bb _ h).1; omega
  · intro h; have := (G.bb _ h).2; omega
def gU (N : Nat) (B : List Int) (k : Nat) (a : Nat → Int) (d : Int) : Int := if k + d.toNat ≤ N then (if brk B k then 0 else a (k + d.toNat)) else 0
def stU (N : Nat) (D B : List Int) (k : Nat) (a : Nat → Int) : Int := sm D (gU N B k a)
/-- how many ways lead from a step to the top -/
def U (N : Nat) (D B : List Int) : Nat → Int := dpF N 1 (stU N D B) N
theorem gU_nat (N : Nat) (B : List Int) (k : Nat) (a : Nat → Int) (d : Nat) : gU N B k a (d : Int) = if k + d ≤ N then (if brk B k then 0 else a (k + d)) else 0 := by unfold gU; rw [Int.toNat_natCast]
theorem gU_congr {N : Nat} {B : List Int} {k : Nat} {a b : Nat → Int} (h : ∀ j, k < j → j ≤ N → a j = b j) {d : Int} (hd : 1 ≤ d) : gU N B k a d = gU N B k b d := by
  unfold gU
  by_cases c : k + d.toNat ≤ N
  · rw [if_pos c, if_pos c, h _ (by omega) c]
  · rw [if_neg c, if_neg c]
section
variable {N : Nat} {D B : List Int}
theorem stU_congr (G : GoodS N D B) : ∀ k a b, k < N → (∀ j, k < j → j ≤ N → a j = b j) → stU N D B k a = stU N D B k b := fun k a b _ h => sm_congr fun d hd => gU_congr h (G.db d hd).1
theorem U_top : U N D B N = 1 := dpF_top
theorem U_rec (G : GoodS N D B) {k : Nat} (hk : k < N) : U N D B k = sm D (gU N B k (U N D B)) := dpF_rec (stU_congr G) hk
theorem gU_nonneg {a : Nat → Int} {k : Nat} (h : ∀ j, k < j → j ≤ N → 0 ≤ a j) {d : Int} (hd : 1 ≤ d) : 0 ≤ gU N B k a d := by
  unfold gU
  by_cases c : k + d.toNat ≤ N
  · rw [if_pos c]
    by_cases c2 : brk B k
    · rw [if_pos c2]; exact Int.le_refl _
    · rw [if_neg c2]; exact h _ (by omega) c
  · rw [if_neg c]; exact Int.le_refl _
theorem gU_bd (G : GoodS N D B) {a : Nat → Int} {k : Nat} (hk : k ≤ N) (h : ∀ j, k < j → j ≤ N → 0 ≤ a j ∧ a j ≤ p2 (N - j)) : sm D (gU N B k a) ≤ p2 (N - k) := by
  refine Int.le_trans (sm_le fun d hd => ?_) (p2_sum (N - k) D 1 G.dp (fun d hd => (G.db d hd).1) (by omega))
  have hd1 := (G.db d hd).1
  unfold gU
  by_cases c : k + d.toNat ≤ N
  · rw [if_pos c, if_pos (show d.toNat ≤ N - k by omega)]
    have h1 := p2_pos (N - k - d.toNat)
    have h2 := h (k + d.toNat) (by omega) c
    rw [show N - (k + d.toNat) = N - k - d.toNat from by omega] at h2
    by_cases c2 : brk B k
    · rw [if_pos c2]; omega
    · rw [if_neg c2]; omega
  · rw [if_neg c, if_neg (show ¬ d.toNat ≤ N - k by omega)]; exact Int.le_refl _
theorem U_bd (G : GoodS N D B) : ∀ (e k : Nat), k + e = N → 0 ≤ U N D B k ∧ U N D B k ≤ p2 (N - k) := by
  intro e
  induction e using Nat.strongRecOn with
  | ind e ih =>
    intro k hk
    by_cases h0 : k = N
    · subst h0; rw [U_top]; have := p2_pos (k - k); omega
    · have hr : ∀ j, k < j → j ≤ N → 0 ≤ U N D B j ∧ U N D B j ≤ p2 (N - j) := fun j h1 h2 => ih (N - j) (by omega) j (by omega)
      rw [U_rec G (by omega)]
      exact ⟨sm_nonneg fun d hd => gU_nonneg (fun j h1 h2 => (hr j h1 h2).1) (G.db d hd).1, gU_bd G (by omega) hr⟩
theorem U_nn (G : GoodS N D B) {k : Nat} (hk : k ≤ N) : 0 ≤ U N D B k := (U_bd G (N - k) k (by omega)).1
theorem U_le (G : GoodS N D B) {k : Nat} (hk : k ≤ N) : U N D B k ≤ 1152921504606846976 := by
  have h1 := (U_bd G (N - k) k (by omega)).2
  have h2 := p2_mono (show N - k ≤ 60 by have := G.n2; omega)
  rw [p2_60] at h2
  omega
theorem U_brk (G : GoodS N D B) {k : Nat} (hk : k < N) (h : brk B k) : U N D B k = 0 := by
  rw [U_rec G hk]
  refine sm_zero fun d hd => ?_
  unfold gU
  rw [if_pos h]
  by_cases c : k + d.toNat ≤ N
  · rw [if_pos c]
  · rw [if_neg c]
theorem natOf {d : Int} (h : 1 ≤ d ∧ d ≤ 9) : ∃ m : Nat, d = m ∧ 1 ≤ m ∧ m ≤ 9 := ⟨d.toNat, by omega, by omega, by omega⟩
theorem up_in (G : GoodS N D B) {k : Nat} (hk : k < N) {a : Nat → Int} (ha : ∀ j, k < j → j ≤ N → 0 ≤ a j) (s : Int) (h0 : 0 ≤ s) (hs : s + sm D (gU N B k a) ≤ 4611686018427387904) :
    i_Stairs_up_L2 (N : Int) (ar (upd a k s) (N + 1)) D B (k : Int) (D.length : Int) 0 = i_Stairs_up_L1 (N : Int) (ar (upd a k (s + sm D (gU N B k a))) (N + 1)) D B ((k : Int) - 1) := by
  have hN := G.n2
  have hD := G.d2
  refine loop_inv (L := fun i s => i_Stairs_up_L2 (N : Int) (ar (upd a k s) (N + 1)) D B (k : Int) (D.length : Int) (i : Int)) (l := D) (e := fun l s => i_Stairs_up_L1 (N : Int) (ar (upd a k (s + sm l (gU N B k a))) (N + 1)) D B ((k : Int) - 1))
    (P := fun l s => (∀ d, d ∈ l → 1 ≤ d ∧ d ≤ 9) ∧ 0 ≤ s ∧ s + sm l (gU N B k a) ≤ 4611686018427387904) ?_ ?_ s ⟨G.db, h0, hs⟩
  · intro s _
    show i_Stairs_up_L2 (N : Int) (ar (upd a k s) (N + 1)) D B (k : Int) (D.length : Int) (D.length : Int) = _
    rw [i_Stairs_up_u2, i_Stairs_up_t2, decide_eq_false (show ¬ ((D.length : Int) < D.length) by omega), wrapI (n := (k : Int) - 1) (by omega) (by omega)]
    show _ = i_Stairs_up_L1 (N : Int) (ar (upd a k (s + 0)) (N + 1)) D B ((k : Int) - 1)
    rw [Int.add_zero]; rfl
  · intro i hi s ⟨p1, p2, p3⟩
    have hd := p1 D[i] List.mem_cons_self
    have hr : 0 ≤ sm (D.drop (i + 1)) (gU N B k a) := sm_nonneg fun d hd => gU_nonneg ha (p1 d (List.mem_cons_of_mem _ hd)).1
    have hg := gU_nonneg (N := N) (B := B) ha hd.1
    rw [sm] at p3
    have hrd := rdk_get (k := kint) hi
    have c1 : (i : Int) < D.length := by omega
    have hw1 : IntKind.wrap .i64 ((i : Int) + 1) = ((i + 1 : Nat) : Int) := by rw [wrapI (by omega) (by omega)]; omega
    generalize D[i] = x at *
    obtain ⟨d, rfl, d1, d2⟩ := natOf hd
    have hw2 : IntKind.wrap .i64 ((k : Int) + (d : Int)) = ((k + d : Nat) : Int) := by rw [wrapI (by omega) (by omega)]; omega
    refine ⟨s + gU N B k a (d : Int), ?_, ⟨fun y hy => p1 y (List.mem_cons_of_mem _ hy), by omega, by omega⟩, ?_⟩
    · show i_Stairs_up_L2 (N : Int) (ar (upd a k s) (N + 1)) D B (k : Int) (D.length : Int) (i : Int) = i_Stairs_up_L2 (N : Int) (ar (upd a k (s + gU N B k a (d : Int))) (N + 1)) D B (k : Int) (D.length : Int) ((i + 1 : Nat) : Int)
      rw [i_Stairs_up_u2, i_Stairs_up_t2, decide_eq_true c1, decide_eq_true (Int.natCast_nonneg i), hrd, hw1, hw2, isBr]
      rw [gU_nat] at p3 ⊢
      by_cases e1 : k + d ≤ N
      · rw [if_pos e1] at p3 ⊢
        rw [decide_eq_true (show ((k + d : Nat) : Int) ≤ N by omega)]
        by_cases e2 : brk B k
        · rw [decide_eq_true e2, if_pos e2, Int.add_zero]; rfl
        · rw [if_neg e2] at p3 ⊢
          rw [decide_eq_false e2, ar_len, ar_rdk (show k < N + 1 by omega), ar_rdk (show k + d < N + 1 by omega), upd_same, upd_ne _ _ (show k + d ≠ k by omega), wrapI (n := s + a (k + d)) (by have := ha (k + d) (by omega) e1; omega) (by omega),
            decide_eq_true (Int.natCast_nonneg k), decide_eq_true (show (k : Int) < ((N + 1 : Nat) : Int) by omega), decide_eq_true (Int.natCast_nonneg _), decide_eq_true (show ((k + d : Nat) : Int) < ((N + 1 : Nat) : Int) by omega), Int.toNat_natCast, ar_set, upd_upd]
          rfl
      · rw [if_neg e1, decide_eq_false (show ¬ ((k + d : Nat) : Int) ≤ N by omega), Int.add_zero]; rfl
    · show i_Stairs_up_L1 (N : Int) (ar (upd a k (s + gU N B k a (d : Int) + sm (D.drop (i + 1)) (gU N B k a))) (N + 1)) D B ((k : Int) - 1) = i_Stairs_up_L1 (N : Int) (ar (upd a k (s + sm ((d : Int) :: D.drop (i + 1)) (gU N B k a))) (N + 1)) D B ((k : Int) - 1)
      rw [sm, Int.add_assoc]
theorem dpU_hi (G : GoodS N D B) {m j : Nat} (hm : m ≤ N) (h : N - m ≤ j) (hj : j ≤ N) : 0 ≤ dpF N 1 (stU N D B) m j ∧ dpF N 1 (stU N D B) m j ≤ p2 (N - j) := by
  rw [dpF_at hm h]
  exact U_bd G (N - j) j (by omega)
theorem up_loop (G : GoodS N D B) : ∀ e m : Nat, m + e = N → i_Stairs_up_L1 (N : Int) (ar (dpF N 1 (stU N D B) m) (N + 1)) D B ((N : Int) - 1 - m) = some (ar (U N D B) (N + 1))
  | 0, m, h => by
    obtain rfl : m = N := by omega
    rw [i_Stairs_up_u1, i_Stairs_up_t1, decide_eq_false (show ¬ ((m : Int) - 1 - m ≥ 0) by omega)]
    rfl
  | e + 1, m, h => by
    obtain ⟨k, hk⟩ : ∃ k : Nat, k + (m + 1) = N := ⟨e, by omega⟩
    have hb := fun j (h1 : k < j) (h2 : j ≤ N) => dpU_hi G (m := m) (by omega) (show N - m ≤ j by omega) h2
    have e0 : (N : Int) - 1 - m = (k : Int) := by omega
    have hz : dpF N 1 (stU N D B) m k = 0 := dpF_lo (by omega) (by omega)
    have h60 := p2_mono (show N - k ≤ 60 by have := G.n2; omega)
    have hg := gU_bd G (show k ≤ N by omega) hb
    rw [p2_60] at h60
    rw [e0, i_Stairs_up_u1, i_Stairs_up_t1, decide_eq_true (show (k : Int) ≥ 0 by omega), cond_true]
    have := up_in G (k := k) (by omega) (a := dpF N 1 (stU N D B) m) (fun j h1 h2 => (hb j h1 h2).1) 0 (by omega) (by omega)
    rw [← hz, upd_id, hz, Int.zero_add] at this
    have ih := up_loop G e (m + 1) (by omega)
    rw [dpF_succ, show N - (m + 1) = k from by omega, show (N : Int) - 1 - ((m + 1 : Nat) : Int) = (k : Int) - 1 from by omega] at ih
    exact this.trans ih
theorem up_eq (G : GoodS N D B) : i_Stairs_up (N : Int) D B = some (ar (U N D B) (N + 1)) := by
  have hN := G.n2
  have hw : IntKind.wrap .i64 ((N : Int) + 1) = ((N + 1 : Nat) : Int) := by rw [wrapI (by omega) (by omega)]; omega
  have hw2 : IntKind.wrap .i64 ((N : Int) - 1) = (N : Int) - 1 := wrapI (by omega) (by omega)
  unfold i_Stairs_up i_Stairs_up_t0
  rw [hw, hw2, beq_self_eq_true, decide_eq_true (Int.natCast_nonneg _), decide_eq_true (show ((N + 1 : Nat) : Int) ≤ (4294967296 : Int) by omega), decide_eq_true (Int.natCast_nonneg _), List.length_replicate, Int.toNat_natCast, Int.toNat_natCast, decide_eq_true (show (N : Int) < ((N + 1 : Nat) : Int) by omega)]
  simp only [cond_true]
  rw [show List.replicate (N + 1) (Kd.zero kint) = ar (fun _ => 0) (N + 1) from ar_zero _, ar_set]
  have := up_loop G N 0 (by omega)
  rw [show (N : Int) - 1 - ((0 : Nat) : Int) = (N : Int) - 1 from by omega] at this
  exact this
def sat (x : Int) : Int := if x < 1000000000000001 then x else 1000000000000001
theorem least_sat (x : Int) : s_l1Least x 1000000000000001 = sat x := by
  unfold s_l1Least sat
  by_cases h : x < 1000000000000001
  · rw [decide_eq_true h, if_pos h]; rfl
  · rw [decide_eq_false h, if_neg h]; rfl
theorem sat_bd {x : Int} (h : 0 ≤ x) : 0 ≤ sat x ∧ sat x ≤ 1000000000000001 ∧ sat x ≤ x := by
  unfold sat
  by_cases c : x < 1000000000000001
  · rw [if_pos c]; omega
  · rw [if_neg c]; omega
theorem sat_add {x y : Int} (hx : 0 ≤ x) (hy : 0 ≤ y) : sat (sat x + sat y) = sat (x + y) := by
  unfold sat
  by_cases c1 : x < 1000000000000001
  · rw [if_pos c1]
    by_cases c2 : y < 1000000000000001
    · rw [if_pos c2]
    · rw [if_neg c2, if_neg (by omega), if_neg (by omega)]
  · rw [if_neg c1]
    by_cases c2 : y < 1000000000000001
    · rw [if_pos c2, if_neg (by omega), if_neg (by omega)]
    · rw [if_neg c2, if_neg (by omega), if_neg (by omega)]
theorem sat_id {x : Int} (h : x ≤ 1000000000000000) : sat x = x := if_pos (by omega)
theorem sat_le {x : Int} : sat x ≤ 1000000000000000 ↔ x ≤ 1000000000000000 := by
  unfold sat
  by_cases c : x < 1000000000000001
  · rw [if_pos c]
  · rw [if_neg c]; omega
theorem sat_zero : sat 0 = 0 := rfl
theorem sat_pos {x : Int} : 0 < sat x ↔ 0 < x := by
  unfold sat
  by_cases c : x < 1000000000000001
  · rw [if_pos c]
  · rw [if_neg c]; omega
theorem upd_sat (a : Nat → Int) (k : Nat) (s : Int) : (fun j => sat (upd a k s j)) = upd (fun j => sat (a j)) k (sat s) := by
  funext j; unfold upd; by_cases h : j = k
  · rw [if_pos h, if_pos h]
  · rw [if_neg h, if_neg h]
theorem wy_in (G : GoodS N D B) {k : Nat} (hk : k < N) (hbk : ¬ brk B k) {a : Nat → Int} (ha : ∀ j, k < j → j ≤ N → 0 ≤ a j) (s : Int) (h0 : 0 ≤ s) :
    s_clWays_L2 (N : Int) (ar (fun j => sat (upd a k s j)) (N + 1)) D B (k : Int) (D.length : Int) 0 = s_clWays_L1 (N : Int) (ar (fun j => sat (upd a k (s + sm D (gU N B k a)) j)) (N + 1)) D B ((k : Int) - 1) := by
  have hN := G.n2
  have hD := G.d2
  refine loop_inv (L := fun i s => s_clWays_L2 (N : Int) (ar (fun j => sat (upd a k s j)) (N + 1)) D B (k : Int) (D.length : Int) (i : Int)) (l := D) (e := fun l s => s_clWays_L1 (N : Int) (ar (fun j => sat (upd a k (s + sm l (gU N B k a)) j)) (N + 1)) D B ((k : Int) - 1))
    (P := fun l s => (∀ d, d ∈ l → 1 ≤ d ∧ d ≤ 9) ∧ 0 ≤ s) ?_ ?_ s ⟨G.db, h0⟩
  · intro s _
    show s_clWays_L2 (N : Int) (ar (fun j => sat (upd a k s j)) (N + 1)) D B (k : Int) (D.length : Int) (D.length : Int) = _
    rw [s_clWays_u2, s_clWays_t2, decide_eq_false (show ¬ ((D.length : Int) < D.length) by omega), wrapI (n := (k : Int) - 1) (by omega) (by omega)]
    show _ = s_clWays_L1 (N : Int) (ar (fun j => sat (upd a k (s + 0) j)) (N + 1)) D B ((k : Int) - 1)
    rw [Int.add_zero]; rfl
  · intro i hi s ⟨p1, p2⟩
    have hd := p1 D[i] List.mem_cons_self
    have hg := gU_nonneg (N := N) (B := B) ha hd.1
    have hrd := rdk_get (k := kint) hi
    have c1 : (i : Int) < D.length := by omega
    have hw1 : IntKind.wrap .i64 ((i : Int) + 1) = ((i + 1 : Nat) : Int) := by rw [wrapI (by omega) (by omega)]; omega
    generalize D[i] = x at *
    obtain ⟨d, rfl, d1, d2⟩ := natOf hd
    have hw2 : IntKind.wrap .i64 ((k : Int) + (d : Int)) = ((k + d : Nat) : Int) := by rw [wrapI (by omega) (by omega)]; omega
    refine ⟨s + gU N B k a (d : Int), ?_, ⟨fun y hy => p1 y (List.mem_cons_of_mem _ hy), by omega⟩, ?_⟩
    · show s_clWays_L2 (N : Int) (ar (fun j => sat (upd a k s j)) (N + 1)) D B (k : Int) (D.length : Int) (i : Int) = s_clWays_L2 (N : Int) (ar (fun j => sat (upd a k (s + gU N B k a (d : Int)) j)) (N + 1)) D B (k : Int) (D.length : Int) ((i + 1 : Nat) : Int)
      rw [s_clWays_u2, s_clWays_t2, decide_eq_true c1, decide_eq_true (Int.natCast_nonneg i), hrd, hw1, hw2]
      rw [gU_nat]
      by_cases e1 : k + d ≤ N
      · have hkd := ha (k + d) (by omega) e1
        have b1 := sat_bd p2
        have b2 := sat_bd hkd
        rw [if_pos e1, if_neg hbk, decide_eq_true (show ((k + d : Nat) : Int) ≤ N by omega), ar_len, ar_rdk (show k < N + 1 by omega), ar_rdk (show k + d < N + 1 by omega), upd_same, upd_ne _ _ (show k + d ≠ k by omega), wrapI (n := sat s + sat (a (k + d))) (by omega) (by omega), least_sat, sat_add p2 hkd,
            decide_eq_true (Int.natCast_nonneg k), decide_eq_true (show (k : Int) < ((N + 1 : Nat) : Int) by omega), decide_eq_true (Int.natCast_nonneg _), decide_eq_true (show ((k + d : Nat) : Int) < ((N + 1 : Nat) : Int) by omega), Int.toNat_natCast, ar_set, upd_sat, upd_upd, upd_sat]
        rfl
      · rw [if_neg e1, decide_eq_false (show ¬ ((k + d : Nat) : Int) ≤ N by omega), Int.add_zero]; rfl
    · show s_clWays_L1 (N : Int) (ar (fun j => sat (upd a k (s + gU N B k a (d : Int) + sm (D.drop (i + 1)) (gU N B k a)) j)) (N + 1)) D B ((k : Int) - 1) = s_clWays_L1 (N : Int) (ar (fun j => sat (upd a k (s + sm ((d : Int) :: D.drop (i + 1)) (gU N B k a)) j)) (N + 1)) D B ((k : Int) - 1)
      rw [sm, Int.add_assoc]
theorem wy_loop (G : GoodS N D B) : ∀ e m : Nat, m + e = N → s_clWays_L1 (N : Int) (ar (fun j => sat (dpF N 1 (stU N D B) m j)) (N + 1)) D B ((N : Int) - 1 - m) = some (ar (fun j => sat (U N D B j)) (N + 1))
  | 0, m, h => by
    obtain rfl : m = N := by omega
    rw [s_clWays_u1, s_clWays_t1, decide_eq_false (show ¬ ((m : Int) - 1 - m ≥ 0) by omega)]
    rfl
  | e + 1, m, h => by
    have hN := G.n2
    obtain ⟨k, hk⟩ : ∃ k : Nat, k + (m + 1) = N := ⟨e, by omega⟩
    have hb := fun j (h1 : k < j) (h2 : j ≤ N) => dpU_hi G (m := m) (by omega) (show N - m ≤ j by omega) h2
    have e0 : (N : Int) - 1 - m = (k : Int) := by omega
    have hz : dpF N 1 (stU N D B) m k = 0 := dpF_lo (by omega) (by omega)
    rw [e0, s_clWays_u1, s_clWays_t1, decide_eq_true (show (k : Int) ≥ 0 by omega), cond_true, stands D B (show k ≤ N by omega), wrapI (n := (k : Int) - 1) (by omega) (by omega)]
    have ih := wy_loop G e (m + 1) (by omega)
    rw [dpF_succ, show N - (m + 1) = k from by omega, show (N : Int) - 1 - ((m + 1 : Nat) : Int) = (k : Int) - 1 from by omega] at ih
    by_cases hbk : brk B k
    · rw [decide_eq_true hbk]
      have : stU N D B k (dpF N 1 (stU N D B) m) = dpF N 1 (stU N D B) m k := by
        rw [hz]
        refine sm_zero fun d hd => ?_
        unfold gU
        rw [if_pos hbk]
        by_cases c : k + d.toNat ≤ N
        · rw [if_pos c]
        · rw [if_neg c]
      rw [this, upd_id] at ih
      exact ih
    · rw [decide_eq_false hbk]
      have := wy_in G (k := k) (by omega) hbk (a := dpF N 1 (stU N D B) m) (fun j h1 h2 => (hb j h1 h2).1) 0 (by omega)
      rw [← hz, upd_id, hz, Int.zero_add] at this
      exact this.trans ih
theorem ways_eq (G : GoodS N D B) : s_clWays (N : Int) D B = some (ar (fun j => sat (U N D B j)) (N + 1)) := by
  have hN := G.n2
  have hw : IntKind.wrap .i64 ((N : Int) + 1) = ((N + 1 : Nat) : Int) := by rw [wrapI (by omega) (by omega)]; omega
  have hw2 : IntKind.wrap .i64 ((N : Int) - 1) = (N : Int) - 1 := wrapI (by omega) (by omega)
  unfold s_clWays s_clWays_t0
  rw [hw, hw2, beq_self_eq_true, decide_eq_true (Int.natCast_nonneg _), decide_eq_true (show ((N + 1 : Nat) : Int) ≤ (4294967296 : Int) by omega), decide_eq_true (Int.natCast_nonneg _), List.length_replicate, Int.toNat_natCast, Int.toNat_natCast, decide_eq_true (show (N : Int) < ((N + 1 : Nat) : Int) by omega)]
  simp only [cond_true]
  rw [show List.replicate (N + 1) (Kd.zero kint) = ar (fun _ => 0) (N + 1) from ar_zero _, ar_set]
  have := wy_loop G N 0 (by omega)
  rw [show (N : Int) - 1 - ((0 : Nat) : Int) = (N : Int) - 1 from by omega] at this
  refine Eq.trans ?_ this
  congr 2
  funext j
  show upd (fun _ => 0) N 1 j = sat (if j = N then 1 else 0)
  unfold upd
  by_cases h : j = N
  · rw [if_pos h]; rfl
  · rw [if_neg h]; rfl
/-! counted -/
noncomputable def cntB (N : Nat) (D B : List Int) : Bool := decide (U N D B 0 ≤ 1000000000000000)
theorem counted_eq (G : GoodS N D B) : i_counted (N : Int) D B = some (ar (U N D B) (N + 1), cntB N D B) := by
  unfold i_counted
  have r0 : rdk kint (ar (U N D B) (N + 1)) 0 = U N D B 0 := ar_rdk (i := 0) (by omega)
  rw [i_AreStairs_eq, good_of G, up_eq G]
  simp only [Bool.not_true, cond_false, Option.bind_some]
  rw [ar_len, decide_eq_true (show (0 : Int) < ((N + 1 : Nat) : Int) by omega), r0]
  rfl
theorem clCounted_eq (G : GoodS N D B) : s_clCounted (N : Int) D B = some (cntB N D B) := by
  unfold s_clCounted
  have r0 : rdk kint (ar (fun j => sat (U N D B j)) (N + 1)) 0 = sat (U N D B 0) := ar_rdk (i := 0) (by omega)
  rw [good_of G, ways_eq G]
  simp only [cond_true, Option.bind_some]
  rw [ar_len, decide_eq_true (show (0 : Int) < ((N + 1 : Nat) : Int) by omega), r0]
  unfold cntB
  rw [decide_eq_decide.2 sat_le]
  rfl
theorem CountClimbs_eq (G : GoodS N D B) : i_CountClimbs (N : Int) D B = some (bif cntB N D B then (U N D B 0, true) else (0, false)) ∧ s_CountClimbs (N : Int) D B = some (bif cntB N D B then (U N D B 0, true) else (0, false)) := by
  unfold i_CountClimbs s_CountClimbs
  have r0 : rdk kint (ar (U N D B) (N + 1)) 0 = U N D B 0 := ar_rdk (i := 0) (by omega)
  have r1 : rdk kint (ar (fun j => sat (U N D B j)) (N + 1)) 0 = sat (U N D B 0) := ar_rdk (i := 0) (by omega)
  rw [counted_eq G, clCounted_eq G, ways_eq G]
  simp only [Option.bind_some]
  rw [ar_len, ar_len, r0, r1, decide_eq_true (show (0 : Int) < ((N + 1 : Nat) : Int) by omega)]
  cases hc : cntB N D B
  · exact ⟨rfl, rfl⟩
  · unfold cntB at hc
    rw [sat_id (of_decide_eq_true hc)]
    exact ⟨rfl, rfl⟩
end
/-! ### strides counted from the ground and from the top -/
theorem sr_first (n : Nat) (f : Nat → Int) : sr (n + 1) f = f 0 + sr n (fun k => f (k + 1)) := by
  unfold sr; rw [List.range_succ_eq_map, sm, sm_map]
theorem sr_rev : ∀ (n : Nat) (f : Nat → Int), sr (n + 1) f = sr (n + 1) (fun k => f (n - k))
  | 0, f => rfl
  | n + 1, f => by
    rw [sr_succ, sr_rev n f, sr_first (n + 1) (fun k => f (n + 1 - k))]
    have : sr (n + 1) (fun k => f (n + 1 - (k + 1))) = sr (n + 1) (fun k => f (n - k)) := sr_congr fun k _ => by rw [show n + 1 - (k + 1) = n - k from by omega]
    rw [this, Nat.sub_zero]; omega
theorem sr_swap {n m : Nat} {f : Nat → Nat → Int} : sr n (fun x => sr m (fun y => f x y)) = sr m (fun y => sr n (fun x => f x y)) := sm_swap
theorem sr_mul {n : Nat} {f : Nat → Int} (c : Int) : sr n (fun k => c * f k) = c * sr n f := sm_mul c
theorem sr_one' {p n : Nat} (f : Nat → Int) (h : p < n) : sr n (fun k => (if k = p then 1 else 0) * f k) = f p := by
  rw [sr_congr (g := fun k => if k = p then f p else 0) (fun k _ => by
    by_cases c : k = p
    · rw [if_pos c, if_pos c, c, Int.one_mul]
    · rw [if_neg c, if_neg c, Int.zero_mul]), sr_one, if_pos h]
def cU (B : List Int) (q k : Nat) (x : Int) (d : Int) : Int := if k + d.toNat = q then (if brk B q then 0 else x) else 0
theorem cU_nat (B : List Int) (q k : Nat) (x : Int) (d : Nat) : cU B q k x (d : Int) = if k + d = q then (if brk B q then 0 else x) else 0 := by unfold cU; rw [Int.toNat_natCast]
theorem cU_nn {B : List Int} {q k : Nat} {x : Int} (d : Int) (h : 0 ≤ x) : 0 ≤ cU B q k x d := by
  unfold cU
  by_cases c : k + d.toNat = q
  · rw [if_pos c]
    by_cases c2 : brk B q
    · rw [if_pos c2]; exact Int.le_refl _
    · rw [if_neg c2]; exact h
  · rw [if_neg c]; exact Int.le_refl _
theorem cU_zero {B : List Int} {q k : Nat} (d : Int) : cU B q k 0 d = 0 := by
  unfold cU
  by_cases c : k + d.toNat = q
  · rw [if_pos c]
    by_cases c2 : brk B q
    · rw [if_pos c2]
    · rw [if_neg c2]
  · rw [if_neg c]
/-- what a step gives to the step q -/
def sc (D B : List Int) (q k : Nat) (x : Int) : Int := sm D (cU B q k x)
/-- ways of so many strides from the ground -/
def FF (N : Nat) (D B : List Int) : Nat → Nat → Int
  | 0 => fun q => if q = 0 then 1 else 0
  | i + 1 => fun q => sr (N + 1) (fun k => sc D B q k (FF N D B i k))
theorem FF_zero (N : Nat) (D B : List Int) (q : Nat) : FF N D B 0 q = if q = 0 then 1 else 0 := rfl
theorem FF_succ (N : Nat) (D B : List Int) (i q : Nat) : FF N D B (i + 1) q = sr (N + 1) (fun k => sc D B q k (FF N D B i k)) := rfl
theorem FF_nn (N : Nat) (D B : List Int) : ∀ i q : Nat, 0 ≤ FF N D B i q
  | 0, q => by rw [FF_zero]; by_cases h : q = 0 <;> simp [h]
  | i + 1, q => sr_nonneg fun k _ => sm_nonneg fun d _ => cU_nn d (FF_nn N D B i k)
theorem sr_cU {N : Nat} {B : List Int} {q : Nat} (hq : q ≤ N) (f : Nat → Int) (d : Int) : sr (N + 1) (fun k => cU B q k (f k) d) = if d.toNat ≤ q then (if brk B q then 0 else f (q - d.toNat)) else 0 := by
  by_cases c : d.toNat ≤ q
  · rw [if_pos c, sr_congr (g := fun k => if k = q - d.toNat then (if brk B q then 0 else f (q - d.toNat)) else 0) (fun k _ => ?_), sr_one, if_pos (by omega)]
    unfold cU
    by_cases e : k + d.toNat = q
    · rw [if_pos e, if_pos (show k = q - d.toNat by omega), show k = q - d.toNat from by omega]
    · rw [if_neg e, if_neg (show ¬ k = q - d.toNat by omega)]
  · rw [if_neg c]
    refine sr_zero fun k _ => ?_
    unfold cU
    rw [if_neg (by omega)]
theorem FF_bd {N : Nat} {D B : List Int} (G : GoodS N D B) : ∀ i q : Nat, q ≤ N → FF N D B i q ≤ p2 q
  | 0, q, _ => by
    rw [FF_zero]
    have := p2_pos q
    by_cases h : q = 0
    · rw [if_pos h]; omega
    · rw [if_neg h]; omega
  | i + 1, q, hq => by
    rw [FF_succ]
    have e : sr (N + 1) (fun k => sc D B q k (FF N D B i k)) = sm D (fun d => sr (N + 1) (fun k => cU B q k (FF N D B i k) d)) := sm_swap
    rw [e]
    refine Int.le_trans (sm_le fun d hd => ?_) (p2_sum q D 1 G.dp (fun d hd => (G.db d hd).1) (by omega))
    rw [sr_cU hq]
    by_cases c : d.toNat ≤ q
    · rw [if_pos c, if_pos c]
      have h1 := FF_bd G i (q - d.toNat) (by omega)
      have h2 := p2_pos (q - d.toNat)
      by_cases c2 : brk B q
      · rw [if_pos c2]; omega
      · rw [if_neg c2]; exact h1
    · rw [if_neg c, if_neg c]; exact Int.le_refl _
theorem FF_60 {N : Nat} {D B : List Int} (G : GoodS N D B) {i q : Nat} (hq : q ≤ N) : FF N D B i q ≤ 1152921504606846976 := by
  have h1 := FF_bd G i q hq
  have h2 := p2_mono (show q ≤ 60 by have := G.n2; omega)
  rw [p2_60] at h2
  omega
section
variable {N : Nat} {D B : List Int}
theorem ar_snoc (a : Nat → Int) (i : Nat) : ar a i ++ [a i] = ar a (i + 1) := by unfold ar; rw [List.range_succ, List.map_append]; rfl
theorem bs_in (G : GoodS N D B) {k : Nat} (hk : k ≤ N) {x : Int} (hx : 0 ≤ x) (acc : List Int) (a : Nat → Int) (t : Int) (n : Nat → Int) (hn : ∀ q, q ≤ N → 0 ≤ n q ∧ n q + sm D (cU B q k x) ≤ 1152921504606846976) :
    i_Stairs_byStrides_L3 (N : Int) acc (ar n (N + 1)) (ar a (N + 1)) D B (k : Int) x ((N + 1 : Nat) : Int) t ((N + 1 : Nat) : Int) (k : Int) (D.length : Int) 0 =
    i_Stairs_byStrides_L2 (N : Int) acc (ar (fun q => n q + sc D B q k x) (N + 1)) (ar a (N + 1)) D B ((N + 1 : Nat) : Int) t ((N + 1 : Nat) : Int) ((k + 1 : Nat) : Int) := by
  have hN := G.n2
  have hD := G.d2
  refine loop_inv (L := fun i n => i_Stairs_byStrides_L3 (N : Int) acc (ar n (N + 1)) (ar a (N + 1)) D B (k : Int) x ((N + 1 : Nat) : Int) t ((N + 1 : Nat) : Int) (k : Int) (D.length : Int) (i : Int)) (l := D)
    (e := fun l n => i_Stairs_byStrides_L2 (N : Int) acc (ar (fun q => n q + sm l (cU B q k x)) (N + 1)) (ar a (N + 1)) D B ((N + 1 : Nat) : Int) t ((N + 1 : Nat) : Int) ((k + 1 : Nat) : Int))
    (P := fun l n => (∀ d, d ∈ l → 1 ≤ d ∧ d ≤ 9) ∧ ∀ q, q ≤ N → 0 ≤ n q ∧ n q + sm l (cU B q k x) ≤ 1152921504606846976) ?_ ?_ n ⟨G.db, hn⟩
  · intro s _
    show i_Stairs_byStrides_L3 (N : Int) acc (ar s (N + 1)) (ar a (N + 1)) D B (k : Int) x ((N + 1 : Nat) : Int) t ((N + 1 : Nat) : Int) (k : Int) (D.length : Int) (D.length : Int) = _
    rw [i_Stairs_byStrides_u3, i_Stairs_byStrides_t3, decide_eq_false (show ¬ ((D.length : Int) < D.length) by omega)]
    rw [wrapI (n := (k : Int) + 1) (by omega) (by omega)]
    show i_Stairs_byStrides_L2 (N : Int) acc (ar s (N + 1)) (ar a (N + 1)) D B ((N + 1 : Nat) : Int) t ((N + 1 : Nat) : Int) ((k : Int) + 1) = i_Stairs_byStrides_L2 (N : Int) acc (ar (fun q => s q + 0) (N + 1)) (ar a (N + 1)) D B ((N + 1 : Nat) : Int) t ((N + 1 : Nat) : Int) ((k + 1 : Nat) : Int)
    rw [show (fun q => s q + 0) = s from funext fun q => Int.add_zero _]
    rfl
  · intro i hi s ⟨p1, p2⟩
    have hd := p1 D[i] List.mem_cons_self
    have hrd := rdk_get (k := kint) hi
    have c1 : (i : Int) < D.length := by omega
    have hw1 : IntKind.wrap .i64 ((i : Int) + 1) = ((i + 1 : Nat) : Int) := by rw [wrapI (by omega) (by omega)]; omega
    generalize D[i] = y at *
    obtain ⟨d, rfl, d1, d2⟩ := natOf hd
    have hw2 : IntKind.wrap .i64 ((k : Int) + (d : Int)) = ((k + d : Nat) : Int) := by rw [wrapI (by omega) (by omega)]; omega
    have hsm : ∀ q, sm ((d : Int) :: D.drop (i + 1)) (cU B q k x) = cU B q k x (d : Int) + sm (D.drop (i + 1)) (cU B q k x) := fun q => rfl
    have hr : ∀ q, 0 ≤ sm (D.drop (i + 1)) (cU B q k x) := fun q => sm_nonneg fun d _ => cU_nn d hx
    refine ⟨fun q => s q + cU B q k x (d : Int), ?_, ⟨fun y hy => p1 y (List.mem_cons_of_mem _ hy), fun q hq => ?_⟩, ?_⟩
    · show i_Stairs_byStrides_L3 (N : Int) acc (ar s (N + 1)) (ar a (N + 1)) D B (k : Int) x ((N + 1 : Nat) : Int) t ((N + 1 : Nat) : Int) (k : Int) (D.length : Int) (i : Int) =
        i_Stairs_byStrides_L3 (N : Int) acc (ar (fun q => s q + cU B q k x (d : Int)) (N + 1)) (ar a (N + 1)) D B (k : Int) x ((N + 1 : Nat) : Int) t ((N + 1 : Nat) : Int) (k : Int) (D.length : Int) ((i + 1 : Nat) : Int)
      rw [i_Stairs_byStrides_u3, i_Stairs_byStrides_t3, decide_eq_true c1, decide_eq_true (Int.natCast_nonneg i), hrd, hw1, hw2]
      by_cases e1 : k + d ≤ N
      · rw [decide_eq_true (show ((k + d : Nat) : Int) ≤ N by omega), isBr]
        by_cases e2 : brk B (k + d)
        · rw [decide_eq_true e2, ar_congr (a := fun q => s q + cU B q k x (d : Int)) (b := s) (fun q _ => ?_)]
          · rfl
          · show s q + cU B q k x (d : Int) = s q
            rw [cU_nat]
            by_cases e3 : k + d = q
            · rw [if_pos e3, if_pos (by rw [← e3]; exact e2)]; omega
            · rw [if_neg e3]; omega
        · have hv : s (k + d) + x ≤ 1152921504606846976 := by
            have h1 := (p2 (k + d) e1).2
            rw [hsm, cU_nat, if_pos rfl, if_neg e2] at h1
            have := hr (k + d)
            omega
          have hv0 := (p2 (k + d) e1).1
          rw [decide_eq_false e2, ar_len, ar_rdk (show k + d < N + 1 by omega), wrapI (n := s (k + d) + x) (by omega) (by omega), decide_eq_true (Int.natCast_nonneg _), decide_eq_true (show ((k + d : Nat) : Int) < ((N + 1 : Nat) : Int) by omega), Int.toNat_natCast, ar_set,
            ar_congr (a := fun q => s q + cU B q k x (d : Int)) (b := upd s (k + d) (s (k + d) + x)) (fun q _ => ?_)]
          · rfl
          · show s q + cU B q k x (d : Int) = upd s (k + d) (s (k + d) + x) q
            rw [cU_nat]
            by_cases e3 : k + d = q
            · subst e3; rw [if_pos rfl, if_neg e2, upd_same]
            · rw [if_neg e3, upd_ne _ _ (fun e => e3 e.symm)]; omega
      · rw [decide_eq_false (show ¬ ((k + d : Nat) : Int) ≤ N by omega), ar_congr (a := fun q => s q + cU B q k x (d : Int)) (b := s) (fun q hq => ?_)]
        · rfl
        · show s q + cU B q k x (d : Int) = s q
          rw [cU_nat, if_neg (by omega)]; omega
    · show 0 ≤ s q + cU B q k x (d : Int) ∧ s q + cU B q k x (d : Int) + sm (D.drop (i + 1)) (cU B q k x) ≤ 1152921504606846976
      have h1 := p2 q hq
      rw [hsm] at h1
      have h2 := cU_nn (B := B) (q := q) (k := k) (d : Int) hx
      omega
    · show i_Stairs_byStrides_L2 (N : Int) acc (ar (fun q => s q + cU B q k x (d : Int) + sm (D.drop (i + 1)) (cU B q k x)) (N + 1)) (ar a (N + 1)) D B ((N + 1 : Nat) : Int) t ((N + 1 : Nat) : Int) ((k + 1 : Nat) : Int) =
        i_Stairs_byStrides_L2 (N : Int) acc (ar (fun q => s q + sm ((d : Int) :: D.drop (i + 1)) (cU B q k x)) (N + 1)) (ar a (N + 1)) D B ((N + 1 : Nat) : Int) t ((N + 1 : Nat) : Int) ((k + 1 : Nat) : Int)
      rw [show (fun q => s q + cU B q k x (d : Int) + sm (D.drop (i + 1)) (cU B q k x)) = (fun q => s q + sm ((d : Int) :: D.drop (i + 1)) (cU B q k x)) from funext fun q => by rw [hsm, Int.add_assoc]]
theorem bs_mid (G : GoodS N D B) (acc : List Int) (a : Nat → Int) (ha : ∀ k, k ≤ N → 0 ≤ a k) (t : Int) (ht : 0 ≤ t) (ht2 : t ≤ N) (hb : ∀ q, q ≤ N → sr (N + 1) (fun k => sc D B q k (a k)) ≤ 1152921504606846976) :
    i_Stairs_byStrides_L2 (N : Int) acc (ar (fun _ => 0) (N + 1)) (ar a (N + 1)) D B ((N + 1 : Nat) : Int) t ((N + 1 : Nat) : Int) 0 =
    i_Stairs_byStrides_L1 (N : Int) acc (ar (fun q => sr (N + 1) (fun k => sc D B q k (a k))) (N + 1)) D B ((N + 1 : Nat) : Int) (t + 1) := by
  have hN := G.n2
  have key := loop_inv (L := fun i n => i_Stairs_byStrides_L2 (N : Int) acc (ar n (N + 1)) (ar a (N + 1)) D B ((N + 1 : Nat) : Int) t ((N + 1 : Nat) : Int) (i : Int)) (l := List.range (N + 1))
    (e := fun l n => i_Stairs_byStrides_L1 (N : Int) acc (ar (fun q => n q + sm l (fun k => sc D B q k (a k))) (N + 1)) D B ((N + 1 : Nat) : Int) (t + 1))
    (P := fun l n => (∀ k, k ∈ l → k ≤ N) ∧ ∀ q, q ≤ N → 0 ≤ n q ∧ n q + sm l (fun k => sc D B q k (a k)) ≤ 1152921504606846976) ?_ ?_ (fun _ => 0) ⟨fun k hk => by have := List.mem_range.1 hk; omega, fun q hq => ⟨Int.le_refl _, by rw [Int.zero_add]; exact hb q hq⟩⟩
  · refine key.trans ?_
    show i_Stairs_byStrides_L1 (N : Int) acc (ar (fun q => 0 + sr (N + 1) (fun k => sc D B q k (a k))) (N + 1)) D B ((N + 1 : Nat) : Int) (t + 1) = _
    rw [show (fun q => 0 + sr (N + 1) (fun k => sc D B q k (a k))) = (fun q => sr (N + 1) (fun k => sc D B q k (a k))) from funext fun q => Int.zero_add _]
  · intro s _
    rw [List.length_range]
    show i_Stairs_byStrides_L2 (N : Int) acc (ar s (N + 1)) (ar a (N + 1)) D B ((N + 1 : Nat) : Int) t ((N + 1 : Nat) : Int) ((N + 1 : Nat) : Int) = _
    rw [i_Stairs_byStrides_u2, i_Stairs_byStrides_t2, decide_eq_false (show ¬ (((N + 1 : Nat) : Int) < ((N + 1 : Nat) : Int)) by omega), wrapI (n := t + 1) (by omega) (by omega)]
    show _ = i_Stairs_byStrides_L1 (N : Int) acc (ar (fun q => s q + 0) (N + 1)) D B ((N + 1 : Nat) : Int) (t + 1)
    rw [show (fun q => s q + 0) = s from funext fun q => Int.add_zero _]
    rfl
  · intro i hi s ⟨p1, p2⟩
    have hi' : i < N + 1 := by rw [List.length_range] at hi; exact hi
    have e0 : (List.range (N + 1))[i] = i := List.getElem_range hi
    rw [e0] at p1 p2 ⊢
    have hr : ∀ q, 0 ≤ sm ((List.range (N + 1)).drop (i + 1)) (fun k => sc D B q k (a k)) := fun q => sm_nonneg fun k hk => sm_nonneg fun d _ => cU_nn d (ha k (p1 k (List.mem_cons_of_mem _ hk)))
    have hsm : ∀ q, sm (i :: (List.range (N + 1)).drop (i + 1)) (fun k => sc D B q k (a k)) = sc D B q i (a i) + sm ((List.range (N + 1)).drop (i + 1)) (fun k => sc D B q k (a k)) := fun q => rfl
    have hai := ha i (by omega)
    refine ⟨fun q => s q + sc D B q i (a i), ?_, ⟨fun y hy => p1 y (List.mem_cons_of_mem _ hy), fun q hq => ?_⟩, ?_⟩
    · show i_Stairs_byStrides_L2 (N : Int) acc (ar s (N + 1)) (ar a (N + 1)) D B ((N + 1 : Nat) : Int) t ((N + 1 : Nat) : Int) (i : Int) =
        i_Stairs_byStrides_L2 (N : Int) acc (ar (fun q => s q + sc D B q i (a i)) (N + 1)) (ar a (N + 1)) D B ((N + 1 : Nat) : Int) t ((N + 1 : Nat) : Int) ((i + 1 : Nat) : Int)
      rw [i_Stairs_byStrides_u2, i_Stairs_byStrides_t2, ar_len, ar_rdk hi', decide_eq_true (show (i : Int) < ((N + 1 : Nat) : Int) by omega), decide_eq_true (Int.natCast_nonneg i)]
      refine (bs_in G (show i ≤ N by omega) hai acc a t s (fun q hq => ?_))
      have := p2 q hq
      rw [hsm] at this
      have h2 := hr q
      have h3 : sc D B q i (a i) = sm D (cU B q i (a i)) := rfl
      omega
    · show 0 ≤ s q + sc D B q i (a i) ∧ s q + sc D B q i (a i) + sm ((List.range (N + 1)).drop (i + 1)) (fun k => sc D B q k (a k)) ≤ 1152921504606846976
      have h1 := p2 q hq
      rw [hsm] at h1
      have h2 : 0 ≤ sc D B q i (a i) := sm_nonneg fun d _ => cU_nn d hai
      omega
    · show i_Stairs_byStrides_L1 (N : Int) acc (ar (fun q => s q + sc D B q i (a i) + sm ((List.range (N + 1)).drop (i + 1)) (fun k => sc D B q k (a k))) (N + 1)) D B ((N + 1 : Nat) : Int) (t + 1) =
        i_Stairs_byStrides_L1 (N : Int) acc (ar (fun q => s q + sm (i :: (List.range (N + 1)).drop (i + 1)) (fun k => sc D B q k (a k))) (N + 1)) D B ((N + 1 : Nat) : Int) (t + 1)
      rw [show (fun q => s q + sc D B q i (a i) + sm ((List.range (N + 1)).drop (i + 1)) (fun k => sc D B q k (a k))) = (fun q => s q + sm (i :: (List.range (N + 1)).drop (i + 1)) (fun k => sc D B q k (a k))) from funext fun q => by rw [hsm, Int.add_assoc]]
theorem bs_out (G : GoodS N D B) : ∀ e i : Nat, i + e = N + 1 → i_Stairs_byStrides_L1 (N : Int) (ar (fun j => FF N D B j N) i) (ar (FF N D B i) (N + 1)) D B ((N + 1 : Nat) : Int) (i : Int) = some (ar (fun j => FF N D B j N) (N + 1))
  | 0, i, h => by
    obtain rfl : i = N + 1 := by omega
    rw [i_Stairs_byStrides_u1, i_Stairs_byStrides_t1, decide_eq_false (show ¬ (((N + 1 : Nat) : Int) < ((N + 1 : Nat) : Int)) by omega)]
    rfl
  | e + 1, i, h => by
    have hN := G.n2
    have hw : IntKind.wrap .i64 ((N : Int) + 1) = ((N + 1 : Nat) : Int) := by rw [wrapI (by omega) (by omega)]; omega
    have hs : ar (fun j => FF N D B j N) i ++ [FF N D B i N] = ar (fun j => FF N D B j N) (i + 1) := ar_snoc (fun j => FF N D B j N) i
    rw [i_Stairs_byStrides_u1, i_Stairs_byStrides_t1, hw, ar_len, ar_len, ar_rdk (show N < N + 1 by omega), hs, beq_self_eq_true, decide_eq_true (show (i : Int) < ((N + 1 : Nat) : Int) by omega), decide_eq_true (Int.natCast_nonneg N), decide_eq_true (show (N : Int) < ((N + 1 : Nat) : Int) by omega),
      show Nat.ble (i + 1) 4294967296 = true from (by rw [Nat.ble_eq]; omega), decide_eq_true (Int.natCast_nonneg (N + 1)), decide_eq_true (show ((N + 1 : Nat) : Int) ≤ (4294967296 : Int) by omega), Int.toNat_natCast, show List.replicate (N + 1) (Kd.zero kint) = ar (fun _ => 0) (N + 1) from ar_zero _]
    have := bs_mid G (ar (fun j => FF N D B j N) (i + 1)) (FF N D B i) (fun k _ => FF_nn N D B i k) (i : Int) (by omega) (by omega) (fun q hq => FF_60 G (i := i + 1) hq)
    exact this.trans (bs_out G e (i + 1) (by omega))
theorem byS_eq (G : GoodS N D B) : i_Stairs_byStrides (N : Int) D B = some (ar (fun j => FF N D B j N) (N + 1)) := by
  have hN := G.n2
  have hw : IntKind.wrap .i64 ((N : Int) + 1) = ((N + 1 : Nat) : Int) := by rw [wrapI (by omega) (by omega)]; omega
  unfold i_Stairs_byStrides i_Stairs_byStrides_t0
  rw [hw, beq_self_eq_true, decide_eq_true (Int.natCast_nonneg _), decide_eq_true (show ((N + 1 : Nat) : Int) ≤ (4294967296 : Int) by omega), List.length_replicate, Int.toNat_natCast, decide_eq_true (show (0 : Int) < ((N + 1 : Nat) : Int) by omega)]
  simp only [cond_true]
  rw [show List.replicate (N + 1) (Kd.zero kint) = ar (fun _ => 0) (N + 1) from ar_zero _, show Int.toNat 0 = 0 from rfl, ar_set]
  have := bs_out G (N + 1) 0 (by omega)
  refine Eq.trans ?_ this
  rfl
/-! the model's -/
theorem cm_in (G : GoodS N D B) {k : Nat} (hk : k ≤ N) {x : Int} (hx : 0 ≤ x) (a : Nat → Int) (t : Int) (n : Nat → Int) (hn : ∀ q, q ≤ N → 0 ≤ n q) :
    s_clMany_L3 (N : Int) (ar (fun q => sat (n q)) (N + 1)) (ar a (N + 1)) D B t (k : Int) (sat x) ((N + 1 : Nat) : Int) (k : Int) (D.length : Int) 0 =
    s_clMany_L2 (N : Int) (ar (fun q => sat (n q + sc D B q k x)) (N + 1)) (ar a (N + 1)) D B t ((N + 1 : Nat) : Int) ((k + 1 : Nat) : Int) := by
  have hN := G.n2
  have hD := G.d2
  refine loop_inv (L := fun i n => s_clMany_L3 (N : Int) (ar (fun q => sat (n q)) (N + 1)) (ar a (N + 1)) D B t (k : Int) (sat x) ((N + 1 : Nat) : Int) (k : Int) (D.length : Int) (i : Int)) (l := D)
    (e := fun l n => s_clMany_L2 (N : Int) (ar (fun q => sat (n q + sm l (cU B q k x))) (N + 1)) (ar a (N + 1)) D B t ((N + 1 : Nat) : Int) ((k + 1 : Nat) : Int))
    (P := fun l n => (∀ d, d ∈ l → 1 ≤ d ∧ d ≤ 9) ∧ ∀ q, q ≤ N → 0 ≤ n q) ?_ ?_ n ⟨G.db, hn⟩
  · intro s _
    show s_clMany_L3 (N : Int) (ar (fun q => sat (s q)) (N + 1)) (ar a (N + 1)) D B t (k : Int) (sat x) ((N + 1 : Nat) : Int) (k : Int) (D.length : Int) (D.length : Int) = _
    rw [s_clMany_u3, s_clMany_t3, decide_eq_false (show ¬ ((D.length : Int) < D.length) by omega)]
    rw [wrapI (n := (k : Int) + 1) (by omega) (by omega)]
    show s_clMany_L2 (N : Int) (ar (fun q => sat (s q)) (N + 1)) (ar a (N + 1)) D B t ((N + 1 : Nat) : Int) ((k : Int) + 1) = s_clMany_L2 (N : Int) (ar (fun q => sat (s q + 0)) (N + 1)) (ar a (N + 1)) D B t ((N + 1 : Nat) : Int) ((k + 1 : Nat) : Int)
    rw [show (fun q => sat (s q + 0)) = (fun q => sat (s q)) from funext fun q => by rw [Int.add_zero]]
    rfl
  · intro i hi s ⟨p1, p2⟩
    have hd := p1 D[i] List.mem_cons_self
    have hrd := rdk_get (k := kint) hi
    have c1 : (i : Int) < D.length := by omega
    have hw1 : IntKind.wrap .i64 ((i : Int) + 1) = ((i + 1 : Nat) : Int) := by rw [wrapI (by omega) (by omega)]; omega
    generalize D[i] = y at *
    obtain ⟨d, rfl, d1, d2⟩ := natOf hd
    have hw2 : IntKind.wrap .i64 ((k : Int) + (d : Int)) = ((k + d : Nat) : Int) := by rw [wrapI (by omega) (by omega)]; omega
    have hsm : ∀ q, sm ((d : Int) :: D.drop (i + 1)) (cU B q k x) = cU B q k x (d : Int) + sm (D.drop (i + 1)) (cU B q k x) := fun q => rfl
    refine ⟨fun q => s q + cU B q k x (d : Int), ?_, ⟨fun y hy => p1 y (List.mem_cons_of_mem _ hy), fun q hq => ?_⟩, ?_⟩
    · show s_clMany_L3 (N : Int) (ar (fun q => sat (s q)) (N + 1)) (ar a (N + 1)) D B t (k : Int) (sat x) ((N + 1 : Nat) : Int) (k : Int) (D.length : Int) (i : Int) =
        s_clMany_L3 (N : Int) (ar (fun q => sat (s q + cU B q k x (d : Int))) (N + 1)) (ar a (N + 1)) D B t (k : Int) (sat x) ((N + 1 : Nat) : Int) (k : Int) (D.length : Int) ((i + 1 : Nat) : Int)
      rw [s_clMany_u3, s_clMany_t3, decide_eq_true c1, decide_eq_true (Int.natCast_nonneg i), hrd, hw1, hw2]
      by_cases e0 : 0 < x
      · rw [decide_eq_true (show sat x > 0 from sat_pos.2 e0)]
        by_cases e1 : k + d ≤ N
        · rw [stands D B e1]
          by_cases e2 : brk B (k + d)
          · rw [decide_eq_true e2, ar_congr (a := fun q => sat (s q + cU B q k x (d : Int))) (b := fun q => sat (s q)) (fun q _ => ?_)]
            · rfl
            · show sat (s q + cU B q k x (d : Int)) = sat (s q)
              rw [cU_nat]
              by_cases e3 : k + d = q
              · rw [if_pos e3, if_pos (by rw [← e3]; exact e2), Int.add_zero]
              · rw [if_neg e3, Int.add_zero]
          · have hv0 := p2 (k + d) e1
            have b1 := sat_bd hv0
            have b2 := sat_bd hx
            rw [decide_eq_false e2, ar_len, ar_rdk (show k + d < N + 1 by omega), wrapI (n := sat (s (k + d)) + sat x) (by omega) (by omega), least_sat, sat_add hv0 hx, decide_eq_true (Int.natCast_nonneg _), decide_eq_true (show ((k + d : Nat) : Int) < ((N + 1 : Nat) : Int) by omega), Int.toNat_natCast, ar_set,
              ar_congr (a := fun q => sat (s q + cU B q k x (d : Int))) (b := upd (fun q => sat (s q)) (k + d) (sat (s (k + d) + x))) (fun q _ => ?_)]
            · rfl
            · show sat (s q + cU B q k x (d : Int)) = upd (fun q => sat (s q)) (k + d) (sat (s (k + d) + x)) q
              rw [cU_nat]
              by_cases e3 : k + d = q
              · subst e3; rw [if_pos rfl, if_neg e2, upd_same]
              · rw [if_neg e3, upd_ne _ _ (fun e => e3 e.symm), Int.add_zero]
        · rw [stands_no D B (show ((k + d : Nat) : Int) > N by omega), ar_congr (a := fun q => sat (s q + cU B q k x (d : Int))) (b := fun q => sat (s q)) (fun q hq => ?_)]
          · rfl
          · show sat (s q + cU B q k x (d : Int)) = sat (s q)
            rw [cU_nat, if_neg (by omega), Int.add_zero]
      · obtain rfl : x = 0 := by omega
        rw [decide_eq_false (show ¬ sat 0 > 0 by decide), ar_congr (a := fun q => sat (s q + cU B q k 0 (d : Int))) (b := fun q => sat (s q)) (fun q hq => ?_)]
        · rfl
        · show sat (s q + cU B q k 0 (d : Int)) = sat (s q)
          rw [cU_zero, Int.add_zero]
    · show 0 ≤ s q + cU B q k x (d : Int)
      have h1 := p2 q hq
      have h2 := cU_nn (B := B) (q := q) (k := k) (d : Int) hx
      omega
    · show s_clMany_L2 (N : Int) (ar (fun q => sat (s q + cU B q k x (d : Int) + sm (D.drop (i + 1)) (cU B q k x))) (N + 1)) (ar a (N + 1)) D B t ((N + 1 : Nat) : Int) ((k + 1 : Nat) : Int) =
        s_clMany_L2 (N : Int) (ar (fun q => sat (s q + sm ((d : Int) :: D.drop (i + 1)) (cU B q k x))) (N + 1)) (ar a (N + 1)) D B t ((N + 1 : Nat) : Int) ((k + 1 : Nat) : Int)
      rw [show (fun q => sat (s q + cU B q k x (d : Int) + sm (D.drop (i + 1)) (cU B q k x))) = (fun q => sat (s q + sm ((d : Int) :: D.drop (i + 1)) (cU B q k x))) from funext fun q => by rw [hsm, Int.add_assoc]]
theorem cm_mid (G : GoodS N D B) (a : Nat → Int) (ha : ∀ k, k ≤ N → 0 ≤ a k) (t : Int) (ht : 1 ≤ t) (ht2 : t ≤ N) :
    s_clMany_L2 (N : Int) (ar (fun _ => 0) (N + 1)) (ar (fun k => sat (a k)) (N + 1)) D B t ((N + 1 : Nat) : Int) 0 =
    s_clMany_L1 (N : Int) (ar (fun q => sat (sr (N + 1) (fun k => sc D B q k (a k)))) (N + 1)) D B (t - 1) := by
  have hN := G.n2
  have key := loop_inv (L := fun i n => s_clMany_L2 (N : Int) (ar (fun q => sat (n q)) (N + 1)) (ar (fun k => sat (a k)) (N + 1)) D B t ((N + 1 : Nat) : Int) (i : Int)) (l := List.range (N + 1))
    (e := fun l n => s_clMany_L1 (N : Int) (ar (fun q => sat (n q + sm l (fun k => sc D B q k (a k)))) (N + 1)) D B (t - 1))
    (P := fun l n => (∀ k, k ∈ l → k ≤ N) ∧ ∀ q, q ≤ N → 0 ≤ n q) ?_ ?_ (fun _ => 0) ⟨fun k hk => by have := List.mem_range.1 hk; omega, fun q hq => Int.le_refl _⟩
  · refine Eq.trans ?_ (key.trans ?_)
    · rfl
    · show s_clMany_L1 (N : Int) (ar (fun q => sat (0 + sr (N + 1) (fun k => sc D B q k (a k)))) (N + 1)) D B (t - 1) = _
      rw [show (fun q => sat (0 + sr (N + 1) (fun k => sc D B q k (a k)))) = (fun q => sat (sr (N + 1) (fun k => sc D B q k (a k)))) from funext fun q => by rw [Int.zero_add]]
  · intro s _
    rw [List.length_range]
    show s_clMany_L2 (N : Int) (ar (fun q => sat (s q)) (N + 1)) (ar (fun k => sat (a k)) (N + 1)) D B t ((N + 1 : Nat) : Int) ((N + 1 : Nat) : Int) = _
    rw [s_clMany_u2, s_clMany_t2, decide_eq_false (show ¬ (((N + 1 : Nat) : Int) < ((N + 1 : Nat) : Int)) by omega), wrapI (n := t - 1) (by omega) (by omega)]
    show _ = s_clMany_L1 (N : Int) (ar (fun q => sat (s q + 0)) (N + 1)) D B (t - 1)
    rw [show (fun q => sat (s q + 0)) = (fun q => sat (s q)) from funext fun q => by rw [Int.add_zero]]
    rfl
  · intro i hi s ⟨p1, p2⟩
    have hi' : i < N + 1 := by rw [List.length_range] at hi; exact hi
    have e0 : (List.range (N + 1))[i] = i := List.getElem_range hi
    rw [e0] at p1 ⊢
    have hsm : ∀ q, sm (i :: (List.range (N + 1)).drop (i + 1)) (fun k => sc D B q k (a k)) = sc D B q i (a i) + sm ((List.range (N + 1)).drop (i + 1)) (fun k => sc D B q k (a k)) := fun q => rfl
    have hai := ha i (by omega)
    refine ⟨fun q => s q + sc D B q i (a i), ?_, ⟨fun y hy => p1 y (List.mem_cons_of_mem _ hy), fun q hq => ?_⟩, ?_⟩
    · show s_clMany_L2 (N : Int) (ar (fun q => sat (s q)) (N + 1)) (ar (fun k => sat (a k)) (N + 1)) D B t ((N + 1 : Nat) : Int) (i : Int) =
        s_clMany_L2 (N : Int) (ar (fun q => sat (s q + sc D B q i (a i))) (N + 1)) (ar (fun k => sat (a k)) (N + 1)) D B t ((N + 1 : Nat) : Int) ((i + 1 : Nat) : Int)
      rw [s_clMany_u2, s_clMany_t2, ar_len, ar_rdk hi', decide_eq_true (show (i : Int) < ((N + 1 : Nat) : Int) by omega), decide_eq_true (Int.natCast_nonneg i)]
      exact cm_in G (show i ≤ N by omega) hai (fun k => sat (a k)) t s p2
    · show 0 ≤ s q + sc D B q i (a i)
      have h1 := p2 q hq
      have h2 : 0 ≤ sc D B q i (a i) := sm_nonneg fun d _ => cU_nn d hai
      omega
    · show s_clMany_L1 (N : Int) (ar (fun q => sat (s q + sc D B q i (a i) + sm ((List.range (N + 1)).drop (i + 1)) (fun k => sc D B q k (a k)))) (N + 1)) D B (t - 1) =
        s_clMany_L1 (N : Int) (ar (fun q => sat (s q + sm (i :: (List.range (N + 1)).drop (i + 1)) (fun k => sc D B q k (a k)))) (N + 1)) D B (t - 1)
      rw [show (fun q => sat (s q + sc D B q i (a i) + sm ((List.range (N + 1)).drop (i + 1)) (fun k => sc D B q k (a k)))) = (fun q => sat (s q + sm (i :: (List.range (N + 1)).drop (i + 1)) (fun k => sc D B q k (a k)))) from funext fun q => by rw [hsm, Int.add_assoc]]
theorem cm_out (G : GoodS N D B) : ∀ (e i : Nat), e ≤ N → s_clMany_L1 (N : Int) (ar (fun q => sat (FF N D B i q)) (N + 1)) D B (e : Int) = some (sat (FF N D B (i + e) N))
  | 0, i, h => by
    rw [s_clMany_u1, s_clMany_t1, decide_eq_false (show ¬ ((0 : Nat) : Int) > 0 by omega), ar_len, ar_rdk (show N < N + 1 by omega), decide_eq_true (Int.natCast_nonneg N), decide_eq_true (show (N : Int) < ((N + 1 : Nat) : Int) by omega)]
    rfl
  | e + 1, i, h => by
    have hN := G.n2
    have hw : IntKind.wrap .i64 ((N : Int) + 1) = ((N + 1 : Nat) : Int) := by rw [wrapI (by omega) (by omega)]; omega
    rw [s_clMany_u1, s_clMany_t1, hw, ar_len, beq_self_eq_true, decide_eq_true (show ((e + 1 : Nat) : Int) > 0 by omega), decide_eq_true (Int.natCast_nonneg (N + 1)), decide_eq_true (show ((N + 1 : Nat) : Int) ≤ (4294967296 : Int) by omega), Int.toNat_natCast, show List.replicate (N + 1) (Kd.zero kint) = ar (fun _ => 0) (N + 1) from ar_zero _]
    have := cm_mid G (FF N D B i) (fun k _ => FF_nn N D B i k) ((e + 1 : Nat) : Int) (by omega) (by omega)
    refine this.trans ?_
    rw [show ((e + 1 : Nat) : Int) - 1 = (e : Int) from by omega, show i + (e + 1) = (i + 1) + e from by omega]
    exact cm_out G e (i + 1) (by omega)
theorem clMany_eq (G : GoodS N D B) {m : Nat} (hm : m ≤ N) : s_clMany (N : Int) D B (m : Int) = some (sat (FF N D B m N)) := by
  have hN := G.n2
  have hw : IntKind.wrap .i64 ((N : Int) + 1) = ((N + 1 : Nat) : Int) := by rw [wrapI (by omega) (by omega)]; omega
  unfold s_clMany s_clMany_t0
  rw [hw, beq_self_eq_true, decide_eq_true (Int.natCast_nonneg _), decide_eq_true (show ((N + 1 : Nat) : Int) ≤ (4294967296 : Int) by omega), List.length_replicate, Int.toNat_natCast, decide_eq_true (show (0 : Int) < ((N + 1 : Nat) : Int) by omega)]
  simp only [cond_true]
  rw [show List.replicate (N + 1) (Kd.zero kint) = ar (fun _ => 0) (N + 1) from ar_zero _, show Int.toNat 0 = 0 from rfl, ar_set]
  have := cm_out G m 0 hm
  rw [Nat.zero_add] at this
  refine Eq.trans ?_ this
  congr 2
  funext j
  show upd (fun _ => 0) 0 1 j = sat (if j = 0 then 1 else 0)
  unfold upd
  by_cases h : j = 0
  · rw [if_pos h]; rfl
  · rw [if_neg h]; rfl
end
/-! ### from the top: as many -/
def wt (D : List Int) (p q : Nat) : Int := sm D (fun d => if p + d.toNat = q then 1 else 0)
def HH (N : Nat) (D B : List Int) : Nat → Nat → Int
  | 0 => fun k => if k = N then 1 else 0
  | j + 1 => fun k => sm D (gU N B k (HH N D B j))
theorem HH_zero (N : Nat) (D B : List Int) (k : Nat) : HH N D B 0 k = if k = N then 1 else 0 := rfl
theorem HH_succ (N : Nat) (D B : List Int) (j k : Nat) : HH N D B (j + 1) k = sm D (gU N B k (HH N D B j)) := rfl
section
variable {N : Nat} {D B : List Int}
theorem gU_brk {k : Nat} (h : brk B k) (a : Nat → Int) (d : Int) : gU N B k a d = 0 := by
  unfold gU
  by_cases c : k + d.toNat ≤ N
  · rw [if_pos c, if_pos h]
  · rw [if_neg c]
theorem HH_nn (N : Nat) (D B : List Int) : ∀ j k : Nat, 0 ≤ HH N D B j k
  | 0, k => by rw [HH_zero]; by_cases h : k = N <;> simp [h]
  | j + 1, k => sm_nonneg fun d _ => by
    unfold gU
    by_cases c : k + d.toNat ≤ N
    · rw [if_pos c]
      by_cases c2 : brk B k
      · rw [if_pos c2]; exact Int.le_refl _
      · rw [if_neg c2]; exact HH_nn N D B j _
    · rw [if_neg c]; exact Int.le_refl _
theorem HH_brk (G : GoodS N D B) {k : Nat} (h : brk B k) : ∀ j, HH N D B j k = 0
  | 0 => by rw [HH_zero, if_neg (fun e => (brk_no G).2 (by rw [← e]; exact h))]
  | j + 1 => sm_zero fun d _ => gU_brk h _ d
theorem FF_brk (G : GoodS N D B) {q : Nat} (h : brk B q) : ∀ i, FF N D B i q = 0
  | 0 => by rw [FF_zero, if_neg (fun e => (brk_no G).1 (by rw [← e]; exact h))]
  | i + 1 => sr_zero fun k _ => sm_zero fun d _ => by
    unfold cU
    by_cases c : k + d.toNat = q
    · rw [if_pos c, if_pos h]
    · rw [if_neg c]
theorem sm_mul_r {α : Type} {f : α → Int} (c : Int) {l : List α} : sm l (fun x => f x * c) = sm l f * c := by
  rw [Int.mul_comm, ← sm_mul]; exact sm_congr fun x _ => Int.mul_comm _ _
theorem FF_w (G : GoodS N D B) (i : Nat) {q : Nat} (h : ¬ brk B q) : FF N D B (i + 1) q = sr (N + 1) (fun k => wt D k q * FF N D B i k) := by
  rw [FF_succ]
  refine sr_congr fun k _ => ?_
  unfold sc wt
  rw [← sm_mul_r]
  refine sm_congr fun d _ => ?_
  unfold cU
  by_cases c : k + d.toNat = q
  · rw [if_pos c, if_pos c, if_neg h, Int.one_mul]
  · rw [if_neg c, if_neg c, Int.zero_mul]
theorem HH_w (j : Nat) {k : Nat} (h : ¬ brk B k) : HH N D B (j + 1) k = sr (N + 1) (fun q => wt D k q * HH N D B j q) := by
  rw [HH_succ]
  have e : sr (N + 1) (fun q => wt D k q * HH N D B j q) = sr (N + 1) (fun q => sm D (fun d => if k + d.toNat = q then HH N D B j q else 0)) := sr_congr fun q _ => by
    unfold wt
    rw [← sm_mul_r]
    refine sm_congr fun d _ => ?_
    by_cases c : k + d.toNat = q
    · rw [if_pos c, if_pos c, Int.one_mul]
    · rw [if_neg c, if_neg c, Int.zero_mul]
  have e2 : sr (N + 1) (fun q => sm D (fun d => if k + d.toNat = q then HH N D B j q else 0)) = sm D (fun d => sr (N + 1) (fun q => if k + d.toNat = q then HH N D B j q else 0)) := sm_swap
  rw [e, e2]
  refine sm_congr fun d _ => ?_
  have e3 : sr (N + 1) (fun q => if k + d.toNat = q then HH N D B j q else 0) = sr (N + 1) (fun q => if q = k + d.toNat then HH N D B j (k + d.toNat) else 0) := sr_congr fun q _ => by
    by_cases c : k + d.toNat = q
    · rw [if_pos c, if_pos c.symm, c]
    · rw [if_neg c, if_neg (fun e => c e.symm)]
  rw [e3, sr_one]
  unfold gU
  by_cases c : k + d.toNat ≤ N
  · rw [if_pos c, if_neg h, if_pos (by omega)]
  · rw [if_neg c, if_neg (by omega)]
theorem dual1 (G : GoodS N D B) (i j : Nat) : sr (N + 1) (fun p => FF N D B (i + 1) p * HH N D B j p) = sr (N + 1) (fun p => FF N D B i p * HH N D B (j + 1) p) := by
  have e1 : sr (N + 1) (fun q => FF N D B (i + 1) q * HH N D B j q) = sr (N + 1) (fun q => sr (N + 1) (fun k => wt D k q * FF N D B i k * HH N D B j q)) := sr_congr fun q _ => by
    have hm : sr (N + 1) (fun k => wt D k q * FF N D B i k * HH N D B j q) = sr (N + 1) (fun k => wt D k q * FF N D B i k) * HH N D B j q := sm_mul_r _
    rw [hm]
    by_cases h : brk B q
    · rw [HH_brk G h, Int.mul_zero, Int.mul_zero]
    · rw [FF_w G i h]
  have e2 : sr (N + 1) (fun k => FF N D B i k * HH N D B (j + 1) k) = sr (N + 1) (fun k => sr (N + 1) (fun q => wt D k q * FF N D B i k * HH N D B j q)) := sr_congr fun k _ => by
    have hm : sr (N + 1) (fun q => wt D k q * FF N D B i k * HH N D B j q) = FF N D B i k * sr (N + 1) (fun q => wt D k q * HH N D B j q) := by
      rw [← sr_mul]
      refine sr_congr fun q _ => ?_
      rw [Int.mul_comm (wt D k q) (FF N D B i k), Int.mul_assoc]
    rw [hm]
    by_cases h : brk B k
    · rw [FF_brk G h, Int.zero_mul, Int.zero_mul]
    · rw [HH_w j h]
  rw [e1, e2]
  exact sr_swap
theorem dual2 (G : GoodS N D B) : ∀ i j : Nat, sr (N + 1) (fun p => FF N D B i p * HH N D B j p) = HH N D B (i + j) 0
  | 0, j => by
    rw [Nat.zero_add]
    exact (sr_congr fun p _ => by rw [FF_zero]).trans (sr_one' _ (by omega))
  | i + 1, j => by rw [dual1 G, dual2 G i (j + 1), show i + (j + 1) = i + 1 + j from by omega]
theorem FF_HH (G : GoodS N D B) (i : Nat) : FF N D B i N = HH N D B i 0 := by
  refine Eq.trans ?_ (dual2 G i 0)
  exact ((sr_congr fun p _ => by rw [HH_zero, Int.mul_comm]).trans (sr_one' (fun p => FF N D B i p) (by omega))).symm
theorem HH_sum (G : GoodS N D B) : ∀ (e k : Nat), k + e = N → ∀ M, e + 1 ≤ M → sr M (fun j => HH N D B j k) = U N D B k := by
  intro e
  induction e using Nat.strongRecOn with
  | ind e ih =>
    intro k hk M hM
    obtain ⟨M, rfl⟩ : ∃ m, M = m + 1 := ⟨M - 1, by omega⟩
    rw [sr_first, HH_zero]
    have hs : sr M (fun j => HH N D B (j + 1) k) = sm D (fun d => sr M (fun j => gU N B k (HH N D B j) d)) := sm_swap
    rw [hs]
    by_cases h0 : k = N
    · subst h0
      rw [if_pos rfl, U_top, sm_zero fun d hd => ?_]
      · rfl
      · refine sr_zero fun j _ => ?_
        have := (G.db d hd).1
        unfold gU
        rw [if_neg (by omega)]
    · rw [if_neg h0, U_rec G (by omega), Int.zero_add]
      refine sm_congr fun d hd => ?_
      have hd1 := (G.db d hd).1
      unfold gU
      by_cases c : k + d.toNat ≤ N
      · by_cases c2 : brk B k
        · rw [if_pos c, if_pos c2]
          exact sr_zero fun j _ => by rw [if_pos c, if_pos c2]
        · rw [if_pos c, if_neg c2, ← ih (e - d.toNat) (by omega) (k + d.toNat) (by omega) M (by omega)]
          exact sr_congr fun j _ => by rw [if_pos c, if_neg c2]
      · rw [if_neg c]
        exact sr_zero fun j _ => by rw [if_neg c]
theorem byS_sum (G : GoodS N D B) : sr (N + 1) (fun j => FF N D B j N) = U N D B 0 := by
  rw [sr_congr (g := fun j => HH N D B j 0) (fun j _ => FF_HH G j)]
  exact HH_sum G N 0 (by omega) (N + 1) (by omega)
theorem mirror {B' : List Int} (G : GoodS N D B) (G' : GoodS N D B') (hb : ∀ k, k ≤ N → (brk B' k ↔ brk B (N - k))) : ∀ i q : Nat, q ≤ N → FF N D B' i q = HH N D B i (N - q)
  | 0, q, hq => by
    rw [FF_zero, HH_zero]
    by_cases h : q = 0
    · rw [if_pos h, if_pos (by omega)]
    · rw [if_neg h, if_neg (by omega)]
  | i + 1, q, hq => by
    by_cases h : brk B' q
    · rw [FF_brk G' h, HH_brk G ((hb q hq).1 h)]
    · have h2 : ¬ brk B (N - q) := fun e => h ((hb q hq).2 e)
      rw [FF_w G' i h, HH_w i h2, sr_rev]
      refine sr_congr fun k hk => ?_
      show wt D (N - k) q * FF N D B' i (N - k) = wt D (N - q) k * HH N D B i k
      rw [mirror G G' hb i (N - k) (by omega), show N - (N - k) = k from by omega]
      congr 1
      unfold wt
      refine sm_congr fun d _ => ?_
      by_cases c : N - k + d.toNat = q
      · rw [if_pos c, if_pos (by omega)]
      · rw [if_neg c, if_neg (by omega)]
theorem U_mirror {B' : List Int} (G : GoodS N D B) (G' : GoodS N D B') (hb : ∀ k, k ≤ N → (brk B' k ↔ brk B (N - k))) : U N D B' 0 = U N D B 0 := by
  rw [← byS_sum G', ← byS_sum G]
  refine sr_congr fun j _ => ?_
  rw [mirror G G' hb j N (by omega), Nat.sub_self, FF_HH G]
/-! how few, how many -/
theorem HH_pos {j k : Nat} : 0 < HH N D B (j + 1) k ↔ ¬ brk B k ∧ ∃ d, d ∈ D ∧ k + d.toNat ≤ N ∧ 0 < HH N D B j (k + d.toNat) := by
  rw [HH_succ]
  constructor
  · intro h
    obtain ⟨d, hd, hp⟩ := sm_pos (fun d _ => by
      unfold gU
      by_cases c : k + d.toNat ≤ N
      · rw [if_pos c]
        by_cases c2 : brk B k
        · rw [if_pos c2]; exact Int.le_refl _
        · rw [if_neg c2]; exact HH_nn N D B j _
      · rw [if_neg c]; exact Int.le_refl _) h
    unfold gU at hp
    by_cases c : k + d.toNat ≤ N
    · rw [if_pos c] at hp
      by_cases c2 : brk B k
      · rw [if_pos c2] at hp; omega
      · rw [if_neg c2] at hp; exact ⟨c2, d, hd, c, hp⟩
    · rw [if_neg c] at hp; omega
  · rintro ⟨c2, d, hd, c, hp⟩
    refine Int.lt_of_lt_of_le ?_ (sm_mem_le (fun d _ => ?_) hd)
    · unfold gU; rw [if_pos c, if_neg c2]; exact hp
    · unfold gU
      by_cases c : k + d.toNat ≤ N
      · rw [if_pos c, if_neg c2]; exact HH_nn N D B j _
      · rw [if_neg c]; exact Int.le_refl _
theorem HH_far (G : GoodS N D B) : ∀ (j k : Nat), k ≤ N → N - k < j → HH N D B j k = 0 := by
  intro j
  induction j with
  | zero => intro k _ h; omega
  | succ j ih =>
    intro k hk h
    refine sm_zero fun d hd => ?_
    have hd1 := (G.db d hd).1
    unfold gU
    by_cases c : k + d.toNat ≤ N
    · rw [if_pos c, ih _ c (by omega)]
      by_cases c2 : brk B k
      · rw [if_pos c2]
      · rw [if_neg c2]
    · rw [if_neg c]
end
/-! ### the fewest and the most strides -/
/-- the least or the greatest of some numbers, or -1 -/
def Best (most : Bool) (S : Nat → Prop) (v : Int) : Prop := (v = -1 ∧ ∀ j, ¬ S j) ∨ ∃ m : Nat, v = m ∧ S m ∧ ∀ j, S j → if most = true then j ≤ m else m ≤ j
def better (most : Bool) (v w : Int) : Int := if w < 0 then v else if v < 0 ∨ (most = false ∧ w + 1 < v) ∨ (most = true ∧ w + 1 > v) then w + 1 else v
theorem best_ge {most : Bool} {S : Nat → Prop} {v : Int} (h : Best most S v) : -1 ≤ v := by
  rcases h with ⟨h, _⟩ | ⟨m, h, _⟩ <;> omega
theorem best_step {most : Bool} {S T : Nat → Prop} {v w : Int} (hv : Best most S v) (hw : Best most T w) : Best most (fun j => S j ∨ ∃ i, j = i + 1 ∧ T i) (better most v w) := by
  unfold better
  rcases hw with ⟨hw, hT⟩ | ⟨m, rfl, hT, hm⟩
  · rw [if_pos (by omega)]
    have hno : ∀ j, ¬ ∃ i, j = i + 1 ∧ T i := fun j ⟨i, _, h⟩ => hT i h
    rcases hv with ⟨hv, hS⟩ | ⟨n, hv, hS, hn⟩
    · exact .inl ⟨hv, fun j h => h.elim (hS j) (hno j)⟩
    · exact .inr ⟨n, hv, .inl hS, fun j h => h.elim (hn j) (fun h => absurd h (hno j))⟩
  · rw [if_neg (by omega)]
    rcases hv with ⟨rfl, hS⟩ | ⟨n, rfl, hS, hn⟩
    · rw [if_pos (by omega)]
      refine .inr ⟨m + 1, by omega, .inr ⟨m, rfl, hT⟩, fun j h => ?_⟩
      rcases h with h | ⟨i, rfl, h⟩
      · exact absurd h (hS j)
      · have := hm i h
        cases most
        · simp only [Bool.false_eq_true, if_false] at this ⊢; omega
        · simp only [if_true] at this ⊢; omega
    · cases most
      · simp only [Bool.false_eq_true, if_false] at hm hn ⊢
        by_cases c : (m : Int) + 1 < n
        · rw [if_pos (.inr (.inl ⟨trivial, c⟩))]
          refine .inr ⟨m + 1, by omega, .inr ⟨m, rfl, hT⟩, fun j h => ?_⟩
          rcases h with h | ⟨i, rfl, h⟩
          · have := hn j h; simp only [Bool.false_eq_true, if_false]; omega
          · have := hm i h; simp only [Bool.false_eq_true, if_false]; omega
        · rw [if_neg (by rintro (h | h | h); · omega
                         · exact c h.2
                         · exact h.1)]
          refine .inr ⟨n, rfl, .inl hS, fun j h => ?_⟩
          rcases h with h | ⟨i, rfl, h⟩
          · have := hn j h; simp only [Bool.false_eq_true, if_false]; omega
          · have := hm i h; simp only [Bool.false_eq_true, if_false]; omega
      · simp only [if_true] at hm hn ⊢
        by_cases c : (m : Int) + 1 > n
        · rw [if_pos (.inr (.inr ⟨trivial, c⟩))]
          refine .inr ⟨m + 1, by omega, .inr ⟨m, rfl, hT⟩, fun j h => ?_⟩
          rcases h with h | ⟨i, rfl, h⟩
          · have := hn j h; simp only [if_true]; omega
          · have := hm i h; simp only [if_true]; omega
        · rw [if_neg (by rintro (h | h | h); · omega
                         · exact absurd h.1 (by decide)
                         · exact c h.2)]
          refine .inr ⟨n, rfl, .inl hS, fun j h => ?_⟩
          rcases h with h | ⟨i, rfl, h⟩
          · have := hn j h; simp only [if_true]; omega
          · have := hm i h; simp only [if_true]; omega
theorem best_iff {most : Bool} {S T : Nat → Prop} {v : Int} (h : ∀ j, S j ↔ T j) (hv : Best most S v) : Best most T v := by
  rcases hv with ⟨hv, hS⟩ | ⟨n, hv, hS, hn⟩
  · exact .inl ⟨hv, fun j c => hS j ((h j).2 c)⟩
  · exact .inr ⟨n, hv, (h n).1 hS, fun j c => hn j ((h j).2 c)⟩
theorem best_uniq {most : Bool} {S : Nat → Prop} {v w : Int} (hv : Best most S v) (hw : Best most S w) : v = w := by
  rcases hv with ⟨hv, hS⟩ | ⟨n, hv, hS, hn⟩
  · rcases hw with ⟨hw, _⟩ | ⟨m, _, hT, _⟩
    · omega
    · exact absurd hT (hS m)
  · rcases hw with ⟨_, hT⟩ | ⟨m, hw, hT, hm⟩
    · exact absurd hS (hT n)
    · have h1 := hn m hT
      have h2 := hm n hS
      cases most
      · simp only [Bool.false_eq_true, if_false] at h1 h2; omega
      · simp only [if_true] at h1 h2; omega
def lfS (N : Nat) (most : Bool) (k : Nat) (a : Nat → Int) (v d : Int) : Int := if k + d.toNat ≤ N then better most v (a (k + d.toNat)) else v
theorem lfS_nat (N : Nat) (most : Bool) (k : Nat) (a : Nat → Int) (v : Int) (d : Nat) : lfS N most k a v (d : Int) = if k + d ≤ N then better most v (a (k + d)) else v := by unfold lfS; rw [Int.toNat_natCast]
def stL (N : Nat) (D B : List Int) (most : Bool) (k : Nat) (a : Nat → Int) : Int := if brk B k then -1 else D.foldl (lfS N most k a) (-1)
/-- the fewest or the most strides to the top, or -1 -/
def LF (N : Nat) (D B : List Int) (most : Bool) : Nat → Int := dpF N 0 (stL N D B most) N
section
variable {N : Nat} {D B : List Int}
theorem lf_congr {most : Bool} {k : Nat} {a b : Nat → Int} (h : ∀ j, k < j → j ≤ N → a j = b j) : ∀ (l : List Int) (v : Int), (∀ d, d ∈ l → 1 ≤ d) → l.foldl (lfS N most k a) v = l.foldl (lfS N most k b) v
  | [], _, _ => rfl
  | d :: l, v, hl => by
    have hd := hl d (by simp)
    have e : lfS N most k a v d = lfS N most k b v d := by
      unfold lfS
      by_cases c : k + d.toNat ≤ N
      · rw [if_pos c, if_pos c, h _ (by omega) c]
      · rw [if_neg c, if_neg c]
    rw [List.foldl_cons, List.foldl_cons, e]
    exact lf_congr h l _ (fun x hx => hl x (List.mem_cons_of_mem _ hx))
theorem stL_congr (G : GoodS N D B) (most : Bool) : ∀ k a b, k < N → (∀ j, k < j → j ≤ N → a j = b j) → stL N D B most k a = stL N D B most k b := fun k a b _ h => by
  unfold stL
  by_cases c : brk B k
  · rw [if_pos c, if_pos c]
  · rw [if_neg c, if_neg c]; exact lf_congr h D _ (fun d hd => (G.db d hd).1)
theorem lf_best {most : Bool} {k : Nat} {a : Nat → Int} (hk : ¬ brk B k) (ha : ∀ j, k < j → j ≤ N → Best most (fun i => 0 < HH N D B i j) (a j)) : ∀ (l : List Int) (S : Nat → Prop) (v : Int), (∀ d, d ∈ l → 1 ≤ d) → Best most S v →
    Best most (fun j => S j ∨ ∃ d, d ∈ l ∧ k + d.toNat ≤ N ∧ ∃ i, j = i + 1 ∧ 0 < HH N D B i (k + d.toNat)) (l.foldl (lfS N most k a) v)
  | [], S, v, _, hv => best_iff (fun j => ⟨.inl, fun h => h.elim id (fun ⟨d, hd, _⟩ => absurd hd List.not_mem_nil)⟩) hv
  | d :: l, S, v, hl, hv => by
    have hd := hl d (by simp)
    rw [List.foldl_cons]
    unfold lfS
    by_cases c : k + d.toNat ≤ N
    · rw [if_pos c]
      have h1 := best_step hv (ha (k + d.toNat) (by omega) c)
      refine best_iff (fun j => ?_) (lf_best hk ha l _ _ (fun x hx => hl x (List.mem_cons_of_mem _ hx)) h1)
      constructor
      · rintro ((h | h) | ⟨x, hx, h⟩)
        · exact .inl h
        · exact .inr ⟨d, List.mem_cons_self, c, h⟩
        · exact .inr ⟨x, List.mem_cons_of_mem _ hx, h⟩
      · rintro (h | ⟨x, hx, h1, h2⟩)
        · exact .inl (.inl h)
        · rcases List.mem_cons.1 hx with rfl | hx
          · exact .inl (.inr h2)
          · exact .inr ⟨x, hx, h1, h2⟩
    · rw [if_neg c]
      refine best_iff (fun j => ?_) (lf_best hk ha l _ _ (fun x hx => hl x (List.mem_cons_of_mem _ hx)) hv)
      constructor
      · rintro (h | ⟨x, hx, h⟩)
        · exact .inl h
        · exact .inr ⟨x, List.mem_cons_of_mem _ hx, h⟩
      · rintro (h | ⟨x, hx, h1, h2⟩)
        · exact .inl h
        · rcases List.mem_cons.1 hx with rfl | hx
          · exact absurd h1 c
          · exact .inr ⟨x, hx, h1, h2⟩
theorem LF_best (G : GoodS N D B) (most : Bool) : ∀ (e k : Nat), k + e = N → Best most (fun j => 0 < HH N D B j k) (LF N D B most k) := by
  intro e
  induction e using Nat.strongRecOn with
  | ind e ih =>
    intro k hk
    by_cases h0 : k = N
    · subst h0
      have hz : ∀ j, 0 < HH k D B j k ↔ j = 0 := fun j => by
        constructor
        · intro h
          apply Classical.byContradiction
          intro hj
          rw [HH_far G j k (Nat.le_refl _) (by omega)] at h
          omega
        · rintro rfl; rw [HH_zero, if_pos rfl]; decide
      refine .inr ⟨0, dpF_top, (hz 0).2 rfl, fun j hj => ?_⟩
      have := (hz j).1 hj
      subst this
      cases most <;> simp
    · have hr : ∀ j, k < j → j ≤ N → Best most (fun i => 0 < HH N D B i j) (LF N D B most j) := fun j h1 h2 => ih (N - j) (by omega) j (by omega)
      unfold LF
      rw [dpF_rec (stL_congr G most) (by omega)]
      unfold stL
      by_cases c : brk B k
      · rw [if_pos c]
        exact .inl ⟨rfl, fun j h => by
          have h' : 0 < HH N D B j k := h
          rw [HH_brk G c] at h'; omega⟩
      · rw [if_neg c]
        refine best_iff (fun j => ?_) (lf_best (B := B) c hr D (fun _ => False) (-1) (fun d hd => (G.db d hd).1) (.inl ⟨rfl, fun _ h => h⟩))
        constructor
        · rintro (h | ⟨d, hd, h1, i, rfl, h2⟩)
          · exact absurd h id
          · exact HH_pos.2 ⟨c, d, hd, h1, h2⟩
        · intro h
          rcases j with _ | j
          · rw [HH_zero, if_neg h0] at h; exact absurd h (by decide)
          · obtain ⟨_, d, hd, h1, h2⟩ := HH_pos.1 h
            exact .inr ⟨d, hd, h1, j, rfl, h2⟩
theorem LFb (G : GoodS N D B) (most : Bool) {k : Nat} (hk : k ≤ N) : Best most (fun j => 0 < HH N D B j k) (LF N D B most k) := LF_best G most (N - k) k (by omega)
theorem LF_bd (G : GoodS N D B) (most : Bool) {k : Nat} (hk : k ≤ N) : -1 ≤ LF N D B most k ∧ LF N D B most k ≤ N - k := by
  rcases LFb G most hk with ⟨h, _⟩ | ⟨m, h, hm, _⟩
  · omega
  · have : m ≤ N - k := by
      apply Classical.byContradiction
      intro hc
      have hm' : 0 < HH N D B m k := hm
      rw [HH_far G m k hk (by omega)] at hm'
      omega
    omega
theorem better_bd {most : Bool} {v w b : Int} (h1 : -1 ≤ v ∧ v ≤ b) (h2 : w + 1 ≤ b) : -1 ≤ better most v w ∧ better most v w ≤ b := by
  unfold better
  by_cases c : w < 0
  · rw [if_pos c]; exact h1
  · rw [if_neg c]
    split <;> omega
theorem cl_in (G : GoodS N D B) (most : Bool) {k : Nat} (hk : k < N) {a : Nat → Int} (ha : ∀ j, k < j → j ≤ N → -1 ≤ a j ∧ a j ≤ N - j) (v : Int) (hv : -1 ≤ v ∧ v ≤ 60) :
    s_clLeft_L2 (N : Int) (ar (upd a k v) (N + 1)) D B most (k : Int) (D.length : Int) 0 = s_clLeft_L1 (N : Int) (ar (upd a k (D.foldl (lfS N most k a) v)) (N + 1)) D B most ((k : Int) - 1) := by
  have hN := G.n2
  have hD := G.d2
  refine loop_inv (L := fun i v => s_clLeft_L2 (N : Int) (ar (upd a k v) (N + 1)) D B most (k : Int) (D.length : Int) (i : Int)) (l := D) (e := fun l v => s_clLeft_L1 (N : Int) (ar (upd a k (l.foldl (lfS N most k a) v)) (N + 1)) D B most ((k : Int) - 1))
    (P := fun l v => (∀ d, d ∈ l → 1 ≤ d ∧ d ≤ 9) ∧ -1 ≤ v ∧ v ≤ 60) ?_ ?_ v ⟨G.db, hv⟩
  · intro s _
    show s_clLeft_L2 (N : Int) (ar (upd a k s) (N + 1)) D B most (k : Int) (D.length : Int) (D.length : Int) = _
    rw [s_clLeft_u2, s_clLeft_t2, decide_eq_false (show ¬ ((D.length : Int) < D.length) by omega), wrapI (n := (k : Int) - 1) (by omega) (by omega)]
    rfl
  · intro i hi s ⟨p1, p2⟩
    have hd := p1 D[i] List.mem_cons_self
    have hrd := rdk_get (k := kint) hi
    have c1 : (i : Int) < D.length := by omega
    have hw1 : IntKind.wrap .i64 ((i : Int) + 1) = ((i + 1 : Nat) : Int) := by rw [wrapI (by omega) (by omega)]; omega
    generalize D[i] = x at *
    obtain ⟨d, rfl, d1, d2⟩ := natOf hd
    have hw2 : IntKind.wrap .i64 ((k : Int) + (d : Int)) = ((k + d : Nat) : Int) := by rw [wrapI (by omega) (by omega)]; omega
    refine ⟨lfS N most k a s (d : Int), ?_, ⟨fun y hy => p1 y (List.mem_cons_of_mem _ hy), ?_⟩, rfl⟩
    · show s_clLeft_L2 (N : Int) (ar (upd a k s) (N + 1)) D B most (k : Int) (D.length : Int) (i : Int) = s_clLeft_L2 (N : Int) (ar (upd a k (lfS N most k a s (d : Int))) (N + 1)) D B most (k : Int) (D.length : Int) ((i + 1 : Nat) : Int)
      rw [s_clLeft_u2, s_clLeft_t2, decide_eq_true c1, decide_eq_true (Int.natCast_nonneg i), hrd, hw1, hw2]
      rw [lfS_nat]
      by_cases e1 : k + d ≤ N
      · have hkd := ha (k + d) (by omega) e1
        rw [if_pos e1, decide_eq_false (show ¬ ((k + d : Nat) : Int) > N by omega), ar_len, ar_rdk (show k < N + 1 by omega), ar_rdk (show k + d < N + 1 by omega), upd_same, upd_ne _ _ (show k + d ≠ k by omega), wrapI (n := a (k + d) + 1) (by omega) (by omega),
            decide_eq_true (Int.natCast_nonneg k), decide_eq_true (show (k : Int) < ((N + 1 : Nat) : Int) by omega), decide_eq_true (Int.natCast_nonneg _), decide_eq_true (show ((k + d : Nat) : Int) < ((N + 1 : Nat) : Int) by omega), Int.toNat_natCast, ar_set, upd_upd]
        unfold better
        by_cases e2 : a (k + d) < 0
        · rw [if_pos e2, decide_eq_true e2]; rfl
        · rw [if_neg e2, decide_eq_false e2]
          by_cases e3 : s < 0
          · rw [if_pos (.inl e3), decide_eq_true e3]; rfl
          · rw [decide_eq_false e3]
            cases most
            · by_cases e4 : a (k + d) + 1 < s
              · rw [if_pos (.inr (.inl ⟨rfl, e4⟩)), decide_eq_true e4]; rfl
              · rw [if_neg (by rintro (h | h | h); · exact e3 h
                               · exact e4 h.2
                               · exact absurd h.1 (by decide)), decide_eq_false e4]; rfl
            · by_cases e4 : a (k + d) + 1 > s
              · rw [if_pos (.inr (.inr ⟨rfl, e4⟩)), decide_eq_true e4]; rfl
              · rw [if_neg (by rintro (h | h | h); · exact e3 h
                               · exact absurd h.1 (by decide)
                               · exact e4 h.2), decide_eq_false e4]; rfl
      · rw [if_neg e1, decide_eq_true (show ((k + d : Nat) : Int) > N by omega)]; rfl
    · rw [lfS_nat]
      by_cases e1 : k + d ≤ N
      · rw [if_pos e1]; have hkd := ha (k + d) (by omega) e1; exact better_bd p2 (by omega)
      · rw [if_neg e1]; exact p2
theorem dpL_bd (G : GoodS N D B) (most : Bool) {m j : Nat} (hm : m ≤ N) (h : N - m ≤ j) (hj : j ≤ N) : -1 ≤ dpF N 0 (stL N D B most) m j ∧ dpF N 0 (stL N D B most) m j ≤ N - j := by
  rw [dpF_at hm h]
  exact LF_bd G most hj
theorem cl_loop (G : GoodS N D B) (most : Bool) : ∀ e m : Nat, m + e = N → s_clLeft_L1 (N : Int) (ar (dpF N 0 (stL N D B most) m) (N + 1)) D B most ((N : Int) - 1 - m) = some (ar (LF N D B most) (N + 1))
  | 0, m, h => by
    obtain rfl : m = N := by omega
    rw [s_clLeft_u1, s_clLeft_t1, decide_eq_false (show ¬ ((m : Int) - 1 - m ≥ 0) by omega)]
    rfl
  | e + 1, m, h => by
    have hN := G.n2
    obtain ⟨k, hk⟩ : ∃ k : Nat, k + (m + 1) = N := ⟨e, by omega⟩
    have hb := fun j (h1 : k < j) (h2 : j ≤ N) => dpL_bd G most (m := m) (by omega) (show N - m ≤ j by omega) h2
    have e0 : (N : Int) - 1 - m = (k : Int) := by omega
    have ih := cl_loop G most e (m + 1) (by omega)
    rw [dpF_succ, show N - (m + 1) = k from by omega, show (N : Int) - 1 - ((m + 1 : Nat) : Int) = (k : Int) - 1 from by omega] at ih
    rw [e0, s_clLeft_u1, s_clLeft_t1, decide_eq_true (show (k : Int) ≥ 0 by omega), cond_true, stands D B (show k ≤ N by omega), wrapI (n := (k : Int) - 1) (by omega) (by omega), ar_len, decide_eq_true (show (k : Int) < ((N + 1 : Nat) : Int) by omega), Int.toNat_natCast, ar_set]
    unfold stL at ih
    by_cases hbk : brk B k
    · rw [if_pos hbk] at ih
      rw [decide_eq_true hbk]
      exact ih
    · rw [if_neg hbk] at ih
      rw [decide_eq_false hbk]
      exact (cl_in G most (k := k) (by omega) (a := dpF N 0 (stL N D B most) m) hb (-1) (by omega)).trans ih
theorem clLeft_eq (G : GoodS N D B) (most : Bool) : s_clLeft (N : Int) D B most = some (ar (LF N D B most) (N + 1)) := by
  have hN := G.n2
  have hw : IntKind.wrap .i64 ((N : Int) + 1) = ((N + 1 : Nat) : Int) := by rw [wrapI (by omega) (by omega)]; omega
  have hw2 : IntKind.wrap .i64 ((N : Int) - 1) = (N : Int) - 1 := wrapI (by omega) (by omega)
  unfold s_clLeft s_clLeft_t0
  rw [hw, hw2, beq_self_eq_true, decide_eq_true (Int.natCast_nonneg _), decide_eq_true (show ((N + 1 : Nat) : Int) ≤ (4294967296 : Int) by omega), Int.toNat_natCast]
  simp only [cond_true]
  rw [show List.replicate (N + 1) (Kd.zero kint) = ar (fun _ => 0) (N + 1) from ar_zero _]
  have := cl_loop G most N 0 (by omega)
  rw [show (N : Int) - 1 - ((0 : Nat) : Int) = (N : Int) - 1 from by omega] at this
  refine Eq.trans ?_ this
  congr 2
  funext j
  show 0 = if j = N then (0 : Int) else 0
  by_cases h : j = N
  · rw [if_pos h]
  · rw [if_neg h]
/-! the impl's: by the row of all numbers of strides -/
def byS (N : Nat) (D B : List Int) (j : Nat) : Int := FF N D B j N
theorem byS_eq2 (G : GoodS N D B) : i_Stairs_byStrides (N : Int) D B = some (ar (byS N D B) (N + 1)) := byS_eq G
theorem idxF_best {f : Nat → Int} {p : Int → Bool} (hp : ∀ x, p x = decide (x > 0)) : ∀ (l : List Nat) (c : Nat), (∀ (i : Nat) (h : i < l.length), l[i] = c + i) → Best false (fun j => c ≤ j ∧ j < c + l.length ∧ 0 < f j) (idxF p (l.map f) c)
  | [], c, _ => .inl ⟨rfl, fun j h => by have := h.1; have := h.2.1; simp at this; omega⟩
  | x :: l, c, h => by
    have hx : x = c := h 0 (by simp)
    subst hx
    rw [List.map_cons, idxF, hp]
    by_cases e : f x > 0
    · rw [decide_eq_true e]
      refine .inr ⟨x, rfl, ⟨Nat.le_refl _, by simp, e⟩, fun j hj => ?_⟩
      simp only [Bool.false_eq_true, if_false]; exact hj.1
    · rw [decide_eq_false e]
      refine best_iff (fun j => ?_) (idxF_best hp l (x + 1) (fun i hi => by have := h (i + 1) (by simp; omega); rw [List.getElem_cons_succ] at this; omega))
      rw [List.length_cons]
      constructor
      · rintro ⟨h1, h2, h3⟩; exact ⟨by omega, by omega, h3⟩
      · rintro ⟨h1, h2, h3⟩
        refine ⟨?_, by omega, h3⟩
        rcases Nat.lt_or_ge x j with h4 | h4
        · exact h4
        · have : j = x := by omega
          subst this; exact absurd h3 e
theorem range_get' (n i : Nat) (h : i < (List.range n).length) : (List.range n)[i] = 0 + i := by rw [List.getElem_range]; omega
theorem HH_iff (G : GoodS N D B) (j : Nat) : (0 ≤ j ∧ j < 0 + (List.range (N + 1)).length ∧ 0 < byS N D B j) ↔ 0 < HH N D B j 0 := by
  rw [List.length_range]
  constructor
  · rintro ⟨_, _, h⟩; rw [← FF_HH G]; exact h
  · intro h
    refine ⟨by omega, ?_, by unfold byS; rw [FF_HH G]; exact h⟩
    apply Classical.byContradiction
    intro hc
    rw [HH_far G j 0 (by omega) (by omega)] at h
    omega
def few (N : Nat) (D B : List Int) : Int := LF N D B false 0
def most (N : Nat) (D B : List Int) : Int := LF N D B true 0
theorem iFew_eq (G : GoodS N D B) : i_FewestStrides (N : Int) D B = some (bif decide (few N D B < 0) then (0, false) else (few N D B, true)) := by
  unfold i_FewestStrides
  rw [i_AreStairs_eq, good_of G, byS_eq2 G]
  have h : slices_IndexFunc_int__i_FewestStrides_c1_n (ar (byS N D B) (N + 1)) = few N D B := by
    have h1 := idxF_best (f := byS N D B) (p := fun x => i_FewestStrides_c1 x) (fun x => rfl) (List.range (N + 1)) 0 (fun i hi => range_get' (N + 1) i hi)
    exact best_uniq (best_iff (HH_iff G) h1) (LFb G false (Nat.zero_le N))
  simp only [Bool.not_true, cond_false, Option.bind_some]
  rw [h]
  cases decide (few N D B < 0) <;> rfl
theorem sFew_eq (G : GoodS N D B) : s_FewestStrides (N : Int) D B = some (bif decide (few N D B < 0) then (0, false) else (few N D B, true)) := by
  unfold s_FewestStrides
  have r0 : rdk kint (ar (LF N D B false) (N + 1)) 0 = few N D B := ar_rdk (i := 0) (by omega)
  rw [good_of G, clLeft_eq G]
  simp only [Bool.not_true, cond_false, Option.bind_some]
  rw [ar_len, r0, decide_eq_true (show (0 : Int) < ((N + 1 : Nat) : Int) by omega)]
  cases decide (few N D B < 0) <;> rfl
theorem sMost_eq (G : GoodS N D B) : s_MostStrides (N : Int) D B = some (bif decide (most N D B < 0) then (0, false) else (most N D B, true)) := by
  unfold s_MostStrides
  have r0 : rdk kint (ar (LF N D B true) (N + 1)) 0 = most N D B := ar_rdk (i := 0) (by omega)
  rw [good_of G, clLeft_eq G]
  simp only [Bool.not_true, cond_false, Option.bind_some]
  rw [ar_len, r0, decide_eq_true (show (0 : Int) < ((N + 1 : Nat) : Int) by omega)]
  cases decide (most N D B < 0) <;> rfl
theorem iMost_loop (G : GoodS N D B) (f : Nat → Int) : ∀ (e i : Nat) (v : Int), i + e = N + 1 → Best true (fun j => j < i ∧ 0 < f j) v →
    ∃ w, i_MostStrides_L1 (ar f (N + 1)) v ((N + 1 : Nat) : Int) (i : Int) = some (bif decide (w < 0) then (0, false) else (w, true)) ∧ Best true (fun j => j < N + 1 ∧ 0 < f j) w
  | 0, i, v, h, hv => by
    obtain rfl : i = N + 1 := by omega
    refine ⟨v, ?_, hv⟩
    rw [i_MostStrides_u1, i_MostStrides_t1, decide_eq_false (show ¬ (((N + 1 : Nat) : Int) < ((N + 1 : Nat) : Int)) by omega)]
    cases decide (v < 0) <;> rfl
  | e + 1, i, v, h, hv => by
    have hN := G.n2
    have hw1 : IntKind.wrap .i64 ((i : Int) + 1) = ((i + 1 : Nat) : Int) := by rw [wrapI (by omega) (by omega)]; omega
    rw [i_MostStrides_u1, i_MostStrides_t1, ar_len, ar_rdk (show i < N + 1 by omega), hw1, decide_eq_true (show (i : Int) < ((N + 1 : Nat) : Int) by omega), decide_eq_true (Int.natCast_nonneg i)]
    by_cases c : f i > 0
    · rw [decide_eq_true c]
      refine iMost_loop G f e (i + 1) i (by omega) (.inr ⟨i, rfl, ⟨by omega, c⟩, fun j hj => ?_⟩)
      simp only [if_true]; have := hj.1; omega
    · rw [decide_eq_false c]
      refine iMost_loop G f e (i + 1) v (by omega) (best_iff (fun j => ?_) hv)
      constructor
      · rintro ⟨h1, h2⟩; exact ⟨by omega, h2⟩
      · rintro ⟨h1, h2⟩
        refine ⟨?_, h2⟩
        rcases Nat.lt_or_ge j i with h3 | h3
        · exact h3
        · have : j = i := by omega
          subst this; exact absurd h2 c
theorem iMost_eq (G : GoodS N D B) : i_MostStrides (N : Int) D B = some (bif decide (most N D B < 0) then (0, false) else (most N D B, true)) := by
  unfold i_MostStrides i_MostStrides_t0
  rw [i_AreStairs_eq, good_of G, byS_eq2 G]
  simp only [Bool.not_true, cond_false, Option.bind_some]
  rw [ar_len]
  obtain ⟨w, h1, h2⟩ := iMost_loop G (byS N D B) (N + 1) 0 (-1) (by omega) (.inl ⟨rfl, fun j h => by omega⟩)
  refine h1.trans ?_
  have : w = most N D B := best_uniq (best_iff (fun j => by
    have := HH_iff G j
    rw [List.length_range] at this
    rw [← this]
    constructor
    · rintro ⟨h1, h2⟩; exact ⟨by omega, by omega, h2⟩
    · rintro ⟨_, h1, h2⟩; exact ⟨by omega, h2⟩) h2) (LFb G true (Nat.zero_le N))
  rw [this]
end
/-! ### climbs -/
/-- a climb from a step -/
def Vd (N : Nat) (D B : List Int) : Nat → List Int → Prop
  | p, [] => p = N
  | p, d :: c => d ∈ D ∧ p + d.toNat ≤ N ∧ ¬ brk B (p + d.toNat) ∧ Vd N D B (p + d.toNat) c
/-- ways by the strides that are less than one -/
def lw (N : Nat) (D B : List Int) (l : List Int) (p : Nat) (d : Int) : Int := sm l (fun n => if n < d ∧ p + n.toNat ≤ N then U N D B (p + n.toNat) else 0)
def rk (N : Nat) (D B : List Int) : Nat → List Int → Int
  | _, [] => 0
  | p, d :: c => lw N D B D p d + rk N D B (p + d.toNat) c
def pk (N : Nat) (D B : List Int) (p : Nat) : List Int → Int → Option (Int × Int)
  | [], _ => none
  | d :: l, r => if p + d.toNat ≤ N then (if r < U N D B (p + d.toNat) then some (d, r) else pk N D B p l (r - U N D B (p + d.toNat))) else pk N D B p l r
/-- going up as told -/
def wk (N : Nat) (sel : Nat → Int → Option (Int × Int)) : Nat → Nat → Int → List Int
  | 0, _, _ => []
  | f + 1, p, r => if p < N then (match sel p r with | some dr => dr.1 :: wk N sel f (p + dr.1.toNat) dr.2 | none => []) else []
theorem wk_top {N : Nat} {sel : Nat → Int → Option (Int × Int)} : ∀ (f p : Nat) (r : Int), N ≤ p → wk N sel f p r = []
  | 0, _, _, _ => rfl
  | f + 1, p, r, h => by rw [wk, if_neg (by omega)]
theorem wk_some {N : Nat} {sel : Nat → Int → Option (Int × Int)} {f p : Nat} {r d r' : Int} (h : p < N) (hs : sel p r = some (d, r')) : wk N sel (f + 1) p r = d :: wk N sel f (p + d.toNat) r' := by rw [wk, if_pos h, hs]
section
variable {N : Nat} {D B : List Int}
theorem U_nbrk (G : GoodS N D B) {k : Nat} (hk : k ≤ N) (h : 0 < U N D B k) : ¬ brk B k := fun hb => by
  by_cases c : k = N
  · subst c; exact (brk_no G).2 hb
  · rw [U_rec G (by omega), sm_zero (fun d _ => gU_brk hb _ d)] at h; omega
theorem pk_spec (G : GoodS N D B) {p : Nat} (hb : ¬ brk B p) : ∀ (l : List Int) (r : Int), l.Pairwise (· < ·) → (∀ d, d ∈ l → 1 ≤ d) → 0 ≤ r → r < sm l (gU N B p (U N D B)) →
    ∃ d r', pk N D B p l r = some (d, r') ∧ d ∈ l ∧ p + d.toNat ≤ N ∧ 0 ≤ r' ∧ r' < U N D B (p + d.toNat) ∧ r = lw N D B l p d + r'
  | [], r, _, _, h1, h2 => by rw [sm] at h2; omega
  | d :: l, r, hp, hl, h1, h2 => by
    obtain ⟨g1, g2⟩ := List.pairwise_cons.1 hp
    rw [sm] at h2
    rw [pk]
    by_cases c : p + d.toNat ≤ N
    · rw [if_pos c]
      have hg : gU N B p (U N D B) d = U N D B (p + d.toNat) := by unfold gU; rw [if_pos c, if_neg hb]
      by_cases c2 : r < U N D B (p + d.toNat)
      · rw [if_pos c2]
        refine ⟨d, r, rfl, List.mem_cons_self, c, h1, c2, ?_⟩
        have : lw N D B (d :: l) p d = 0 := sm_zero fun n hn => by
          have : ¬ (n < d ∧ p + n.toNat ≤ N) := by
            rcases List.mem_cons.1 hn with rfl | hn
            · omega
            · have := g1 n hn; omega
          rw [if_neg this]
        omega
      · rw [if_neg c2]
        obtain ⟨e, r', k1, k2, k3, k4, k5, k6⟩ := pk_spec G hb l (r - U N D B (p + d.toNat)) g2 (fun x hx => hl x (List.mem_cons_of_mem _ hx)) (by omega) (by omega)
        refine ⟨e, r', k1, List.mem_cons_of_mem _ k2, k3, k4, k5, ?_⟩
        have : lw N D B (d :: l) p e = U N D B (p + d.toNat) + lw N D B l p e := by
          unfold lw; rw [sm, if_pos ⟨g1 e k2, c⟩]
        omega
    · rw [if_neg c]
      have hg : gU N B p (U N D B) d = 0 := by unfold gU; rw [if_neg c]
      obtain ⟨e, r', k1, k2, k3, k4, k5, k6⟩ := pk_spec G hb l r g2 (fun x hx => hl x (List.mem_cons_of_mem _ hx)) h1 (by omega)
      refine ⟨e, r', k1, List.mem_cons_of_mem _ k2, k3, k4, k5, ?_⟩
      have : lw N D B (d :: l) p e = lw N D B l p e := by
        unfold lw; rw [sm, if_neg (fun h => c h.2)]; omega
      omega
theorem lw_nn (G : GoodS N D B) (l : List Int) (p : Nat) (d : Int) : 0 ≤ lw N D B l p d := sm_nonneg fun n _ => by
  by_cases c : n < d ∧ p + n.toNat ≤ N
  · rw [if_pos c]; exact U_nn G c.2
  · rw [if_neg c]; exact Int.le_refl _
theorem pk_conv (G : GoodS N D B) {p : Nat} {d r' : Int} (c : p + d.toNat ≤ N) (h0 : 0 ≤ r') (h1 : r' < U N D B (p + d.toNat)) : ∀ (l : List Int), l.Pairwise (· < ·) → d ∈ l → pk N D B p l (lw N D B l p d + r') = some (d, r')
  | [], _, h => absurd h List.not_mem_nil
  | e :: l, hp, h => by
    obtain ⟨g1, g2⟩ := List.pairwise_cons.1 hp
    rw [pk]
    rcases List.mem_cons.1 h with he | hm
    · subst he
      have : lw N D B (d :: l) p d = 0 := sm_zero fun n hn => by
        have : ¬ (n < d ∧ p + n.toNat ≤ N) := by
          rcases List.mem_cons.1 hn with rfl | hn
          · omega
          · have := g1 n hn; omega
        rw [if_neg this]
      rw [if_pos c, this, Int.zero_add, if_pos h1]
    · have hed := g1 d hm
      have hn := lw_nn G l p d
      by_cases c2 : p + e.toNat ≤ N
      · have : lw N D B (e :: l) p d = U N D B (p + e.toNat) + lw N D B l p d := by unfold lw; rw [sm, if_pos ⟨hed, c2⟩]
        rw [if_pos c2, this, if_neg (by omega), show U N D B (p + e.toNat) + lw N D B l p d + r' - U N D B (p + e.toNat) = lw N D B l p d + r' from by omega]
        exact pk_conv G c h0 h1 l g2 hm
      · have : lw N D B (e :: l) p d = lw N D B l p d := by unfold lw; rw [sm, if_neg (fun h => c2 h.2)]; omega
        rw [if_neg c2, this]
        exact pk_conv G c h0 h1 l g2 hm
/-- ways by less strides, and by one -/
theorem lw_le (G : GoodS N D B) {p : Nat} (hb : ¬ brk B p) {d : Int} : ∀ (l : List Int), l.Pairwise (· < ·) → d ∈ l → p + d.toNat ≤ N → lw N D B l p d + U N D B (p + d.toNat) ≤ sm l (gU N B p (U N D B))
  | [], _, h, _ => absurd h List.not_mem_nil
  | e :: l, hp, h, c => by
    obtain ⟨g1, g2⟩ := List.pairwise_cons.1 hp
    rw [sm]
    rcases List.mem_cons.1 h with he | hm
    · subst he
      have : lw N D B (d :: l) p d = 0 := sm_zero fun n hn => by
        have : ¬ (n < d ∧ p + n.toNat ≤ N) := by
          rcases List.mem_cons.1 hn with rfl | hn
          · omega
          · have := g1 n hn; omega
        rw [if_neg this]
      have hg : gU N B p (U N D B) d = U N D B (p + d.toNat) := by unfold gU; rw [if_pos c, if_neg hb]
      have h2 : 0 ≤ sm l (gU N B p (U N D B)) := sm_nonneg fun x _ => by
        unfold gU
        by_cases c : p + x.toNat ≤ N
        · rw [if_pos c, if_neg hb]; exact U_nn G c
        · rw [if_neg c]; exact Int.le_refl _
      omega
    · have ih := lw_le G hb l g2 hm c
      have hed := g1 d hm
      by_cases c2 : p + e.toNat ≤ N
      · have : lw N D B (e :: l) p d = U N D B (p + e.toNat) + lw N D B l p d := by unfold lw; rw [sm, if_pos ⟨hed, c2⟩]
        have hg : gU N B p (U N D B) e = U N D B (p + e.toNat) := by unfold gU; rw [if_pos c2, if_neg hb]
        omega
      · have : lw N D B (e :: l) p d = lw N D B l p d := by unfold lw; rw [sm, if_neg (fun h => c2 h.2)]; omega
        have hg : gU N B p (U N D B) e = 0 := by unfold gU; rw [if_neg c2]
        omega
theorem lw_U (G : GoodS N D B) {p : Nat} (hp : p < N) (hb : ¬ brk B p) {d : Int} (hd : d ∈ D) (c : p + d.toNat ≤ N) : lw N D B D p d + U N D B (p + d.toNat) ≤ U N D B p := by
  rw [U_rec G hp]; exact lw_le G hb D G.dp hd c
theorem vd_lt (G : GoodS N D B) {p : Nat} {d : Int} {c : List Int} (h : Vd N D B p (d :: c)) : p < N := by
  have h1 := (G.db d h.1).1
  have h2 := h.2.1
  omega
theorem rk_bd (G : GoodS N D B) : ∀ (c : List Int) (p : Nat), ¬ brk B p → Vd N D B p c → 0 ≤ rk N D B p c ∧ rk N D B p c < U N D B p
  | [], p, _, h => by
    have h : p = N := h
    subst h; rw [U_top, rk]; omega
  | d :: c, p, hb, h => by
    obtain ⟨h1, h2, h3, h4⟩ := id h
    have ih := rk_bd G c (p + d.toNat) h3 h4
    have := lw_U G (vd_lt G h) hb h1 h2
    have := lw_nn G D p d
    rw [rk]; omega
def ofR (N : Nat) (D B : List Int) (f p : Nat) (r : Int) : List Int := wk N (fun p r => pk N D B p D r) f p r
theorem ofR_vd (G : GoodS N D B) : ∀ (f p : Nat) (r : Int), p ≤ N → N - p ≤ f → 0 ≤ r → r < U N D B p → Vd N D B p (ofR N D B f p r) ∧ rk N D B p (ofR N D B f p r) = r
  | 0, p, r, h, hf, h1, h2 => by
    obtain rfl : p = N := by omega
    rw [U_top] at h2
    exact ⟨rfl, by show 0 = r; omega⟩
  | f + 1, p, r, h, hf, h1, h2 => by
    by_cases c : p = N
    · subst c
      rw [U_top] at h2
      have : ofR p D B (f + 1) p r = [] := wk_top _ _ _ (Nat.le_refl _)
      rw [this]
      exact ⟨rfl, by show 0 = r; omega⟩
    · have hb := U_nbrk G h (by omega)
      rw [U_rec G (by omega)] at h2
      obtain ⟨d, r', k1, k2, k3, k4, k5, k6⟩ := pk_spec G hb D r G.dp (fun d hd => (G.db d hd).1) h1 h2
      have hd := (G.db d k2).1
      obtain ⟨i1, i2⟩ := ofR_vd G f (p + d.toNat) r' k3 (by omega) k4 k5
      have e : ofR N D B (f + 1) p r = d :: ofR N D B f (p + d.toNat) r' := wk_some (by omega) k1
      rw [e]
      exact ⟨⟨k2, k3, U_nbrk G k3 (by omega), i1⟩, by rw [rk, i2]; omega⟩
theorem ofR_rk (G : GoodS N D B) : ∀ (c : List Int) (f p : Nat), ¬ brk B p → Vd N D B p c → N - p ≤ f → ofR N D B f p (rk N D B p c) = c
  | [], f, p, _, h, _ => by
    have h : p = N := h
    subst h; exact wk_top _ _ _ (Nat.le_refl _)
  | d :: c, f, p, hb, h, hf => by
    have hlt := vd_lt G h
    obtain ⟨h1, h2, h3, h4⟩ := h
    have hd := (G.db d h1).1
    obtain ⟨f, rfl⟩ : ∃ g, f = g + 1 := ⟨f - 1, by omega⟩
    obtain ⟨b1, b2⟩ := rk_bd G c (p + d.toNat) h3 h4
    have e : ofR N D B (f + 1) p (rk N D B p (d :: c)) = d :: ofR N D B f (p + d.toNat) (rk N D B (p + d.toNat) c) := wk_some hlt (by rw [rk]; exact pk_conv G h2 b1 b2 D G.dp h1)
    rw [e, ofR_rk G c f (p + d.toNat) h3 h4 (by omega)]
/-- how many strides -/
theorem vd_len (G : GoodS N D B) : ∀ (c : List Int) (p : Nat), ¬ brk B p → Vd N D B p c → 0 < HH N D B c.length p ∧ c.length ≤ N - p
  | [], p, _, h => by
    have h : p = N := h
    subst h; exact ⟨by rw [List.length_nil, HH_zero, if_pos rfl]; decide, by simp⟩
  | d :: c, p, hb, h => by
    have hlt := vd_lt G h
    obtain ⟨h1, h2, h3, h4⟩ := h
    have hd := (G.db d h1).1
    obtain ⟨i1, i2⟩ := vd_len G c (p + d.toNat) h3 h4
    exact ⟨HH_pos.2 ⟨hb, d, h1, h2, i1⟩, by rw [List.length_cons]; omega⟩
/-- before -/
def bef : List Int → List Int → Bool
  | [], _ => true
  | _ :: _, [] => false
  | a :: x, b :: y => if a = b then bef x y else decide (a < b)
theorem bef_rk (G : GoodS N D B) : ∀ (c c' : List Int) (p : Nat), ¬ brk B p → Vd N D B p c → Vd N D B p c' → rk N D B p c ≤ rk N D B p c' → bef c c' = true
  | [], _, _, _, _, _, _ => rfl
  | d :: c, [], p, hb, h, h', _ => by
    have h' : p = N := h'
    have := vd_lt G h
    omega
  | d :: c, d' :: c', p, hb, h, h', hr => by
    have hlt := vd_lt G h
    obtain ⟨h1, h2, h3, h4⟩ := h
    obtain ⟨g1, g2, g3, g4⟩ := h'
    rw [bef]
    by_cases e : d = d'
    · subst e
      rw [if_pos rfl]
      rw [rk, rk] at hr
      exact bef_rk G c c' _ h3 h4 g4 (by omega)
    · rw [if_neg e, decide_eq_true_iff]
      apply Classical.byContradiction
      intro hc
      have hlt2 : d' < d := by omega
      have b1 := rk_bd G c _ h3 h4
      have b2 := rk_bd G c' _ g3 g4
      rw [rk, rk] at hr
      have hle : lw N D B D p d' + U N D B (p + d'.toNat) ≤ lw N D B D p d := by
        have e1 : lw N D B D p d' + sm D (fun n => if n = d' then U N D B (p + d'.toNat) else 0) ≤ lw N D B D p d := by
          unfold lw
          rw [← sm_add]
          refine sm_le fun n hn => ?_
          by_cases c1 : n = d'
          · subst c1
            rw [if_neg (by omega), if_pos rfl, if_pos ⟨hlt2, g2⟩]; omega
          · rw [if_neg c1]
            by_cases c2 : n < d' ∧ p + n.toNat ≤ N
            · rw [if_pos c2, if_pos ⟨by omega, c2.2⟩]; omega
            · rw [if_neg c2]
              by_cases c3 : n < d ∧ p + n.toNat ≤ N
              · rw [if_pos c3]; have := U_nn G c3.2; omega
              · rw [if_neg c3]; omega
        have e2 : U N D B (p + d'.toNat) ≤ sm D (fun n => if n = d' then U N D B (p + d'.toNat) else 0) := by
          have := sm_mem_le (f := fun n => if n = d' then U N D B (p + d'.toNat) else 0) (l := D) (x := d') (fun y _ => by
            by_cases c1 : y = d'
            · simp only [c1, if_true]; exact U_nn G g2
            · simp only [if_neg c1]; exact Int.le_refl _) g1
          simpa using this
        omega
      omega
end
/-! ### the walks -/
theorem loop_ex {α β σ : Type} {L : Nat → σ → Option β} {l : List α} {e : List α → σ → Option β} {P : List α → σ → Prop} (h0 : ∀ s, P [] s → L l.length s = e [] s)
    (h1 : ∀ (i : Nat) (h : i < l.length) s, P (l[i] :: l.drop (i + 1)) s → L i s = e (l[i] :: l.drop (i + 1)) s ∨ ∃ s', L i s = L (i + 1) s' ∧ P (l.drop (i + 1)) s' ∧ e (l.drop (i + 1)) s' = e (l[i] :: l.drop (i + 1)) s) (s : σ) (hs : P l s) : L 0 s = e l s :=
  drop_ind l (fun i r => ∀ s, P r s → L i s = e r s) h0 (fun i h ih s hs => by
    rcases h1 i h s hs with g | ⟨s', g1, g2, g3⟩
    · exact g
    · rw [g1, ih s' g2, g3]) s hs
section
variable {N : Nat} {D B : List Int}
theorem sm_nil {α : Type} (f : α → Int) : sm [] f = 0 := rfl
theorem sm_cons {α : Type} (x : α) (l : List α) (f : α → Int) : sm (x :: l) f = f x + sm l f := rfl
theorem or_in (G : GoodS N D B) {p : Nat} (hp : p < N) (hb : ¬ brk B p) {acc : List Int} (ha : acc.length ≤ 100) (r : Int) (h0 : 0 ≤ r) (h1 : r < U N D B p) :
    ∃ d r', pk N D B p D r = some (d, r') ∧ d ∈ D ∧ p + d.toNat ≤ N ∧ 0 ≤ r' ∧ r' < U N D B (p + d.toNat) ∧
    i_Stairs_ofRank_L2 (ar (U N D B) (N + 1)) (N : Int) acc D B r (p : Int) (D.length : Int) 0 = i_Stairs_ofRank_L1 (ar (U N D B) (N + 1)) (N : Int) (acc ++ [d]) D B r' ((p + d.toNat : Nat) : Int) := by
  have hN := G.n2
  have hD := G.d2
  have h1' := h1
  rw [U_rec G hp] at h1'
  obtain ⟨d, r', k1, k2, k3, k4, k5, k6⟩ := pk_spec G hb D r G.dp (fun d hd => (G.db d hd).1) h0 h1'
  refine ⟨d, r', k1, k2, k3, k4, k5, ?_⟩
  have key := loop_ex (L := fun i r => i_Stairs_ofRank_L2 (ar (U N D B) (N + 1)) (N : Int) acc D B r (p : Int) (D.length : Int) (i : Int)) (l := D)
    (e := fun l r => match pk N D B p l r with | some x => i_Stairs_ofRank_L1 (ar (U N D B) (N + 1)) (N : Int) (acc ++ [x.1]) D B x.2 ((p + x.1.toNat : Nat) : Int) | none => none)
    (P := fun l r => (∀ d, d ∈ l → 1 ≤ d ∧ d ≤ 9) ∧ 0 ≤ r ∧ r < sm l (gU N B p (U N D B)) ∧ r ≤ 1152921504606846976) ?_ ?_ r ⟨G.db, h0, h1', by have := U_le G (show p ≤ N by omega); omega⟩
  · simp only [k1] at key; exact key
  · rintro s ⟨_, p1, p2, _⟩
    rw [sm_nil] at p2; omega
  · rintro i hi s ⟨p1, p2, p3, p4⟩
    have hd := p1 D[i] List.mem_cons_self
    have hrd := rdk_get (k := kint) hi
    have c1 : (i : Int) < D.length := by omega
    have hw1 : IntKind.wrap .i64 ((i : Int) + 1) = ((i + 1 : Nat) : Int) := by rw [wrapI (by omega) (by omega)]; omega
    generalize D[i] = x at *
    obtain ⟨d, rfl, d1, d2⟩ := natOf hd
    have hw2 : IntKind.wrap .i64 ((p : Int) + (d : Int)) = ((p + d : Nat) : Int) := by rw [wrapI (by omega) (by omega)]; omega
    rw [sm_cons, gU_nat, if_neg hb] at p3
    simp only [pk, Int.toNat_natCast]
    simp only [i_Stairs_ofRank_u2 (ar (U N D B) (N + 1)) (N : Int) acc D B s (p : Int) (D.length : Int) (i : Int), i_Stairs_ofRank_t2, hrd, hw1, hw2, ar_len]
    rw [decide_eq_true c1, decide_eq_true (Int.natCast_nonneg i)]
    by_cases e1 : p + d ≤ N
    · have hU := U_le G e1
      have hU0 := U_nn G e1
      rw [if_pos e1] at p3 ⊢
      rw [decide_eq_false (show ¬ ((p + d : Nat) : Int) > N by omega), ar_rdk (show p + d < N + 1 by omega), decide_eq_true (Int.natCast_nonneg (p + d)), decide_eq_true (show ((p + d : Nat) : Int) < ((N + 1 : Nat) : Int) by omega)]
      by_cases e2 : s < U N D B (p + d)
      · left
        rw [if_pos e2, decide_eq_true e2, show Nat.ble (acc.length + 1) 4294967296 = true from (by rw [Nat.ble_eq]; omega)]
        simp only [Int.toNat_natCast, cond_true, cond_false]
      · right
        rw [if_neg e2, decide_eq_false e2, wrapI (n := s - U N D B (p + d)) (by omega) (by omega)]
        exact ⟨s - U N D B (p + d), rfl, ⟨fun y hy => p1 y (List.mem_cons_of_mem _ hy), by omega, by omega, by omega⟩, rfl⟩
    · right
      rw [if_neg e1] at p3 ⊢
      rw [decide_eq_true (show ((p + d : Nat) : Int) > N by omega)]
      exact ⟨s, rfl, ⟨fun y hy => p1 y (List.mem_cons_of_mem _ hy), p2, by omega, p4⟩, rfl⟩
theorem or_loop (G : GoodS N D B) : ∀ (f p : Nat) (acc : List Int) (r : Int), p ≤ N → N - p ≤ f → acc.length ≤ p → 0 ≤ r → r < U N D B p → i_Stairs_ofRank_L1 (ar (U N D B) (N + 1)) (N : Int) acc D B r (p : Int) = some (acc ++ ofR N D B f p r)
  | 0, p, acc, r, h, hf, ha, h0, h1 => by
    obtain rfl : p = N := by omega
    rw [i_Stairs_ofRank_u1, i_Stairs_ofRank_t1, decide_eq_false (show ¬ ((p : Int) < p) by omega), show ofR p D B 0 p r = [] from rfl, List.append_nil]
    rfl
  | f + 1, p, acc, r, h, hf, ha, h0, h1 => by
    have hN := G.n2
    by_cases c : p = N
    · subst c
      rw [i_Stairs_ofRank_u1, i_Stairs_ofRank_t1, decide_eq_false (show ¬ ((p : Int) < p) by omega), show ofR p D B (f + 1) p r = [] from wk_top _ _ _ (Nat.le_refl _), List.append_nil]
      rfl
    · obtain ⟨d, r', k1, k2, k3, k4, k5, k6⟩ := or_in G (show p < N by omega) (U_nbrk G h (by omega)) (acc := acc) (by omega) r h0 h1
      have hd := (G.db d k2).1
      rw [i_Stairs_ofRank_u1, i_Stairs_ofRank_t1, decide_eq_true (show (p : Int) < N by omega), cond_true, k6, or_loop G f (p + d.toNat) (acc ++ [d]) r' k3 (by omega) (by rw [List.length_append]; simp; omega) k4 k5,
        show ofR N D B (f + 1) p r = d :: ofR N D B f (p + d.toNat) r' from wk_some (by omega) k1, List.append_assoc]
      rfl
theorem ofRank_eq (G : GoodS N D B) {r : Int} (h0 : 0 ≤ r) (h1 : r < U N D B 0) : i_Stairs_ofRank (N : Int) D B (ar (U N D B) (N + 1)) r = some (ofR N D B N 0 r) := by
  have := or_loop G N 0 [] r (by omega) (by omega) (by simp) h0 h1
  exact this
theorem sat_lt {r x : Int} (h : r ≤ 1000000000000000) : r < sat x ↔ r < x := by
  unfold sat
  by_cases c : x < 1000000000000001
  · rw [if_pos c]
  · rw [if_neg c]; omega
theorem sr_in (G : GoodS N D B) {p : Nat} (hp : p < N) (hb : ¬ brk B p) {acc : List Int} (ha : acc.length ≤ 100) (r : Int) (h0 : 0 ≤ r) (h1 : r < U N D B p) (h2 : r ≤ 1000000000000000) :
    ∃ d r', pk N D B p D r = some (d, r') ∧ d ∈ D ∧ p + d.toNat ≤ N ∧ 0 ≤ r' ∧ r' < U N D B (p + d.toNat) ∧ r' ≤ 1000000000000000 ∧
    s_ClimbOfRank_L2 (N : Int) (ar (fun j => sat (U N D B j)) (N + 1)) acc D B r (p : Int) (D.length : Int) 0 = s_ClimbOfRank_L1 (N : Int) (ar (fun j => sat (U N D B j)) (N + 1)) (acc ++ [d]) D B r' ((p + d.toNat : Nat) : Int) := by
  have hN := G.n2
  have hD := G.d2
  have h1' := h1
  rw [U_rec G hp] at h1'
  obtain ⟨d, r', k1, k2, k3, k4, k5, k6⟩ := pk_spec G hb D r G.dp (fun d hd => (G.db d hd).1) h0 h1'
  have hlw := lw_nn G D p d
  refine ⟨d, r', k1, k2, k3, k4, k5, by omega, ?_⟩
  have key := loop_ex (L := fun i r => s_ClimbOfRank_L2 (N : Int) (ar (fun j => sat (U N D B j)) (N + 1)) acc D B r (p : Int) (D.length : Int) (i : Int)) (l := D)
    (e := fun l r => match pk N D B p l r with | some x => s_ClimbOfRank_L1 (N : Int) (ar (fun j => sat (U N D B j)) (N + 1)) (acc ++ [x.1]) D B x.2 ((p + x.1.toNat : Nat) : Int) | none => none)
    (P := fun l r => (∀ d, d ∈ l → 1 ≤ d ∧ d ≤ 9) ∧ 0 ≤ r ∧ r < sm l (gU N B p (U N D B)) ∧ r ≤ 1000000000000000) ?_ ?_ r ⟨G.db, h0, h1', h2⟩
  · simp only [k1] at key; exact key
  · rintro s ⟨_, p1, p2, _⟩
    rw [sm_nil] at p2; omega
  · rintro i hi s ⟨p1, p2, p3, p4⟩
    have hd := p1 D[i] List.mem_cons_self
    have hrd := rdk_get (k := kint) hi
    have c1 : (i : Int) < D.length := by omega
    have hw1 : IntKind.wrap .i64 ((i : Int) + 1) = ((i + 1 : Nat) : Int) := by rw [wrapI (by omega) (by omega)]; omega
    generalize D[i] = x at *
    obtain ⟨d, rfl, d1, d2⟩ := natOf hd
    have hw2 : IntKind.wrap .i64 ((p : Int) + (d : Int)) = ((p + d : Nat) : Int) := by rw [wrapI (by omega) (by omega)]; omega
    rw [sm_cons, gU_nat, if_neg hb] at p3
    simp only [pk, Int.toNat_natCast]
    simp only [s_ClimbOfRank_u2 (N : Int) (ar (fun j => sat (U N D B j)) (N + 1)) acc D B s (p : Int) (D.length : Int) (i : Int), s_ClimbOfRank_t2, hrd, hw1, hw2, ar_len]
    rw [decide_eq_true c1, decide_eq_true (Int.natCast_nonneg i)]
    by_cases e1 : p + d ≤ N
    · have hU0 := U_nn G e1
      rw [if_pos e1] at p3 ⊢
      rw [decide_eq_false (show ¬ ((p + d : Nat) : Int) > N by omega), ar_rdk (show p + d < N + 1 by omega), decide_eq_true (Int.natCast_nonneg (p + d)), decide_eq_true (show ((p + d : Nat) : Int) < ((N + 1 : Nat) : Int) by omega), decide_eq_decide.2 (sat_lt (x := U N D B (p + d)) p4)]
      by_cases e2 : s < U N D B (p + d)
      · left
        rw [if_pos e2, decide_eq_true e2, show Nat.ble (acc.length + 1) 4294967296 = true from (by rw [Nat.ble_eq]; omega)]
        simp only [Int.toNat_natCast, cond_true, cond_false]
      · right
        rw [if_neg e2, decide_eq_false e2, sat_id (show U N D B (p + d) ≤ 1000000000000000 by omega), wrapI (n := s - U N D B (p + d)) (by omega) (by omega)]
        exact ⟨s - U N D B (p + d), rfl, ⟨fun y hy => p1 y (List.mem_cons_of_mem _ hy), by omega, by omega, by omega⟩, rfl⟩
    · right
      rw [if_neg e1] at p3 ⊢
      rw [decide_eq_true (show ((p + d : Nat) : Int) > N by omega)]
      exact ⟨s, rfl, ⟨fun y hy => p1 y (List.mem_cons_of_mem _ hy), p2, by omega, p4⟩, rfl⟩
theorem sr_loop (G : GoodS N D B) : ∀ (f p : Nat) (acc : List Int) (r : Int), p ≤ N → N - p ≤ f → acc.length ≤ p → 0 ≤ r → r < U N D B p → r ≤ 1000000000000000 →
    s_ClimbOfRank_L1 (N : Int) (ar (fun j => sat (U N D B j)) (N + 1)) acc D B r (p : Int) = some (acc ++ ofR N D B f p r, true)
  | 0, p, acc, r, h, hf, ha, h0, h1, h2 => by
    obtain rfl : p = N := by omega
    rw [s_ClimbOfRank_u1, s_ClimbOfRank_t1, decide_eq_false (show ¬ ((p : Int) < p) by omega), show ofR p D B 0 p r = [] from rfl, List.append_nil]
    rfl
  | f + 1, p, acc, r, h, hf, ha, h0, h1, h2 => by
    have hN := G.n2
    by_cases c : p = N
    · subst c
      rw [s_ClimbOfRank_u1, s_ClimbOfRank_t1, decide_eq_false (show ¬ ((p : Int) < p) by omega), show ofR p D B (f + 1) p r = [] from wk_top _ _ _ (Nat.le_refl _), List.append_nil]
      rfl
    · obtain ⟨d, r', k1, k2, k3, k4, k5, k6, k7⟩ := sr_in G (show p < N by omega) (U_nbrk G h (by omega)) (acc := acc) (by omega) r h0 h1 h2
      have hd := (G.db d k2).1
      rw [s_ClimbOfRank_u1, s_ClimbOfRank_t1, decide_eq_true (show (p : Int) < N by omega), cond_true, k7, sr_loop G f (p + d.toNat) (acc ++ [d]) r' k3 (by omega) (by rw [List.length_append]; simp; omega) k4 k5 k6,
        show ofR N D B (f + 1) p r = d :: ofR N D B f (p + d.toNat) r' from wk_some (by omega) k1, List.append_assoc]
      rfl
theorem sf_in (G : GoodS N D B) {p : Nat} (hp : p < N) (hb : ¬ brk B p) {acc : List Int} (ha : acc.length ≤ 100) (h1 : 0 < U N D B p) :
    ∃ d, pk N D B p D 0 = some (d, 0) ∧ d ∈ D ∧ p + d.toNat ≤ N ∧ 0 < U N D B (p + d.toNat) ∧
    s_FirstClimb_L2 (N : Int) (ar (fun j => sat (U N D B j)) (N + 1)) acc D B (p : Int) (D.length : Int) 0 = s_FirstClimb_L1 (N : Int) (ar (fun j => sat (U N D B j)) (N + 1)) (acc ++ [d]) D B ((p + d.toNat : Nat) : Int) := by
  have hN := G.n2
  have hD := G.d2
  have h1' := h1
  rw [U_rec G hp] at h1'
  obtain ⟨d, r', k1, k2, k3, k4, k5, k6⟩ := pk_spec G hb D 0 G.dp (fun d hd => (G.db d hd).1) (by omega) h1'
  have hlw := lw_nn G D p d
  obtain rfl : r' = 0 := by omega
  refine ⟨d, k1, k2, k3, by omega, ?_⟩
  have key := loop_ex (L := fun i (_ : Unit) => s_FirstClimb_L2 (N : Int) (ar (fun j => sat (U N D B j)) (N + 1)) acc D B (p : Int) (D.length : Int) (i : Int)) (l := D)
    (e := fun l _ => match pk N D B p l 0 with | some x => s_FirstClimb_L1 (N : Int) (ar (fun j => sat (U N D B j)) (N + 1)) (acc ++ [x.1]) D B ((p + x.1.toNat : Nat) : Int) | none => none)
    (P := fun l _ => (∀ d, d ∈ l → 1 ≤ d ∧ d ≤ 9) ∧ 0 < sm l (gU N B p (U N D B))) ?_ ?_ () ⟨G.db, h1'⟩
  · simp only [k1] at key; exact key
  · rintro s ⟨_, p1⟩
    rw [sm_nil] at p1; omega
  · rintro i hi s ⟨p1, p3⟩
    have hd := p1 D[i] List.mem_cons_self
    have hrd := rdk_get (k := kint) hi
    have c1 : (i : Int) < D.length := by omega
    have hw1 : IntKind.wrap .i64 ((i : Int) + 1) = ((i + 1 : Nat) : Int) := by rw [wrapI (by omega) (by omega)]; omega
    generalize D[i] = x at *
    obtain ⟨d, rfl, d1, d2⟩ := natOf hd
    have hw2 : IntKind.wrap .i64 ((p : Int) + (d : Int)) = ((p + d : Nat) : Int) := by rw [wrapI (by omega) (by omega)]; omega
    rw [sm_cons, gU_nat, if_neg hb] at p3
    simp only [pk, Int.toNat_natCast]
    simp only [s_FirstClimb_u2 (N : Int) (ar (fun j => sat (U N D B j)) (N + 1)) acc D B (p : Int) (D.length : Int) (i : Int), s_FirstClimb_t2, hrd, hw1, hw2, ar_len]
    rw [decide_eq_true c1, decide_eq_true (Int.natCast_nonneg i)]
    by_cases e1 : p + d ≤ N
    · have hU0 := U_nn G e1
      rw [if_pos e1] at p3 ⊢
      rw [decide_eq_true (show ((p + d : Nat) : Int) ≤ N by omega), ar_rdk (show p + d < N + 1 by omega), decide_eq_true (Int.natCast_nonneg (p + d)), decide_eq_true (show ((p + d : Nat) : Int) < ((N + 1 : Nat) : Int) by omega), decide_eq_decide.2 (show sat (U N D B (p + d)) > 0 ↔ 0 < U N D B (p + d) from sat_pos)]
      by_cases e2 : 0 < U N D B (p + d)
      · left
        rw [if_pos e2, decide_eq_true e2, show Nat.ble (acc.length + 1) 4294967296 = true from (by rw [Nat.ble_eq]; omega)]
        simp only [Int.toNat_natCast, cond_true, cond_false]
      · right
        rw [if_neg e2, decide_eq_false e2, show (0 : Int) - U N D B (p + d) = 0 from by omega]
        exact ⟨(), rfl, ⟨fun y hy => p1 y (List.mem_cons_of_mem _ hy), by omega⟩, rfl⟩
    · right
      rw [if_neg e1] at p3 ⊢
      rw [decide_eq_false (show ¬ ((p + d : Nat) : Int) ≤ N by omega)]
      exact ⟨(), rfl, ⟨fun y hy => p1 y (List.mem_cons_of_mem _ hy), by omega⟩, rfl⟩
theorem sf_loop (G : GoodS N D B) : ∀ (f p : Nat) (acc : List Int), p ≤ N → N - p ≤ f → acc.length ≤ p → 0 < U N D B p → s_FirstClimb_L1 (N : Int) (ar (fun j => sat (U N D B j)) (N + 1)) acc D B (p : Int) = some (acc ++ ofR N D B f p 0, true)
  | 0, p, acc, h, hf, ha, h1 => by
    obtain rfl : p = N := by omega
    rw [s_FirstClimb_u1, s_FirstClimb_t1, decide_eq_false (show ¬ ((p : Int) < p) by omega), show ofR p D B 0 p 0 = [] from rfl, List.append_nil]
    rfl
  | f + 1, p, acc, h, hf, ha, h1 => by
    have hN := G.n2
    by_cases c : p = N
    · subst c
      rw [s_FirstClimb_u1, s_FirstClimb_t1, decide_eq_false (show ¬ ((p : Int) < p) by omega), show ofR p D B (f + 1) p 0 = [] from wk_top _ _ _ (Nat.le_refl _), List.append_nil]
      rfl
    · obtain ⟨d, k1, k2, k3, k4, k6⟩ := sf_in G (show p < N by omega) (U_nbrk G h (by omega)) (acc := acc) (by omega) h1
      have hd := (G.db d k2).1
      rw [s_FirstClimb_u1, s_FirstClimb_t1, decide_eq_true (show (p : Int) < N by omega), cond_true, k6, sf_loop G f (p + d.toNat) (acc ++ [d]) k3 (by omega) (by rw [List.length_append]; simp; omega) k4,
        show ofR N D B (f + 1) p 0 = d :: ofR N D B f (p + d.toNat) 0 from wk_some (by omega) k1, List.append_assoc]
      rfl
/-! the functions -/
theorem within_eqC (a lo hi : Int) : i_within a lo hi = (decide (lo ≤ a) && decide (a ≤ hi)) := by rw [i_within_inB]; rfl
def cor (N : Nat) (D B : List Int) (r : Int) : List Int × Bool := if U N D B 0 ≤ 1000000000000000 ∧ 0 ≤ r ∧ r < U N D B 0 then (ofR N D B N 0 r, true) else ([], false)
theorem iCor_eq (G : GoodS N D B) (r : Int) : i_ClimbOfRank (N : Int) D B r = some (cor N D B r) := by
  unfold i_ClimbOfRank cor
  have r0 : rdk kint (ar (U N D B) (N + 1)) 0 = U N D B 0 := ar_rdk (i := 0) (by omega)
  have u0 := U_nn G (Nat.zero_le N)
  have u1 := U_le G (Nat.zero_le N)
  rw [counted_eq G, Option.bind_some]
  show (bif !cntB N D B then _ else _) = _
  by_cases c : U N D B 0 ≤ 1000000000000000
  · rw [show cntB N D B = true from decide_eq_true c]
    show (bif decide ((0 : Int) < ((ar (U N D B) (N + 1)).length : Int)) then _ else _) = _
    rw [ar_len, decide_eq_true (show (0 : Int) < ((N + 1 : Nat) : Int) by omega), r0, wrapI (n := U N D B 0 - 1) (by omega) (by omega), within_eqC]
    by_cases c2 : 0 ≤ r ∧ r < U N D B 0
    · rw [if_pos ⟨c, c2⟩, decide_eq_true c2.1, decide_eq_true (show r ≤ U N D B 0 - 1 by omega), ofRank_eq G c2.1 c2.2]; rfl
    · rw [if_neg (fun h => c2 h.2)]
      by_cases c3 : 0 ≤ r
      · rw [decide_eq_true c3, decide_eq_false (show ¬ r ≤ U N D B 0 - 1 by omega)]; rfl
      · rw [decide_eq_false c3]; rfl
  · rw [show cntB N D B = false from decide_eq_false c, if_neg (fun h => c h.1)]; rfl
theorem sCor_eq (G : GoodS N D B) (r : Int) : s_ClimbOfRank (N : Int) D B r = some (cor N D B r) := by
  unfold s_ClimbOfRank s_ClimbOfRank_t0 cor
  have r0 : rdk kint (ar (fun j => sat (U N D B j)) (N + 1)) 0 = sat (U N D B 0) := ar_rdk (i := 0) (by omega)
  rw [clCounted_eq G, Option.bind_some]
  by_cases c : U N D B 0 ≤ 1000000000000000
  · rw [show cntB N D B = true from decide_eq_true c, ways_eq G]
    simp only [Bool.not_true, cond_false, Option.bind_some]
    rw [ar_len, decide_eq_true (show (0 : Int) < ((N + 1 : Nat) : Int) by omega), r0, sat_id c]
    by_cases c2 : r < 0
    · rw [if_neg (by omega), decide_eq_true c2]; rfl
    · rw [decide_eq_false c2]
      by_cases c3 : r ≥ U N D B 0
      · rw [if_neg (by omega), decide_eq_true c3]; rfl
      · rw [if_pos (by omega), decide_eq_false c3]
        have := sr_loop G N 0 [] r (by omega) (by omega) (by simp) (by omega) (by omega) (by omega)
        exact this
  · rw [show cntB N D B = false from decide_eq_false c, if_neg (fun h => c h.1)]; rfl
def fcl (N : Nat) (D B : List Int) : List Int × Bool := if 0 < U N D B 0 then (ofR N D B N 0 0, true) else ([], false)
theorem iFcl_eq (G : GoodS N D B) : i_FirstClimb (N : Int) D B = some (fcl N D B) := by
  unfold i_FirstClimb fcl
  have r0 : rdk kint (ar (U N D B) (N + 1)) 0 = U N D B 0 := ar_rdk (i := 0) (by omega)
  have u0 := U_nn G (Nat.zero_le N)
  rw [i_AreStairs_eq, good_of G, up_eq G]
  simp only [Bool.not_true, cond_false, Option.bind_some]
  rw [ar_len, decide_eq_true (show (0 : Int) < ((N + 1 : Nat) : Int) by omega), r0]
  by_cases c : 0 < U N D B 0
  · rw [if_pos c, show (U N D B 0 == 0) = false from (by rw [beq_eq_false_iff_ne]; omega), ofRank_eq G (Int.le_refl _) c]; rfl
  · rw [if_neg c, show (U N D B 0 == 0) = true from (by rw [beq_iff_eq]; omega)]; rfl
theorem sFcl_eq (G : GoodS N D B) : s_FirstClimb (N : Int) D B = some (fcl N D B) := by
  unfold s_FirstClimb s_FirstClimb_t0 fcl
  have r0 : rdk kint (ar (fun j => sat (U N D B j)) (N + 1)) 0 = sat (U N D B 0) := ar_rdk (i := 0) (by omega)
  have u0 := U_nn G (Nat.zero_le N)
  have b1 := sat_bd u0
  rw [good_of G, ways_eq G]
  simp only [Bool.not_true, cond_false, Option.bind_some]
  rw [ar_len, decide_eq_true (show (0 : Int) < ((N + 1 : Nat) : Int) by omega), r0]
  by_cases c : 0 < U N D B 0
  · rw [if_pos c, show (sat (U N D B 0) == 0) = false from (by rw [beq_eq_false_iff_ne]; have := sat_pos.2 c; omega)]
    have := sf_loop G N 0 [] (by omega) (by omega) (by simp) c
    exact this
  · rw [if_neg c, show (sat (U N D B 0) == 0) = true from (by rw [beq_iff_eq]; omega)]; rfl
end
/-! ### the first of the fewest -/
def cv (v : Int) : Int := if v < 0 then 1000 else v
def pf (N : Nat) (D B : List Int) (p : Nat) : List Int → Option (Int × Int)
  | [] => none
  | d :: l => if p + d.toNat ≤ N ∧ 0 ≤ LF N D B false (p + d.toNat) ∧ LF N D B false (p + d.toNat) + 1 = LF N D B false p then some (d, 0) else pf N D B p l
def ffw (N : Nat) (D B : List Int) (f p : Nat) : List Int := wk N (fun p _ => pf N D B p D) f p 0
section
variable {N : Nat} {D B : List Int}
theorem pf_mem {p : Nat} {d : Int} (h1 : p + d.toNat ≤ N ∧ 0 ≤ LF N D B false (p + d.toNat) ∧ LF N D B false (p + d.toNat) + 1 = LF N D B false p) : ∀ l : List Int, d ∈ l →
    ∃ e, pf N D B p l = some (e, 0) ∧ e ∈ l ∧ p + e.toNat ≤ N ∧ 0 ≤ LF N D B false (p + e.toNat) ∧ LF N D B false (p + e.toNat) + 1 = LF N D B false p
  | [], h => absurd h List.not_mem_nil
  | x :: l, h => by
    rw [pf]
    by_cases c : p + x.toNat ≤ N ∧ 0 ≤ LF N D B false (p + x.toNat) ∧ LF N D B false (p + x.toNat) + 1 = LF N D B false p
    · rw [if_pos c]; exact ⟨x, rfl, List.mem_cons_self, c⟩
    · rw [if_neg c]
      have hm : d ∈ l := by
        rcases List.mem_cons.1 h with rfl | h
        · exact absurd h1 c
        · exact h
      obtain ⟨e, k1, k2, k3⟩ := pf_mem h1 l hm
      exact ⟨e, k1, List.mem_cons_of_mem _ k2, k3⟩
theorem pf_spec (G : GoodS N D B) {p : Nat} (hp : p < N) (h0 : 0 ≤ LF N D B false p) : ¬ brk B p ∧ ∃ d, pf N D B p D = some (d, 0) ∧ d ∈ D ∧ p + d.toNat ≤ N ∧ 0 ≤ LF N D B false (p + d.toNat) ∧ LF N D B false (p + d.toNat) + 1 = LF N D B false p := by
  rcases LFb G false (show p ≤ N by omega) with ⟨h, _⟩ | ⟨m, h, hm, hmin⟩
  · omega
  · rcases m with _ | m
    · have hm : 0 < HH N D B 0 p := hm
      rw [HH_zero, if_neg (by omega)] at hm; omega
    · obtain ⟨hb, d, hd, c, hq⟩ := HH_pos.1 hm
      refine ⟨hb, ?_⟩
      have key : 0 ≤ LF N D B false (p + d.toNat) ∧ LF N D B false (p + d.toNat) + 1 = LF N D B false p := by
        rcases LFb G false c with ⟨_, h2⟩ | ⟨n, h2, hn, hnmin⟩
        · exact absurd hq (h2 m)
        · have e1 := hnmin m hq
          have e2 := hmin (n + 1) (HH_pos.2 ⟨hb, d, hd, c, hn⟩)
          simp only [Bool.false_eq_true, if_false] at e1 e2
          omega
      exact pf_mem ⟨c, key⟩ D hd
theorem ffw_vd (G : GoodS N D B) : ∀ (f p : Nat), p ≤ N → N - p ≤ f → 0 ≤ LF N D B false p → Vd N D B p (ffw N D B f p) ∧ ((ffw N D B f p).length : Int) = LF N D B false p
  | 0, p, h, hf, h0 => by
    obtain rfl : p = N := by omega
    have := LF_bd G false (Nat.le_refl p)
    exact ⟨rfl, by show (0 : Int) = _; omega⟩
  | f + 1, p, h, hf, h0 => by
    by_cases c : p = N
    · subst c
      have := LF_bd G false (Nat.le_refl p)
      have e : ffw p D B (f + 1) p = [] := wk_top _ _ _ (Nat.le_refl _)
      rw [e]
      exact ⟨rfl, by show (0 : Int) = _; omega⟩
    · obtain ⟨hb, d, k1, k2, k3, k4, k5⟩ := pf_spec G (show p < N by omega) h0
      have hd := (G.db d k2).1
      obtain ⟨i1, i2⟩ := ffw_vd G f (p + d.toNat) k3 (by omega) k4
      have e : ffw N D B (f + 1) p = d :: ffw N D B f (p + d.toNat) := wk_some (by omega) k1
      have hb2 : ¬ brk B (p + d.toNat) := by
        by_cases c2 : p + d.toNat = N
        · rw [c2]; exact (brk_no G).2
        · exact (pf_spec G (show p + d.toNat < N by omega) k4).1
      rw [e]
      exact ⟨⟨k2, k3, hb2, i1⟩, by rw [List.length_cons]; omega⟩
theorem cv_bd {v : Int} (h : -1 ≤ v ∧ v ≤ 60) : 0 ≤ cv v ∧ cv v ≤ 1000 := by unfold cv; split <;> omega
theorem cv_upd (a : Nat → Int) (k : Nat) (s : Int) : (fun j => cv (upd a k s j)) = upd (fun j => cv (a j)) k (cv s) := by
  funext j; unfold upd; by_cases h : j = k
  · rw [if_pos h, if_pos h]
  · rw [if_neg h, if_neg h]
theorem cv_better {v w : Int} (hv : -1 ≤ v ∧ v ≤ 60) (hw : -1 ≤ w ∧ w ≤ 60) : cv (better false v w) = if cv w + 1 < cv v then cv w + 1 else cv v := by
  unfold better cv
  simp only [true_and, Bool.false_eq_true, false_and, or_false]
  repeat' split
  all_goals omega
theorem fi_in (G : GoodS N D B) {k : Nat} (hk : k < N) {a : Nat → Int} (ha : ∀ j, k < j → j ≤ N → -1 ≤ a j ∧ a j ≤ N - j) (hbk : ¬ brk B k) (v : Int) (hv : -1 ≤ v ∧ v ≤ 60) :
    i_FirstFewest_L2 (N : Int) (ar (fun j => cv (upd a k v j)) (N + 1)) D B (k : Int) (D.length : Int) 0 = i_FirstFewest_L1 (N : Int) (ar (fun j => cv (upd a k (D.foldl (lfS N false k a) v) j)) (N + 1)) D B ((k : Int) - 1) := by
  have hN := G.n2
  have hD := G.d2
  refine loop_inv (L := fun i v => i_FirstFewest_L2 (N : Int) (ar (fun j => cv (upd a k v j)) (N + 1)) D B (k : Int) (D.length : Int) (i : Int)) (l := D) (e := fun l v => i_FirstFewest_L1 (N : Int) (ar (fun j => cv (upd a k (l.foldl (lfS N false k a) v) j)) (N + 1)) D B ((k : Int) - 1))
    (P := fun l v => (∀ d, d ∈ l → 1 ≤ d ∧ d ≤ 9) ∧ -1 ≤ v ∧ v ≤ 60) ?_ ?_ v ⟨G.db, hv⟩
  · intro s _
    show i_FirstFewest_L2 (N : Int) (ar (fun j => cv (upd a k s j)) (N + 1)) D B (k : Int) (D.length : Int) (D.length : Int) = _
    rw [i_FirstFewest_u2, i_FirstFewest_t2, decide_eq_false (show ¬ ((D.length : Int) < D.length) by omega), wrapI (n := (k : Int) - 1) (by omega) (by omega)]
    rfl
  · intro i hi s ⟨p1, p2⟩
    have hd := p1 D[i] List.mem_cons_self
    have hrd := rdk_get (k := kint) hi
    have c1 : (i : Int) < D.length := by omega
    have hw1 : IntKind.wrap .i64 ((i : Int) + 1) = ((i + 1 : Nat) : Int) := by rw [wrapI (by omega) (by omega)]; omega
    generalize D[i] = x at *
    obtain ⟨d, rfl, d1, d2⟩ := natOf hd
    have hw2 : IntKind.wrap .i64 ((k : Int) + (d : Int)) = ((k + d : Nat) : Int) := by rw [wrapI (by omega) (by omega)]; omega
    refine ⟨lfS N false k a s (d : Int), ?_, ⟨fun y hy => p1 y (List.mem_cons_of_mem _ hy), ?_⟩, rfl⟩
    · show i_FirstFewest_L2 (N : Int) (ar (fun j => cv (upd a k s j)) (N + 1)) D B (k : Int) (D.length : Int) (i : Int) = i_FirstFewest_L2 (N : Int) (ar (fun j => cv (upd a k (lfS N false k a s (d : Int)) j)) (N + 1)) D B (k : Int) (D.length : Int) ((i + 1 : Nat) : Int)
      rw [i_FirstFewest_u2, i_FirstFewest_t2, decide_eq_true c1, decide_eq_true (Int.natCast_nonneg i), hrd, hw1, hw2]
      rw [lfS_nat]
      by_cases e1 : k + d ≤ N
      · have hkd := ha (k + d) (by omega) e1
        have hc := cv_bd (v := a (k + d)) (by omega)
        rw [if_pos e1, decide_eq_true (show ((k + d : Nat) : Int) ≤ N by omega), isBr, decide_eq_false hbk, ar_len, ar_rdk (show k < N + 1 by omega), ar_rdk (show k + d < N + 1 by omega), upd_same, upd_ne _ _ (show k + d ≠ k by omega), wrapI (n := cv (a (k + d)) + 1) (by omega) (by omega),
            decide_eq_true (Int.natCast_nonneg k), decide_eq_true (show (k : Int) < ((N + 1 : Nat) : Int) by omega), decide_eq_true (Int.natCast_nonneg _), decide_eq_true (show ((k + d : Nat) : Int) < ((N + 1 : Nat) : Int) by omega), Int.toNat_natCast, ar_set, cv_upd, upd_upd, cv_upd, cv_better p2 (by omega)]
        by_cases e4 : cv (a (k + d)) + 1 < cv s
        · rw [if_pos e4, decide_eq_true e4]; rfl
        · rw [if_neg e4, decide_eq_false e4]; rfl
      · rw [if_neg e1, decide_eq_false (show ¬ ((k + d : Nat) : Int) ≤ N by omega)]; rfl
    · rw [lfS_nat]
      by_cases e1 : k + d ≤ N
      · rw [if_pos e1]; have hkd := ha (k + d) (by omega) e1; exact better_bd p2 (by omega)
      · rw [if_neg e1]; exact p2
theorem fi_brk (G : GoodS N D B) {k : Nat} (hk : k < N) (hbk : brk B k) (r : List Int) : i_FirstFewest_L2 (N : Int) r D B (k : Int) (D.length : Int) 0 = i_FirstFewest_L1 (N : Int) r D B ((k : Int) - 1) := by
  have hN := G.n2
  have hD := G.d2
  refine loop_inv (L := fun i (_ : Unit) => i_FirstFewest_L2 (N : Int) r D B (k : Int) (D.length : Int) (i : Int)) (l := D) (e := fun l _ => i_FirstFewest_L1 (N : Int) r D B ((k : Int) - 1))
    (P := fun l _ => (∀ d, d ∈ l → 1 ≤ d ∧ d ≤ 9)) ?_ ?_ () G.db
  · intro s _
    show i_FirstFewest_L2 (N : Int) r D B (k : Int) (D.length : Int) (D.length : Int) = _
    rw [i_FirstFewest_u2, i_FirstFewest_t2, decide_eq_false (show ¬ ((D.length : Int) < D.length) by omega), wrapI (n := (k : Int) - 1) (by omega) (by omega)]
    rfl
  · intro i hi s p1
    have hd := p1 D[i] List.mem_cons_self
    have hrd := rdk_get (k := kint) hi
    have c1 : (i : Int) < D.length := by omega
    have hw1 : IntKind.wrap .i64 ((i : Int) + 1) = ((i + 1 : Nat) : Int) := by rw [wrapI (by omega) (by omega)]; omega
    generalize D[i] = x at *
    obtain ⟨d, rfl, d1, d2⟩ := natOf hd
    have hw2 : IntKind.wrap .i64 ((k : Int) + (d : Int)) = ((k + d : Nat) : Int) := by rw [wrapI (by omega) (by omega)]; omega
    refine ⟨(), ?_, fun y hy => p1 y (List.mem_cons_of_mem _ hy), rfl⟩
    show i_FirstFewest_L2 (N : Int) r D B (k : Int) (D.length : Int) (i : Int) = i_FirstFewest_L2 (N : Int) r D B (k : Int) (D.length : Int) ((i + 1 : Nat) : Int)
    rw [i_FirstFewest_u2 (N : Int) r D B (k : Int) (D.length : Int) (i : Int), i_FirstFewest_t2, decide_eq_true c1, decide_eq_true (Int.natCast_nonneg i), hrd, hw1, hw2, isBr, decide_eq_true hbk]
    cases decide (((k + d : Nat) : Int) ≤ N) <;> rfl
theorem fi_loop (G : GoodS N D B) : ∀ e m : Nat, m + e = N → i_FirstFewest_L1 (N : Int) (ar (fun j => cv (dpF N 0 (stL N D B false) m j)) (N + 1)) D B ((N : Int) - 1 - m) = i_FirstFewest_L1 (N : Int) (ar (fun j => cv (LF N D B false j)) (N + 1)) D B (-1)
  | 0, m, h => by
    obtain rfl : m = N := by omega
    rw [show (m : Int) - 1 - m = -1 from by omega]
    rfl
  | e + 1, m, h => by
    have hN := G.n2
    obtain ⟨k, hk⟩ : ∃ k : Nat, k + (m + 1) = N := ⟨e, by omega⟩
    have hb := fun j (h1 : k < j) (h2 : j ≤ N) => dpL_bd G false (m := m) (by omega) (show N - m ≤ j by omega) h2
    have e0 : (N : Int) - 1 - m = (k : Int) := by omega
    have ih := fi_loop G e (m + 1) (by omega)
    rw [dpF_succ, show N - (m + 1) = k from by omega, show (N : Int) - 1 - ((m + 1 : Nat) : Int) = (k : Int) - 1 from by omega] at ih
    rw [← ih, e0, i_FirstFewest_u1 (N : Int) (ar (fun j => cv (dpF N 0 (stL N D B false) m j)) (N + 1)) D B (k : Int), i_FirstFewest_t1, decide_eq_true (show (k : Int) ≥ 0 by omega), cond_true, ar_len, decide_eq_true (show (k : Int) < ((N + 1 : Nat) : Int) by omega), Int.toNat_natCast, ar_set]
    have e1 : upd (fun j => cv (dpF N 0 (stL N D B false) m j)) k 1000 = (fun j => cv (upd (dpF N 0 (stL N D B false) m) k (-1) j)) := by rw [cv_upd]; rfl
    rw [e1]
    simp only [stL, cond_true]
    by_cases hbk : brk B k
    · rw [if_pos hbk]; exact fi_brk G (by omega) hbk _
    · rw [if_neg hbk]
      exact fi_in G (k := k) (by omega) (a := dpF N 0 (stL N D B false) m) hb hbk (-1) (by omega)
theorem cv_eq {v w : Int} (hv : 0 ≤ v ∧ v ≤ 60) (hw : -1 ≤ w ∧ w ≤ 60) : cv w + 1 = cv v ↔ 0 ≤ w ∧ w + 1 = v := by
  unfold cv
  rw [if_neg (show ¬ v < 0 by omega)]
  split <;> omega
theorem fj_in (G : GoodS N D B) {p : Nat} (hp : p < N) {acc : List Int} (ha : acc.length ≤ 100) (h1 : 0 ≤ LF N D B false p) :
    ∃ d, pf N D B p D = some (d, 0) ∧ d ∈ D ∧ p + d.toNat ≤ N ∧ 0 ≤ LF N D B false (p + d.toNat) ∧
    i_FirstFewest_L4 (N : Int) (ar (fun j => cv (LF N D B false j)) (N + 1)) acc D B (p : Int) (D.length : Int) 0 = i_FirstFewest_L3 (N : Int) (ar (fun j => cv (LF N D B false j)) (N + 1)) (acc ++ [d]) D B ((p + d.toNat : Nat) : Int) ∧
    s_FirstFewest_L2 (N : Int) (ar (LF N D B false) (N + 1)) acc D B (p : Int) (D.length : Int) 0 = s_FirstFewest_L1 (N : Int) (ar (LF N D B false) (N + 1)) (acc ++ [d]) D B ((p + d.toNat : Nat) : Int) := by
  have hN := G.n2
  have hD := G.d2
  obtain ⟨hb, d, k1, k2, k3, k4, k5⟩ := pf_spec G hp h1
  have bp := LF_bd G false (show p ≤ N by omega)
  refine ⟨d, k1, k2, k3, k4, ?_, ?_⟩
  · have key := loop_ex (L := fun i (_ : Unit) => i_FirstFewest_L4 (N : Int) (ar (fun j => cv (LF N D B false j)) (N + 1)) acc D B (p : Int) (D.length : Int) (i : Int)) (l := D)
      (e := fun l _ => match pf N D B p l with | some x => i_FirstFewest_L3 (N : Int) (ar (fun j => cv (LF N D B false j)) (N + 1)) (acc ++ [x.1]) D B ((p + x.1.toNat : Nat) : Int) | none => i_FirstFewest_L3 (N : Int) (ar (fun j => cv (LF N D B false j)) (N + 1)) acc D B (p : Int))
      (P := fun l _ => (∀ d, d ∈ l → 1 ≤ d ∧ d ≤ 9)) ?_ ?_ () G.db
    · simp only [k1] at key; exact key
    · intro s _
      show i_FirstFewest_L4 (N : Int) (ar (fun j => cv (LF N D B false j)) (N + 1)) acc D B (p : Int) (D.length : Int) (D.length : Int) = _
      rw [i_FirstFewest_u4, i_FirstFewest_t4, decide_eq_false (show ¬ ((D.length : Int) < D.length) by omega)]
      rfl
    · rintro i hi s p1
      have hd := p1 D[i] List.mem_cons_self
      have hrd := rdk_get (k := kint) hi
      have c1 : (i : Int) < D.length := by omega
      have hw1 : IntKind.wrap .i64 ((i : Int) + 1) = ((i + 1 : Nat) : Int) := by rw [wrapI (by omega) (by omega)]; omega
      generalize D[i] = x at *
      obtain ⟨d, rfl, d1, d2⟩ := natOf hd
      have hw2 : IntKind.wrap .i64 ((p : Int) + (d : Int)) = ((p + d : Nat) : Int) := by rw [wrapI (by omega) (by omega)]; omega
      simp only [pf, Int.toNat_natCast]
      simp only [i_FirstFewest_u4 (N : Int) (ar (fun j => cv (LF N D B false j)) (N + 1)) acc D B (p : Int) (D.length : Int) (i : Int), i_FirstFewest_t4, hrd, hw1, hw2, ar_len]
      rw [decide_eq_true c1, decide_eq_true (Int.natCast_nonneg i)]
      by_cases e1 : p + d ≤ N
      · have bq := LF_bd G false e1
        have bc := cv_bd (v := LF N D B false (p + d)) (by omega)
        rw [decide_eq_true (show ((p + d : Nat) : Int) ≤ N by omega), ar_rdk (show p + d < N + 1 by omega), ar_rdk (show p < N + 1 by omega), decide_eq_true (Int.natCast_nonneg (p + d)), decide_eq_true (show ((p + d : Nat) : Int) < ((N + 1 : Nat) : Int) by omega), decide_eq_true (Int.natCast_nonneg p), decide_eq_true (show (p : Int) < ((N + 1 : Nat) : Int) by omega),
          wrapI (n := cv (LF N D B false (p + d)) + 1) (by omega) (by omega)]
        have hiff := cv_eq (v := LF N D B false p) (w := LF N D B false (p + d)) (by omega) (by omega)
        by_cases e2 : 0 ≤ LF N D B false (p + d) ∧ LF N D B false (p + d) + 1 = LF N D B false p
        · left
          rw [if_pos ⟨e1, e2⟩, beq_iff_eq.2 (hiff.2 e2), show Nat.ble (acc.length + 1) 4294967296 = true from (by rw [Nat.ble_eq]; omega)]
          simp only [Int.toNat_natCast, cond_true, cond_false]
        · right
          rw [if_neg (fun h => e2 h.2), show (cv (LF N D B false (p + d)) + 1 == cv (LF N D B false p)) = false from (by rw [beq_eq_false_iff_ne]; exact fun h => e2 (hiff.1 h))]
          exact ⟨(), rfl, fun y hy => p1 y (List.mem_cons_of_mem _ hy), rfl⟩
      · right
        rw [if_neg (fun h => e1 h.1), decide_eq_false (show ¬ ((p + d : Nat) : Int) ≤ N by omega)]
        exact ⟨(), rfl, fun y hy => p1 y (List.mem_cons_of_mem _ hy), rfl⟩
  · have key := loop_ex (L := fun i (_ : Unit) => s_FirstFewest_L2 (N : Int) (ar (LF N D B false) (N + 1)) acc D B (p : Int) (D.length : Int) (i : Int)) (l := D)
      (e := fun l _ => match pf N D B p l with | some x => s_FirstFewest_L1 (N : Int) (ar (LF N D B false) (N + 1)) (acc ++ [x.1]) D B ((p + x.1.toNat : Nat) : Int) | none => s_FirstFewest_L1 (N : Int) (ar (LF N D B false) (N + 1)) acc D B (p : Int))
      (P := fun l _ => (∀ d, d ∈ l → 1 ≤ d ∧ d ≤ 9)) ?_ ?_ () G.db
    · simp only [k1] at key; exact key
    · intro s _
      show s_FirstFewest_L2 (N : Int) (ar (LF N D B false) (N + 1)) acc D B (p : Int) (D.length : Int) (D.length : Int) = _
      rw [s_FirstFewest_u2, s_FirstFewest_t2, decide_eq_false (show ¬ ((D.length : Int) < D.length) by omega)]
      rfl
    · rintro i hi s p1
      have hd := p1 D[i] List.mem_cons_self
      have hrd := rdk_get (k := kint) hi
      have c1 : (i : Int) < D.length := by omega
      have hw1 : IntKind.wrap .i64 ((i : Int) + 1) = ((i + 1 : Nat) : Int) := by rw [wrapI (by omega) (by omega)]; omega
      generalize D[i] = x at *
      obtain ⟨d, rfl, d1, d2⟩ := natOf hd
      have hw2 : IntKind.wrap .i64 ((p : Int) + (d : Int)) = ((p + d : Nat) : Int) := by rw [wrapI (by omega) (by omega)]; omega
      simp only [pf, Int.toNat_natCast]
      simp only [s_FirstFewest_u2 (N : Int) (ar (LF N D B false) (N + 1)) acc D B (p : Int) (D.length : Int) (i : Int), s_FirstFewest_t2, hrd, hw1, hw2, ar_len]
      rw [decide_eq_true c1, decide_eq_true (Int.natCast_nonneg i)]
      by_cases e1 : p + d ≤ N
      · have bq := LF_bd G false e1
        rw [decide_eq_true (show ((p + d : Nat) : Int) ≤ N by omega), ar_rdk (show p + d < N + 1 by omega), ar_rdk (show p < N + 1 by omega), decide_eq_true (Int.natCast_nonneg (p + d)), decide_eq_true (show ((p + d : Nat) : Int) < ((N + 1 : Nat) : Int) by omega), decide_eq_true (Int.natCast_nonneg p), decide_eq_true (show (p : Int) < ((N + 1 : Nat) : Int) by omega),
          wrapI (n := LF N D B false p - 1) (by omega) (by omega)]
        by_cases e2 : LF N D B false (p + d) ≥ 0
        · rw [decide_eq_true e2]
          by_cases e3 : LF N D B false (p + d) = LF N D B false p - 1
          · left
            rw [if_pos ⟨e1, e2, by omega⟩, beq_iff_eq.2 e3, show Nat.ble (acc.length + 1) 4294967296 = true from (by rw [Nat.ble_eq]; omega)]
            simp only [Int.toNat_natCast, cond_true, cond_false]
          · right
            rw [if_neg (fun h => e3 (by omega)), show (LF N D B false (p + d) == LF N D B false p - 1) = false from (by rw [beq_eq_false_iff_ne]; exact e3)]
            exact ⟨(), rfl, fun y hy => p1 y (List.mem_cons_of_mem _ hy), rfl⟩
        · right
          rw [if_neg (fun h => e2 h.2.1), decide_eq_false e2]
          exact ⟨(), rfl, fun y hy => p1 y (List.mem_cons_of_mem _ hy), rfl⟩
      · right
        rw [if_neg (fun h => e1 h.1), decide_eq_false (show ¬ ((p + d : Nat) : Int) ≤ N by omega)]
        exact ⟨(), rfl, fun y hy => p1 y (List.mem_cons_of_mem _ hy), rfl⟩
theorem fj_loop (G : GoodS N D B) : ∀ (f p : Nat) (acc : List Int), p ≤ N → N - p ≤ f → acc.length ≤ p → 0 ≤ LF N D B false p →
    i_FirstFewest_L3 (N : Int) (ar (fun j => cv (LF N D B false j)) (N + 1)) acc D B (p : Int) = some (acc ++ ffw N D B f p, true) ∧ s_FirstFewest_L1 (N : Int) (ar (LF N D B false) (N + 1)) acc D B (p : Int) = some (acc ++ ffw N D B f p, true)
  | 0, p, acc, h, hf, ha, h1 => by
    obtain rfl : p = N := by omega
    rw [i_FirstFewest_u3, i_FirstFewest_t3, s_FirstFewest_u1, s_FirstFewest_t1, decide_eq_false (show ¬ ((p : Int) < p) by omega), show ffw p D B 0 p = [] from rfl, List.append_nil]
    exact ⟨rfl, rfl⟩
  | f + 1, p, acc, h, hf, ha, h1 => by
    have hN := G.n2
    by_cases c : p = N
    · subst c
      rw [i_FirstFewest_u3, i_FirstFewest_t3, s_FirstFewest_u1, s_FirstFewest_t1, decide_eq_false (show ¬ ((p : Int) < p) by omega), show ffw p D B (f + 1) p = [] from wk_top _ _ _ (Nat.le_refl _), List.append_nil]
      exact ⟨rfl, rfl⟩
    · obtain ⟨d, k1, k2, k3, k4, k6, k7⟩ := fj_in G (show p < N by omega) (acc := acc) (by omega) h1
      have hd := (G.db d k2).1
      obtain ⟨i1, i2⟩ := fj_loop G f (p + d.toNat) (acc ++ [d]) k3 (by omega) (by rw [List.length_append]; simp; omega) k4
      rw [i_FirstFewest_u3, i_FirstFewest_t3, s_FirstFewest_u1, s_FirstFewest_t1, decide_eq_true (show (p : Int) < N by omega), cond_true, cond_true, k6, k7, i1, i2,
        show ffw N D B (f + 1) p = d :: ffw N D B f (p + d.toNat) from wk_some (by omega) k1, List.append_assoc]
      exact ⟨rfl, rfl⟩
def ffn (N : Nat) (D B : List Int) : List Int × Bool := if few N D B < 0 then ([], false) else (ffw N D B N 0, true)
theorem sFfn_eq (G : GoodS N D B) : s_FirstFewest (N : Int) D B = some (ffn N D B) := by
  unfold s_FirstFewest s_FirstFewest_t0 ffn
  rw [sFew_eq G, clLeft_eq G, Option.bind_some]
  by_cases c : few N D B < 0
  · rw [if_pos c, decide_eq_true c]; rfl
  · rw [if_neg c, decide_eq_false c]
    have := (fj_loop G N 0 [] (by omega) (by omega) (by simp) (show 0 ≤ LF N D B false 0 by unfold few at c; omega)).2
    exact this
theorem iFfn_eq (G : GoodS N D B) : i_FirstFewest (N : Int) D B = some (ffn N D B) := by
  have hN := G.n2
  have hw : IntKind.wrap .i64 ((N : Int) + 1) = ((N + 1 : Nat) : Int) := by rw [wrapI (by omega) (by omega)]; omega
  have hw2 : IntKind.wrap .i64 ((N : Int) - 1) = (N : Int) - 1 := wrapI (by omega) (by omega)
  unfold i_FirstFewest i_FirstFewest_t0 ffn
  rw [i_AreStairs_eq, good_of G, hw, hw2, beq_self_eq_true, decide_eq_true (Int.natCast_nonneg _), decide_eq_true (show ((N + 1 : Nat) : Int) ≤ (4294967296 : Int) by omega), Int.toNat_natCast]
  simp only [cond_true, Bool.not_true, cond_false]
  rw [show List.replicate (N + 1) (Kd.zero kint) = ar (fun _ => 0) (N + 1) from ar_zero _]
  have h1 := fi_loop G N 0 (by omega)
  rw [show (N : Int) - 1 - ((0 : Nat) : Int) = (N : Int) - 1 from by omega] at h1
  have e : (fun j => cv (dpF N 0 (stL N D B false) 0 j)) = (fun _ => 0) := by
    funext j
    show cv (if j = N then (0 : Int) else 0) = 0
    by_cases h : j = N
    · rw [if_pos h]; rfl
    · rw [if_neg h]; rfl
  rw [e] at h1
  rw [h1, i_FirstFewest_u1, i_FirstFewest_t1, decide_eq_false (show ¬ ((-1 : Int) ≥ 0) by omega), ar_len, decide_eq_true (show (0 : Int) < ((N + 1 : Nat) : Int) by omega)]
  have r0 : rdk kint (ar (fun j => cv (LF N D B false j)) (N + 1)) 0 = cv (few N D B) := ar_rdk (i := 0) (by omega)
  rw [r0]
  have bf := LF_bd G false (Nat.zero_le N)
  have hfew : few N D B = LF N D B false 0 := rfl
  by_cases c : few N D B < 0
  · rw [if_pos c, decide_eq_true (show cv (few N D B) ≥ 1000 by unfold cv; rw [if_pos c]; omega)]; rfl
  · rw [if_neg c, decide_eq_false (show ¬ cv (few N D B) ≥ 1000 by unfold cv; rw [if_neg c]; omega)]
    have := (fj_loop G N 0 [] (by omega) (by omega) (by simp) (show 0 ≤ LF N D B false 0 by omega)).1
    exact this
end
/-! ### lists that are climbs -/
def vd (N : Nat) (D B : List Int) : Nat → List Int → Bool
  | p, [] => decide (p = N)
  | p, d :: c => decide (d ∈ D) && (decide (p + d.toNat ≤ N) && (!decide (brk B (p + d.toNat)) && vd N D B (p + d.toNat) c))
def stp : Nat → List Int → List Int
  | _, [] => []
  | p, d :: c => ((p + d.toNat : Nat) : Int) :: stp (p + d.toNat) c
section
variable {N : Nat} {D B : List Int}
theorem vd_iff : ∀ (c : List Int) (p : Nat), vd N D B p c = true ↔ Vd N D B p c
  | [], p => decide_eq_true_iff
  | d :: c, p => by
    rw [vd, Vd]
    simp only [Bool.and_eq_true, decide_eq_true_iff, Bool.not_eq_true', decide_eq_false_iff_not]
    rw [vd_iff c]
theorem isC_loop (G : GoodS N D B) (c : List Int) (hc : c.length ≤ 10000) : ∀ (e i p : Nat), i + e = c.length → p ≤ N →
    i_Stairs_isClimb_L1 (N : Int) c D B (p : Int) (c.length : Int) (i : Int) = some (vd N D B p (c.drop i)) ∧ s_clIs_L1 (N : Int) c D B (p : Int) (c.length : Int) (i : Int) = some (vd N D B p (c.drop i))
  | 0, i, p, h, hp => by
    obtain rfl : i = c.length := by omega
    rw [i_Stairs_isClimb_u1, i_Stairs_isClimb_t1, s_clIs_u1, s_clIs_t1, decide_eq_false (show ¬ ((c.length : Int) < c.length) by omega), List.drop_length]
    rw [show vd N D B p [] = ((p : Int) == (N : Int)) from by
      rw [vd]
      by_cases e : p = N
      · rw [decide_eq_true e, e, beq_self_eq_true]
      · rw [decide_eq_false e]; symm; rw [beq_eq_false_iff_ne]; omega]
    exact ⟨rfl, rfl⟩
  | e + 1, i, p, h, hp => by
    have hN := G.n2
    have hi : i < c.length := by omega
    have hrd := rdk_get (k := kint) hi
    have hw1 : IntKind.wrap .i64 ((i : Int) + 1) = ((i + 1 : Nat) : Int) := by rw [wrapI (by omega) (by omega)]; omega
    have ih := fun p hp => isC_loop G c hc e (i + 1) p (by omega) hp
    rw [List.drop_eq_getElem_cons hi, vd]
    rw [i_Stairs_isClimb_u1, i_Stairs_isClimb_t1, s_clIs_u1, s_clIs_t1, decide_eq_true (show (i : Int) < c.length by omega), decide_eq_true (Int.natCast_nonneg i), hrd, hw1, cont_eqS]
    unfold s_l1Has_n
    generalize c[i] = x at *
    by_cases m : x ∈ D
    · obtain ⟨d, rfl, d1, d2⟩ := natOf (G.db x m)
      have hw2 : IntKind.wrap .i64 ((p : Int) + (d : Int)) = ((p + d : Nat) : Int) := by rw [wrapI (by omega) (by omega)]; omega
      rw [decide_eq_true m, hw2, isBr, Int.toNat_natCast]
      by_cases e1 : p + d ≤ N
      · rw [decide_eq_true e1, decide_eq_false (show ¬ ((p + d : Nat) : Int) > N by omega), stands D B e1]
        by_cases e2 : brk B (p + d)
        · rw [decide_eq_true e2]; exact ⟨rfl, rfl⟩
        · rw [decide_eq_false e2]; exact ih (p + d) e1
      · rw [decide_eq_false e1, decide_eq_true (show ((p + d : Nat) : Int) > N by omega), stands_no D B (show ((p + d : Nat) : Int) > N by omega)]
        exact ⟨rfl, rfl⟩
    · rw [decide_eq_false m]; exact ⟨rfl, rfl⟩
theorem isC_eq (G : GoodS N D B) {c : List Int} (hc : c.length ≤ 10000) : i_Stairs_isClimb (N : Int) D B c = some (vd N D B 0 c) ∧ s_clIs (N : Int) D B c = some (vd N D B 0 c) := isC_loop G c hc c.length 0 0 (by omega) (by omega)
/-! ranks -/
theorem ri_in (G : GoodS N D B) {p : Nat} (hb : ¬ brk B p) {d : Int} (hd : d ∈ D) (c2 : p + d.toNat ≤ N) (c : List Int) (i : Nat) (hc : c.length ≤ 10000) (hi : i < c.length) (s : Int) (h0 : 0 ≤ s) (h1 : s + lw N D B D p d ≤ 1000000000000000) :
    i_RankOfClimb_L2 (N : Int) (ar (U N D B) (N + 1)) c D B s (p : Int) d (c.length : Int) (i : Int) (D.length : Int) 0 = i_RankOfClimb_L1 (N : Int) (ar (U N D B) (N + 1)) c D B (s + lw N D B D p d) ((p + d.toNat : Nat) : Int) (c.length : Int) ((i + 1 : Nat) : Int) ∧
    s_clRank_L2 (N : Int) (ar (fun j => sat (U N D B j)) (N + 1)) c D B s (p : Int) d (c.length : Int) (i : Int) (D.length : Int) 0 = s_clRank_L1 (N : Int) (ar (fun j => sat (U N D B j)) (N + 1)) c D B (s + lw N D B D p d) ((p + d.toNat : Nat) : Int) (c.length : Int) ((i + 1 : Nat) : Int) := by
  have hN := G.n2
  have hD := G.d2
  obtain ⟨d, rfl, d1, d2⟩ := natOf (G.db d hd)
  rw [Int.toNat_natCast] at c2 ⊢
  have hw1 : IntKind.wrap .i64 ((i : Int) + 1) = ((i + 1 : Nat) : Int) := by rw [wrapI (by omega) (by omega)]; omega
  have hw2 : IntKind.wrap .i64 ((p : Int) + (d : Int)) = ((p + d : Nat) : Int) := by rw [wrapI (by omega) (by omega)]; omega
  constructor
  · refine loop_inv (L := fun j s => i_RankOfClimb_L2 (N : Int) (ar (U N D B) (N + 1)) c D B s (p : Int) (d : Int) (c.length : Int) (i : Int) (D.length : Int) (j : Int)) (l := D)
      (e := fun l s => i_RankOfClimb_L1 (N : Int) (ar (U N D B) (N + 1)) c D B (s + lw N D B l p (d : Int)) ((p + d : Nat) : Int) (c.length : Int) ((i + 1 : Nat) : Int))
      (P := fun l s => (∀ d, d ∈ l → 1 ≤ d ∧ d ≤ 9) ∧ 0 ≤ s ∧ s + lw N D B l p (d : Int) ≤ 1000000000000000) ?_ ?_ s ⟨G.db, h0, h1⟩
    · intro s _
      show i_RankOfClimb_L2 (N : Int) (ar (U N D B) (N + 1)) c D B s (p : Int) (d : Int) (c.length : Int) (i : Int) (D.length : Int) (D.length : Int) = _
      rw [i_RankOfClimb_u2, i_RankOfClimb_t2, decide_eq_false (show ¬ ((D.length : Int) < D.length) by omega), hw1, hw2]
      show _ = i_RankOfClimb_L1 (N : Int) (ar (U N D B) (N + 1)) c D B (s + 0) ((p + d : Nat) : Int) (c.length : Int) ((i + 1 : Nat) : Int)
      rw [Int.add_zero]; rfl
    · intro j hj s ⟨p1, p2, p3⟩
      have hdj := p1 D[j] List.mem_cons_self
      have hrd := rdk_get (k := kint) hj
      have c1 : (j : Int) < D.length := by omega
      have hw3 : IntKind.wrap .i64 ((j : Int) + 1) = ((j + 1 : Nat) : Int) := by rw [wrapI (by omega) (by omega)]; omega
      have hl : lw N D B (D[j] :: D.drop (j + 1)) p (d : Int) = (if D[j] < (d : Int) ∧ p + D[j].toNat ≤ N then U N D B (p + D[j].toNat) else 0) + lw N D B (D.drop (j + 1)) p (d : Int) := rfl
      have hr := lw_nn G (D.drop (j + 1)) p (d : Int)
      rw [hl] at p3
      rw [hl]
      generalize D[j] = x at *
      obtain ⟨n, rfl, n1, n2⟩ := natOf hdj
      have hw4 : IntKind.wrap .i64 ((p : Int) + (n : Int)) = ((p + n : Nat) : Int) := by rw [wrapI (by omega) (by omega)]; omega
      rw [Int.toNat_natCast] at p3 ⊢
      refine ⟨s + (if (n : Int) < (d : Int) ∧ p + n ≤ N then U N D B (p + n) else 0), ?_, ⟨fun y hy => p1 y (List.mem_cons_of_mem _ hy), ?_, by omega⟩, ?_⟩
      · show i_RankOfClimb_L2 (N : Int) (ar (U N D B) (N + 1)) c D B s (p : Int) (d : Int) (c.length : Int) (i : Int) (D.length : Int) (j : Int) = i_RankOfClimb_L2 (N : Int) (ar (U N D B) (N + 1)) c D B (s + (if (n : Int) < (d : Int) ∧ p + n ≤ N then U N D B (p + n) else 0)) (p : Int) (d : Int) (c.length : Int) (i : Int) (D.length : Int) ((j + 1 : Nat) : Int)
        rw [i_RankOfClimb_u2, i_RankOfClimb_t2, decide_eq_true c1, decide_eq_true (Int.natCast_nonneg j), hrd, hw3, hw4]
        by_cases e1 : (n : Int) < (d : Int)
        · have e2 : p + n ≤ N := by omega
          rw [if_pos ⟨e1, e2⟩] at p3 ⊢
          have hU := U_nn G e2
          rw [decide_eq_true e1, decide_eq_true (show ((p + n : Nat) : Int) ≤ N by omega), ar_len, ar_rdk (show p + n < N + 1 by omega), decide_eq_true (Int.natCast_nonneg (p + n)), decide_eq_true (show ((p + n : Nat) : Int) < ((N + 1 : Nat) : Int) by omega), wrapI (n := s + U N D B (p + n)) (by omega) (by omega)]
          rfl
        · rw [if_neg (fun h => e1 h.1), decide_eq_false e1, Int.add_zero]; rfl
      · split
        · rename_i h; have := U_nn G h.2; omega
        · omega
      · show i_RankOfClimb_L1 (N : Int) (ar (U N D B) (N + 1)) c D B (s + (if (n : Int) < (d : Int) ∧ p + n ≤ N then U N D B (p + n) else 0) + lw N D B (D.drop (j + 1)) p (d : Int)) ((p + d : Nat) : Int) (c.length : Int) ((i + 1 : Nat) : Int) = _
        rw [Int.add_assoc]
  · refine loop_inv (L := fun j s => s_clRank_L2 (N : Int) (ar (fun j => sat (U N D B j)) (N + 1)) c D B s (p : Int) (d : Int) (c.length : Int) (i : Int) (D.length : Int) (j : Int)) (l := D)
      (e := fun l s => s_clRank_L1 (N : Int) (ar (fun j => sat (U N D B j)) (N + 1)) c D B (s + lw N D B l p (d : Int)) ((p + d : Nat) : Int) (c.length : Int) ((i + 1 : Nat) : Int))
      (P := fun l s => (∀ d, d ∈ l → 1 ≤ d ∧ d ≤ 9) ∧ 0 ≤ s ∧ s + lw N D B l p (d : Int) ≤ 1000000000000000) ?_ ?_ s ⟨G.db, h0, h1⟩
    · intro s _
      show s_clRank_L2 (N : Int) (ar (fun j => sat (U N D B j)) (N + 1)) c D B s (p : Int) (d : Int) (c.length : Int) (i : Int) (D.length : Int) (D.length : Int) = _
      rw [s_clRank_u2, s_clRank_t2, decide_eq_false (show ¬ ((D.length : Int) < D.length) by omega), hw1, hw2]
      show _ = s_clRank_L1 (N : Int) (ar (fun j => sat (U N D B j)) (N + 1)) c D B (s + 0) ((p + d : Nat) : Int) (c.length : Int) ((i + 1 : Nat) : Int)
      rw [Int.add_zero]; rfl
    · intro j hj s ⟨p1, p2, p3⟩
      have hdj := p1 D[j] List.mem_cons_self
      have hrd := rdk_get (k := kint) hj
      have c1 : (j : Int) < D.length := by omega
      have hw3 : IntKind.wrap .i64 ((j : Int) + 1) = ((j + 1 : Nat) : Int) := by rw [wrapI (by omega) (by omega)]; omega
      have hl : lw N D B (D[j] :: D.drop (j + 1)) p (d : Int) = (if D[j] < (d : Int) ∧ p + D[j].toNat ≤ N then U N D B (p + D[j].toNat) else 0) + lw N D B (D.drop (j + 1)) p (d : Int) := rfl
      have hr := lw_nn G (D.drop (j + 1)) p (d : Int)
      rw [hl] at p3
      rw [hl]
      generalize D[j] = x at *
      obtain ⟨n, rfl, n1, n2⟩ := natOf hdj
      have hw4 : IntKind.wrap .i64 ((p : Int) + (n : Int)) = ((p + n : Nat) : Int) := by rw [wrapI (by omega) (by omega)]; omega
      rw [Int.toNat_natCast] at p3 ⊢
      refine ⟨s + (if (n : Int) < (d : Int) ∧ p + n ≤ N then U N D B (p + n) else 0), ?_, ⟨fun y hy => p1 y (List.mem_cons_of_mem _ hy), ?_, by omega⟩, ?_⟩
      · show s_clRank_L2 (N : Int) (ar (fun j => sat (U N D B j)) (N + 1)) c D B s (p : Int) (d : Int) (c.length : Int) (i : Int) (D.length : Int) (j : Int) = s_clRank_L2 (N : Int) (ar (fun j => sat (U N D B j)) (N + 1)) c D B (s + (if (n : Int) < (d : Int) ∧ p + n ≤ N then U N D B (p + n) else 0)) (p : Int) (d : Int) (c.length : Int) (i : Int) (D.length : Int) ((j + 1 : Nat) : Int)
        rw [s_clRank_u2, s_clRank_t2, decide_eq_true c1, decide_eq_true (Int.natCast_nonneg j), hrd, hw3, hw4]
        by_cases e1 : (n : Int) < (d : Int)
        · have e2 : p + n ≤ N := by omega
          rw [if_pos ⟨e1, e2⟩] at p3 ⊢
          have hU := U_nn G e2
          rw [decide_eq_true e1, ar_len, ar_rdk (show p + n < N + 1 by omega), decide_eq_true (Int.natCast_nonneg (p + n)), decide_eq_true (show ((p + n : Nat) : Int) < ((N + 1 : Nat) : Int) by omega), sat_id (show U N D B (p + n) ≤ 1000000000000000 by omega), wrapI (n := s + U N D B (p + n)) (by omega) (by omega)]
          rfl
        · rw [if_neg (fun h => e1 h.1), decide_eq_false e1, Int.add_zero]; rfl
      · split
        · rename_i h; have := U_nn G h.2; omega
        · omega
      · show s_clRank_L1 (N : Int) (ar (fun j => sat (U N D B j)) (N + 1)) c D B (s + (if (n : Int) < (d : Int) ∧ p + n ≤ N then U N D B (p + n) else 0) + lw N D B (D.drop (j + 1)) p (d : Int)) ((p + d : Nat) : Int) (c.length : Int) ((i + 1 : Nat) : Int) = _
        rw [Int.add_assoc]
theorem ri_loop (G : GoodS N D B) (c : List Int) (hc : c.length ≤ 10000) : ∀ (e i p : Nat) (s : Int), i + e = c.length → ¬ brk B p → Vd N D B p (c.drop i) → 0 ≤ s → s + U N D B p ≤ 1000000000000000 →
    i_RankOfClimb_L1 (N : Int) (ar (U N D B) (N + 1)) c D B s (p : Int) (c.length : Int) (i : Int) = some (s + rk N D B p (c.drop i), true) ∧ s_clRank_L1 (N : Int) (ar (fun j => sat (U N D B j)) (N + 1)) c D B s (p : Int) (c.length : Int) (i : Int) = some (s + rk N D B p (c.drop i))
  | 0, i, p, s, h, hb, hv, h0, h1 => by
    obtain rfl : i = c.length := by omega
    rw [i_RankOfClimb_u1, i_RankOfClimb_t1, s_clRank_u1, s_clRank_t1, decide_eq_false (show ¬ ((c.length : Int) < c.length) by omega), List.drop_length, rk, Int.add_zero]
    exact ⟨rfl, rfl⟩
  | e + 1, i, p, s, h, hb, hv, h0, h1 => by
    have hN := G.n2
    have hi : i < c.length := by omega
    have hrd := rdk_get (k := kint) hi
    rw [List.drop_eq_getElem_cons hi] at hv ⊢
    rw [i_RankOfClimb_u1, i_RankOfClimb_t1, s_clRank_u1, s_clRank_t1, decide_eq_true (show (i : Int) < c.length by omega), decide_eq_true (Int.natCast_nonneg i), hrd]
    generalize c[i] = d at *
    have hlt := vd_lt G hv
    obtain ⟨v1, v2, v3, v4⟩ := hv
    have hl := lw_U G hlt hb v1 v2
    have hln := lw_nn G D p d
    have hU := U_nn G v2
    obtain ⟨g1, g2⟩ := ri_in G hb v1 v2 c i hc hi s h0 (by omega)
    obtain ⟨i1, i2⟩ := ri_loop G c hc e (i + 1) (p + d.toNat) (s + lw N D B D p d) (by omega) v3 v4 (by omega) (by omega)
    rw [rk, ← Int.add_assoc]
    exact ⟨g1.trans i1, g2.trans i2⟩
noncomputable def ror (N : Nat) (D B c : List Int) : Int × Bool := bif cntB N D B && vd N D B 0 c then (rk N D B 0 c, true) else (0, false)
theorem iRor_eq (G : GoodS N D B) {c : List Int} (hc : c.length ≤ 10000) : i_RankOfClimb (N : Int) D B c = some (ror N D B c) := by
  unfold i_RankOfClimb i_RankOfClimb_t0 ror
  rw [counted_eq G, (isC_eq G hc).1, Option.bind_some]
  by_cases c1 : U N D B 0 ≤ 1000000000000000
  · rw [show cntB N D B = true from decide_eq_true c1]
    cases hv : vd N D B 0 c
    · rfl
    · have := (ri_loop G c hc c.length 0 0 0 (by omega) (brk_no G).1 ((vd_iff _ _).1 hv) (by omega) (by omega)).1
      rw [Int.zero_add] at this
      exact this
  · rw [show cntB N D B = false from decide_eq_false c1]; rfl
theorem sRor_eq (G : GoodS N D B) {c : List Int} (hc : c.length ≤ 10000) : s_RankOfClimb (N : Int) D B c = some (ror N D B c) := by
  unfold s_RankOfClimb s_clBoth s_clRank s_clRank_t0 ror
  rw [good_of G, clCounted_eq G, (isC_eq G hc).2, ways_eq G]
  simp only [cond_true, Option.bind_some]
  cases hv : vd N D B 0 c
  · rw [Bool.and_false]; rfl
  · by_cases c1 : U N D B 0 ≤ 1000000000000000
    · rw [show cntB N D B = true from decide_eq_true c1]
      have := (ri_loop G c hc c.length 0 0 0 (by omega) (brk_no G).1 ((vd_iff _ _).1 hv) (by omega) (by omega)).2
      rw [Int.zero_add] at this
      have t : s_clRank_L1 (N : Int) (ar (fun j => sat (U N D B j)) (N + 1)) c D B 0 0 (c.length : Int) 0 = some (rk N D B 0 c) := this
      rw [t]
      rfl
    · rw [show cntB N D B = false from decide_eq_false c1]; rfl
theorem ror_some {c : List Int} (h : (ror N D B c).2 = true) : U N D B 0 ≤ 1000000000000000 ∧ Vd N D B 0 c ∧ ror N D B c = (rk N D B 0 c, true) := by
  unfold ror at h ⊢
  cases h1 : cntB N D B
  · rw [h1] at h; cases h
  · cases h2 : vd N D B 0 c
    · rw [h1, h2] at h; cases h
    · exact ⟨of_decide_eq_true h1, (vd_iff _ _).1 h2, rfl⟩
noncomputable def nxc (N : Nat) (D B c : List Int) : List Int × Bool := bif (ror N D B c).2 then cor N D B (rk N D B 0 c + 1) else ([], false)
theorem nxc_both (G : GoodS N D B) {c : List Int} (hc : c.length ≤ 10000) : i_NextClimb (N : Int) D B c = some (nxc N D B c) ∧ s_NextClimb (N : Int) D B c = some (nxc N D B c) := by
  unfold i_NextClimb s_NextClimb nxc
  rw [iRor_eq G hc, sRor_eq G hc, Option.bind_some, Option.bind_some]
  cases h : (ror N D B c).2
  · exact ⟨rfl, rfl⟩
  · obtain ⟨h1, h2, h3⟩ := ror_some h
    have hb := rk_bd G c 0 (brk_no G).1 h2
    rw [h3]
    simp only [Bool.not_true, cond_false, cond_true]
    rw [wrapI (n := rk N D B 0 c + 1) (by omega) (by omega), iCor_eq G, sCor_eq G]
    exact ⟨rfl, rfl⟩
/-! steps -/
theorem st_loop (G : GoodS N D B) (c : List Int) (hc : c.length ≤ 10000) : ∀ (e i p : Nat) (acc : List Int), i + e = c.length → Vd N D B p (c.drop i) → acc.length ≤ 10000 →
    acc.length = i →
    i_StepsOfClimb_L1 acc c (p : Int) (c.length : Int) (i : Int) = some (acc ++ stp p (c.drop i), true) ∧ s_StepsOfClimb_L1 acc c (p : Int) (c.length : Int) (i : Int) = some (acc ++ stp p (c.drop i), true)
  | 0, i, p, acc, h, hv, ha, hai => by
    obtain rfl : i = c.length := by omega
    rw [i_StepsOfClimb_u1, i_StepsOfClimb_t1, s_StepsOfClimb_u1, s_StepsOfClimb_t1, decide_eq_false (show ¬ ((c.length : Int) < c.length) by omega), List.drop_length, stp, List.append_nil]
    exact ⟨rfl, rfl⟩
  | e + 1, i, p, acc, h, hv, ha, hai => by
    have hN := G.n2
    have hi : i < c.length := by omega
    have hrd := rdk_get (k := kint) hi
    have hw1 : IntKind.wrap .i64 ((i : Int) + 1) = ((i + 1 : Nat) : Int) := by rw [wrapI (by omega) (by omega)]; omega
    rw [List.drop_eq_getElem_cons hi] at hv ⊢
    rw [i_StepsOfClimb_u1, i_StepsOfClimb_t1, s_StepsOfClimb_u1, s_StepsOfClimb_t1, decide_eq_true (show (i : Int) < c.length by omega), decide_eq_true (Int.natCast_nonneg i), hrd, hw1, show Nat.ble (acc.length + 1) 4294967296 = true from (by rw [Nat.ble_eq]; omega)]
    generalize c[i] = x at *
    obtain ⟨v1, v2, v3, v4⟩ := hv
    obtain ⟨d, rfl, d1, d2⟩ := natOf (G.db x v1)
    rw [Int.toNat_natCast] at v2 v4
    have hw2 : IntKind.wrap .i64 ((p : Int) + (d : Int)) = ((p + d : Nat) : Int) := by rw [wrapI (by omega) (by omega)]; omega
    rw [hw2]
    obtain ⟨i1, i2⟩ := st_loop G c hc e (i + 1) (p + d) (acc ++ [((p + d : Nat) : Int)]) (by omega) v4 (by rw [List.length_append]; simp; omega) (by rw [List.length_append]; simp; omega)
    rw [stp, Int.toNat_natCast]
    rw [List.append_assoc] at i1 i2
    exact ⟨i1, i2⟩
noncomputable def soc (N : Nat) (D B c : List Int) : List Int × Bool := bif vd N D B 0 c then (stp 0 c, true) else ([], false)
theorem soc_both (G : GoodS N D B) {c : List Int} (hc : c.length ≤ 10000) : i_StepsOfClimb (N : Int) D B c = some (soc N D B c) ∧ s_StepsOfClimb (N : Int) D B c = some (soc N D B c) := by
  unfold i_StepsOfClimb s_StepsOfClimb i_StepsOfClimb_t0 s_StepsOfClimb_t0 s_clBoth soc
  rw [i_AreStairs_eq, good_of G, (isC_eq G hc).1, (isC_eq G hc).2]
  simp only [cond_true, Option.bind_some, Bool.not_true, cond_false]
  cases hv : vd N D B 0 c
  · exact ⟨rfl, rfl⟩
  · exact st_loop G c hc c.length 0 0 [] (by omega) ((vd_iff _ _).1 hv) (by simp) rfl
theorem stp_len : ∀ (c : List Int) (p : Nat), (stp p c).length = c.length
  | [], _ => rfl
  | d :: c, p => by rw [stp, List.length_cons, List.length_cons, stp_len c]
theorem stp_get : ∀ (c : List Int) (p i : Nat) (h : i < (stp p c).length), (∀ d, d ∈ c → 0 ≤ d) → (stp p c)[i] = p + sm (c.take (i + 1)) (fun x => x)
  | [], _, _, h, _ => by simp [stp] at h
  | d :: c, p, 0, h, hd => by
    have := hd d (by simp)
    show ((p + d.toNat : Nat) : Int) = _
    rw [List.take_succ_cons, sm, List.take_zero, sm]; omega
  | d :: c, p, i + 1, h, hd => by
    have h0 := hd d (by simp)
    have h' : i < (stp (p + d.toNat) c).length := by rw [stp, List.length_cons] at h; omega
    have := stp_get c (p + d.toNat) i h' (fun x hx => hd x (List.mem_cons_of_mem _ hx))
    have e : (stp p (d :: c))[i + 1] = (stp (p + d.toNat) c)[i] := rfl
    rw [e, this, List.take_succ_cons, sm]; omega
theorem vd_sm (G : GoodS N D B) : ∀ (c : List Int) (p : Nat), Vd N D B p c → (p : Int) + sm c (fun x => x) = N
  | [], p, h => by
    have h : p = N := h
    subst h; rw [sm]; omega
  | d :: c, p, h => by
    obtain ⟨v1, v2, v3, v4⟩ := h
    have := vd_sm G c _ v4
    have := (G.db d v1).1
    rw [sm]; omega
theorem vd_mem (G : GoodS N D B) : ∀ (c : List Int) (p : Nat), Vd N D B p c → ∀ d, d ∈ c → d ∈ D
  | [], _, _, d, h => absurd h List.not_mem_nil
  | x :: c, p, h, d, hd => by
    rcases List.mem_cons.1 hd with rfl | hd
    · exact h.1
    · exact vd_mem G c _ h.2.2.2 d hd
theorem stp_brk : ∀ (c : List Int) (p : Nat), Vd N D B p c → ∀ x, x ∈ stp p c → x ∉ B
  | [], _, _, x, h => by simp [stp] at h
  | d :: c, p, h, x, hx => by
    rw [stp] at hx
    rcases List.mem_cons.1 hx with rfl | hx
    · exact h.2.2.1
    · exact stp_brk c _ h.2.2.2 x hx
end
/-! ### what the law compares with -/
theorem lSame_eq {a b : List Int} (ha : a.length ≤ 100000) : w_lSame a b = some (decide (a = b)) := by
  unfold w_lSame w_lSame_t0
  by_cases hl : a.length = b.length
  · rw [show ((a.length : Int) != (b.length : Int)) = false from (by rw [hl]; exact bne_self_eq_false _)]
    have key : ∀ (e i : Nat), i + e = a.length → w_lSame_L1 a b (a.length : Int) (i : Int) = some (decide (a.drop i = b.drop i)) := by
      intro e
      induction e with
      | zero =>
        intro i h
        obtain rfl : i = a.length := by omega
        rw [w_lSame_u1, w_lSame_t1, decide_eq_false (show ¬ ((a.length : Int) < a.length) by omega), List.drop_length, show b.drop a.length = [] from (by rw [hl]; exact List.drop_length)]
        rfl
      | succ e ih =>
        intro i h
        have hi : i < a.length := by omega
        have hi2 : i < b.length := by omega
        rw [w_lSame_u1, w_lSame_t1, decide_eq_true (show (i : Int) < a.length by omega), decide_eq_true (show (i : Int) < b.length by omega), decide_eq_true (Int.natCast_nonneg i), rdk_get (k := kint) hi, rdk_get (k := kint) hi2, wrapI (n := (i : Int) + 1) (by omega) (by omega), List.drop_eq_getElem_cons hi, List.drop_eq_getElem_cons hi2]
        by_cases c : a[i] = b[i]
        · rw [show (a[i] != b[i]) = false from (by rw [c]; exact bne_self_eq_false _)]
          have := ih (i + 1) (by omega)
          rw [show ((i + 1 : Nat) : Int) = (i : Int) + 1 from by omega] at this
          simp only [cond_true, cond_false]
          rw [this]
          congr 1
          exact decide_eq_decide.2 ⟨fun h => by rw [c, h], fun h => (List.cons.inj h).2⟩
        · rw [show (a[i] != b[i]) = true from (by rw [bne_iff_ne]; exact c), decide_eq_false (fun h => c (List.cons.inj h).1)]
          rfl
    exact key a.length 0 (by omega)
  · rw [show ((a.length : Int) != (b.length : Int)) = true from (by rw [bne_iff_ne]; omega), decide_eq_false (fun h => hl (by rw [h]))]
    rfl
theorem lSame_refl {a : List Int} (ha : a.length ≤ 100000) : w_lSame a a = some true := by rw [lSame_eq ha, decide_eq_true rfl]
theorem lBef_eq {a b : List Int} (ha : a.length ≤ 100000) : w_lBefore a b = some (bef a b) := by
  unfold w_lBefore w_lBefore_t0
  have key : ∀ (e i : Nat), i + e = a.length → i ≤ b.length → w_lBefore_L1 a b (i : Int) = some (bef (a.drop i) (b.drop i)) := by
    intro e
    induction e with
    | zero =>
      intro i h hb
      obtain rfl : i = a.length := by omega
      rw [w_lBefore_u1, w_lBefore_t1, decide_eq_false (show ¬ ((a.length : Int) < a.length) by omega), List.drop_length, decide_eq_true (show (a.length : Int) ≤ b.length by omega), bef]
      rfl
    | succ e ih =>
      intro i h hb
      have hi : i < a.length := by omega
      rw [w_lBefore_u1, w_lBefore_t1, decide_eq_true (show (i : Int) < a.length by omega), List.drop_eq_getElem_cons hi]
      by_cases c0 : i < b.length
      · rw [decide_eq_true (show (i : Int) < b.length by omega), decide_eq_true (Int.natCast_nonneg i), rdk_get (k := kint) hi, rdk_get (k := kint) c0, wrapI (n := (i : Int) + 1) (by omega) (by omega), List.drop_eq_getElem_cons c0, bef]
        by_cases c : a[i] = b[i]
        · rw [show (a[i] != b[i]) = false from (by rw [c]; exact bne_self_eq_false _), if_pos c]
          have := ih (i + 1) (by omega) (by omega)
          rw [show ((i + 1 : Nat) : Int) = (i : Int) + 1 from by omega] at this
          exact this
        · rw [show (a[i] != b[i]) = true from (by rw [bne_iff_ne]; exact c), if_neg c]
          rfl
      · rw [decide_eq_false (show ¬ (i : Int) < b.length by omega), decide_eq_false (show ¬ (a.length : Int) ≤ b.length by omega), show b.drop i = [] from List.drop_eq_nil_of_le (by omega), bef]
        rfl
  exact key a.length 0 (by omega) (by omega)
theorem lHas_eqC {a : List Int} (ha : a.length ≤ 100000) (n : Int) : w_lHas a n = some (decide (n ∈ a)) := by
  unfold w_lHas w_lHas_t0
  refine drop_ind a (fun i l => w_lHas_L1 a n (a.length : Int) (i : Int) = some (decide (n ∈ l))) ?_ (fun i hi ih => ?_)
  · have : ¬ ((a.length : Int) < a.length) := by omega
    rw [w_lHas_u1, w_lHas_t1, decide_eq_false this]; simp
  · have c1 : (i : Int) < a.length := by omega
    rw [w_lHas_u1, w_lHas_t1, decide_eq_true c1, decide_eq_true (Int.natCast_nonneg i), rdk_get (k := kint) hi, wrapI (n := (i : Int) + 1) (by omega) (by omega)]
    simp only [cond_true]
    by_cases h : a[i] = n
    · rw [show (a[i] == n) = true from beq_iff_eq.2 h, decide_eq_true (show n ∈ a[i] :: a.drop (i + 1) from by rw [h]; exact List.mem_cons_self)]; rfl
    · rw [show (a[i] == n) = false from beq_eq_false_iff_ne.2 h, cond_false]
      have e : decide (n ∈ a[i] :: a.drop (i + 1)) = decide (n ∈ a.drop (i + 1)) := decide_eq_decide.2 ⟨fun m => (List.mem_cons.1 m).resolve_left (fun e => h e.symm), fun m => List.mem_cons_of_mem _ m⟩
      rw [e]
      exact ih
theorem lSum_eq {a : List Int} (hl : a.length ≤ 100000) (ha : ∀ x, x ∈ a → 0 ≤ x ∧ x ≤ 1000) : w_lSum a = some (sm a (fun x => x)) := by
  unfold w_lSum w_lSum_t0
  have key := loop_inv (L := fun i s => w_lSum_L1 a s (a.length : Int) (i : Int)) (l := a) (e := fun l s => some (s + sm l (fun x => x)))
    (P := fun l s => (∀ x, x ∈ l → 0 ≤ x ∧ x ≤ 1000) ∧ 0 ≤ s ∧ s + 1000 * l.length ≤ 100000000) ?_ ?_ 0 ⟨ha, by omega, by omega⟩
  · rw [Int.zero_add] at key; exact key
  · intro s _
    show w_lSum_L1 a s (a.length : Int) (a.length : Int) = some (s + 0)
    rw [w_lSum_u1, w_lSum_t1, decide_eq_false (show ¬ ((a.length : Int) < a.length) by omega), Int.add_zero]; rfl
  · rintro i hi s ⟨p1, p2, p3⟩
    have hx := p1 a[i] List.mem_cons_self
    rw [List.length_cons] at p3
    refine ⟨s + a[i], ?_, ⟨fun y hy => p1 y (List.mem_cons_of_mem _ hy), by omega, by omega⟩, ?_⟩
    · show w_lSum_L1 a s (a.length : Int) (i : Int) = w_lSum_L1 a (s + a[i]) (a.length : Int) ((i + 1 : Nat) : Int)
      rw [w_lSum_u1, w_lSum_t1, decide_eq_true (show (i : Int) < a.length by omega), decide_eq_true (Int.natCast_nonneg i), rdk_get (k := kint) hi, wrapI (n := (i : Int) + 1) (by omega) (by omega), wrapI (n := s + a[i]) (by omega) (by omega)]
      rfl
    · show some (s + a[i] + sm (a.drop (i + 1)) (fun x => x)) = some (s + sm (a[i] :: a.drop (i + 1)) (fun x => x))
      rw [sm, Int.add_assoc]
theorem lRises_eq {a : List Int} (hl : a.length ≤ 100000) (h : ∀ (i : Nat) (h : i + 1 < a.length), a[i] < a[i + 1]) : w_lRises a = some true := by
  unfold w_lRises w_lRises_t0
  have key : ∀ (e i : Nat), i + e = a.length → 1 ≤ i → w_lRises_L1 a (i : Int) = some true := by
    intro e
    induction e with
    | zero =>
      intro i hi h1
      rw [w_lRises_u1, w_lRises_t1, decide_eq_false (show ¬ (i : Int) < a.length by omega)]; rfl
    | succ e ih =>
      intro i hi h1
      obtain ⟨i, rfl⟩ : ∃ j, i = j + 1 := ⟨i - 1, by omega⟩
      have h2 := h i (by omega)
      have hw : IntKind.wrap .i64 (((i + 1 : Nat) : Int) - 1) = (i : Int) := by rw [wrapI (by omega) (by omega)]; omega
      rw [w_lRises_u1, w_lRises_t1, hw, decide_eq_true (show ((i + 1 : Nat) : Int) < a.length by omega), decide_eq_true (show (i : Int) < a.length by omega), decide_eq_true (Int.natCast_nonneg i), decide_eq_true (Int.natCast_nonneg (i + 1)), rdk_get (k := kint) (show i < a.length by omega), rdk_get (k := kint) (show i + 1 < a.length by omega), decide_eq_false (show ¬ a[i] ≥ a[i + 1] by omega), wrapI (n := ((i + 1 : Nat) : Int) + 1) (by omega) (by omega)]
      exact ih (i + 1 + 1) (by omega) (by omega)
  rcases Nat.eq_zero_or_pos a.length with h0 | h0
  · rw [show a = [] from List.eq_nil_of_length_eq_zero h0, w_lRises_u1, w_lRises_t1]; rfl
  · exact key (a.length - 1) 1 (by omega) (by omega)
/-! ### what the laws ask -/
theorem s_bad {a : Int} {D B : List Int} (hg : s_clGood a D B = false) (r : Int) : i_ClimbOfRank a D B r = some ([], false) ∧ s_ClimbOfRank a D B r = some ([], false) ∧ i_CountClimbs a D B = some (0, false) ∧ s_CountClimbs a D B = some (0, false) ∧
    i_FirstClimb a D B = some ([], false) ∧ s_FirstClimb a D B = some ([], false) ∧ i_FewestStrides a D B = some (0, false) ∧ s_FewestStrides a D B = some (0, false) ∧ i_MostStrides a D B = some (0, false) ∧ s_MostStrides a D B = some (0, false) ∧
    i_FirstFewest a D B = some ([], false) ∧ s_FirstFewest a D B = some ([], false) := by
  unfold i_ClimbOfRank s_ClimbOfRank s_ClimbOfRank_t0 i_CountClimbs s_CountClimbs i_counted s_clCounted i_FirstClimb s_FirstClimb s_FirstClimb_t0 i_FewestStrides i_MostStrides i_MostStrides_t0 s_MostStrides i_FirstFewest i_FirstFewest_t0 s_FirstFewest s_FirstFewest_t0 s_FewestStrides
  rw [i_AreStairs_eq, hg]
  exact ⟨rfl, rfl, rfl, rfl, rfl, rfl, rfl, rfl, rfl, rfl, rfl, rfl⟩
section
variable {N : Nat} {D B : List Int}
theorem vd_few (G : GoodS N D B) {c : List Int} (h : Vd N D B 0 c) : 0 ≤ few N D B ∧ few N D B ≤ c.length ∧ (c.length : Int) ≤ most N D B ∧ c.length ≤ 60 := by
  obtain ⟨h1, h2⟩ := vd_len G c 0 (brk_no G).1 h
  have hN := G.n2
  have hf : few N D B = LF N D B false 0 := rfl
  have hm : most N D B = LF N D B true 0 := rfl
  rcases LFb G false (Nat.zero_le N) with ⟨_, k⟩ | ⟨m, k1, k2, k3⟩
  · exact absurd h1 (k _)
  · rcases LFb G true (Nat.zero_le N) with ⟨_, k⟩ | ⟨n, l1, l2, l3⟩
    · exact absurd h1 (k _)
    · have e1 := k3 _ h1
      have e2 := l3 _ h1
      simp only [Bool.false_eq_true, if_false] at e1
      simp only [if_true] at e2
      omega
theorem few_U (G : GoodS N D B) : (0 < U N D B 0 ↔ 0 ≤ few N D B) ∧ (0 < U N D B 0 ↔ 0 ≤ most N D B) := by
  have hs := HH_sum G N 0 (by omega) (N + 1) (by omega)
  have key : 0 < U N D B 0 ↔ ∃ j, 0 < HH N D B j 0 := by
    rw [← hs]
    constructor
    · intro h
      obtain ⟨j, _, hj⟩ := sm_pos (fun j _ => HH_nn N D B j 0) h
      exact ⟨j, hj⟩
    · rintro ⟨j, hj⟩
      have hjN : j ≤ N := by
        apply Classical.byContradiction
        intro hc
        rw [HH_far G j 0 (by omega) (by omega)] at hj
        omega
      exact Int.lt_of_lt_of_le hj (sm_mem_le (f := fun j => HH N D B j 0) (l := List.range (N + 1)) (x := j) (fun j _ => HH_nn N D B j 0) (List.mem_range.2 (by omega)))
  have hf : few N D B = LF N D B false 0 := rfl
  have hm : most N D B = LF N D B true 0 := rfl
  rw [key]
  constructor
  · rcases LFb G false (Nat.zero_le N) with ⟨h1, k⟩ | ⟨m, k1, k2, k3⟩
    · exact ⟨fun ⟨j, hj⟩ => absurd hj (k j), fun h => by omega⟩
    · exact ⟨fun _ => by omega, fun _ => ⟨m, k2⟩⟩
  · rcases LFb G true (Nat.zero_le N) with ⟨h1, k⟩ | ⟨m, k1, k2, k3⟩
    · exact ⟨fun ⟨j, hj⟩ => absurd hj (k j), fun h => by omega⟩
    · exact ⟨fun _ => by omega, fun _ => ⟨m, k2⟩⟩
theorem few_most (G : GoodS N D B) (h : 0 ≤ few N D B) : 1 ≤ few N D B ∧ few N D B ≤ most N D B := by
  obtain ⟨h1, h2⟩ := ffw_vd G N 0 (by omega) (by omega) h
  obtain ⟨_, h3, h4, _⟩ := vd_few G h1
  have hf : few N D B = LF N D B false 0 := rfl
  refine ⟨?_, by omega⟩
  rcases LFb G false (Nat.zero_le N) with ⟨h1, k⟩ | ⟨m, k1, k2, k3⟩
  · omega
  · rcases m with _ | m
    · have k2 : 0 < HH N D B 0 0 := k2
      rw [HH_zero, if_neg (by have := G.n1; omega)] at k2; omega
    · omega
/-- the numbers of climbs by strides -/
theorem byS_facts (G : GoodS N D B) {k : Nat} : 0 ≤ byS N D B k ∧ (k ≤ N → byS N D B k ≤ U N D B 0) ∧ ((k : Int) < few N D B → byS N D B k = 0) ∧ (0 ≤ most N D B → (k : Int) > most N D B → byS N D B k = 0) ∧
    ((k : Int) = few N D B → 1 ≤ byS N D B k) ∧ ((k : Int) = most N D B → 1 ≤ byS N D B k) := by
  have hf : few N D B = LF N D B false 0 := rfl
  have hm : most N D B = LF N D B true 0 := rfl
  have e : byS N D B k = HH N D B k 0 := FF_HH G k
  have hn := HH_nn N D B k 0
  refine ⟨by omega, fun hk => ?_, ?_, ?_, ?_, ?_⟩
  · rw [← byS_sum G]
    exact sm_mem_le (f := fun j => FF N D B j N) (l := List.range (N + 1)) (x := k) (fun j _ => FF_nn N D B j N) (List.mem_range.2 (by omega))
  · intro h
    rcases LFb G false (Nat.zero_le N) with ⟨h1, _⟩ | ⟨m, k1, k2, k3⟩
    · omega
    · apply Classical.byContradiction
      intro hc
      have := k3 k (show 0 < HH N D B k 0 by omega)
      simp only [Bool.false_eq_true, if_false] at this
      omega
  · intro _ h
    rcases LFb G true (Nat.zero_le N) with ⟨h1, _⟩ | ⟨m, k1, k2, k3⟩
    · omega
    · apply Classical.byContradiction
      intro hc
      have := k3 k (show 0 < HH N D B k 0 by omega)
      simp only [if_true] at this
      omega
  · intro h
    rcases LFb G false (Nat.zero_le N) with ⟨h1, _⟩ | ⟨m, k1, k2, k3⟩
    · omega
    · have : m = k := by omega
      subst this
      have k2 : 0 < HH N D B m 0 := k2
      omega
  · intro h
    rcases LFb G true (Nat.zero_le N) with ⟨h1, _⟩ | ⟨m, k1, k2, k3⟩
    · omega
    · have : m = k := by omega
      subst this
      have k2 : 0 < HH N D B m 0 := k2
      omega
theorem iCbs_good (G : GoodS N D B) (hc : U N D B 0 ≤ 1000000000000000) {k : Nat} (hk : k ≤ N) : i_CountByStrides (N : Int) D B (k : Int) = some (byS N D B k, true) := by
  unfold i_CountByStrides
  rw [counted_eq G, byS_eq2 G, Option.bind_some, Option.bind_some, show cntB N D B = true from decide_eq_true hc, decide_eq_false (show ¬ (k : Int) < 0 by omega), decide_eq_false (show ¬ (k : Int) > N by omega), decide_eq_true (Int.natCast_nonneg k), ar_len, ar_rdk (show k < N + 1 by omega), decide_eq_true (show (k : Int) < ((N + 1 : Nat) : Int) by omega)]
  rfl
/-! turned -/
theorem turned (G : GoodS N D B) : GoodS N D (B.map fun x => (N : Int) - x).reverse ∧ ∀ k, k ≤ N → (brk (B.map fun x => (N : Int) - x).reverse k ↔ brk B (N - k)) := by
  constructor
  · refine ⟨G.n1, G.n2, G.d1, G.d2, G.dp, G.db, ?_, ?_⟩
    · rw [List.pairwise_reverse, List.pairwise_map]
      exact G.bp.imp (fun h => by omega)
    · intro b hb
      rw [List.mem_reverse] at hb
      obtain ⟨x, hx, rfl⟩ := List.mem_map.1 hb
      have := G.bb x hx
      omega
  · intro k hk
    unfold brk
    rw [List.mem_reverse, List.mem_map]
    constructor
    · rintro ⟨x, hx, h⟩
      rw [show ((N - k : Nat) : Int) = x from by omega]; exact hx
    · intro h
      exact ⟨_, h, by omega⟩
theorem CountTurned (G : GoodS N D B) (hc : U N D B 0 ≤ 1000000000000000) : i_CountClimbs (i_TurnStairs_n (N : Int) D B).1.1 (i_TurnStairs_n (N : Int) D B).1.2.1 (i_TurnStairs_n (N : Int) D B).1.2.2 = some (U N D B 0, true) ∧ (i_TurnStairs_n (N : Int) D B).2 = true := by
  unfold i_TurnStairs_n
  rw [good_of G]
  obtain ⟨G', hb⟩ := turned G
  have h := U_mirror G G' hb
  have h2 := (CountClimbs_eq G').1
  rw [show cntB N D (B.map fun x => (N : Int) - x).reverse = true from decide_eq_true (by rw [h]; exact hc), h] at h2
  exact ⟨h2, rfl⟩
end
theorem cbs_both (a : Int) (D B : List Int) (m : Int) : ∃ r, i_CountByStrides a D B m = some r ∧ s_CountByStrides a D B m = some r := by
  cases hg : s_clGood a D B
  · refine ⟨(0, false), ?_, ?_⟩
    · unfold i_CountByStrides i_counted; rw [i_AreStairs_eq, hg]; rfl
    · unfold s_CountByStrides s_clCounted; rw [hg]; rfl
  · obtain ⟨N, rfl, G⟩ := goodS_of hg
    unfold i_CountByStrides s_CountByStrides
    rw [counted_eq G, clCounted_eq G, Option.bind_some, Option.bind_some]
    by_cases hc : U N D B 0 ≤ 1000000000000000
    · rw [show cntB N D B = true from decide_eq_true hc]
      by_cases h1 : m < 0
      · rw [decide_eq_true h1]; exact ⟨_, rfl, rfl⟩
      · rw [decide_eq_false h1]
        by_cases h2 : m > N
        · rw [decide_eq_true h2]; exact ⟨_, rfl, rfl⟩
        · obtain ⟨k, rfl⟩ : ∃ k : Nat, m = k := ⟨m.toNat, by omega⟩
          have hk : k ≤ N := by omega
          have hb := (byS_facts G (k := k)).2.1 hk
          rw [decide_eq_false h2, byS_eq2 G, clMany_eq G hk, Option.bind_some, Option.bind_some, decide_eq_true (Int.natCast_nonneg k), ar_len, ar_rdk (show k < N + 1 by omega), decide_eq_true (show (k : Int) < ((N + 1 : Nat) : Int) by omega), sat_id (show FF N D B k N ≤ 1000000000000000 from Int.le_trans hb hc)]
          exact ⟨_, rfl, rfl⟩
    · rw [show cntB N D B = false from decide_eq_false hc]; exact ⟨_, rfl, rfl⟩
theorem cor_len {N : Nat} {D B : List Int} (G : GoodS N D B) (r : Int) : (cor N D B r).1.length ≤ 60 := by
  unfold cor
  by_cases c : U N D B 0 ≤ 1000000000000000 ∧ 0 ≤ r ∧ r < U N D B 0
  · rw [if_pos c]
    exact (vd_few G (ofR_vd G N 0 r (by omega) (by omega) c.2.1 c.2.2).1).2.2.2
  · rw [if_neg c]; simp
theorem t_all (a : Int) (D B c : List Int) (hc : c.length ≤ 10000) : ∃ (rr : Int × Bool) (is : Bool × Bool) (st nx : List Int × Bool), i_RankOfClimb a D B c = some rr ∧ s_RankOfClimb a D B c = some rr ∧ i_IsClimb a D B c = some is ∧ s_IsClimb a D B c = some is ∧ i_StepsOfClimb a D B c = some st ∧ s_StepsOfClimb a D B c = some st ∧
    i_NextClimb a D B c = some nx ∧ s_NextClimb a D B c = some nx ∧ st.2 = (is.2 && is.1) ∧ (rr.2 = true → st.2 = true ∧ i_ClimbOfRank a D B rr.1 = some (c, true)) ∧ (st.2 = true → ∃ N : Nat, a = N ∧ GoodS N D B ∧ Vd N D B 0 c ∧ st.1 = stp 0 c) ∧ st.1.length ≤ 10000 ∧ nx.1.length ≤ 10000 := by
  cases hg : s_clGood a D B
  · refine ⟨(0, false), (false, false), ([], false), ([], false), ?_, ?_, ?_, ?_, ?_, ?_, ?_, ?_, rfl, (fun h => by cases h), (fun h => by cases h), by simp, by simp⟩
    · unfold i_RankOfClimb i_RankOfClimb_t0 i_counted; rw [i_AreStairs_eq, hg]; rfl
    · unfold s_RankOfClimb s_clBoth; rw [hg]; rfl
    · unfold i_IsClimb; rw [i_AreStairs_eq, hg]; rfl
    · unfold s_IsClimb; rw [hg]; rfl
    · unfold i_StepsOfClimb i_StepsOfClimb_t0; rw [i_AreStairs_eq, hg]; rfl
    · unfold s_StepsOfClimb s_StepsOfClimb_t0 s_clBoth; rw [hg]; rfl
    · unfold i_NextClimb i_RankOfClimb i_RankOfClimb_t0 i_counted; rw [i_AreStairs_eq, hg]; rfl
    · unfold s_NextClimb s_RankOfClimb s_clBoth; rw [hg]; rfl
  · obtain ⟨N, rfl, G⟩ := goodS_of hg
    refine ⟨ror N D B c, (vd N D B 0 c, true), soc N D B c, nxc N D B c, iRor_eq G hc, sRor_eq G hc, ?_, ?_, (soc_both G hc).1, (soc_both G hc).2, (nxc_both G hc).1, (nxc_both G hc).2, ?_, ?_, ?_, ?_, ?_⟩
    · unfold i_IsClimb; rw [i_AreStairs_eq, hg, (isC_eq G hc).1]; rfl
    · unfold s_IsClimb; rw [hg, (isC_eq G hc).2]; rfl
    · unfold soc; cases vd N D B 0 c <;> rfl
    · intro h
      obtain ⟨h1, h2, h3⟩ := ror_some h
      have hb := rk_bd G c 0 (brk_no G).1 h2
      refine ⟨?_, ?_⟩
      · unfold soc; rw [(vd_iff c 0).2 h2]; rfl
      · rw [h3, iCor_eq G]
        unfold cor
        rw [if_pos ⟨h1, hb⟩]
        rw [ofR_rk G c N 0 (brk_no G).1 h2 (by omega)]
    · intro h
      unfold soc at h ⊢
      cases hv : vd N D B 0 c
      · rw [hv] at h; cases h
      · exact ⟨N, rfl, G, (vd_iff c 0).1 hv, rfl⟩
    · unfold soc
      cases vd N D B 0 c
      · simp
      · show (stp 0 c).length ≤ 10000; rw [stp_len]; exact hc
    · unfold nxc
      cases (ror N D B c).2
      · simp
      · have := cor_len G (rk N D B 0 c + 1)
        show (cor N D B (rk N D B 0 c + 1)).1.length ≤ 10000; omega
end Go.Proofs.Ythenlapjhlljnaa.V
