/- Small laws for the plain functions. -/
import Derived.Test.YtmiimfpdlkmjhaaGreatDoorEvLaw
import Derived.Test.YtmiimfpdlkmjhaaGreatDoorEvDraw
set_option linter.unusedVariables false
namespace Go.Ev
open Go

theorem wrap64 {n : Int} (h1 : -9223372036854775808 ≤ n) (h2 : n ≤ 9223372036854775807) : IntKind.wrap .i64 n = n := by
  unfold IntKind.wrap
  simp [IntKind.signed, IntKind.bits]
  omega
theorem rdk_get {k : Kd} {xs : List k.Ty} {i : Nat} (h : i < xs.length) : rdk k xs (i : Int) = xs[i] := by
  unfold rdk
  rw [Int.toNat_natCast, List.getD_eq_getElem?_getD, List.getElem?_eq_getElem h]
  rfl
theorem rdk_set {k : Kd} {xs : List k.Ty} {i : Nat} {v : k.Ty} (h : i < xs.length) : rdk k (xs.set i v) (i : Int) = v := by
  rw [rdk_get (by simpa using h)]
  simp
theorem ble_dec (a b : Nat) : Nat.ble a b = decide (a ≤ b) := by
  by_cases h : a ≤ b
  · rw [Nat.ble_eq_true_of_le h]; simp [h]
  · have : Nat.ble a b = false := by
      cases hb : Nat.ble a b
      · rfl
      · exact absurd (Nat.le_of_ble_eq_true hb) h
    rw [this]; simp [h]
/-- an index that goes back -/
theorem maxLen_eq : maxLen = 9223372036854775807 := rfl
theorem G_succ (c : FnCx) (n : Nat) : c.G (n + 1) = c.round (c.G n) := rfl
/-- an index that goes on -/
theorem wrapS {i n : Nat} (h : i < n) (hn : n ≤ maxLen) : IntKind.wrap .i64 ((i : Int) + 1) = ((i + 1 : Nat) : Int) := by
  rw [maxLen_eq] at hn
  rw [wrap64 (by omega) (by omega)]
  rfl

theorem wrapP {i n : Nat} (h : i < n) (hn : n ≤ maxLen) (h0 : i ≠ 0) : IntKind.wrap .i64 ((i : Int) - 1) = ((i - 1 : Nat) : Int) := by
  rw [maxLen_eq] at hn
  rw [wrap64 (by omega) (by omega)]
  omega
/-- whole numbers that are small stay as they are -/
theorem wrapI {n : Int} (h1 : -9223372036854775808 ≤ n) (h2 : n ≤ 9223372036854775807) : IntKind.wrap .i64 n = n := wrap64 h1 h2

section
variable {α β σ : Type}
theorem drop_ind (l : List α) (Q : Nat → List α → Prop) (h0 : Q l.length []) (h1 : ∀ (i : Nat) (h : i < l.length), Q (i + 1) (l.drop (i + 1)) → Q i (l[i] :: l.drop (i + 1))) : Q 0 l := by
  have : ∀ d i, l.length - i = d → i ≤ l.length → Q i (l.drop i) := by
    intro d
    induction d with
    | zero =>
      intro i h1' h2'
      have : i = l.length := by omega
      subst this
      simpa using h0
    | succ d ih =>
      intro i h1' h2'
      rw [List.drop_eq_getElem_cons (by omega : i < l.length)]
      exact h1 i (by omega) (ih (i + 1) (by omega) (by omega))
  exact this l.length 0 (by omega) (by omega)
/-- a loop over a list that ends at the first element of which something holds -/
theorem loop_any {L : Nat → Option β} {l : List α} {p : α → Bool} {a b : β} (hs : ∀ (i : Nat) (h : i < l.length), L i = bif p l[i] then some a else L (i + 1)) (he : L l.length = some b) : L 0 = some (bif l.any p then a else b) := by
  refine drop_ind l (fun i r => L i = some (bif r.any p then a else b)) he (fun i h ih => ?_)
  rw [hs i h, ih, List.any_cons]
  cases p l[i] <;> rfl
/-- the same, the place told -/
def idxF (p : α → Bool) : List α → Nat → Int
  | [], _ => -1
  | x :: l, i => bif p x then (i : Int) else idxF p l (i + 1)
theorem loop_idx {L : Nat → Option Int} {l : List α} {p : α → Bool} (hs : ∀ (i : Nat) (h : i < l.length), L i = bif p l[i] then some (i : Int) else L (i + 1)) (he : L l.length = some (-1)) : L 0 = some (idxF p l 0) := by
  refine drop_ind l (fun i r => L i = some (idxF p r i)) he (fun i h ih => ?_)
  rw [hs i h, ih, idxF]
  cases p l[i] <;> rfl
theorem idxF_any (p : α → Bool) : ∀ (l : List α) (i : Nat), decide (idxF p l i ≥ 0) = l.any p
  | [], _ => by simp [idxF]
  | x :: l, i => by
    rw [idxF, List.any_cons]
    cases p x
    · simpa using idxF_any p l (i + 1)
    · simp
/-- a loop that goes over a list -/
theorem loop_fold {L : Nat → σ → Option β} {l : List α} {f : σ → α → σ} {e : σ → β} (hs : ∀ (i : Nat) (h : i < l.length) s, L i s = L (i + 1) (f s l[i])) (he : ∀ s, L l.length s = some (e s)) (s : σ) : L 0 s = some (e (l.foldl f s)) := by
  refine drop_ind l (fun i r => ∀ s, L i s = some (e (r.foldl f s))) he (fun i h ih s => ?_) s
  rw [hs i h, ih]
  rfl
/-- two lists are compared -/
theorem loop_eq [DecidableEq α] {L : Nat → Option Bool} {a b : List α} (hl : a.length = b.length) (hs : ∀ (i : Nat) (h : i < a.length) (h' : i < b.length), L i = bif decide (a[i] = b[i]) then L (i + 1) else some false) (he : L a.length = some true) : L 0 = some (decide (a = b)) := by
  have e : L 0 = some (decide (a = b.drop 0)) := by
    refine drop_ind a (fun i r => L i = some (decide (r = b.drop i))) ?_ (fun i h ih => ?_)
    · rw [he, List.drop_eq_nil_of_le (by omega)]; simp
    · have h' : i < b.length := by omega
      rw [hs i h h', ih, List.drop_eq_getElem_cons h']
      simp only [List.cons.injEq]
      cases hx : decide (a[i] = b[i])
      · have := of_decide_eq_false hx; simp [this]
      · have := of_decide_eq_true hx; simp [this]
  simpa using e
/-- a row is filled -/
theorem loop_set {γ : Type} {L : Nat → List γ → Option β} {l : List α} {f : α → γ} {e : List γ → β} (hs : ∀ (i : Nat) (h : i < l.length) r, r.length = l.length → L i r = L (i + 1) (r.set i (f l[i]))) (he : ∀ r, L l.length r = some (e r))
    (r : List γ) (hr : r.length = l.length) : L 0 r = some (e (l.map f)) := by
  have h : ∀ r : List γ, r.length = l.length → L 0 r = some (e (r.take 0 ++ l.map f)) := by
    refine drop_ind l (fun i t => ∀ r : List γ, r.length = l.length → L i r = some (e (r.take i ++ t.map f))) (fun r hr => ?_) (fun i h ih r hr => ?_)
    · rw [he, ← hr]; simp
    · rw [hs i h r hr, ih _ (by simpa using hr), List.take_add_one, List.take_set_of_le (Nat.le_refl i), List.map_cons, List.append_assoc]
      simp only [List.getElem?_set, hr, h]
      rfl
  simpa using h r hr
end

end Go.Ev
