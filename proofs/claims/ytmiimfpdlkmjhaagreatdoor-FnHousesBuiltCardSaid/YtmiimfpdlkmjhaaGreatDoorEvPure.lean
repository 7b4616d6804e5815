/- Plain functions on lists and numbers, and what is true of them. No program in sight. -/
import Derived.Test.YtmiimfpdlkmjhaaGreatDoorEvPlain
set_option linter.unusedVariables false
namespace Go.Ev
open Go

/-! ### marks -/
def markL : List Int → Int → List Int
  | [], _ => []
  | _ :: l, k => k :: markL l (IntKind.wrap .i64 (k + 1))
def markK : List Int → Int → Int
  | [], k => k
  | _ :: l, k => markK l (IntKind.wrap .i64 (k + 1))
def heldL : List Int → Int → Int
  | [], k => k
  | x :: l, k => bif x != k then -1 else heldL l (IntKind.wrap .i64 (k + 1))
theorem held_mark : ∀ (l : List Int) (k : Int), heldL (markL l k) k = markK l k
  | [], _ => rfl
  | x :: l, k => by simp [heldL, markL, markK, held_mark l]
theorem markL_len : ∀ (l : List Int) (k : Int), (markL l k).length = l.length
  | [], _ => rfl
  | _ :: l, k => by simp [markL, markL_len l]
theorem markK_eq : ∀ (l : List Int) (k : Int), 0 ≤ k → k + l.length ≤ 9223372036854775807 → markK l k = k + l.length
  | [], k, _, _ => by simp [markK]
  | x :: l, k, h0, h => by
    simp only [List.length_cons] at h
    unfold markK
    rw [wrap64 (by omega) (by omega), markK_eq l (k + 1) (by omega) (by omega)]
    simp only [List.length_cons]
    omega
theorem loop_mark {L : Nat → List Int → Int → Option (Int × List Int)} {n : Nat} (hs : ∀ (i : Nat) (r : List Int) (k : Int), r.length = n → i < n → L i r k = L (i + 1) (r.set i k) (IntKind.wrap .i64 (k + 1))) (he : ∀ (r : List Int) (k : Int), r.length = n → L n r k = some (k, r))
    (r : List Int) (k : Int) (hr : r.length = n) : L 0 r k = some (markK r k, markL r k) := by
  have h : ∀ d i (r : List Int) (k : Int), r.length = n → n - i = d → i ≤ n → L i r k = some (markK (r.drop i) k, r.take i ++ markL (r.drop i) k) := by
    intro d
    induction d with
    | zero =>
      intro i r k hr h1 h2
      have : i = n := by omega
      subst this
      rw [he r k hr, List.drop_eq_nil_of_le (by omega), List.take_of_length_le (by omega)]
      simp [markK, markL]
    | succ d ih =>
      intro i r k hr h1 h2
      have hi : i < r.length := by omega
      rw [hs i r k hr (by omega), ih (i + 1) _ _ (by simpa using hr) (by omega) (by omega), List.drop_eq_getElem_cons hi, List.drop_set_of_lt (by omega), List.take_add_one, List.take_set_of_le (Nat.le_refl i)]
      simp [markK, markL, hi]
  simpa using h n 0 r k hr (by omega) (by omega)
theorem loop_held {L : Nat → Int → Option Int} {l : List Int} (hs : ∀ (i : Nat) (h : i < l.length) (k : Int), L i k = bif l[i] != k then some (-1) else L (i + 1) (IntKind.wrap .i64 (k + 1))) (he : ∀ k, L l.length k = some k) (k : Int) : L 0 k = some (heldL l k) := by
  refine drop_ind l (fun i r => ∀ k, L i k = some (heldL r k)) he (fun i h ih k => ?_) k
  rw [hs i h, ih, heldL]
  cases (l[i] != k) <;> rfl

theorem any_not {α : Type} (p : α → Bool) : ∀ l : List α, (bif l.any (fun x => !p x) then false else true) = l.all p
  | [] => rfl
  | x :: l => by
    have ih := any_not p l
    rw [List.any_cons, List.all_cons, ← ih]
    cases p x <;> simp
section
variable {α : Type}
def markGL (mk : Int → α) (nx : Int → Int) : List α → Int → List α
  | [], _ => []
  | _ :: l, k => mk k :: markGL mk nx l (nx k)
def markGK (nx : Int → Int) : List α → Int → Int
  | [], k => k
  | _ :: l, k => markGK nx l (nx k)
def heldGL (ck : α → Int → Bool) (nx : Int → Int) : List α → Int → Int
  | [], k => k
  | x :: l, k => bif ck x k then heldGL ck nx l (nx k) else -1
theorem heldG_mark {mk : Int → α} {nx : Int → Int} {ck : α → Int → Bool} (h : ∀ k, ck (mk k) k = true) : ∀ (l : List α) (k : Int), heldGL ck nx (markGL mk nx l k) k = markGK nx l k
  | [], _ => rfl
  | x :: l, k => by simp [heldGL, markGL, markGK, h, heldG_mark h l]
theorem markGL_len {mk : Int → α} {nx : Int → Int} : ∀ (l : List α) (k : Int), (markGL mk nx l k).length = l.length
  | [], _ => rfl
  | _ :: l, k => by simp [markGL, markGL_len l]
theorem markGK_eq {nx : Int → Int} {s : Nat} (hx : ∀ k : Int, 0 ≤ k → k + s ≤ 9223372036854775807 → nx k = k + s) : ∀ (l : List α) (k : Int), 0 ≤ k → k + s * l.length ≤ 9223372036854775807 → markGK nx l k = k + s * l.length
  | [], k, _, _ => by simp [markGK]
  | x :: l, k, h0, h => by
    simp only [List.length_cons] at h
    have e : (s : Int) * ((l.length + 1 : Nat) : Int) = s * l.length + s := by rw [Int.natCast_add, Int.mul_add]; simp
    rw [e] at h
    have h1 : (0 : Int) ≤ s * l.length := Int.mul_nonneg (by omega) (by omega)
    unfold markGK
    rw [hx k h0 (by omega), markGK_eq hx l (k + s) (by omega) (by omega), List.length_cons, e]
    omega
theorem loop_markG {mk : Int → α} {nx : Int → Int} {L : Nat → List α → Int → Option (Int × List α)} {n : Nat} (hs : ∀ (i : Nat) (r : List α) (k : Int), r.length = n → i < n → L i r k = L (i + 1) (r.set i (mk k)) (nx k)) (he : ∀ (r : List α) (k : Int), r.length = n → L n r k = some (k, r))
    (r : List α) (k : Int) (hr : r.length = n) : L 0 r k = some (markGK nx r k, markGL mk nx r k) := by
  have h : ∀ d i (r : List α) (k : Int), r.length = n → n - i = d → i ≤ n → L i r k = some (markGK nx (r.drop i) k, r.take i ++ markGL mk nx (r.drop i) k) := by
    intro d
    induction d with
    | zero =>
      intro i r k hr h1 h2
      have : i = n := by omega
      subst this
      rw [he r k hr, List.drop_eq_nil_of_le (by omega), List.take_of_length_le (by omega)]
      simp [markGK, markGL]
    | succ d ih =>
      intro i r k hr h1 h2
      have hi : i < r.length := by omega
      rw [hs i r k hr (by omega), ih (i + 1) _ _ (by simpa using hr) (by omega) (by omega), List.drop_eq_getElem_cons hi, List.drop_set_of_lt (by omega), List.take_add_one, List.take_set_of_le (Nat.le_refl i)]
      simp [markGK, markGL, hi]
  simpa using h n 0 r k hr (by omega) (by omega)
theorem loop_heldG {ck : α → Int → Bool} {nx : Int → Int} {L : Nat → Int → Option Int} {l : List α} (hs : ∀ (i : Nat) (h : i < l.length) (k : Int), L i k = bif ck l[i] k then L (i + 1) (nx k) else some (-1)) (he : ∀ k, L l.length k = some k) (k : Int) : L 0 k = some (heldGL ck nx l k) := by
  refine drop_ind l (fun i r => ∀ k, L i k = some (heldGL ck nx r k)) he (fun i h ih k => ?_) k
  rw [hs i h, ih, heldGL]
  cases ck l[i] k <;> rfl
end

/-! ### lists that rise -/
section
variable {α : Type}
def allP (p : Option α → α → Bool) : Option α → List α → Bool
  | _, [] => true
  | q, x :: l => bif p q x then allP p (some x) l else false
theorem loop_prev {L : Nat → Option Bool} {l : List α} {p : Option α → α → Bool} (hs : ∀ (i : Nat) (h : i < l.length), L i = bif p (if i = 0 then none else l[i - 1]?) l[i] then L (i + 1) else some false) (he : L l.length = some true) : L 0 = some (allP p none l) := by
  refine drop_ind l (fun i r => L i = some (allP p (if i = 0 then none else l[i - 1]?) r)) (by simpa [allP] using he) (fun i h ih => ?_)
  rw [hs i h, ih, allP]
  have : (if i + 1 = 0 then none else l[i + 1 - 1]?) = some l[i] := by simp [h]
  simp only [this]
  cases p _ l[i] <;> rfl
end
def inB (lo hi x : Int) : Bool := decide (lo ≤ x) && decide (x ≤ hi)
def ltO : Option Int → Int → Bool
  | none, _ => true
  | some q, x => decide (q < x)
def riseP (lo hi : Int) (q : Option Int) (x : Int) : Bool := inB lo hi x && ltO q x
/-- strictly, between bounds -/
def rising (lo hi : Int) (l : List Int) : Bool := allP (riseP lo hi) none l
theorem riseP_iff {lo hi : Int} {q : Option Int} {x : Int} : riseP lo hi q x = true ↔ (lo ≤ x ∧ x ≤ hi) ∧ ∀ y, q = some y → y < x := by
  cases q <;> simp [riseP, inB, ltO]
theorem allP_rising {lo hi : Int} : ∀ {l : List Int} {q : Option Int}, allP (riseP lo hi) q l = true ↔
    l.Pairwise (· < ·) ∧ (∀ x, x ∈ l → lo ≤ x ∧ x ≤ hi) ∧ ∀ y, q = some y → ∀ x, x ∈ l → y < x
  | [], q => by simp [allP]
  | x :: l, q => by
    have ih := allP_rising (lo := lo) (hi := hi) (l := l) (q := some x)
    rw [allP, List.pairwise_cons]
    cases hp : riseP lo hi q x
    · simp only [cond_false]
      refine ⟨fun h => (by cases h), fun ⟨_, h2, h3⟩ => ?_⟩
      have : riseP lo hi q x = true := riseP_iff.2 ⟨h2 x (by simp), fun y hy => h3 y hy x (by simp)⟩
      rw [hp] at this; cases this
    · simp only [cond_true]
      obtain ⟨p1, p2⟩ := riseP_iff.1 hp
      rw [ih]
      constructor
      · rintro ⟨h1, h2, h3⟩
        refine ⟨⟨h3 x rfl, h1⟩, fun y hy => ?_, fun y hy z hz => ?_⟩
        · rcases List.mem_cons.1 hy with e | hy
          · subst e; exact p1
          · exact h2 y hy
        · rcases List.mem_cons.1 hz with e | hz
          · subst e; exact p2 y hy
          · have := h3 x rfl z hz; have := p2 y hy; omega
      · rintro ⟨⟨h1, h2⟩, h3, h4⟩
        exact ⟨h2, fun y hy => h3 y (List.mem_cons_of_mem _ hy), fun y hy z hz => by cases hy; exact h1 z hz⟩
theorem rising_iff {lo hi : Int} {l : List Int} : rising lo hi l = true ↔ l.Pairwise (· < ·) ∧ ∀ x, x ∈ l → lo ≤ x ∧ x ≤ hi := by
  unfold rising
  rw [allP_rising]
  exact ⟨fun ⟨h1, h2, _⟩ => ⟨h1, h2⟩, fun ⟨h1, h2⟩ => ⟨h1, h2, fun y hy => by cases hy⟩⟩
theorem sorted_len : ∀ {l : List Int} {lo hi : Int}, l.Pairwise (· < ·) → (∀ x, x ∈ l → lo ≤ x ∧ x ≤ hi) → (l.length : Int) ≤ max 0 (hi - lo + 1)
  | [], lo, hi, _, _ => by simp; omega
  | x :: l, lo, hi, h1, h2 => by
    obtain ⟨g1, g2⟩ := List.pairwise_cons.1 h1
    have hx := h2 x (by simp)
    have := sorted_len (lo := x + 1) (hi := hi) g2 (fun y hy => ⟨by have := g1 y hy; omega, (h2 y (List.mem_cons_of_mem _ hy)).2⟩)
    simp only [List.length_cons]
    omega
theorem rising_len {lo hi : Int} {l : List Int} (h : rising lo hi l = true) : (l.length : Int) ≤ max 0 (hi - lo + 1) := sorted_len (rising_iff.1 h).1 (rising_iff.1 h).2

/-! ### more loops -/
section
variable {α β : Type}
theorem loop_rev {L : List α → Int → Int → Option (List α)} {l : List α} (hs : ∀ (r : List α) (i j : Nat) (hi : i < r.length) (hj : j < r.length), r.length = l.length → i < j → L r i j = L ((r.set i r[j]).set j r[i]) ((i + 1 : Nat) : Int) ((j - 1 : Nat) : Int))
    (he : ∀ (r : List α) (i j : Int), j ≤ i → L r i j = some r) : L l 0 ((l.length : Int) - 1) = some l.reverse := by
  have key : ∀ (d i : Nat) (r : List α), r.length = l.length → (∀ k, k < l.length → r[k]? = if k < i ∨ l.length < k + i + 1 then l[l.length - 1 - k]? else l[k]?) → l.length - 2 * i ≤ d → L r i ((l.length : Int) - 1 - i) = some l.reverse := by
    intro d
    induction d with
    | zero =>
      intro i r hr hi hd
      rw [he r _ _ (by omega)]
      congr 1
      refine List.ext_getElem? fun k => ?_
      by_cases hk : k < l.length
      · rw [hi k hk, List.getElem?_reverse hk]
        split
        · rfl
        · congr 1; omega
      · rw [List.getElem?_eq_none (by omega), List.getElem?_eq_none (by simpa using hk)]
    | succ d ih =>
      intro i r hr hi hd
      by_cases hij : (l.length : Int) - 1 - i ≤ i
      · rw [he r _ _ hij]
        congr 1
        refine List.ext_getElem? fun k => ?_
        by_cases hk : k < l.length
        · rw [hi k hk, List.getElem?_reverse hk]
          split
          · rfl
          · congr 1; omega
        · rw [List.getElem?_eq_none (by omega), List.getElem?_eq_none (by simpa using hk)]
      · obtain ⟨j, hj⟩ : ∃ j : Nat, (l.length : Int) - 1 - i = j := ⟨l.length - 1 - i, by omega⟩
        have hir : i < r.length := by omega
        have hjr : j < r.length := by omega
        rw [hj, hs r i j hir hjr hr (by omega)]
        have e : (((j - 1 : Nat) : Int)) = (l.length : Int) - 1 - ((i + 1 : Nat) : Int) := by omega
        rw [e]
        refine ih (i + 1) _ (by simpa using hr) (fun k hk => ?_) (by omega)
        have hii := hi i (by omega)
        have hjj := hi j (by omega)
        rw [if_neg (by omega), List.getElem?_eq_getElem hir] at hii
        rw [if_neg (by omega), List.getElem?_eq_getElem hjr] at hjj
        rw [List.getElem?_set]
        split
        · rename_i h
          subst h
          rw [if_pos (by simpa using hjr), if_pos (by omega)]
          rw [hii]
          congr 1
          omega
        · rename_i hkj
          rw [List.getElem?_set]
          split
          · rename_i h
            subst h
            first | rw [if_pos hir, if_pos (by omega), hjj] | rw [if_pos (by omega), hjj]
            congr 1
            omega
          · rename_i hki
            rw [hi k hk]
            by_cases hc : k < i ∨ l.length < k + i + 1
            · rw [if_pos hc, if_pos (by omega)]
            · rw [if_neg hc, if_neg (by omega)]
  have := key l.length 0 l rfl (fun k hk => by rw [if_neg (by omega)]) (by omega)
  simpa using this
/-- a row that is turned in place -/
theorem loop_upd {L : Nat → List α → Option β} {n : Nat} {f : α → α} {e : List α → Option β} (hs : ∀ (i : Nat) (r : List α) (h : i < r.length), r.length = n → L i r = L (i + 1) (r.set i (f r[i]))) (he : ∀ r : List α, r.length = n → L n r = e r)
    (r : List α) (hr : r.length = n) : L 0 r = e (r.map f) := by
  have h : ∀ d i (r : List α), r.length = n → n - i = d → i ≤ n → L i r = e (r.take i ++ (r.drop i).map f) := by
    intro d
    induction d with
    | zero =>
      intro i r hr h1 h2
      have : i = n := by omega
      subst this
      rw [he r hr, List.drop_eq_nil_of_le (by omega), List.take_of_length_le (by omega)]
      simp
    | succ d ih =>
      intro i r hr h1 h2
      have hi : i < r.length := by omega
      rw [hs i r hi hr, ih (i + 1) _ (by simpa using hr) (by omega) (by omega), List.drop_set_of_lt (by omega), List.take_add_one, List.take_set_of_le (Nat.le_refl i)]
      congr 1
      rw [List.drop_eq_getElem_cons hi, List.map_cons, List.append_assoc]
      simp only [List.getElem?_set, hi]
      rfl
  simpa using h n 0 r hr (by omega) (by omega)
/-- a list is read from its end -/
theorem loop_down {γ : Type} {L : List β → Int → Option γ} {l : List α} {f : α → β} {e : List β → Option γ} (hs : ∀ (i : Nat) (h : i < l.length) (acc : List β), acc.length + i + 1 = l.length → L acc i = L (acc ++ [f l[i]]) ((i : Int) - 1)) (he : ∀ acc : List β, acc.length = l.length → L acc (-1) = e acc) :
    L [] ((l.length : Int) - 1) = e (l.map f).reverse := by
  have h : ∀ (i : Nat) (acc : List β), i ≤ l.length → acc.length + i = l.length → L acc ((i : Int) - 1) = e (acc ++ ((l.take i).map f).reverse) := by
    intro i
    induction i with
    | zero => intro acc _ ha; simpa using he acc (by simpa using ha)
    | succ i ih =>
      intro acc hi ha
      have := hs i (by omega) acc (by omega)
      have e1 : ((i + 1 : Nat) : Int) - 1 = i := by omega
      have hil : i < l.length := by omega
      rw [e1, this, ih _ (by omega) (by simp; omega), List.take_add_one, List.getElem?_eq_getElem hil, List.map_append, List.reverse_append, List.append_assoc]
      rfl
  simpa using h l.length [] (Nat.le_refl _) (by simp)
end
/-! ### places told, elements left out -/
section
variable {α β : Type}
theorem loop_idxG {L : Nat → Option β} {l : List α} {p : α → Bool} (f : Int → β) (hs : ∀ (i : Nat) (h : i < l.length), L i = bif p l[i] then some (f (i : Int)) else L (i + 1)) (he : L l.length = some (f (-1))) : L 0 = some (f (idxF p l 0)) := by
  refine drop_ind l (fun i r => L i = some (f (idxF p r i))) he (fun i h ih => ?_)
  rw [hs i h, ih, idxF]
  cases p l[i] <;> rfl
theorem idxF_cases (p : α → Bool) : ∀ (l : List α) (i : Nat), (idxF p l i = -1 ∧ l.filter (fun x => !p x) = l) ∨ ∃ k, k < l.length ∧ idxF p l i = ((i + k : Nat) : Int) ∧ l.take k ++ (l.drop (k + 1)).filter (fun x => !p x) = l.filter (fun x => !p x)
  | [], _ => .inl ⟨rfl, rfl⟩
  | x :: l, i => by
    rw [idxF]
    cases hx : p x
    · rcases idxF_cases p l (i + 1) with ⟨h1, h2⟩ | ⟨k, h1, h2, h3⟩
      · exact .inl ⟨by simpa using h1, by simp [hx, h2]⟩
      · refine .inr ⟨k + 1, by simp; omega, ?_, ?_⟩
        · rw [cond_false, h2]; congr 1; omega
        · simp [hx, h3]
    · exact .inr ⟨0, by simp, by simp, by simp [hx]⟩
theorem loop_delete {L : List α → Nat → Nat → Option β} {n : Nat} {p : α → Bool} {e : List α → Option β}
    (hs : ∀ (r : List α) (i j : Nat) (h : j < r.length), i ≤ j → r.length = n → L r i j = bif p r[j] then L r i (j + 1) else L (r.set i r[j]) (i + 1) (j + 1)) (he : ∀ (r : List α) (i : Nat), i ≤ n → r.length = n → L r i n = e (r.take i)) :
    ∀ (d j : Nat) (r : List α) (i : Nat), n - j = d → r.length = n → i ≤ j → j ≤ n → L r i j = e (r.take i ++ (r.drop j).filter (fun x => !p x))
  | 0, j, r, i, hd, hr, hij, hj => by
    have : j = n := by omega
    subst this
    rw [he r i hij hr, List.drop_eq_nil_of_le (by omega)]
    simp
  | d + 1, j, r, i, hd, hr, hij, hj => by
    have hjr : j < r.length := by omega
    rw [hs r i j hjr hij hr, List.drop_eq_getElem_cons hjr]
    cases hp : p r[j]
    · rw [cond_false, loop_delete hs he d (j + 1) (r.set i r[j]) (i + 1) (by omega) (by simpa using hr) (by omega) (by omega)]
      congr 1
      have e1 : (r.set i r[j]).take (i + 1) = r.take i ++ [r[j]] := by
        rw [List.take_add_one, List.getElem?_set_self (by omega), List.take_set_of_le (Nat.le_refl _)]
        rfl
      rw [e1, List.drop_set_of_lt (by omega), List.filter_cons_of_pos (by rw [hp]; rfl), List.append_assoc]
      rfl
    · rw [cond_true, loop_delete hs he d (j + 1) r i (by omega) hr (by omega) (by omega), List.filter_cons_of_neg (by rw [hp]; simp)]
end

/-! ### the same with what may not be told -/
section
variable {α β : Type}
theorem loop_idxO {L : Nat → Option β} {l : List α} {p : α → Option Bool} (f : Int → β) (hp : ∀ x, x ∈ l → (p x).isSome = true) (hs : ∀ (i : Nat) (h : i < l.length), L i = (p l[i]).bind fun b => bif b then some (f (i : Int)) else L (i + 1)) (he : L l.length = some (f (-1))) :
    L 0 = some (f (idxF (fun x => (p x).getD false) l 0)) :=
  loop_idxG f (fun i h => by
    rw [hs i h]
    cases hx : p l[i] with
    | none => have := hp _ (List.getElem_mem h); rw [hx] at this; cases this
    | some b => rfl) he
theorem loop_deleteO {L : List α → Nat → Nat → Option β} {n : Nat} {p : α → Option Bool} {e : List α → Option β}
    (hs : ∀ (r : List α) (i j : Nat) (h : j < r.length), i ≤ j → r.length = n → L r i j = (p r[j]).bind fun b => bif b then L r i (j + 1) else L (r.set i r[j]) (i + 1) (j + 1)) (he : ∀ (r : List α) (i : Nat), i ≤ n → r.length = n → L r i n = e (r.take i)) :
    ∀ (d j : Nat) (r : List α) (i : Nat), (∀ x, x ∈ r → (p x).isSome = true) → n - j = d → r.length = n → i ≤ j → j ≤ n → L r i j = e (r.take i ++ (r.drop j).filter (fun x => !(p x).getD false))
  | 0, j, r, i, hp, hd, hr, hij, hj => by
    have : j = n := by omega
    subst this
    rw [he r i hij hr, List.drop_eq_nil_of_le (by omega)]
    simp
  | d + 1, j, r, i, hp, hd, hr, hij, hj => by
    have hjr : j < r.length := by omega
    rw [hs r i j hjr hij hr, List.drop_eq_getElem_cons hjr]
    have hpj := hp _ (List.getElem_mem hjr)
    cases hx : p r[j] with
    | none => rw [hx] at hpj; cases hpj
    | some b =>
      cases b
      · rw [Option.bind_some, cond_false, loop_deleteO hs he d (j + 1) (r.set i r[j]) (i + 1) (fun x h => by
          rcases List.mem_or_eq_of_mem_set h with h | h
          · exact hp x h
          · rw [h]; exact hp _ (List.getElem_mem hjr)) (by omega) (by simpa using hr) (by omega) (by omega)]
        congr 1
        have e1 : (r.set i r[j]).take (i + 1) = r.take i ++ [r[j]] := by
          rw [List.take_add_one, List.getElem?_set_self (by omega), List.take_set_of_le (Nat.le_refl _)]
          rfl
        rw [e1, List.drop_set_of_lt (by omega), List.filter_cons_of_pos (by rw [hx]; rfl), List.append_assoc]
        rfl
      · rw [Option.bind_some, cond_true, loop_deleteO hs he d (j + 1) r i hp (by omega) hr (by omega) (by omega), List.filter_cons_of_neg (by rw [hx]; simp)]
end

end Go.Ev
