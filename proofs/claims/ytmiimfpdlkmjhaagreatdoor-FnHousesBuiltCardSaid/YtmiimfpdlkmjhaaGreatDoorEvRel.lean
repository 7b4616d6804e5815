/- What the abstract state says of the world. -/
import Derived.Test.YtmiimfpdlkmjhaaGreatDoorEvDef
import Derived.Laws.AppendOwn
import Derived.Laws.MakeOwn
set_option linter.unusedVariables false
set_option linter.unusedSectionVars false
namespace Go.Ev
open Go
variable [Lax]

def All2 {α β : Type} (p : α → β → Prop) : List α → List β → Prop
  | [], [] => True
  | a :: as, b :: bs => p a b ∧ All2 p as bs
  | _, _ => False

theorem All2.imp {α β : Type} {p q : α → β → Prop} (h : ∀ a b, p a b → q a b) : ∀ {as : List α} {bs : List β}, All2 p as bs → All2 q as bs
  | [], [], _ => trivial
  | _ :: _, _ :: _, ⟨h1, h2⟩ => ⟨h _ _ h1, All2.imp h h2⟩
  | [], _ :: _, k => k.elim
  | _ :: _, [], k => k.elim
theorem All2.length {α β : Type} {p : α → β → Prop} : ∀ {as : List α} {bs : List β}, All2 p as bs → as.length = bs.length
  | [], [], _ => rfl
  | _ :: _, _ :: _, ⟨_, h2⟩ => congrArg (· + 1) (All2.length h2)
  | [], _ :: _, k => k.elim
  | _ :: _, [], k => k.elim
theorem All2.get {α β : Type} {p : α → β → Prop} : ∀ {as : List α} {bs : List β}, All2 p as bs → ∀ (i : Nat) (a : α), as[i]? = some a → ∃ b, bs[i]? = some b ∧ p a b
  | [], [], _, i, a, h => by simp at h
  | x :: xs, y :: ys, ⟨h1, h2⟩, 0, a, h => ⟨y, rfl, by simp at h; exact h ▸ h1⟩
  | x :: xs, y :: ys, ⟨_, h2⟩, i + 1, a, h => by simpa using All2.get h2 i a (by simpa using h)
  | [], _ :: _, k, _, _, _ => k.elim
  | _ :: _, [], k, _, _, _ => k.elim
theorem All2.append {α β : Type} {p : α → β → Prop} : ∀ {as : List α} {bs : List β} {cs : List α} {ds : List β}, All2 p as bs → All2 p cs ds → All2 p (as ++ cs) (bs ++ ds)
  | [], [], _, _, _, k => k
  | _ :: _, _ :: _, _, _, ⟨h1, h2⟩, k => ⟨h1, All2.append h2 k⟩
  | [], _ :: _, _, _, k, _ => k.elim
  | _ :: _, [], _, _, k, _ => k.elim
theorem All2.drop {α β : Type} {p : α → β → Prop} : ∀ (n : Nat) {as : List α} {bs : List β}, All2 p as bs → All2 p (as.drop n) (bs.drop n)
  | 0, _, _, h => h
  | _ + 1, [], [], _ => trivial
  | n + 1, _ :: _, _ :: _, ⟨_, h2⟩ => All2.drop n h2
  | _ + 1, [], _ :: _, k => k.elim
  | _ + 1, _ :: _, [], k => k.elim
theorem All2.take {α β : Type} {p : α → β → Prop} : ∀ (n : Nat) {as : List α} {bs : List β}, All2 p as bs → All2 p (as.take n) (bs.take n)
  | 0, _, _, _ => by simp [All2]
  | n + 1, [], [], _ => trivial
  | n + 1, _ :: _, _ :: _, ⟨h1, h2⟩ => ⟨h1, All2.take n h2⟩
  | _ + 1, [], _ :: _, k => k.elim
  | _ + 1, _ :: _, [], k => k.elim

/-! ### typed values in the world -/

/-- elements one behind the other, each with what it owns -/
def Reps {α : Type} (p : List Nat → α → List Value → Prop) (sz : Nat) : List Nat → List α → List Value → Prop
  | F, [], cs => F = [] ∧ cs = []
  | F, x :: xs, cs => ∃ F1 F2 c1 c2, F = F1 ++ F2 ∧ cs = c1 ++ c2 ∧ c1.length = sz ∧ p F1 x c1 ∧ Reps p sz F2 xs c2

/-- elements that are read at an address -/
def RdRow {α : Type} (p : α → List Value → Prop) (sz : Nat) (w : World) (Z : Nat → Prop) (A : Option Addr) (xs : List α) : Prop :=
  xs = [] ∨ ∃ ad, A = some ad ∧ ad.spot = none ∧ Z ad.block ∧ ∀ (i : Nat) (x : α), xs[i]? = some x →
    ∃ cs : List Value, cs.length = sz ∧ p x cs ∧ ∀ (j : Nat) (v : Value), cs[j]? = some v → w.cell? ⟨ad.block, ad.off + (i * sz + j), none⟩ = some v

/-- an error -/
def ErrV (b : Bool) (v : Value) : Prop := (b = true ∧ v = .nilIface) ∨ (b = false ∧ ∃ t p, v = .iface t p)
/-- a value that is read: in blocks of which Z holds -/
def Rd (w : World) (Z : Nat → Prop) : (k : Kd) → k.Ty → List Value → Prop
  | .int k, n, cs => cs = [.int k n]
  | .bool, b, cs => cs = [.bool b]
  | .err, b, cs => ∃ v, cs = [v] ∧ ErrV b v
  | .str, s, cs => cs = [.string s]
  | .raw, s, cs => cs = [s.1]
  | .sl _ k, xs, cs => ∃ A c, cs = [.slice A xs.length c] ∧ xs.length ≤ c ∧ xs.length ≤ maxLen ∧ RdRow (Rd w Z k) k.sz w Z A xs
  | .st k, x, cs => Rd w Z k x cs
  | .pair a b, x, cs => ∃ c1 c2, cs = c1 ++ c2 ∧ Rd w Z a x.1 c1 ∧ Rd w Z b x.2 c2

/-- a value that is owned: with the blocks that are its own -/
def Ow (w : World) : (k : Kd) → List Nat → k.Ty → List Value → Prop
  | .int k, F, n, cs => F = [] ∧ cs = [.int k n]
  | .bool, F, b, cs => F = [] ∧ cs = [.bool b]
  | .err, F, b, cs => F = [] ∧ ∃ v, cs = [v] ∧ ErrV b v
  | .str, F, s, cs => F = [] ∧ cs = [.string s]
  | .raw, F, s, cs => F = [] ∧ cs = [s.1]
  | .sl e k, F, xs, cs => ∃ v cells G, cs = [v] ∧ w.ownsRow 0 e k.sz v xs.length cells ∧ Reps (Ow w k) k.sz G xs cells ∧ F = v.ownBlock.toList ++ G
  | .st k, F, x, cs => Ow w k F x cs
  | .pair a b, F, x, cs => ∃ F1 F2 c1 c2, F = F1 ++ F2 ∧ cs = c1 ++ c2 ∧ Ow w a F1 x.1 c1 ∧ Ow w b F2 x.2 c2

theorem Rd.len {w : World} {Z : Nat → Prop} : ∀ {k : Kd} {x : k.Ty} {cs : List Value}, Rd w Z k x cs → cs.length = k.sz := by
  intro k
  induction k with
  | int k => intro x cs h; simp only [Rd] at h; subst h; rfl
  | bool => intro x cs h; simp only [Rd] at h; subst h; rfl
  | err => intro x cs h; obtain ⟨v, rfl, _⟩ := h; rfl
  | str => intro x cs h; simp only [Rd] at h; subst h; rfl
  | raw => intro x cs h; simp only [Rd] at h; subst h; rfl
  | sl e k ih => intro x cs h; obtain ⟨A, c, rfl, _⟩ := h; rfl
  | st k ih => intro x cs h; exact ih h
  | pair a b iha ihb => intro x cs h; obtain ⟨c1, c2, rfl, h1, h2⟩ := h; simp [Kd.sz, iha h1, ihb h2]

theorem Ow.len {w : World} : ∀ {k : Kd} {F : List Nat} {x : k.Ty} {cs : List Value}, Ow w k F x cs → cs.length = k.sz := by
  intro k
  induction k with
  | int k => intro F x cs h; obtain ⟨_, rfl⟩ := h; rfl
  | bool => intro F x cs h; obtain ⟨_, rfl⟩ := h; rfl
  | err => intro F x cs h; obtain ⟨_, v, rfl, _⟩ := h; rfl
  | str => intro F x cs h; obtain ⟨_, rfl⟩ := h; rfl
  | raw => intro F x cs h; obtain ⟨_, rfl⟩ := h; rfl
  | sl e k ih => intro F x cs h; obtain ⟨v, _, _, rfl, _⟩ := h; rfl
  | st k ih => intro F x cs h; exact ih h
  | pair a b iha ihb => intro F x cs h; obtain ⟨F1, F2, c1, c2, _, rfl, h1, h2⟩ := h; simp [Kd.sz, iha h1, ihb h2]

theorem Kd.sz_pos : ∀ k : Kd, 0 < k.sz
  | .int _ => Nat.one_pos
  | .bool => Nat.one_pos
  | .err => Nat.one_pos
  | .str => Nat.one_pos
  | .raw => Nat.one_pos
  | .sl _ _ => Nat.one_pos
  | .st k => Kd.sz_pos k
  | .pair a b => Nat.lt_of_lt_of_le (Kd.sz_pos a) (Nat.le_add_right _ _)

theorem RdRow.imp {α : Type} {p q : α → List Value → Prop} {sz : Nat} {w w' : World} {Z Z' : Nat → Prop} {A : Option Addr} {xs : List α}
    (hp : ∀ x cs, p x cs → q x cs) (hw : ∀ b, Z b → w'.heap[b]? = w.heap[b]?) (hz : ∀ b, Z b → Z' b) (h : RdRow p sz w Z A xs) : RdRow q sz w' Z' A xs := by
  rcases h with h | ⟨ad, h1, h2, h3, h4⟩
  · exact .inl h
  · refine .inr ⟨ad, h1, h2, hz _ h3, fun i x hi => ?_⟩
    obtain ⟨cs, a, b, c⟩ := h4 i x hi
    exact ⟨cs, a, hp _ _ b, fun j v hj => by rw [World.cell?_of_block (w := w) (a := ⟨ad.block, ad.off + (i * sz + j), none⟩) (hw _ h3)]; exact c j v hj⟩

theorem Rd.mono {w w' : World} {Z Z' : Nat → Prop} (hw : ∀ b, Z b → w'.heap[b]? = w.heap[b]?) (hz : ∀ b, Z b → Z' b) :
    ∀ {k : Kd} {x : k.Ty} {cs : List Value}, Rd w Z k x cs → Rd w' Z' k x cs := by
  intro k
  induction k with
  | int k => intro x cs h; exact h
  | bool => intro x cs h; exact h
  | err => intro x cs h; exact h
  | str => intro x cs h; exact h
  | raw => intro x cs h; exact h
  | sl e k ih => intro x cs h; obtain ⟨A, c, h1, h2, h3, h4⟩ := h; exact ⟨A, c, h1, h2, h3, RdRow.imp (fun x cs => ih) hw hz h4⟩
  | st k ih => intro x cs h; exact ih h
  | pair a b iha ihb => intro x cs h; obtain ⟨c1, c2, h0, h1, h2⟩ := h; exact ⟨c1, c2, h0, iha h1, ihb h2⟩

theorem Reps.imp {α : Type} {p q : List Nat → α → List Value → Prop} {sz : Nat} : ∀ {xs : List α} {F : List Nat} {cs : List Value},
    (∀ G x cs, (∀ b, b ∈ G → b ∈ F) → p G x cs → q G x cs) → Reps p sz F xs cs → Reps q sz F xs cs
  | [], _, _, _, h => h
  | x :: xs, F, cs, hp, ⟨F1, F2, c1, c2, h1, h2, h3, h4, h5⟩ =>
    ⟨F1, F2, c1, c2, h1, h2, h3, hp _ _ _ (fun b hb => by subst h1; exact List.mem_append_left _ hb) h4, Reps.imp (fun G x cs hG => hp G x cs fun b hb => by subst h1; exact List.mem_append_right _ (hG b hb)) h5⟩

theorem ownsRow_same {w w' : World} {base : Nat} {e : TypeId} {size : Nat} {v : Value} {n : Nat} {xs : List Value} (h : w.ownsRow base e size v n xs)
    (hw : ∀ b, v.ownBlock = some b → w'.heap[b]? = w.heap[b]?) : w'.ownsRow base e size v n xs := by
  obtain ⟨h1, h2⟩ := h
  refine ⟨h1, ?_⟩
  rcases h2 with h2 | ⟨g, cap, cur, hv, hg, hh, r⟩
  · exact .inl h2
  · exact .inr ⟨g, cap, cur, hv, hg, by rw [hw g (by rw [hv]; rfl)]; exact hh, r⟩

theorem Ow.mono {w w' : World} : ∀ {k : Kd} {F : List Nat} {x : k.Ty} {cs : List Value}, (∀ b, b ∈ F → w'.heap[b]? = w.heap[b]?) → Ow w k F x cs → Ow w' k F x cs := by
  intro k
  induction k with
  | int k => intro F x cs hw h; exact h
  | bool => intro F x cs hw h; exact h
  | err => intro F x cs hw h; exact h
  | str => intro F x cs hw h; exact h
  | raw => intro F x cs hw h; exact h
  | sl e k ih =>
    intro F x cs hw h
    obtain ⟨v, cells, G, h1, h2, h3, rfl⟩ := h
    refine ⟨v, cells, G, h1, ownsRow_same h2 fun b hb => hw b (List.mem_append_left _ (by simp [hb])), ?_, rfl⟩
    exact Reps.imp (fun G' x cs hG => ih fun b hb => hw b (List.mem_append_right _ (hG b hb))) h3
  | st k ih => intro F x cs hw h; exact ih hw h
  | pair a b iha ihb =>
    intro F x cs hw h
    obtain ⟨F1, F2, c1, c2, rfl, h0, h1, h2⟩ := h
    exact ⟨F1, F2, c1, c2, rfl, h0, iha (fun b hb => hw b (List.mem_append_left _ hb)) h1, ihb (fun b hb => hw b (List.mem_append_right _ hb)) h2⟩

theorem Reps.length {α : Type} {p : List Nat → α → List Value → Prop} {sz : Nat} : ∀ {xs : List α} {F : List Nat} {cs : List Value}, Reps p sz F xs cs → cs.length = xs.length * sz
  | [], _, _, ⟨_, h⟩ => by subst h; simp
  | x :: xs, _, _, ⟨_, _, _, _, _, h2, h3, _, h5⟩ => by subst h2; simp [h3, Reps.length h5, Nat.add_mul, Nat.add_comm]

theorem Reps.get {α : Type} {p : List Nat → α → List Value → Prop} {sz : Nat} : ∀ {xs : List α} {F : List Nat} {cs : List Value}, Reps p sz F xs cs → ∀ (i : Nat) (x : α), xs[i]? = some x →
    ∃ G c, c.length = sz ∧ p G x c ∧ (∀ b, b ∈ G → b ∈ F) ∧ ∀ (j : Nat) (v : Value), c[j]? = some v → cs[i * sz + j]? = some v
  | [], _, _, _, i, x, hi => by simp at hi
  | y :: ys, F, cs, ⟨F1, F2, c1, c2, h1, h2, h3, h4, h5⟩, 0, x, hi => by
    simp at hi; subst hi
    refine ⟨F1, c1, h3, h4, fun b hb => by subst h1; exact List.mem_append_left _ hb, fun j v hj => ?_⟩
    subst h2
    rw [Nat.zero_mul, Nat.zero_add, List.getElem?_append_left (by have := (List.getElem?_eq_some_iff.1 hj).1; exact this)]
    exact hj
  | y :: ys, F, cs, ⟨F1, F2, c1, c2, h1, h2, h3, h4, h5⟩, i + 1, x, hi => by
    obtain ⟨G, c, g1, g2, g3, g4⟩ := Reps.get h5 i x (by simpa using hi)
    refine ⟨G, c, g1, g2, fun b hb => by subst h1; exact List.mem_append_right _ (g3 b hb), fun j v hj => ?_⟩
    subst h2
    rw [List.getElem?_append_right (by rw [h3, Nat.add_mul]; omega), h3]
    have := g4 j v hj
    rw [← this]
    congr 1
    rw [Nat.add_mul]
    omega

/-- What is owned can be read. -/
theorem Ow.rd {w : World} {Z : Nat → Prop} : ∀ {k : Kd} {F : List Nat} {x : k.Ty} {cs : List Value}, (∀ b, b ∈ F → Z b) → Ow w k F x cs → Rd w Z k x cs := by
  intro k
  induction k with
  | int k => intro F x cs hz h; exact h.2
  | bool => intro F x cs hz h; exact h.2
  | err => intro F x cs hz h; exact h.2
  | str => intro F x cs hz h; exact h.2
  | raw => intro F x cs hz h; exact h.2
  | sl e k ih =>
    intro F x cs hz h
    obtain ⟨v, cells, G, h1, h2, h3, rfl⟩ := h
    obtain ⟨hl, h2⟩ := h2
    rcases h2 with ⟨rfl, hn⟩ | ⟨g, cap, cur, rfl, hg, hh, r1, r2, r3, r4⟩
    · have hx : x = [] := List.eq_nil_of_length_eq_zero hn
      refine ⟨none, 0, by rw [h1, hn], by omega, by omega, .inl hx⟩
    · refine ⟨some ⟨g, 0, none⟩, cap, h1, r1, Nat.le_trans r1 r2, .inr ⟨⟨g, 0, none⟩, rfl, rfl, hz g (by simp [Value.ownBlock]), fun i y hi => ?_⟩⟩
      obtain ⟨G', c, g1, g2, g3, g4⟩ := h3.get i y hi
      refine ⟨c, g1, ih (fun b hb => hz b (List.mem_append_right _ (g3 b hb))) g2, fun j v hj => ?_⟩
      have := g4 j v hj
      rw [cell_of_row w g _ cur e (0, 0) hh, Nat.zero_add]
      rw [← r4, List.getElem?_take] at this
      split at this
      · simpa using this
      · cases this
  | st k ih => intro F x cs hz h; exact ih hz h
  | pair a b iha ihb =>
    intro F x cs hz h
    obtain ⟨F1, F2, c1, c2, rfl, h0, h1, h2⟩ := h
    exact ⟨c1, c2, h0, iha (fun b hb => hz b (List.mem_append_left _ hb)) h1, ihb (fun b hb => hz b (List.mem_append_right _ hb)) h2⟩

/-! ### abstract values -/

inductive Con where
  | row (v : Value) (F : List Nat)
  | box (b : Nat)

def Con.foot : Con → List Nat
  | .row _ F => F
  | .box b => [b]
/-- as it was, but for what it owns -/
def Con.same : Con → Con → Prop
  | .row v _, .row v' _ => v' = v
  | .box b, .box b' => b' = b
  | _, _ => False
theorem Con.same_refl : ∀ c : Con, c.same c
  | .row _ _ => rfl
  | .box _ => rfl

abbrev Cons := Nat → Option Con

/-- one cell, no function -/
def CR0 (C : Cons) : AV → Value → Prop
  | .undef, _ => True
  | .nil, v => v = .slice none 0 0
  | .nilp, v => v = .pointer none
  | .int k n, v => v = .int k n
  | .bool b, v => v = .bool b
  | .str s, v => v = .string s
  | .raw s, v => v = s.1
  | .err b, v => ErrV b v
  | .tl id i sz, v => ∃ A n c F, C id = some (.row (.slice A n c) F) ∧ 0 ≤ i ∧ i ≤ (n : Int) ∧ n ≤ c ∧ v = .slice (if c = i.toNat then A else A.map (·.add (i.toNat * sz))) (n - i.toNat) (c - i.toNat)
  | .sl id, v => (∃ F, C id = some (.row v F)) ∧ ∃ A n c, v = .slice A n c
  | .ep id i off sz, v => ∃ A n c F, C id = some (.row (.slice (some A) n c) F) ∧ A.spot = none ∧ 0 ≤ i ∧ i < (n : Int) ∧ v = .pointer (some ⟨A.block, A.off + (i.toNat * sz + off), none⟩)
  | .ptr id off, v => ∃ b, C id = some (.box b) ∧ v = .pointer (some ⟨b, off, none⟩)
  | _, _ => False
/-- one cell -/
def CR (C : Cons) : AV → Value → Prop
  | .fn f caps, v => ∃ vs : List Value, v = .func (.func f) #[] vs.toArray ∧ All2 (CR0 C) caps vs
  | a, v => CR0 C a v
/-- a value, no tuple -/
def VR1 (C : Cons) : AV → Value → Prop
  | .agg cs, v => ∃ vs : List Value, v = .agg vs.toArray ∧ All2 (CR C) cs vs
  | a, v => CR C a v
def VR (C : Cons) : AV → Value → Prop
  | .tup cs, v => ∃ vs : List Value, v = .tuple vs.toArray ∧ All2 (VR1 C) cs vs
  | a, v => VR1 C a v

def Ext (C C' : Cons) : Prop := ∀ i c, C i = some c → ∃ c', C' i = some c' ∧ c.same c'
theorem Ext.refl (C : Cons) : Ext C C := fun _ c h => ⟨c, h, c.same_refl⟩
theorem Con.same_trans {a b c : Con} (h : a.same b) (k : b.same c) : a.same c := by
  cases a <;> cases b <;> cases c <;> simp_all [Con.same]
theorem Ext.trans {C C' C'' : Cons} (h : Ext C C') (k : Ext C' C'') : Ext C C'' := fun i c hc =>
  let ⟨_, h1, h2⟩ := h i c hc; let ⟨c2, k1, k2⟩ := k i _ h1; ⟨c2, k1, Con.same_trans h2 k2⟩
theorem Ext.row {C C' : Cons} (h : Ext C C') {i : Nat} {v : Value} {F : List Nat} (hc : C i = some (.row v F)) : ∃ F', C' i = some (.row v F') := by
  obtain ⟨c', h1, h2⟩ := h i _ hc
  cases c' with
  | row v' F' => simp only [Con.same] at h2; subst h2; exact ⟨F', h1⟩
  | box b => exact h2.elim
theorem Ext.box {C C' : Cons} (h : Ext C C') {i b : Nat} (hc : C i = some (.box b)) : C' i = some (.box b) := by
  obtain ⟨c', h1, h2⟩ := h i _ hc
  cases c' with
  | row v' F' => exact h2.elim
  | box b' => simp only [Con.same] at h2; subst h2; exact h1

theorem CR0.ext {C C' : Cons} (h : Ext C C') {a : AV} {v : Value} (hr : CR0 C a v) : CR0 C' a v := by
  cases a <;> simp only [CR0] at hr ⊢ <;> try exact hr
  · obtain ⟨⟨F, hF⟩, hs⟩ := hr; exact ⟨h.row hF, hs⟩
  · obtain ⟨A, n, c, F, h1, h2⟩ := hr; obtain ⟨F', h'⟩ := h.row h1; exact ⟨A, n, c, F', h', h2⟩
  · obtain ⟨b, h1, h2⟩ := hr; exact ⟨b, h.box h1, h2⟩
  · obtain ⟨A, n, c, F, h1, h2⟩ := hr; obtain ⟨F', h'⟩ := h.row h1; exact ⟨A, n, c, F', h', h2⟩
theorem CR.ext {C C' : Cons} (h : Ext C C') {a : AV} {v : Value} (hr : CR C a v) : CR C' a v := by
  cases a
  case fn f caps => obtain ⟨vs, h1, h2⟩ := hr; exact ⟨vs, h1, h2.imp fun _ _ => CR0.ext h⟩
  all_goals (unfold CR at hr ⊢; exact CR0.ext h hr)
theorem VR1.ext {C C' : Cons} (h : Ext C C') {a : AV} {v : Value} (hr : VR1 C a v) : VR1 C' a v := by
  cases a
  case agg cs => obtain ⟨vs, h1, h2⟩ := hr; exact ⟨vs, h1, h2.imp fun _ _ => CR.ext h⟩
  all_goals (unfold VR1 at hr ⊢; exact CR.ext h hr)
theorem VR.ext {C C' : Cons} (h : Ext C C') {a : AV} {v : Value} (hr : VR C a v) : VR C' a v := by
  cases a
  case tup cs => obtain ⟨vs, h1, h2⟩ := hr; exact ⟨vs, h1, h2.imp fun _ _ => VR1.ext h⟩
  all_goals (unfold VR at hr ⊢; exact VR1.ext h hr)

/-! ### the heap -/

def BR (w : World) (Z : Nat → Prop) (C : Cons) : Blk → Con → Prop
  | .row k e xs true, .row v F => Ow w (.sl e k) F xs [v] ∧ F.Nodup
  | .row k e xs false, .row v F => F = [] ∧ Rd w Z (.sl e k) xs [v]
  | .box t cs, .box b => ∃ vs : Array Value, w.heap[b]? = some (.cells vs t (0, 0)) ∧ All2 (CR C) cs vs.toList
  | .dead, _ => True
  | _, _ => False

theorem BR.mono {w w' : World} {Z Z' : Nat → Prop} {C C' : Cons} {b : Blk} {c : Con} (hz : ∀ b, Z b → Z' b) (hw : ∀ b, Z b ∨ b ∈ c.foot → w'.heap[b]? = w.heap[b]?) (he : Ext C C')
    (h : BR w Z C b c) : BR w' Z' C' b c := by
  cases b with
  | row k e xs own =>
    cases c with
    | row v F =>
      cases own
      · exact ⟨h.1, h.2.mono (fun b hb => hw b (.inl hb)) hz⟩
      · exact ⟨h.1.mono fun b hb => hw b (.inr hb), h.2⟩
    | box b => cases own <;> exact h
  | box t cs =>
    cases c with
    | row v F => exact h
    | box b =>
      obtain ⟨vs, h1, h2⟩ := h
      exact ⟨vs, by rw [hw b (.inr (by simp [Con.foot]))]; exact h1, h2.imp fun _ _ => CR.ext he⟩
  | dead => cases c <;> trivial

/-- the blocks that number i owns -/
def ft (h : List (Nat × Blk)) (C : Cons) (i : Nat) : List Nat :=
  match lk h i, C i with
  | some .dead, _ => []
  | some _, some c => c.foot
  | _, _ => []

/-- the world is as it was at first, but for what may turn -/
structure Frm (B : Nat) (Fr : Nat → Prop) (w0 w : World) : Prop where
  os : w.os = w0.os
  tape : w.tape = w0.tape
  out : w.output = w0.output ∧ DrLe w0.drawn w.drawn
  size : B ≤ w.heap.size
  blk : ∀ b, b < B → ¬ Fr b → w.heap[b]? = w0.heap[b]?

structure HR (B : Nat) (Fr Z0 : Nat → Prop) (w0 : World) (h : List (Nat × Blk)) (C : Cons) (Z : Nat → Prop) (w : World) : Prop where
  dom : ∀ i, lk h i = none → C i = none
  blk : ∀ i b, lk h i = some b → ∃ c, C i = some c ∧ BR w Z C b c
  dis : ∀ i j, i ≠ j → ∀ b, b ∈ ft h C i → b ∉ ft h C j
  own : ∀ i b, b ∈ ft h C i → b < w.heap.size ∧ ¬ Z b ∧ (B ≤ b ∨ Fr b)
  zon : ∀ b, Z b → b < w.heap.size
  zsb : ∀ b, Z0 b → Z b
  zin : ∀ b, Z b → Z0 b ∨ B ≤ b ∨ Fr b
  frm : Frm B Fr w0 w

theorem ft_mem {h : List (Nat × Blk)} {C : Cons} {i : Nat} {b : Blk} {c : Con} (h1 : lk h i = some b) (hd : b ≠ .dead) (h2 : C i = some c) : ft h C i = c.foot := by
  unfold ft
  rw [h1, h2]
  cases b <;> first | rfl | exact absurd rfl hd

/-- The numbers of which U holds turn, all others stay. -/
theorem HR.step {B : Nat} {Fr Z0 : Nat → Prop} {w0 w w' : World} {h h' : List (Nat × Blk)} {C C' : Cons} {Z Z' : Nat → Prop} (H : HR B Fr Z0 w0 h C Z w) (U : Nat → Prop)
    (same : ∀ i, ¬ U i → lk h' i = lk h i ∧ C' i = C i) (ext : Ext C C')
    (dom' : ∀ i, U i → lk h' i = none → C' i = none)
    (blk' : ∀ i b, U i → lk h' i = some b → ∃ c, C' i = some c ∧ BR w' Z' C' b c)
    (own' : ∀ i b, U i → b ∈ ft h' C' i → b < w'.heap.size ∧ ¬ Z' b ∧ ((∃ j, U j ∧ b ∈ ft h C j) ∨ w.heap.size ≤ b ∨ ((∀ j, b ∉ ft h C j) ∧ (B ≤ b ∨ Fr b))))
    (dis' : ∀ i j, U i → U j → i ≠ j → ∀ b, b ∈ ft h' C' i → b ∉ ft h' C' j)
    (zmono : ∀ b, Z b → Z' b)
    (zon' : ∀ b, Z' b → b < w'.heap.size ∧ (Z b ∨ (∃ j, U j ∧ b ∈ ft h C j) ∨ w.heap.size ≤ b))
    (wld : ∀ b, b < w.heap.size → (∀ j, U j → b ∉ ft h C j) → (Z b ∨ (∃ i, b ∈ ft h C i) ∨ (b < B ∧ ¬ Fr b)) → w'.heap[b]? = w.heap[b]?)
    (size : w.heap.size ≤ w'.heap.size) (os : w'.os = w.os) (tape : w'.tape = w.tape) (out : w'.output = w.output ∧ DrLe w.drawn w'.drawn) : HR B Fr Z0 w0 h' C' Z' w' := by
  have ftsame : ∀ i, ¬ U i → ft h' C' i = ft h C i := fun i hi => by unfold ft; rw [(same i hi).1, (same i hi).2]
  have away : ∀ i b, ¬ U i → b ∈ ft h C i → ∀ j, U j → b ∉ ft h C j := fun i b hi hb j hj => H.dis i j (fun e => hi (e ▸ hj)) b hb
  have zaway : ∀ b, Z b → ∀ j, b ∉ ft h C j := fun b hb j hj => (H.own j b hj).2.1 hb
  refine ⟨fun i hi => ?_, fun i b hb => ?_, fun i j hij b hb => ?_, fun i b hb => ?_, fun b hb => (zon' b hb).1, fun b hb => zmono b (H.zsb b hb), fun b hb => ?_, ?_⟩
  · by_cases hU : U i
    · exact dom' i hU hi
    · rw [(same i hU).2]; rw [(same i hU).1] at hi; exact H.dom i hi
  · by_cases hU : U i
    · exact blk' i b hU hb
    · rw [(same i hU).1] at hb
      obtain ⟨c, hc, hr⟩ := H.blk i b hb
      refine ⟨c, by rw [(same i hU).2]; exact hc, ?_⟩
      by_cases hd : b = .dead
      · subst hd; cases c <;> trivial
      · refine hr.mono zmono (fun q hq => ?_) ext
        rcases hq with hq | hq
        · exact wld q (H.zon q hq) (fun j _ => zaway q hq j) (.inl hq)
        · rw [← ft_mem hb hd hc] at hq
          exact wld q (H.own i q hq).1 (away i q hU hq) (.inr (.inl ⟨i, hq⟩))
  · by_cases hi : U i <;> by_cases hj : U j
    · exact dis' i j hi hj hij b hb
    · rw [ftsame j hj]
      intro hb2
      rcases (own' i b hi hb).2.2 with ⟨q, hq, hbq⟩ | hge | ⟨hfr, _⟩
      · exact away j b hj hb2 q hq hbq
      · exact absurd (H.own j b hb2).1 (by omega)
      · exact hfr j hb2
    · rw [ftsame i hi] at hb
      intro hb2
      rcases (own' j b hj hb2).2.2 with ⟨q, hq, hbq⟩ | hge | ⟨hfr, _⟩
      · exact away i b hi hb q hq hbq
      · exact absurd (H.own i b hb).1 (by omega)
      · exact hfr i hb
    · rw [ftsame i hi] at hb; rw [ftsame j hj]; exact H.dis i j hij b hb
  · by_cases hU : U i
    · obtain ⟨h1, h2, h3⟩ := own' i b hU hb
      refine ⟨h1, h2, ?_⟩
      rcases h3 with ⟨j, _, hbj⟩ | hge | ⟨_, hfr⟩
      · exact (H.own j b hbj).2.2
      · exact .inl (Nat.le_trans H.frm.size hge)
      · exact hfr
    · rw [ftsame i hU] at hb
      obtain ⟨h1, h2, h3⟩ := H.own i b hb
      refine ⟨Nat.lt_of_lt_of_le h1 size, fun hz => ?_, h3⟩
      rcases (zon' b hz).2 with hz | ⟨j, hj, hbj⟩ | hge
      · exact h2 hz
      · exact away i b hU hb j hj hbj
      · omega
  · rcases (zon' b hb).2 with h | ⟨j, _, h⟩ | h
    · exact H.zin b h
    · exact .inr (H.own j b h).2.2
    · exact .inr (.inl (Nat.le_trans H.frm.size h))
  · refine ⟨os.trans H.frm.os, tape.trans H.frm.tape, ⟨out.1.trans H.frm.out.1, DrLe.trans H.frm.out.2 out.2⟩, Nat.le_trans H.frm.size size, fun b hb hF => ?_⟩
    rw [wld b (Nat.lt_of_lt_of_le hb H.frm.size) (fun j _ hbj => ?_) (.inr (.inr ⟨hb, hF⟩))]
    · exact H.frm.blk b hb hF
    · rcases (H.own j b hbj).2.2 with h1 | h1
      · omega
      · exact hF h1

end Go.Ev
