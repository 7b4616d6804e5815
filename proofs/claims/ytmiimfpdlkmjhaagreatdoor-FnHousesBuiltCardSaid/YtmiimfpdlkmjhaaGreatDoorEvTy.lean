/- The table of kinds over a program; typed values out of abstract ones. -/
import Derived.Test.YtmiimfpdlkmjhaaGreatDoorEvHeap
set_option linter.unusedVariables false
set_option linter.unusedSectionVars false
namespace Go.Ev
open Go
variable [Lax]

def zeroVs : Kd → List Value
  | .int k => [.int k 0]
  | .bool => [.bool false]
  | .err => [.nilIface]
  | .str => [.string ByteArray.empty]
  | .raw => [.slice none 0 0]
  | .sl _ _ => [.slice none 0 0]
  | .st k => zeroVs k
  | .pair a b => zeroVs a ++ zeroVs b
def zeroV (k : Kd) : Value := match k.isSt with | true => .agg (zeroVs k).toArray | false => match zeroVs k with | v :: _ => v | [] => .bool false

/-- the fields, one behind the other -/
def FsFit (P : Program) : Kd → List Field → Nat → Prop
  | .pair a b, f :: fs, off => f.offset = off ∧ (∃ i, P.info? f.type = some i ∧ i.size = a.sz) ∧ FsFit P b fs (off + a.sz)
  | k, [f], off => f.offset = off ∧ ∃ i, P.info? f.type = some i ∧ i.size = k.sz
  | _, _, _ => False

structure Fits (P : Program) (t : TypeId) (k : Kd) : Prop where
  out : ∃ i, P.info? t = some i ∧ i.size = k.sz ∧ i.zero = some (zeroV k)

def TyFit (P : Program) (lim : TypeId → Nat) (t : TypeId) (k : Kd) : Prop :=
  Fits P t k ∧ match k with
  | .int j => P.underlying t = some (.int j)
  | .bool => P.underlying t = some .bool
  | .err => ∃ m, P.underlying t = some (.interface m)
  | .str => P.underlying t = some .string
  | .raw => ∃ e, P.underlying t = some (.slice e)
  | .sl e q => q.noPair = true ∧ P.underlying t = some (.slice e) ∧ ∃ i, P.info? e = some i ∧ i.size = q.sz ∧ i.zero = some (zeroV q) ∧ i.bytes * lim e ≤ 140737488355328 ∧ lim e ≤ maxLen
  | .st q => ∃ fs, P.underlying t = some (.struct fs) ∧ FsFit P q fs.toList 0
  | .pair _ _ => False

/-- a type of one cell that is no struct -/
def OneFit (P : Program) (t : TypeId) : Prop := ∃ d, P.underlying t = some d ∧ (match d with | .struct _ | .array _ _ => False | _ => True) ∧ ∃ i, P.info? t = some i ∧ i.size = 1

/-- fields that are numbers -/
def IntFs (P : Program) : Kd → List Field → Nat → Prop
  | .pair (.int j) b, f :: fs, off => f.name ≠ "_" ∧ f.offset = off ∧ P.underlying f.type = some (.int j) ∧ IntFs P b fs (off + 1)
  | .int j, [f], off => f.name ≠ "_" ∧ f.offset = off ∧ P.underlying f.type = some (.int j)
  | _, _, _ => False
def EqOk (P : Program) (t : TypeId) : Kd → Prop
  | .st q => q.ints = true → P.stoodInHeld t = false ∧ P.eqGuardType P.depth t = false ∧ ∃ fs, P.underlying t = some (.struct fs) ∧ IntFs P q fs.toList 0
  | _ => True
structure TyOk (P : Program) (env : Env) : Prop where
  ty : ∀ t k, env.ty t = some k → TyFit P env.lim t k
  one : ∀ t, env.one t = true → OneFit P t
  eqs : ∀ t k, env.ty t = some k → EqOk P t k

theorem zeroVs_len : ∀ k : Kd, (zeroVs k).length = k.sz
  | .int _ => rfl
  | .bool => rfl
  | .err => rfl
  | .str => rfl
  | .raw => rfl
  | .sl _ _ => rfl
  | .st k => zeroVs_len k
  | .pair a b => by simp [zeroVs, Kd.sz, zeroVs_len a, zeroVs_len b]
theorem Kd.ne_pair {k : Kd} (h : k.noPair = true) : ∀ a b, k ≠ .pair a b := fun a b e => by subst e; cases h
theorem zeroV_cells : ∀ k : Kd, (∀ a b, k ≠ .pair a b) → (zeroV k).cells.toList = zeroVs k
  | .int _, _ => rfl
  | .bool, _ => rfl
  | .err, _ => rfl
  | .str, _ => rfl
  | .raw, _ => rfl
  | .sl _ _, _ => rfl
  | .st k, _ => by simp [zeroV, Kd.isSt, Value.cells]
  | .pair a b, h => absurd rfl (h a b)
theorem TyFit.noPair {P : Program} {lim : TypeId → Nat} {t : TypeId} {k : Kd} (h : TyFit P lim t k) : ∀ a b, k ≠ .pair a b := by
  intro a b e; subst e; exact h.2
theorem zero_CR (C : Cons) : ∀ k : Kd, All2 (CR C) (zeroAVs k) (zeroVs k)
  | .int _ => by simp [zeroAVs, zeroVs, All2, CR, CR0]
  | .bool => by simp [zeroAVs, zeroVs, All2, CR, CR0]
  | .err => ⟨.inl ⟨rfl, rfl⟩, trivial⟩
  | .str => by simp [zeroAVs, zeroVs, All2, CR, CR0]
  | .raw => by simp [zeroAVs, zeroVs, All2, CR, CR0, Raw.zero]
  | .sl _ _ => by simp [zeroAVs, zeroVs, All2, CR, CR0]
  | .st k => zero_CR C k
  | .pair a b => All2.append (zero_CR C a) (zero_CR C b)
theorem zero_Ow (w : World) : ∀ k : Kd, Ow w k [] k.zero (zeroVs k)
  | .int _ => ⟨rfl, rfl⟩
  | .bool => ⟨rfl, rfl⟩
  | .err => ⟨rfl, _, rfl, .inl ⟨rfl, rfl⟩⟩
  | .str => ⟨rfl, rfl⟩
  | .raw => ⟨rfl, rfl⟩
  | .sl e k => ⟨.slice none 0 0, [], [], rfl, World.ownsRow_nil w 0 e k.sz, ⟨rfl, rfl⟩, rfl⟩
  | .st k => zero_Ow w k
  | .pair a b => ⟨[], [], zeroVs a, zeroVs b, rfl, rfl, zero_Ow w a, zero_Ow w b⟩

/-! ### typed values out of cells -/

theorem blkOf_lk {h : List (Nat × Blk)} {i : Nat} {b : Blk} (hb : blkOf h i = b) (hd : b ≠ .dead) : lk h i = some b := by
  unfold blkOf at hb
  split at hb
  · rename_i b' hl; subst hb; exact hl
  · exact absurd hb.symm hd

section
variable {B : Nat} {Fr Z0 : Nat → Prop} {w0 w w' : World} {h : List (Nat × Blk)} {C : Cons} {Z : Nat → Prop}

/-- all that can be read -/
def ZAll (h : List (Nat × Blk)) (C : Cons) (Z : Nat → Prop) (b : Nat) : Prop := Z b ∨ ∃ i, b ∈ ft h C i
theorem HR.rowRd (H : HR B Fr Z0 w0 h C Z w) {id : Nat} {k : Kd} {e : TypeId} {xs : List k.Ty} {own : Bool} (hl : lk h id = some (.row k e xs own)) :
    ∃ v F, C id = some (.row v F) ∧ Rd w (ZAll h C Z) (.sl e k) xs [v] := by
  obtain ⟨c, hc, hr⟩ := H.blk id _ hl
  cases c with
  | box b => cases own <;> exact hr.elim
  | row v F =>
    refine ⟨v, F, hc, ?_⟩
    cases own
    · exact hr.2.mono (fun b _ => rfl) (fun b hb => .inl hb)
    · exact hr.1.rd fun b hb => .inr ⟨id, by rw [ft_mem hl (by simp) hc]; exact hb⟩

theorem reC_suf : ∀ {k : Kd} {l l' : List AV} {x : k.Ty} {h : List (Nat × Blk)}, reC h k l = some (x, l') → ∃ p, l = p ++ l' := by
  intro k
  induction k with
  | int j =>
    intro l l' x h hr
    match l with
    | .int i n :: l => simp only [reC] at hr; split at hr; (· cases hr; exact ⟨[_], rfl⟩); (· cases hr)
    | [] | .undef :: _ | .nil :: _ | .nilp :: _ | .bool _ :: _ | .str _ :: _ | .sl _ :: _ | .ep _ _ _ _ :: _ | .ptr _ _ :: _ | .agg _ :: _ | .tup _ :: _ | .fn _ _ :: _ | .raw _ :: _ | .tl _ _ _ :: _ | .err _ :: _ => simp [reC] at hr
  | bool =>
    intro l l' x h hr
    match l with
    | .bool b :: l => simp only [reC] at hr; cases hr; exact ⟨[_], rfl⟩
    | [] | .undef :: _ | .nil :: _ | .nilp :: _ | .int _ _ :: _ | .str _ :: _ | .sl _ :: _ | .ep _ _ _ _ :: _ | .ptr _ _ :: _ | .agg _ :: _ | .tup _ :: _ | .fn _ _ :: _ | .raw _ :: _ | .tl _ _ _ :: _ | .err _ :: _ => simp [reC] at hr
  | err =>
    intro l l' x h hr
    match l with
    | .err b :: l => simp only [reC] at hr; cases hr; exact ⟨[_], rfl⟩
    | [] | .undef :: _ | .nil :: _ | .nilp :: _ | .int _ _ :: _ | .str _ :: _ | .sl _ :: _ | .ep _ _ _ _ :: _ | .ptr _ _ :: _ | .agg _ :: _ | .tup _ :: _ | .fn _ _ :: _ | .raw _ :: _ | .tl _ _ _ :: _ | .bool _ :: _ => simp [reC] at hr
  | str =>
    intro l l' x h hr
    match l with
    | .str b :: l => simp only [reC] at hr; cases hr; exact ⟨[_], rfl⟩
    | [] | .undef :: _ | .nil :: _ | .nilp :: _ | .int _ _ :: _ | .bool _ :: _ | .sl _ :: _ | .ep _ _ _ _ :: _ | .ptr _ _ :: _ | .agg _ :: _ | .tup _ :: _ | .fn _ _ :: _ | .raw _ :: _ | .tl _ _ _ :: _ | .err _ :: _ => simp [reC] at hr
  | raw =>
    intro l l' x h hr
    match l with
    | .raw b :: l => simp only [reC] at hr; cases hr; exact ⟨[_], rfl⟩
    | [] | .undef :: _ | .nil :: _ | .nilp :: _ | .int _ _ :: _ | .bool _ :: _ | .sl _ :: _ | .ep _ _ _ _ :: _ | .ptr _ _ :: _ | .agg _ :: _ | .tup _ :: _ | .fn _ _ :: _ | .str _ :: _ | .tl _ _ _ :: _ | .err _ :: _ => simp [reC] at hr
  | sl e k ih =>
    intro l l' x h hr
    match l with
    | .nil :: l => simp only [reC] at hr; cases hr; exact ⟨[_], rfl⟩
    | .sl id :: l =>
      simp only [reC] at hr
      split at hr
      · split at hr
        · split at hr
          · cases hr; exact ⟨[_], rfl⟩
          · cases hr
        · cases hr
      · cases hr
    | [] | .undef :: _ | .nilp :: _ | .int _ _ :: _ | .bool _ :: _ | .str _ :: _ | .ep _ _ _ _ :: _ | .ptr _ _ :: _ | .agg _ :: _ | .tup _ :: _ | .fn _ _ :: _ | .raw _ :: _ | .tl _ _ _ :: _ | .err _ :: _ => simp [reC] at hr
  | st k ih => intro l l' x h hr; exact ih (by simpa [reC] using hr)
  | pair a b iha ihb =>
    intro l l' x h hr
    simp only [reC] at hr
    split at hr
    · rename_i x1 l1 hx1
      split at hr
      · rename_i y1 l2 hy1
        cases hr
        obtain ⟨p, rfl⟩ := iha hx1
        obtain ⟨q, rfl⟩ := ihb hy1
        exact ⟨p ++ q, by simp⟩
      · cases hr
    · cases hr

theorem reC_gen {h0 : List (Nat × Blk)} {Zt : Nat → Prop} : ∀ {k : Kd} {l l' : List AV} {x : k.Ty} {vs : List Value}, reC h0 k l = some (x, l') → All2 (CR C) l vs → (∀ id k e xs own, AV.sl id ∈ l → blkOf h0 id = .row k e xs own → ∃ v F, C id = some (.row v F) ∧ Rd w Zt (.sl e k) xs [v]) →
    ∃ cs vs', vs = cs ++ vs' ∧ Rd w Zt k x cs ∧ All2 (CR C) l' vs' := by
  intro k
  induction k with
  | int j =>
    intro l l' x vs hr ha hrow
    match l, vs, ha with
    | [], _, _ => simp [reC] at hr
    | .int i n :: l, v :: vs, ⟨h1, h2⟩ =>
      simp only [reC] at hr
      split at hr
      · rename_i e; subst e; cases hr
        simp only [CR, CR0] at h1
        exact ⟨[v], vs, rfl, by rw [h1]; rfl, h2⟩
      · cases hr
    | .undef :: _, _, _ | .nil :: _, _, _ | .nilp :: _, _, _ | .bool _ :: _, _, _ | .str _ :: _, _, _ | .sl _ :: _, _, _ | .ep _ _ _ _ :: _, _, _ | .ptr _ _ :: _, _, _ | .agg _ :: _, _, _ | .tup _ :: _, _, _ | .fn _ _ :: _, _, _ | .raw _ :: _, _, _ | .tl _ _ _ :: _, _, _ | .err _ :: _, _, _ => simp [reC] at hr
  | bool =>
    intro l l' x vs hr ha hrow
    match l, vs, ha with
    | [], _, _ => simp [reC] at hr
    | .bool b :: l, v :: vs, ⟨h1, h2⟩ =>
      simp only [reC] at hr; cases hr
      simp only [CR, CR0] at h1
      exact ⟨[v], vs, rfl, by rw [h1]; rfl, h2⟩
    | .undef :: _, _, _ | .nil :: _, _, _ | .nilp :: _, _, _ | .int _ _ :: _, _, _ | .str _ :: _, _, _ | .sl _ :: _, _, _ | .ep _ _ _ _ :: _, _, _ | .ptr _ _ :: _, _, _ | .agg _ :: _, _, _ | .tup _ :: _, _, _ | .fn _ _ :: _, _, _ | .raw _ :: _, _, _ | .tl _ _ _ :: _, _, _ | .err _ :: _, _, _ => simp [reC] at hr
  | err =>
    intro l l' x vs hr ha hrow
    match l, vs, ha with
    | [], _, _ => simp [reC] at hr
    | .err b :: l, v :: vs, ⟨h1, h2⟩ =>
      simp only [reC] at hr; cases hr
      simp only [CR, CR0] at h1
      exact ⟨[v], vs, rfl, ⟨v, rfl, h1⟩, h2⟩
    | .undef :: _, _, _ | .nil :: _, _, _ | .nilp :: _, _, _ | .int _ _ :: _, _, _ | .str _ :: _, _, _ | .sl _ :: _, _, _ | .ep _ _ _ _ :: _, _, _ | .ptr _ _ :: _, _, _ | .agg _ :: _, _, _ | .tup _ :: _, _, _ | .fn _ _ :: _, _, _ | .raw _ :: _, _, _ | .tl _ _ _ :: _, _, _ | .bool _ :: _, _, _ => simp [reC] at hr
  | str =>
    intro l l' x vs hr ha hrow
    match l, vs, ha with
    | [], _, _ => simp [reC] at hr
    | .str s :: l, v :: vs, ⟨h1, h2⟩ =>
      simp only [reC] at hr; cases hr
      simp only [CR, CR0] at h1
      exact ⟨[v], vs, rfl, by rw [h1]; rfl, h2⟩
    | .undef :: _, _, _ | .nil :: _, _, _ | .nilp :: _, _, _ | .int _ _ :: _, _, _ | .bool _ :: _, _, _ | .sl _ :: _, _, _ | .ep _ _ _ _ :: _, _, _ | .ptr _ _ :: _, _, _ | .agg _ :: _, _, _ | .tup _ :: _, _, _ | .fn _ _ :: _, _, _ | .raw _ :: _, _, _ | .tl _ _ _ :: _, _, _ | .err _ :: _, _, _ => simp [reC] at hr
  | raw =>
    intro l l' x vs hr ha hrow
    match l, vs, ha with
    | [], _, _ => simp [reC] at hr
    | .raw s :: l, v :: vs, ⟨h1, h2⟩ =>
      simp only [reC] at hr; cases hr
      simp only [CR, CR0] at h1
      exact ⟨[v], vs, rfl, by rw [h1]; rfl, h2⟩
    | .undef :: _, _, _ | .nil :: _, _, _ | .nilp :: _, _, _ | .int _ _ :: _, _, _ | .bool _ :: _, _, _ | .sl _ :: _, _, _ | .ep _ _ _ _ :: _, _, _ | .ptr _ _ :: _, _, _ | .agg _ :: _, _, _ | .tup _ :: _, _, _ | .fn _ _ :: _, _, _ | .str _ :: _, _, _ | .tl _ _ _ :: _, _, _ | .err _ :: _, _, _ => simp [reC] at hr
  | sl e k ih =>
    intro l l' x vs hr ha hrow
    match l, vs, ha with
    | [], _, _ => simp [reC] at hr
    | .nil :: l, v :: vs, ⟨h1, h2⟩ =>
      simp only [reC] at hr; cases hr
      simp only [CR, CR0] at h1
      exact ⟨[v], vs, rfl, by rw [h1]; exact ⟨none, 0, rfl, Nat.le_refl _, by simp, .inl rfl⟩, h2⟩
    | .sl id :: l, v :: vs, ⟨h1, h2⟩ =>
      simp only [reC] at hr
      split at hr
      · rename_i k' e' xs own hb
        split at hr
        · rename_i hk; subst hk
          split at hr
          · rename_i he; subst he; cases hr
            obtain ⟨v', F, hc, hrd⟩ := hrow id _ _ _ _ (by simp) hb
            simp only [CR, CR0] at h1
            obtain ⟨⟨F', h1⟩, _⟩ := h1
            rw [hc] at h1; cases h1
            exact ⟨[_], vs, rfl, hrd, h2⟩
          · cases hr
        · cases hr
      · cases hr
    | .undef :: _, _, _ | .nilp :: _, _, _ | .int _ _ :: _, _, _ | .bool _ :: _, _, _ | .str _ :: _, _, _ | .ep _ _ _ _ :: _, _, _ | .ptr _ _ :: _, _, _ | .agg _ :: _, _, _ | .tup _ :: _, _, _ | .fn _ _ :: _, _, _ | .raw _ :: _, _, _ | .tl _ _ _ :: _, _, _ | .err _ :: _, _, _ => simp [reC] at hr
  | st k ih => intro l l' x vs hr ha hrow; exact ih (by simpa [reC] using hr) ha hrow
  | pair a b iha ihb =>
    intro l l' x vs hr ha hrow
    simp only [reC] at hr
    split at hr
    · rename_i x1 l1 hx1
      split at hr
      · rename_i y1 l2 hy1
        cases hr
        obtain ⟨p1, hp1⟩ := reC_suf hx1
        obtain ⟨c1, v1, rfl, r1, s1⟩ := iha hx1 ha hrow
        obtain ⟨c2, v2, rfl, r2, s2⟩ := ihb hy1 s1 (fun id k e xs own hm => hrow id k e xs own (by rw [hp1]; exact List.mem_append_right _ hm))
        exact ⟨c1 ++ c2, v2, by simp, ⟨c1, c2, rfl, r1, r2⟩, s2⟩
      · cases hr
    · cases hr
theorem reC_rd (H : HR B Fr Z0 w0 h C Z w) {h0 : List (Nat × Blk)} (hs : ∀ i b, lk h0 i = some b → lk h i = some b) {k : Kd} {l l' : List AV} {x : k.Ty} {vs : List Value} (hr : reC h0 k l = some (x, l')) (ha : All2 (CR C) l vs) :
    ∃ cs vs', vs = cs ++ vs' ∧ Rd w (ZAll h C Z) k x cs ∧ All2 (CR C) l' vs' :=
  reC_gen hr ha fun id k e xs own _ hb => H.rowRd (hs _ _ (blkOf_lk hb (by simp)))

theorem reO_ow' (H : HR B Fr Z0 w0 h C Z w) {h0 : List (Nat × Blk)} {D : Nat → Prop} (hs : ∀ i b, D i → lk h0 i = some b → lk h i = some b) : ∀ {k : Kd} {l l' : List AV} {x : k.Ty} {vs : List Value} {ids : List Nat}, reO h0 k l = some (x, l', ids) → (∀ i, i ∈ ids → D i) → All2 (CR C) l vs →
    ∃ cs vs' F, vs = cs ++ vs' ∧ Ow w k F x cs ∧ (∀ b, b ∈ F → ∃ i, i ∈ ids ∧ b ∈ ft h C i) ∧ (ids.Nodup → F.Nodup) ∧ (∀ i, i ∈ ids → ∃ k e xs, lk h i = some (.row k e xs true)) ∧ All2 (CR C) l' vs' := by
  intro k
  induction k with
  | int j =>
    intro l l' x vs ids hr hD ha
    match l, vs, ha with
    | [], _, _ => simp [reO] at hr
    | .int i n :: l, v :: vs, ⟨h1, h2⟩ =>
      simp only [reO] at hr; split at hr
      · rename_i e; subst e; cases hr
        simp only [CR, CR0] at h1
        exact ⟨[v], vs, [], rfl, ⟨rfl, by rw [h1]⟩, (fun b hb => by cases hb), (fun _ => List.nodup_nil), (fun i hi => by cases hi), h2⟩
      · cases hr
    | .undef :: _, _, _ | .nil :: _, _, _ | .nilp :: _, _, _ | .bool _ :: _, _, _ | .str _ :: _, _, _ | .sl _ :: _, _, _ | .ep _ _ _ _ :: _, _, _ | .ptr _ _ :: _, _, _ | .agg _ :: _, _, _ | .tup _ :: _, _, _ | .fn _ _ :: _, _, _ | .raw _ :: _, _, _ | .tl _ _ _ :: _, _, _ | .err _ :: _, _, _ => simp [reO] at hr
  | bool =>
    intro l l' x vs ids hr hD ha
    match l, vs, ha with
    | [], _, _ => simp [reO] at hr
    | .bool b :: l, v :: vs, ⟨h1, h2⟩ =>
      simp only [reO] at hr
      cases hr
      simp only [CR, CR0] at h1
      exact ⟨[v], vs, [], rfl, ⟨rfl, by rw [h1]⟩, (fun b hb => by cases hb), (fun _ => List.nodup_nil), (fun i hi => by cases hi), h2⟩
    | .undef :: _, _, _ | .nil :: _, _, _ | .nilp :: _, _, _ | .int _ _ :: _, _, _ | .str _ :: _, _, _ | .sl _ :: _, _, _ | .ep _ _ _ _ :: _, _, _ | .ptr _ _ :: _, _, _ | .agg _ :: _, _, _ | .tup _ :: _, _, _ | .fn _ _ :: _, _, _ | .raw _ :: _, _, _ | .tl _ _ _ :: _, _, _ | .err _ :: _, _, _ => simp [reO] at hr
  | err =>
    intro l l' x vs ids hr hD ha
    match l, vs, ha with
    | [], _, _ => simp [reO] at hr
    | .err b :: l, v :: vs, ⟨h1, h2⟩ =>
      simp only [reO] at hr
      cases hr
      simp only [CR, CR0] at h1
      exact ⟨[v], vs, [], rfl, ⟨rfl, v, rfl, h1⟩, (fun b hb => by cases hb), (fun _ => List.nodup_nil), (fun i hi => by cases hi), h2⟩
    | .undef :: _, _, _ | .nil :: _, _, _ | .nilp :: _, _, _ | .int _ _ :: _, _, _ | .str _ :: _, _, _ | .sl _ :: _, _, _ | .ep _ _ _ _ :: _, _, _ | .ptr _ _ :: _, _, _ | .agg _ :: _, _, _ | .tup _ :: _, _, _ | .fn _ _ :: _, _, _ | .raw _ :: _, _, _ | .tl _ _ _ :: _, _, _ | .bool _ :: _, _, _ => simp [reO] at hr
  | str =>
    intro l l' x vs ids hr hD ha
    match l, vs, ha with
    | [], _, _ => simp [reO] at hr
    | .str s :: l, v :: vs, ⟨h1, h2⟩ =>
      simp only [reO] at hr
      cases hr
      simp only [CR, CR0] at h1
      exact ⟨[v], vs, [], rfl, ⟨rfl, by rw [h1]⟩, (fun b hb => by cases hb), (fun _ => List.nodup_nil), (fun i hi => by cases hi), h2⟩
    | .undef :: _, _, _ | .nil :: _, _, _ | .nilp :: _, _, _ | .int _ _ :: _, _, _ | .bool _ :: _, _, _ | .sl _ :: _, _, _ | .ep _ _ _ _ :: _, _, _ | .ptr _ _ :: _, _, _ | .agg _ :: _, _, _ | .tup _ :: _, _, _ | .fn _ _ :: _, _, _ | .raw _ :: _, _, _ | .tl _ _ _ :: _, _, _ | .err _ :: _, _, _ => simp [reO] at hr
  | raw =>
    intro l l' x vs ids hr hD ha
    match l, vs, ha with
    | [], _, _ => simp [reO] at hr
    | .raw s :: l, v :: vs, ⟨h1, h2⟩ =>
      simp only [reO] at hr
      cases hr
      simp only [CR, CR0] at h1
      exact ⟨[v], vs, [], rfl, ⟨rfl, by rw [h1]⟩, (fun b hb => by cases hb), (fun _ => List.nodup_nil), (fun i hi => by cases hi), h2⟩
    | .undef :: _, _, _ | .nil :: _, _, _ | .nilp :: _, _, _ | .int _ _ :: _, _, _ | .bool _ :: _, _, _ | .sl _ :: _, _, _ | .ep _ _ _ _ :: _, _, _ | .ptr _ _ :: _, _, _ | .agg _ :: _, _, _ | .tup _ :: _, _, _ | .fn _ _ :: _, _, _ | .str _ :: _, _, _ | .tl _ _ _ :: _, _, _ | .err _ :: _, _, _ => simp [reO] at hr
  | sl e k ih =>
    intro l l' x vs ids hr hD ha
    match l, vs, ha with
    | [], _, _ => simp [reO] at hr
    | .nil :: l, v :: vs, ⟨h1, h2⟩ =>
      simp only [reO] at hr; cases hr
      simp only [CR, CR0] at h1
      exact ⟨[v], vs, [], rfl, by rw [h1]; exact ⟨_, [], [], rfl, World.ownsRow_nil w 0 e k.sz, ⟨rfl, rfl⟩, rfl⟩, (fun b hb => by cases hb), (fun _ => List.nodup_nil), (fun i hi => by cases hi), h2⟩
    | .sl id :: l, v :: vs, ⟨h1, h2⟩ =>
      simp only [reO] at hr
      split at hr
      · rename_i k' e' xs hb
        split at hr
        · rename_i hk; subst hk
          split at hr
          · rename_i he; subst he; cases hr
            have hl := hs _ _ (hD id (by simp)) (blkOf_lk hb (by simp))
            obtain ⟨c, hc, hbr⟩ := H.blk id _ hl
            simp only [CR, CR0] at h1
            obtain ⟨⟨F', h1⟩, _⟩ := h1
            rw [hc] at h1; cases h1
            have hf := ft_mem hl (by simp) hc
            exact ⟨[_], vs, F', rfl, hbr.1, (fun b hb => ⟨id, by simp, by rw [hf]; exact hb⟩), (fun _ => hbr.2), (fun i hi => by simp at hi; subst hi; exact ⟨_, _, _, hl⟩), h2⟩
          · cases hr
        · cases hr
      · cases hr
    | .undef :: _, _, _ | .nilp :: _, _, _ | .int _ _ :: _, _, _ | .bool _ :: _, _, _ | .str _ :: _, _, _ | .ep _ _ _ _ :: _, _, _ | .ptr _ _ :: _, _, _ | .agg _ :: _, _, _ | .tup _ :: _, _, _ | .fn _ _ :: _, _, _ | .raw _ :: _, _, _ | .tl _ _ _ :: _, _, _ | .err _ :: _, _, _ => simp [reO] at hr
  | st k ih => intro l l' x vs ids hr hD ha; exact ih (by simpa [reO] using hr) hD ha
  | pair a b iha ihb =>
    intro l l' x vs ids hr hD ha
    simp only [reO] at hr
    split at hr
    · rename_i x1 l1 i1 hx1
      split at hr
      · rename_i y1 l2 i2 hy1
        cases hr
        obtain ⟨c1, v1, F1, rfl, r1, f1, n1, o1, s1⟩ := iha hx1 (fun i hi => hD i (List.mem_append_left _ hi)) ha
        obtain ⟨c2, v2, F2, rfl, r2, f2, n2, o2, s2⟩ := ihb hy1 (fun i hi => hD i (List.mem_append_right _ hi)) s1
        refine ⟨c1 ++ c2, v2, F1 ++ F2, by simp, ⟨F1, F2, c1, c2, rfl, rfl, r1, r2⟩, ?_, ?_, ?_, s2⟩
        · intro q hq
          rcases List.mem_append.1 hq with hq | hq
          · obtain ⟨i, hi, hb⟩ := f1 q hq; exact ⟨i, List.mem_append_left _ hi, hb⟩
          · obtain ⟨i, hi, hb⟩ := f2 q hq; exact ⟨i, List.mem_append_right _ hi, hb⟩
        · intro hn
          obtain ⟨m1, m2, m3⟩ := List.nodup_append.1 hn
          refine List.nodup_append.2 ⟨n1 m1, n2 m2, fun q hq q' hq' e => ?_⟩
          subst e
          obtain ⟨i, hi, hb⟩ := f1 q hq
          obtain ⟨j, hj, hb'⟩ := f2 q hq'
          exact H.dis i j (m3 i hi j hj) q hb hb'
        · intro i hi
          rcases List.mem_append.1 hi with hi | hi
          · exact o1 i hi
          · exact o2 i hi
      · cases hr
    · cases hr

theorem reO_ow (H : HR B Fr Z0 w0 h C Z w) {h0 : List (Nat × Blk)} (hs : ∀ i b, lk h0 i = some b → lk h i = some b) {k : Kd} {l l' : List AV} {x : k.Ty} {vs : List Value} {ids : List Nat} (hr : reO h0 k l = some (x, l', ids)) (ha : All2 (CR C) l vs) :
    ∃ cs vs' F, vs = cs ++ vs' ∧ Ow w k F x cs ∧ (∀ b, b ∈ F → ∃ i, i ∈ ids ∧ b ∈ ft h C i) ∧ (ids.Nodup → F.Nodup) ∧ (∀ i, i ∈ ids → ∃ k e xs, lk h i = some (.row k e xs true)) ∧ All2 (CR C) l' vs' :=
  reO_ow' (D := fun _ => True) H (fun i b _ h => hs i b h) hr (fun _ _ => trivial) ha

theorem reO_def : ∀ {k : Kd} {l l' : List AV} {x : k.Ty} {ids : List Nat} {h : List (Nat × Blk)}, reO h k l = some (x, l', ids) → ∃ p, l = p ++ l' ∧ p.all AV.isDef = true := by
  intro k
  induction k with
  | int j =>
    intro l l' x ids h hr
    match l with
    | .int i n :: l => simp only [reO] at hr; split at hr; (· cases hr; exact ⟨[_], rfl, rfl⟩); (· cases hr)
    | [] | .undef :: _ | .nil :: _ | .nilp :: _ | .bool _ :: _ | .str _ :: _ | .sl _ :: _ | .ep _ _ _ _ :: _ | .ptr _ _ :: _ | .agg _ :: _ | .tup _ :: _ | .fn _ _ :: _ | .raw _ :: _ | .tl _ _ _ :: _ | .err _ :: _ => simp [reO] at hr
  | bool =>
    intro l l' x ids h hr
    match l with
    | .bool b :: l => simp only [reO] at hr; cases hr; exact ⟨[_], rfl, rfl⟩
    | [] | .undef :: _ | .nil :: _ | .nilp :: _ | .int _ _ :: _ | .str _ :: _ | .sl _ :: _ | .ep _ _ _ _ :: _ | .ptr _ _ :: _ | .agg _ :: _ | .tup _ :: _ | .fn _ _ :: _ | .raw _ :: _ | .tl _ _ _ :: _ | .err _ :: _ => simp [reO] at hr
  | err =>
    intro l l' x ids h hr
    match l with
    | .err b :: l => simp only [reO] at hr; cases hr; exact ⟨[_], rfl, rfl⟩
    | [] | .undef :: _ | .nil :: _ | .nilp :: _ | .int _ _ :: _ | .str _ :: _ | .sl _ :: _ | .ep _ _ _ _ :: _ | .ptr _ _ :: _ | .agg _ :: _ | .tup _ :: _ | .fn _ _ :: _ | .raw _ :: _ | .tl _ _ _ :: _ | .bool _ :: _ => simp [reO] at hr
  | str =>
    intro l l' x ids h hr
    match l with
    | .str b :: l => simp only [reO] at hr; cases hr; exact ⟨[_], rfl, rfl⟩
    | [] | .undef :: _ | .nil :: _ | .nilp :: _ | .int _ _ :: _ | .bool _ :: _ | .sl _ :: _ | .ep _ _ _ _ :: _ | .ptr _ _ :: _ | .agg _ :: _ | .tup _ :: _ | .fn _ _ :: _ | .raw _ :: _ | .tl _ _ _ :: _ | .err _ :: _ => simp [reO] at hr
  | raw =>
    intro l l' x ids h hr
    match l with
    | .raw b :: l => simp only [reO] at hr; cases hr; exact ⟨[_], rfl, rfl⟩
    | [] | .undef :: _ | .nil :: _ | .nilp :: _ | .int _ _ :: _ | .bool _ :: _ | .sl _ :: _ | .ep _ _ _ _ :: _ | .ptr _ _ :: _ | .agg _ :: _ | .tup _ :: _ | .fn _ _ :: _ | .str _ :: _ | .tl _ _ _ :: _ | .err _ :: _ => simp [reO] at hr
  | sl e k ih =>
    intro l l' x ids h hr
    match l with
    | .nil :: l => simp only [reO] at hr; cases hr; exact ⟨[_], rfl, rfl⟩
    | .sl id :: l =>
      simp only [reO] at hr
      split at hr
      · split at hr
        · split at hr
          · cases hr; exact ⟨[_], rfl, rfl⟩
          · cases hr
        · cases hr
      · cases hr
    | [] | .undef :: _ | .nilp :: _ | .int _ _ :: _ | .bool _ :: _ | .str _ :: _ | .ep _ _ _ _ :: _ | .ptr _ _ :: _ | .agg _ :: _ | .tup _ :: _ | .fn _ _ :: _ | .raw _ :: _ | .tl _ _ _ :: _ | .err _ :: _ => simp [reO] at hr
  | st k ih => intro l l' x ids h hr; exact ih (by simpa [reO] using hr)
  | pair a b iha ihb =>
    intro l l' x ids h hr
    simp only [reO] at hr
    split at hr
    · rename_i x1 l1 i1 hx1
      split at hr
      · rename_i y1 l2 i2 hy1
        cases hr
        obtain ⟨p, rfl, hp⟩ := iha hx1
        obtain ⟨q, rfl, hq⟩ := ihb hy1
        exact ⟨p ++ q, by simp, by simp [hp, hq]⟩
      · cases hr
    · cases hr
theorem reO_keys : ∀ {k : Kd} {l l' : List AV} {x : k.Ty} {ids : List Nat}, reO h k l = some (x, l', ids) → ∀ i, i ∈ ids → ∃ b, lk h i = some b := by
  intro k
  induction k with
  | int j =>
    intro l l' x ids hr i hi
    match l with
    | .int _ n :: l => simp only [reO] at hr; split at hr; (· cases hr; cases hi); (· cases hr)
    | [] | .undef :: _ | .nil :: _ | .nilp :: _ | .bool _ :: _ | .str _ :: _ | .sl _ :: _ | .ep _ _ _ _ :: _ | .ptr _ _ :: _ | .agg _ :: _ | .tup _ :: _ | .fn _ _ :: _ | .raw _ :: _ | .tl _ _ _ :: _ | .err _ :: _ => simp [reO] at hr
  | bool =>
    intro l l' x ids hr i hi
    match l with
    | .bool n :: l => simp only [reO] at hr; cases hr; cases hi
    | [] | .undef :: _ | .nil :: _ | .nilp :: _ | .int _ _ :: _ | .str _ :: _ | .sl _ :: _ | .ep _ _ _ _ :: _ | .ptr _ _ :: _ | .agg _ :: _ | .tup _ :: _ | .fn _ _ :: _ | .raw _ :: _ | .tl _ _ _ :: _ | .err _ :: _ => simp [reO] at hr
  | err =>
    intro l l' x ids hr i hi
    match l with
    | .err n :: l => simp only [reO] at hr; cases hr; cases hi
    | [] | .undef :: _ | .nil :: _ | .nilp :: _ | .int _ _ :: _ | .str _ :: _ | .sl _ :: _ | .ep _ _ _ _ :: _ | .ptr _ _ :: _ | .agg _ :: _ | .tup _ :: _ | .fn _ _ :: _ | .raw _ :: _ | .tl _ _ _ :: _ | .bool _ :: _ => simp [reO] at hr
  | str =>
    intro l l' x ids hr i hi
    match l with
    | .str n :: l => simp only [reO] at hr; cases hr; cases hi
    | [] | .undef :: _ | .nil :: _ | .nilp :: _ | .int _ _ :: _ | .bool _ :: _ | .sl _ :: _ | .ep _ _ _ _ :: _ | .ptr _ _ :: _ | .agg _ :: _ | .tup _ :: _ | .fn _ _ :: _ | .raw _ :: _ | .tl _ _ _ :: _ | .err _ :: _ => simp [reO] at hr
  | raw =>
    intro l l' x ids hr i hi
    match l with
    | .raw n :: l => simp only [reO] at hr; cases hr; cases hi
    | [] | .undef :: _ | .nil :: _ | .nilp :: _ | .int _ _ :: _ | .bool _ :: _ | .sl _ :: _ | .ep _ _ _ _ :: _ | .ptr _ _ :: _ | .agg _ :: _ | .tup _ :: _ | .fn _ _ :: _ | .str _ :: _ | .tl _ _ _ :: _ | .err _ :: _ => simp [reO] at hr
  | sl e k ih =>
    intro l l' x ids hr i hi
    match l with
    | .nil :: l => simp only [reO] at hr; cases hr; cases hi
    | .sl id :: l =>
      simp only [reO] at hr
      split at hr
      · rename_i hb
        split at hr
        · split at hr
          · cases hr
            simp only [List.mem_singleton] at hi
            subst hi
            exact ⟨_, blkOf_lk hb (by simp)⟩
          · cases hr
        · cases hr
      · cases hr
    | [] | .undef :: _ | .nilp :: _ | .int _ _ :: _ | .bool _ :: _ | .str _ :: _ | .ep _ _ _ _ :: _ | .ptr _ _ :: _ | .agg _ :: _ | .tup _ :: _ | .fn _ _ :: _ | .raw _ :: _ | .tl _ _ _ :: _ | .err _ :: _ => simp [reO] at hr
  | st k ih => intro l l' x ids hr; exact ih (by simpa [reO] using hr)
  | pair a b iha ihb =>
    intro l l' x ids hr i hi
    simp only [reO] at hr
    split at hr
    · rename_i h1
      split at hr
      · rename_i h2
        cases hr
        rcases List.mem_append.1 hi with hi | hi
        · exact iha h1 i hi
        · exact ihb h2 i hi
      · cases hr
    · cases hr

end

end Go.Ev
