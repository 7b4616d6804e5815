/- Contracts of functions, and calls. -/
import Derived.Test.YtmiimfpdlkmjhaaGreatDoorEvOps3
set_option linter.unusedVariables false
set_option linter.unusedSectionVars false
set_option linter.unusedSimpArgs false
namespace Go.Ev
open Go
variable [Lax]

/-- captured variables in the world -/
def CapR (w : World) (Z : Nat → Prop) : (l : List (TypeId × Kd)) → CapTy l → List Value → List Nat → Prop
  | [], _, vs, F => vs = [] ∧ F = []
  | (t, k) :: l, x, vs, F => ∃ b F' vs' cs, vs = .pointer (some ⟨b, 0, none⟩) :: vs' ∧ F = b :: F' ∧ w.heap[b]? = some (.cells cs t (0, 0)) ∧ Rd w Z k x.1 cs.toList ∧ CapR w Z l x.2 vs' F'
/-- a variable in the world that is only read -/
def RbR (w : World) (Z : Nat → Prop) (t : TypeId) (k : Kd) (x : k.Ty) (v : Value) : Prop := ∃ b off, v = .pointer (some ⟨b, off, none⟩) ∧ Rd w Z (.sl t k) [x] [.slice (some ⟨b, off, none⟩) 1 1]
def RbsR (w : World) (Z : Nat → Prop) : (l : List (TypeId × Kd)) → CapTy l → List Value → Prop
  | [], _, vs => vs = []
  | (t, k) :: l, x, vs => ∃ v vs', vs = v :: vs' ∧ RbR w Z t k x.1 v ∧ RbsR w Z l x.2 vs'
/-- an argument in the world, with the blocks that may be written -/
def PkR (w : World) (Z : Nat → Prop) : (p : Pk) → p.In → Value → List Nat → Prop
  | .ro k, x, v, F => F = [] ∧ ∃ cs, Rd w Z k x cs ∧ v = asV k cs
  | .wr k, x, v, F => ∃ cs, Ow w k F x cs ∧ v = asV k cs
  | .mv k, x, v, F => ∃ cs, Ow w k F x cs ∧ v = asV k cs
  | .nl, _, v, F => F = [] ∧ v = .slice none 0 0
  | .ptr t k, x, v, F => ∃ b cs, v = .pointer (some ⟨b, 0, none⟩) ∧ F = [b] ∧ w.heap[b]? = some (.cells cs t (0, 0)) ∧ Rd w Z k x cs.toList
  | .fn f l, x, v, F => ∃ vs : List Value, v = .func (.func f) #[] vs.toArray ∧ CapR w Z l x vs F
  | .rb t k, x, v, F => F = [] ∧ RbR w Z t k x v
  | .fr f l, x, v, F => F = [] ∧ ∃ vs : List Value, v = .func (.func f) #[] vs.toArray ∧ RbsR w Z l x vs
def InR (w : World) (Z : Nat → Prop) : (ps : List Pk) → Ins ps → List Value → List Nat → Prop
  | [], _, vs, F => vs = [] ∧ F = []
  | p :: ps, x, vs, F => ∃ v vs' F1 F2, vs = v :: vs' ∧ F = F1 ++ F2 ∧ PkR w Z p x.1 v F1 ∧ InR w Z ps x.2 vs' F2
/-- the same arguments behind the call -/
def PkU (w : World) (Z : Nat → Prop) : (p : Pk) → p.Up → Value → List Nat → Prop
  | .ro _, _, _, F => F = []
  | .mv _, _, _, F => F = []
  | .nl, _, _, F => F = []
  | .rb _ _, _, _, F => F = []
  | .fr _ _, _, _, F => F = []
  | .wr k, x, v, F => ∃ cs, Ow w k F x cs ∧ v = asV k cs
  | .ptr t k, x, v, F => ∃ b cs, v = .pointer (some ⟨b, 0, none⟩) ∧ F = [b] ∧ w.heap[b]? = some (.cells cs t (0, 0)) ∧ Rd w Z k x cs.toList
  | .fn f l, x, v, F => ∃ vs : List Value, v = .func (.func f) #[] vs.toArray ∧ CapR w Z l x vs F
def UpR (w : World) (Z : Nat → Prop) : (ps : List Pk) → Ups ps → List Value → List Nat → Prop
  | [], _, vs, F => vs = [] ∧ F = []
  | p :: ps, x, vs, F => ∃ v vs' F1 F2, vs = v :: vs' ∧ F = F1 ++ F2 ∧ PkU w Z p x.1 v F1 ∧ UpR w Z ps x.2 vs' F2
/-- results -/
def OutR (w : World) (Z : Nat → Prop) : (l : List (Kd × Bool)) → Outs l → List Value → List Nat → Prop
  | [], _, vs, F => vs = [] ∧ F = []
  | (k, true) :: l, x, vs, F => ∃ cs vs' F1 F2, vs = asV k cs :: vs' ∧ F = F1 ++ F2 ∧ Ow w k F1 x.1 cs ∧ OutR w Z l x.2 vs' F2
  | (k, false) :: l, x, vs, F => ∃ cs vs', vs = asV k cs :: vs' ∧ Rd w Z k x.1 cs ∧ OutR w Z l x.2 vs' F
def retV : List Value → Value
  | [v] => v
  | l => .tuple l.toArray

/-- what is left of memory behind a call that may write F, gives back Fu of it, and leaves Fo -/
structure After (w w' : World) (Z Z' : Nat → Prop) (F Fu Fo : List Nat) : Prop where
  os : w'.os = w.os
  tape : w'.tape = w.tape
  out : w'.output = w.output ∧ DrLe w.drawn w'.drawn
  size : w.heap.size ≤ w'.heap.size
  blk : ∀ b, b < w.heap.size → b ∉ F → w'.heap[b]? = w.heap[b]?
  nd : Fo.Nodup
  fu : (F.Nodup → Fu.Nodup) ∧ ∀ b, b ∈ Fu → b ∈ F
  new : ∀ b, b ∈ Fo → (w.heap.size ≤ b ∨ (b ∈ F ∧ b ∉ Fu)) ∧ b < w'.heap.size ∧ ¬ Z' b
  zmono : ∀ b, Z b → Z' b
  zone : ∀ b, Z' b → Z b ∨ (w.heap.size ≤ b ∧ b < w'.heap.size) ∨ (b ∈ F ∧ b ∉ Fu)

/-- THE CONTRACT OF A FUNCTION: what the specification tells of typed arguments is what a call comes to. -/
def Holds (P : Program) (f : FuncId) (sp : FSpec) : Prop :=
  ∀ (w : World) (Z : Nat → Prop) (x : Ins sp.ins) (args : List Value) (F : List Nat), sp.pre.p w Z → InR w Z sp.ins x args F → F.Nodup → (∀ b, b ∈ F → b < w.heap.size ∧ ¬ Z b) → (∀ b, Z b → b < w.heap.size) →
    ∀ o u, sp.rel x o u → Calls P f args.toArray w fun e w' => ∃ vs Fo Fu Z', e = .returned (retV vs) ∧ OutR w' Z' sp.out o vs Fo ∧ UpR w' Z' sp.ins u args Fu ∧ After w w' Z Z' F Fu Fo

def GoFn (P : Program) (f : FuncId) : Prop := ∃ fn, P.funcs[f]? = some fn ∧ fn.body.isSome = true ∧ (fn.name == "runtime.NumGoroutine") = false

section
variable {B : Nat} {Fr Z0 : Nat → Prop} {w0 w : World} {h h1 : List (Nat × Blk)} {C : Cons} {Z : Nat → Prop} {P : Program} {env : Env} {R : Type}

theorem lk_freezeL : ∀ {l : List Nat} {i : Nat} {b : Blk}, lk (freezeL h l) i = some b → ∃ k e xs, b = .row k e xs false ∧ blkOf h i = .row k e xs true
  | [], _, _, hl => by simp [freezeL, lk] at hl
  | j :: l, i, b, hl => by
    unfold freezeL at hl
    split at hl
    · rename_i k e xs hb
      by_cases e' : i = j
      · subst e'; rw [lk_same] at hl; cases hl; exact ⟨k, e, xs, rfl, hb⟩
      · rw [lk_ne _ _ e'] at hl; exact lk_freezeL hl
    · exact lk_freezeL hl
theorem lk_app_some {α : Type} : ∀ {l m : List (Nat × α)} {i : Nat} {a : α}, lk l i = some a → lk (l ++ m) i = some a
  | [], _, _, _, hl => by simp [lk] at hl
  | (j, b) :: l, m, i, a, hl => by
    by_cases e : i = j
    · subst e; rw [lk_same] at hl; cases hl; exact lk_same _ _ _
    · rw [lk_ne _ _ e] at hl; rw [List.cons_append, lk_ne _ _ e]; exact lk_app_some hl
theorem lk_app_none {α : Type} : ∀ {l m : List (Nat × α)} {i : Nat}, lk l i = none → lk (l ++ m) i = lk m i
  | [], _, _, _ => rfl
  | (j, b) :: l, m, i, hl => by
    by_cases e : i = j
    · subst e; rw [lk_same] at hl; cases hl
    · rw [lk_ne _ _ e] at hl; rw [List.cons_append, lk_ne _ _ e]; exact lk_app_none hl

/-- Rows are frozen: the zone grows by what they own; who is not frozen stays. -/
theorem HR.freezes : ∀ {l : List Nat} {h1 : List (Nat × Blk)} {C : Cons} {Z : Nat → Prop}, HR B Fr Z0 w0 h1 C Z w → Sub h h1 →
    ∃ C' Z', HR B Fr Z0 w0 (freezeL h l ++ h1) C' Z' w ∧ Ext C C' ∧ (∀ b, Z b → Z' b) ∧ (∀ b, Z' b → Z b ∨ ∃ i, i ∈ l ∧ b ∈ ft h1 C i) ∧ (∀ i, i ∉ l → C' i = C i) ∧ (∀ i b, b ∈ ft (freezeL h l ++ h1) C' i → b ∈ ft h1 C i)
  | [], h1, C, Z, H, _ => ⟨C, Z, H, Ext.refl C, fun _ h => h, fun _ h => .inl h, fun _ _ => rfl, fun _ _ h => h⟩
  | j :: l, h1, C, Z, H, hs => by
    obtain ⟨C1, Z1, H1, x1, z1, z2, c1, f1⟩ := HR.freezes (l := l) H hs
    unfold freezeL
    split
    · rename_i k e xs hb
      have hl0 := hs _ _ (blkOf_lk hb (by simp))
      -- the row as it lies now: owned still, or frozen already
      rcases hlf : lk (freezeL h l) j with _ | b
      · have hl : lk (freezeL h l ++ h1) j = some (.row k e xs true) := by rw [lk_app_none hlf]; exact hl0
        obtain ⟨c, hc, hbr⟩ := H1.blk j _ hl
        cases c with
        | box b => exact hbr.elim
        | row v F =>
          have hfj : ft (freezeL h l ++ h1) C1 j = F := ft_mem hl (by simp) hc
          refine ⟨_, _, H1.freeze hl hc, x1.trans (Ext.put_row hc), fun b hb => .inl (z1 b hb), fun b hb => ?_, fun i hi => ?_, fun i b hb => ?_⟩
          · rcases hb with hb | hb
            · rcases z2 b hb with h | ⟨i, hi, hbi⟩
              · exact .inl h
              · exact .inr ⟨i, List.mem_cons_of_mem _ hi, hbi⟩
            · exact .inr ⟨j, by simp, f1 j b (by rw [hfj]; exact hb)⟩
          · simp only [List.mem_cons, not_or] at hi
            rw [Cons.put_ne _ _ hi.1]; exact c1 i hi.2
          · by_cases e' : i = j
            · subst e'
              rw [List.cons_append, ft_mem (lk_same _ _ _) (by simp) (Cons.put_same _ _ _)] at hb
              cases hb
            · have : ft (((j, Blk.row k e xs false) :: freezeL h l) ++ h1) (C1.put j (.row v [])) i = ft (freezeL h l ++ h1) C1 i := by
                unfold ft; rw [List.cons_append, lk_ne _ _ e', Cons.put_ne _ _ e']
              rw [this] at hb; exact f1 i b hb
      · obtain ⟨k', e2, xs', rfl, hb'⟩ := lk_freezeL hlf
        rw [hb] at hb'
        have hl : lk (freezeL h l ++ h1) j = some (.row k e xs false) := by
          have := lk_app_some (m := h1) hlf
          cases hb'; exact this
        obtain ⟨c, hc, hbr⟩ := H1.blk j _ hl
        cases c with
        | box b => exact hbr.elim
        | row v F =>
          obtain ⟨hF, hrd⟩ := hbr
          subst hF
          have hput : C1.put j (.row v []) = C1 := by
            funext i; by_cases e' : i = j
            · subst e'; rw [Cons.put_same, hc]
            · rw [Cons.put_ne _ _ e']
          have H2 := H1.one (w' := w) j (.row k e xs false) (.row v []) Z1 (by rw [hput]; exact Ext.refl _) ⟨rfl, hrd⟩ (fun _ q hq => by cases hq) (fun _ h => h) (fun b hb => ⟨H1.zon b hb, .inl hb⟩) (fun _ _ _ _ => rfl) (Nat.le_refl _) rfl rfl ⟨rfl, DrLe.refl _⟩
          rw [hput] at H2
          refine ⟨C1, Z1, H2, x1, z1, fun b hb => ?_, fun i hi => ?_, fun i b hb => ?_⟩
          · rcases z2 b hb with h | ⟨i, hi, hbi⟩
            · exact .inl h
            · exact .inr ⟨i, List.mem_cons_of_mem _ hi, hbi⟩
          · simp only [List.mem_cons, not_or] at hi; exact c1 i hi.2
          · by_cases e' : i = j
            · subst e'
              rw [List.cons_append, ft_mem (lk_same _ _ _) (by simp) hc] at hb
              cases hb
            · have : ft (((j, Blk.row k e xs false) :: freezeL h l) ++ h1) C1 i = ft (freezeL h l ++ h1) C1 i := by
                unfold ft; rw [List.cons_append, lk_ne _ _ e']
              rw [this] at hb; exact f1 i b hb
    · refine ⟨C1, Z1, H1, x1, z1, fun b hb => ?_, fun i hi => ?_, f1⟩
      · rcases z2 b hb with h | ⟨i, hi, hbi⟩
        · exact .inl h
        · exact .inr ⟨i, List.mem_cons_of_mem _ hi, hbi⟩
      · simp only [List.mem_cons, not_or] at hi; exact c1 i hi.2


theorem lk_freezeL_none {l : List Nat} {i : Nat} (hi : i ∉ l) : lk (freezeL h l) i = none := by
  induction l with
  | nil => rfl
  | cons j l ih =>
    simp only [List.mem_cons, not_or] at hi
    unfold freezeL
    split
    · rw [lk_ne _ _ hi.1]; exact ih hi.2
    · exact ih hi.2
theorem lk_freezeL_mem {l : List Nat} {i : Nat} (hi : i ∈ l) {k : Kd} {e : TypeId} {xs : List k.Ty} (hb : blkOf h i = .row k e xs true) : lk (freezeL h l) i = some (.row k e xs false) := by
  induction l with
  | nil => cases hi
  | cons j l ih =>
    by_cases e' : i = j
    · subst e'
      unfold freezeL
      rw [hb]
      exact lk_same _ _ _
    · have hi' : i ∈ l := (List.mem_cons.1 hi).resolve_left e'
      unfold freezeL
      split
      · rw [lk_ne _ _ e']; exact ih hi'
      · exact ih hi'
theorem mem_ownIn : ∀ {l : List AV} {id : Nat}, AV.sl id ∈ l → ∀ {k : Kd} {e : TypeId} {xs : List k.Ty}, blkOf h id = .row k e xs true → id ∈ ownIn h l
  | [], _, hm, _, _, _, _ => by cases hm
  | a :: l, id, hm, k, e, xs, hb => by
    rcases List.mem_cons.1 hm with hm | hm
    · subst hm
      simp only [ownIn, hb]
      simp
    · have ih := mem_ownIn hm hb
      cases a <;> simp only [ownIn] <;> try exact ih
      split
      · exact List.mem_cons_of_mem _ ih
      · exact ih

theorem lk_deads {ids : List Nat} {h : List (Nat × Blk)} {j : Nat} (hj : j ∉ ids) : lk (deads ids ++ h) j = lk h j := lk_kills hj
theorem lk_dead_mem : ∀ {ids : List Nat} {h : List (Nat × Blk)} {i : Nat}, i ∈ ids → lk (deads ids ++ h) i = some .dead
  | j :: l, h, i, hm => by
    rw [deads, List.map_cons, List.cons_append]
    by_cases e : i = j
    · subst e; exact lk_same _ _ _
    · rw [lk_ne _ _ e]; exact lk_dead_mem ((List.mem_cons.1 hm).resolve_left e)

/-- The heap as the callee finds it: the zone that it may read. -/
structure CallSt (B : Nat) (Fr Z0 : Nat → Prop) (w0 : World) (h h1 : List (Nat × Blk)) (fl hd : List Nat) (sh : Bool) (C1 : Cons) (Z1 : Nat → Prop) (w : World) : Prop where
  H1 : HR B Fr Z0 w0 (freezeL h fl ++ h1) C1 Z1 w
  sub : Sub h h1
  apart : ∀ i, i ∈ hd → i ∉ fl

/-- what the callee may read -/
def zoneOf (sh : Bool) (K : List (Nat × Blk)) (C1 : Cons) (Z1 : Nat → Prop) : Nat → Prop := match sh with | true => Z1 | false => ZAll K C1 Z1

theorem CallSt.row {fl hd : List Nat} {sh : Bool} {C1 : Cons} {Z1 : Nat → Prop} (S : CallSt B Fr Z0 w0 h h1 fl hd sh C1 Z1 w) (Hk : HR B Fr Z0 w0 (deads hd ++ (freezeL h fl ++ h1)) C1 Z1 w)
    (id : Nat) (k : Kd) (e : TypeId) (xs : List k.Ty) (own : Bool) (hfl : sh = true → (∃ (k : Kd) (e : TypeId) (xs : List k.Ty), blkOf h id = .row k e xs true) → id ∈ fl)
    (hb : blkOf (deads hd ++ (freezeL h fl ++ h)) id = .row k e xs own) :
    ∃ v F, C1 id = some (.row v F) ∧ Rd w (zoneOf sh (deads hd ++ (freezeL h fl ++ h1)) C1 Z1) (.sl e k) xs [v] := by
  have hl2 := blkOf_lk hb (by simp)
  have hnd : id ∉ hd := fun hm => by rw [lk_dead_mem hm] at hl2; cases hl2
  rw [lk_deads hnd] at hl2
  have hlK : lk (deads hd ++ (freezeL h fl ++ h1)) id = some (.row k e xs own) := by
    rw [lk_deads hnd]
    rcases hf : lk (freezeL h fl) id with _ | b
    · rw [lk_app_none hf] at hl2 ⊢; exact S.sub _ _ hl2
    · rw [lk_app_some hf] at hl2 ⊢; exact hl2
  cases sh
  · exact Hk.rowRd hlK
  · have hown : own = false := by
      cases own
      · rfl
      · exfalso
        rcases hf : lk (freezeL h fl) id with _ | b
        · rw [lk_app_none hf] at hl2
          have hb0 : blkOf h id = .row k e xs true := by unfold blkOf; rw [hl2]
          have := lk_freezeL_mem (hfl rfl ⟨_, _, _, hb0⟩) hb0
          rw [hf] at this; cases this
        · obtain ⟨k', e', xs', rfl, _⟩ := lk_freezeL hf
          rw [lk_app_some hf] at hl2; cases hl2
    subst hown
    obtain ⟨c, hc, hbr⟩ := Hk.blk id _ hlK
    cases c with
    | box b => exact hbr.elim
    | row v F => exact ⟨v, F, hc, hbr.2⟩

theorem CallSt.kept {fl hd : List Nat} {sh : Bool} {C1 : Cons} {Z1 : Nat → Prop} (S : CallSt B Fr Z0 w0 h h1 fl hd sh C1 Z1 w) {i : Nat} (hi : i ∈ hd) {b : Blk} (hb : blkOf h i = b) (hd' : b ≠ .dead) : lk (freezeL h fl ++ h1) i = some b := by
  rw [lk_app_none (lk_freezeL_none (S.apart i hi))]
  exact S.sub _ _ (blkOf_lk hb hd')

/-- one cell's value is itself -/
theorem VR.asV {k : Kd} {a : AV} {v : Value} (hk : a.isAgg = k.isSt) (hs : k.isSt = false → k.sz = 1) (hv : VR C a v) (hd : (cellsOf a).all AV.isDef = true) : v = asV k v.cells.toList := by
  obtain ⟨hc, ho⟩ := hv.cells hd
  unfold Go.Ev.asV
  cases hst : k.isSt
  · rw [hst] at hk
    cases v with
    | agg cs =>
      exfalso
      cases a with
      | agg _ => cases hk
      | undef => simp [cellsOf, AV.isDef] at hd
      | tup _ => simp [cellsOf, AV.isDef] at hd
      | fn f caps => obtain ⟨vs, hx, _⟩ := hv; cases hx
      | nil => cases hv.nil
      | nilp => have hx : Value.agg cs = .pointer none := hv; cases hx
      | int _ _ => cases hv.int
      | bool _ => cases hv.bool
      | str _ => cases hv.str
      | sl _ => obtain ⟨_, _, _, _, hx⟩ := hv.sl; cases hx
      | ep _ _ _ _ => obtain ⟨_, _, _, _, _, _, _, _, hx⟩ := hv.ep; cases hx
      | ptr _ _ => obtain ⟨_, _, hx⟩ := hv.ptr; cases hx
      | raw r => have hx : Value.agg cs = r.1 := hv; have h2 := r.2; rw [← hx] at h2; cases h2
      | err b => rcases (show ErrV b (Value.agg cs) from hv) with ⟨_, h⟩ | ⟨_, t, p, h⟩ <;> cases h
      | tl id i sz => obtain ⟨_, _, _, _, _, _, _, _, hx⟩ : ∃ A n c F, C id = some (.row (.slice A n c) F) ∧ 0 ≤ i ∧ i ≤ (n : Int) ∧ n ≤ c ∧ Value.agg cs = .slice (if c = i.toNat then A else A.map (·.add (i.toNat * sz))) (n - i.toNat) (c - i.toNat) := hv; cases hx
    | _ => rfl
  · rw [hst] at hk
    cases a <;> simp [AV.isAgg] at hk
    obtain ⟨vs, rfl, _⟩ := hv
    rfl

def Shape1 (k : Kd) : Prop := k.isSt = false → k.sz = 1
/-- parameters of a value's kind -/
def Pk.Ok : Pk → Prop
  | .ro k => Shape1 k
  | .wr k => Shape1 k
  | .mv k => Shape1 k
  | _ => True

def SpOk (P : Program) (env : Env) : Prop := ∀ f as sp, env.spec f as = some sp → GoFn P f ∧ Holds P f sp ∧ (∀ p, p ∈ sp.ins → p.Ok) ∧ (∀ p, p ∈ sp.out → Shape1 p.1) ∧ ∀ w Z, env.pre.p w Z → sp.pre.p w Z
/-- what was known at first -/
def Stat (env : Env) (B : Nat) (Fr Z0 : Nat → Prop) (w0 : World) : Prop := env.pre.p w0 Z0 ∧ ∀ b, Z0 b → b < B ∧ ¬ Fr b
structure SpOkS (P : Program) (env : Env) (B : Nat) (Fr Z0 : Nat → Prop) (w0 : World) : Prop where
  sp : SpOk P env
  st : Stat env B Fr Z0 w0
theorem Stat.now (S : Stat env B Fr Z0 w0) (H : HR B Fr Z0 w0 h C Z w) {Z' : Nat → Prop} (hz : ∀ b, Z b → Z' b) : env.pre.p w Z' :=
  env.pre.st S.1 (fun b hb => H.frm.blk b (S.2 b hb).1 (S.2 b hb).2) (fun b hb => hz b (H.zsb b hb))

theorem capsT_ok {fl hd : List Nat} {sh : Bool} {C1 : Cons} {Z1 : Nat → Prop} (S : CallSt B Fr Z0 w0 h h1 fl hd sh C1 Z1 w) (Hk : HR B Fr Z0 w0 (deads hd ++ (freezeL h fl ++ h1)) C1 Z1 w) :
    ∀ {l : List (TypeId × Kd)} {as : List AV} {x : CapTy l} {vs : List Value}, capsT h (deads hd ++ (freezeL h fl ++ h)) l as = some x → All2 (CR0 C1) as vs →
    (∀ i, i ∈ handed1 (.fn 0 l) (.fn 0 as) → i ∈ hd) → (sh = true → ∀ i, i ∈ frz1 h (.fn 0 l) (.fn 0 as) → i ∈ fl) →
    ∃ F, CapR w (zoneOf sh (deads hd ++ (freezeL h fl ++ h1)) C1 Z1) l x vs F ∧ (∀ b, b ∈ F → ∃ i, i ∈ handed1 (.fn 0 l) (.fn 0 as) ∧ b ∈ ft (freezeL h fl ++ h1) C1 i) ∧ ((handed1 (.fn 0 l) (.fn 0 as)).Nodup → F.Nodup) ∧
      (∀ i, i ∈ handed1 (.fn 0 l) (.fn 0 as) → ∃ b, lk (freezeL h fl ++ h1) i = some b)
  | [], [], x, [], _, _, _, _ => ⟨[], ⟨rfl, rfl⟩, (fun b hb => by cases hb), (fun _ => List.nodup_nil), (fun i hi => by cases hi)⟩
  | (t, k) :: l, .ptr id off :: as, x, v :: vs, hx, ⟨hv, hvs⟩, hh, hf => by
    simp only [capsT] at hx
    split at hx
    · rename_i t' cs hb
      split at hx
      · rename_i y hcond hre
        simp only [Bool.and_eq_true] at hcond
        have ht := Nat.eq_of_beq_eq_true hcond.1
        have ho := Nat.eq_of_beq_eq_true hcond.2
        subst ht; subst ho
        split at hx
        · rename_i z hz
          cases hx
          simp only [handed1, List.flatMap_cons, List.singleton_append] at hh ⊢
          simp only [frz1, boxIn, hb] at hf
          have hfl : sh = true → (∀ i, i ∈ ownIn h cs → i ∈ fl) ∧ (∀ i, i ∈ ownIn h (boxIn h as) → i ∈ fl) := fun e => by
            have app : ∀ (l m : List AV), ownIn h (l ++ m) = ownIn h l ++ ownIn h m := by
              intro l m
              induction l with
              | nil => rfl
              | cons a l ih =>
                rw [List.cons_append]
                cases a <;> simp only [ownIn] <;> try exact ih
                split
                · rw [ih]; rfl
                · exact ih
            have := hf e
            rw [app] at this
            exact ⟨fun i hi => this i (List.mem_append_left _ hi), fun i hi => this i (List.mem_append_right _ hi)⟩
          obtain ⟨F, r1, r2, r3, r4⟩ := capsT_ok S Hk hz hvs (fun i hi => hh i (List.mem_cons_of_mem _ hi)) (fun e => (hfl e).2)
          obtain ⟨b, hC, hvb⟩ : ∃ b, C1 id = some (.box b) ∧ v = .pointer (some ⟨b, 0, none⟩) := hv
          subst hvb
          have hl := S.kept (hh id (by simp)) hb (by simp)
          obtain ⟨c, hc, hbr⟩ := S.H1.blk id _ hl
          rw [hC] at hc; cases hc
          obtain ⟨arr, harr, hall⟩ := hbr
          obtain ⟨cs1, rest, hcs, hrd, hrest⟩ := reC_gen (w := w) (Zt := zoneOf sh (deads hd ++ (freezeL h fl ++ h1)) C1 Z1) hre hall (fun i k e xs own hm hb' =>
            S.row Hk i k e xs own (fun e' ⟨k0, e0, xs0, hb0⟩ => (hfl e').1 i (mem_ownIn hm hb0)) hb')
          have hr0 : rest = [] := by cases rest with | nil => rfl | cons _ _ => exact hrest.elim
          subst hr0
          rw [List.append_nil] at hcs
          have hft : ft (freezeL h fl ++ h1) C1 id = [b] := ft_mem hl (by simp) hC
          refine ⟨b :: F, ⟨b, F, vs, arr, rfl, rfl, harr, by rw [hcs]; exact hrd, r1⟩, fun q hq => ?_, fun hn => ?_, fun i hi => ?_⟩
          · rcases List.mem_cons.1 hq with e | hq
            · subst e; exact ⟨id, by simp, by rw [hft]; simp⟩
            · obtain ⟨i, hi, hbi⟩ := r2 q hq; exact ⟨i, List.mem_cons_of_mem _ hi, hbi⟩
          · obtain ⟨n1, n2⟩ := List.nodup_cons.1 hn
            refine List.nodup_cons.2 ⟨fun hq => ?_, r3 n2⟩
            obtain ⟨i, hi, hbi⟩ := r2 b hq
            exact S.H1.dis id i (fun e => n1 (e ▸ hi)) b (by rw [hft]; simp) hbi
          · rcases List.mem_cons.1 hi with e | hi
            · subst e; exact ⟨_, hl⟩
            · exact r4 i hi
        · cases hx
      · cases hx
    · cases hx
  | [], _ :: _, _, _, hx, _, _, _ => by simp [capsT] at hx
  | _ :: _, [], _, _, hx, _, _, _ => by simp [capsT] at hx
  | [], [], _, _ :: _, _, h, _, _ => h.elim
  | _ :: _, .ptr _ _ :: _, _, [], _, h, _, _ => h.elim
  | (_, _) :: _, .undef :: _, _, _, hx, _, _, _ | (_, _) :: _, .nil :: _, _, _, hx, _, _, _ | (_, _) :: _, .nilp :: _, _, _, hx, _, _, _ | (_, _) :: _, .int _ _ :: _, _, _, hx, _, _, _ | (_, _) :: _, .bool _ :: _, _, _, hx, _, _, _
  | (_, _) :: _, .str _ :: _, _, _, hx, _, _, _ | (_, _) :: _, .sl _ :: _, _, _, hx, _, _, _ | (_, _) :: _, .ep _ _ _ _ :: _, _, _, hx, _, _, _ | (_, _) :: _, .agg _ :: _, _, _, hx, _, _, _ | (_, _) :: _, .tup _ :: _, _, _, hx, _, _, _ | (_, _) :: _, .fn _ _ :: _, _, _, hx, _, _, _ | (_, _) :: _, .raw _ :: _, _, _, hx, _, _, _ | (_, _) :: _, .tl _ _ _ :: _, _, _, hx, _, _, _ | (_, _) :: _, .err _ :: _, _, _, hx, _, _, _ => by simp [capsT] at hx


theorem slIds_app : ∀ (l m : List AV), slIds (l ++ m) = slIds l ++ slIds m
  | [], _ => rfl
  | a :: l, m => by cases a <;> simp [slIds, slIds_app l m]
theorem reO_slIds {h : List (Nat × Blk)} : ∀ {k : Kd} {l l' : List AV} {x : k.Ty} {ids : List Nat}, reO h k l = some (x, l', ids) → slIds l = ids ++ slIds l' := by
  intro k
  induction k with
  | int j =>
    intro l l' x ids hr
    match l with
    | .int _ n :: l => simp only [reO] at hr; split at hr; (· cases hr; rfl); (· cases hr)
    | [] | .undef :: _ | .nil :: _ | .nilp :: _ | .bool _ :: _ | .str _ :: _ | .sl _ :: _ | .ep _ _ _ _ :: _ | .ptr _ _ :: _ | .agg _ :: _ | .tup _ :: _ | .fn _ _ :: _ | .raw _ :: _ | .tl _ _ _ :: _ | .err _ :: _ => simp [reO] at hr
  | bool =>
    intro l l' x ids hr
    match l with
    | .bool n :: l => simp only [reO] at hr; cases hr; rfl
    | [] | .undef :: _ | .nil :: _ | .nilp :: _ | .int _ _ :: _ | .str _ :: _ | .sl _ :: _ | .ep _ _ _ _ :: _ | .ptr _ _ :: _ | .agg _ :: _ | .tup _ :: _ | .fn _ _ :: _ | .raw _ :: _ | .tl _ _ _ :: _ | .err _ :: _ => simp [reO] at hr
  | err =>
    intro l l' x ids hr
    match l with
    | .err n :: l => simp only [reO] at hr; cases hr; rfl
    | [] | .undef :: _ | .nil :: _ | .nilp :: _ | .int _ _ :: _ | .str _ :: _ | .sl _ :: _ | .ep _ _ _ _ :: _ | .ptr _ _ :: _ | .agg _ :: _ | .tup _ :: _ | .fn _ _ :: _ | .raw _ :: _ | .tl _ _ _ :: _ | .bool _ :: _ => simp [reO] at hr
  | str =>
    intro l l' x ids hr
    match l with
    | .str n :: l => simp only [reO] at hr; cases hr; rfl
    | [] | .undef :: _ | .nil :: _ | .nilp :: _ | .int _ _ :: _ | .bool _ :: _ | .sl _ :: _ | .ep _ _ _ _ :: _ | .ptr _ _ :: _ | .agg _ :: _ | .tup _ :: _ | .fn _ _ :: _ | .raw _ :: _ | .tl _ _ _ :: _ | .err _ :: _ => simp [reO] at hr
  | raw =>
    intro l l' x ids hr
    match l with
    | .raw n :: l => simp only [reO] at hr; cases hr; rfl
    | [] | .undef :: _ | .nil :: _ | .nilp :: _ | .int _ _ :: _ | .bool _ :: _ | .sl _ :: _ | .ep _ _ _ _ :: _ | .ptr _ _ :: _ | .agg _ :: _ | .tup _ :: _ | .fn _ _ :: _ | .str _ :: _ | .tl _ _ _ :: _ | .err _ :: _ => simp [reO] at hr
  | sl e k ih =>
    intro l l' x ids hr
    match l with
    | .nil :: l => simp only [reO] at hr; cases hr; rfl
    | .sl id :: l =>
      simp only [reO] at hr
      split at hr
      · split at hr
        · split at hr
          · cases hr; rfl
          · cases hr
        · cases hr
      · cases hr
    | [] | .undef :: _ | .nilp :: _ | .int _ _ :: _ | .bool _ :: _ | .str _ :: _ | .ep _ _ _ _ :: _ | .ptr _ _ :: _ | .agg _ :: _ | .tup _ :: _ | .fn _ _ :: _ | .raw _ :: _ | .tl _ _ _ :: _ | .err _ :: _ => simp [reO] at hr
  | st k ih => intro l l' x ids hr; exact ih (by simpa [reO] using hr)
  | pair a b iha ihb =>
    intro l l' x ids hr
    simp only [reO] at hr
    split at hr
    · rename_i h1
      split at hr
      · rename_i h2
        cases hr
        rw [iha h1, ihb h2, List.append_assoc]
      · cases hr
    · cases hr

theorem CallSt.rb {fl hd : List Nat} {C1 : Cons} {Z1 : Nat → Prop} (S : CallSt B Fr Z0 w0 h h1 fl hd false C1 Z1 w) (Hk : HR B Fr Z0 w0 (deads hd ++ (freezeL h fl ++ h1)) C1 Z1 w)
    {t : TypeId} {k : Kd} {a : AV} {x : k.Ty} {v : Value} (hx : rbT (deads hd ++ (freezeL h fl ++ h)) t k a = some x) (hv : CR0 C1 a v) : RbR w (zoneOf false (deads hd ++ (freezeL h fl ++ h1)) C1 Z1) t k x v := by
  unfold rbT at hx
  split at hx
  · rename_i id off
    split at hx
    · rename_i t' cs hb
      split at hx
      · rename_i y hc hre
        cases hx
        simp only [Bool.and_eq_true] at hc
        obtain ⟨ht, ho, hl⟩ := hc
        have ht := Nat.eq_of_beq_eq_true ht
        have ho := Nat.eq_of_beq_eq_true ho
        subst ht; subst ho
        obtain ⟨b, hC, rfl⟩ := hv
        have hl2 := blkOf_lk hb (by simp)
        have hnd : id ∉ hd := fun hm => by rw [lk_dead_mem hm] at hl2; cases hl2
        rw [lk_deads hnd] at hl2
        have hlK : lk (deads hd ++ (freezeL h fl ++ h1)) id = some (.box t' cs) := by
          rw [lk_deads hnd]
          rcases hf : lk (freezeL h fl) id with _ | b
          · rw [lk_app_none hf] at hl2 ⊢; exact S.sub _ _ hl2
          · rw [lk_app_some hf] at hl2 ⊢; exact hl2
        obtain ⟨c0, hc0, hbr⟩ := Hk.blk id _ hlK
        rw [hC] at hc0; cases hc0
        obtain ⟨vs, hw, ha⟩ := hbr
        obtain ⟨p0, hp0, hdef⟩ := reC_def hre
        rw [List.append_nil] at hp0
        subst hp0
        obtain ⟨cs1, rest, hcs, hrd, hrest⟩ := reC_gen (w := w) (Zt := zoneOf false (deads hd ++ (freezeL h fl ++ h1)) C1 Z1) hre ha (fun i k e xs own hm hb' =>
          S.row Hk i k e xs own (fun e' => by cases e') hb')
        have hr0 : rest = [] := by cases rest with | nil => rfl | cons _ _ => exact hrest.elim
        subst hr0
        rw [List.append_nil] at hcs
        have hz : zoneOf false (deads hd ++ (freezeL h fl ++ h1)) C1 Z1 b := .inr ⟨id, by rw [ft_mem hlK (by simp) hC]; simp [Con.foot]⟩
        refine ⟨b, 0, rfl, _, 1, rfl, Nat.le_refl _, by simp [maxLen], .inr ⟨_, rfl, rfl, hz, fun i y hi => ?_⟩⟩
        have hi0 : i = 0 := by have := (List.getElem?_eq_some_iff.1 hi).1; simp at this; omega
        subst hi0
        simp at hi; subst hi
        refine ⟨cs1, hrd.len, hrd, fun j u hj => ?_⟩
        rw [← hcs] at hj
        simp only [Nat.zero_mul, Nat.zero_add]
        rw [cell_of_row w b j vs t' (0, 0) hw]
        simpa using hj
      · cases hx
    · cases hx
  · rename_i id i sz
    split at hx
    · rename_i k' e xs own hb
      split at hx
      · rename_i hk
        subst hk
        split at hx
        · rename_i hc
          cases hx
          have hsz := Nat.eq_of_beq_eq_true hc
          subst hsz
          obtain ⟨A, n, c, F, hC, hA, h0', hi', rfl⟩ := hv
          obtain ⟨v, F', hC', hrd⟩ := S.row Hk id k' e xs own (fun e' => by cases e') hb
          rw [hC] at hC'; cases hC'
          obtain ⟨A', c', he, h1', h2', hrow⟩ := hrd
          simp only [List.cons.injEq, Value.slice.injEq, and_true] at he
          obtain ⟨rfl, rfl, rfl⟩ := he
          rcases hrow with hrow | ⟨ad, hA', hsp, hZ, hel⟩
          · subst hrow; simp at hi'; omega
          cases hA'
          have hlt : i.toNat < xs.length := by omega
          have hget : xs[i.toNat]? = some (rdk k' xs i) := by unfold rdk; rw [List.getD_eq_getElem?_getD, List.getElem?_eq_getElem hlt]; rfl
          obtain ⟨cs, g1, g2, g3⟩ := hel _ _ hget
          refine ⟨A.block, A.off + (i.toNat * k'.sz + 0), rfl, _, 1, rfl, Nat.le_refl _, by simp [maxLen], .inr ⟨_, rfl, rfl, hZ, fun i' y hi' => ?_⟩⟩
          have hi0 : i' = 0 := by have := (List.getElem?_eq_some_iff.1 hi').1; simp at this; omega
          subst hi0
          simp at hi'; subst hi'
          refine ⟨cs, g1, g2, fun j u hj => ?_⟩
          have := g3 j u hj
          simpa [Nat.add_assoc] using this
        · cases hx
      · cases hx
    · cases hx
  · cases hx
theorem CallSt.rbs {fl hd : List Nat} {C1 : Cons} {Z1 : Nat → Prop} (S : CallSt B Fr Z0 w0 h h1 fl hd false C1 Z1 w) (Hk : HR B Fr Z0 w0 (deads hd ++ (freezeL h fl ++ h1)) C1 Z1 w) :
    ∀ {l : List (TypeId × Kd)} {as : List AV} {x : CapTy l} {vs : List Value}, rbsT (deads hd ++ (freezeL h fl ++ h)) l as = some x → All2 (CR0 C1) as vs → RbsR w (zoneOf false (deads hd ++ (freezeL h fl ++ h1)) C1 Z1) l x vs
  | [], [], _, [], _, _ => rfl
  | (t, k) :: l, a :: as, x, v :: vs, hx, ⟨h1, h2⟩ => by
    simp only [rbsT] at hx
    split at hx
    · rename_i x1 hx1
      split at hx
      · rename_i y hy
        cases hx
        exact ⟨v, vs, rfl, S.rb Hk hx1 h1, CallSt.rbs S Hk hy h2⟩
      · cases hx
    · cases hx
  | [], [], _, _ :: _, _, h => h.elim
  | [], _ :: _, _, _, hx, _ => by simp [rbsT] at hx
  | _ :: _, [], _, _, hx, _ => by simp [rbsT] at hx
  | _ :: _, _ :: _, _, [], _, h => h.elim

theorem argT_ok {fl hd : List Nat} {sh : Bool} {C1 : Cons} {Z1 : Nat → Prop} (S : CallSt B Fr Z0 w0 h h1 fl hd sh C1 Z1 w) (Hk : HR B Fr Z0 w0 (deads hd ++ (freezeL h fl ++ h1)) C1 Z1 w)
    {p : Pk} {a : AV} {x : p.In} {v : Value} (hrb : p.isRb = true → sh = false) (hp : p.Ok) (hx : argT h (deads hd ++ (freezeL h fl ++ h)) p a = some x) (hv : VR C1 a v)
    (hh : ∀ i, i ∈ handed1 p a → i ∈ hd) (hf : sh = true → ∀ i, i ∈ frz1 h p a → i ∈ fl) :
    ∃ F, PkR w (zoneOf sh (deads hd ++ (freezeL h fl ++ h1)) C1 Z1) p x v F ∧ (∀ b, b ∈ F → ∃ i, i ∈ handed1 p a ∧ b ∈ ft (freezeL h fl ++ h1) C1 i) ∧ ((handed1 p a).Nodup → F.Nodup) ∧
      (∀ i, i ∈ handed1 p a → ∃ b, lk (freezeL h fl ++ h1) i = some b) := by
  cases p with
  | ro k =>
    simp only [argT] at hx
    split at hx
    · rename_i y hc hre
      cases hx
      have hc : a.isAgg = k.isSt := by simpa using hc
      obtain ⟨p0, hp0, hdef⟩ := reC_def hre
      rw [List.append_nil] at hp0
      subst hp0
      obtain ⟨hcells, _⟩ := hv.cells hdef
      have hasv := hv.asV hc hp hdef
      obtain ⟨cs1, rest, hcs, hrd, hrest⟩ := reC_gen (w := w) (Zt := zoneOf sh (deads hd ++ (freezeL h fl ++ h1)) C1 Z1) hre hcells (fun i k e xs own hm hb' =>
        S.row Hk i k e xs own (fun e' ⟨k0, e0, xs0, hb0⟩ => hf e' i (mem_ownIn hm hb0)) hb')
      have hr0 : rest = [] := by cases rest with | nil => rfl | cons _ _ => exact hrest.elim
      subst hr0
      rw [List.append_nil] at hcs
      exact ⟨[], ⟨rfl, cs1, hrd, by rw [hasv, hcs]⟩, (fun b hb => by cases hb), (fun _ => List.nodup_nil), (fun i hi => by cases hi)⟩
    · cases hx
  | wr k =>
    simp only [argT] at hx
    split at hx
    · rename_i y ids hc hre
      cases hx
      have hc : a.isAgg = k.isSt := by simpa using hc
      have hids : ids = slIds (cellsOf a) := by have := reO_slIds hre; simpa [slIds] using this.symm
      obtain ⟨p0, hp0, hdef⟩ := reO_def hre
      rw [List.append_nil] at hp0
      subst hp0
      obtain ⟨hcells, _⟩ := hv.cells hdef
      have hasv := hv.asV hc hp hdef
      obtain ⟨cs, rest, F, hcs, how, a1, a2, a3, hrest⟩ := reO_ow' (D := fun i => i ∈ hd) S.H1 (fun i b hi hl => by
        rw [lk_app_none (lk_freezeL_none (S.apart i hi))]; exact S.sub _ _ hl) hre (fun i hi => hh i (by simp only [handed1]; rw [← hids]; exact hi)) hcells
      have hr0 : rest = [] := by cases rest with | nil => rfl | cons _ _ => exact hrest.elim
      subst hr0
      rw [List.append_nil] at hcs
      simp only [handed1, ← hids]
      exact ⟨F, ⟨cs, how, by rw [hasv, hcs]⟩, a1, a2, fun i hi => by obtain ⟨k', e, xs, hl⟩ := a3 i hi; exact ⟨_, hl⟩⟩
    · cases hx
  | rb t k =>
    have := hrb rfl
    subst this
    simp only [argT] at hx
    have hv0 : CR0 C1 a v := by
      unfold rbT at hx
      split at hx
      · exact hv
      · exact hv
      · cases hx
    exact ⟨[], ⟨rfl, S.rb Hk hx hv0⟩, (fun b hb => by cases hb), (fun _ => List.nodup_nil), (fun i hi => by simp [handed1] at hi)⟩
  | fr f l =>
    have := hrb rfl
    subst this
    cases a with
    | fn f' caps =>
      simp only [argT] at hx
      split at hx
      · rename_i hf'
        have hf' := Nat.eq_of_beq_eq_true hf'
        subst hf'
        obtain ⟨vs, rfl, hall⟩ := hv
        exact ⟨[], ⟨rfl, vs, rfl, S.rbs Hk hx hall⟩, (fun b hb => by cases hb), (fun _ => List.nodup_nil), (fun i hi => by simp [handed1] at hi)⟩
      · cases hx
    | _ => simp [argT] at hx
  | nl =>
    cases a <;> simp [argT] at hx
    have hv : v = .slice none 0 0 := hv
    exact ⟨[], ⟨rfl, hv⟩, (fun b hb => by cases hb), (fun _ => List.nodup_nil), (fun i hi => by simp [handed1] at hi)⟩
  | mv k =>
    simp only [argT] at hx
    split at hx
    · rename_i y ids hc hre
      cases hx
      have hc : a.isAgg = k.isSt := by simpa using hc
      have hids : ids = slIds (cellsOf a) := by have := reO_slIds hre; simpa [slIds] using this.symm
      obtain ⟨p0, hp0, hdef⟩ := reO_def hre
      rw [List.append_nil] at hp0
      subst hp0
      obtain ⟨hcells, _⟩ := hv.cells hdef
      have hasv := hv.asV hc hp hdef
      obtain ⟨cs, rest, F, hcs, how, a1, a2, a3, hrest⟩ := reO_ow' (D := fun i => i ∈ hd) S.H1 (fun i b hi hl => by
        rw [lk_app_none (lk_freezeL_none (S.apart i hi))]; exact S.sub _ _ hl) hre (fun i hi => hh i (by simp only [handed1]; rw [← hids]; exact hi)) hcells
      have hr0 : rest = [] := by cases rest with | nil => rfl | cons _ _ => exact hrest.elim
      subst hr0
      rw [List.append_nil] at hcs
      simp only [handed1, ← hids]
      exact ⟨F, ⟨cs, how, by rw [hasv, hcs]⟩, a1, a2, fun i hi => by obtain ⟨k', e, xs, hl⟩ := a3 i hi; exact ⟨_, hl⟩⟩
    · cases hx
  | ptr t k =>
    cases a with
    | ptr id off =>
      have hx' : capsT h (deads hd ++ (freezeL h fl ++ h)) [(t, k)] [.ptr id off] = some (x, ()) := by
        simp only [argT] at hx
        simp only [capsT]
        split at hx
        · split at hx
          · cases hx; rfl
          · cases hx
        · cases hx
      have hv0 : CR0 C1 (.ptr id off) v := hv
      obtain ⟨F, r1, r2, r3, r4⟩ := capsT_ok S Hk hx' (vs := [v]) ⟨hv0, trivial⟩ (fun i hi => hh i (by simpa [handed1] using hi)) (fun e i hi => hf e i (by simpa [frz1] using hi))
      obtain ⟨b, F', vs', cs, hvb, hF, g1, g2, g3⟩ := r1
      obtain ⟨hvs', hF'⟩ := g3
      subst hvs'; subst hF'
      simp only [List.cons.injEq, and_true] at hvb
      exact ⟨F, ⟨b, cs, hvb, hF, g1, g2⟩, by simpa [handed1] using r2, by simpa [handed1] using r3, by simpa [handed1] using r4⟩
    | _ => simp [argT] at hx
  | fn f l =>
    cases a with
    | fn f' caps =>
      simp only [argT] at hx
      split at hx
      · rename_i hf'
        have hf' := Nat.eq_of_beq_eq_true hf'
        subst hf'
        obtain ⟨vs, rfl, hall⟩ := hv
        obtain ⟨F, r1, r2, r3, r4⟩ := capsT_ok S Hk hx hall (fun i hi => hh i hi) (fun e i hi => hf e i hi)
        exact ⟨F, ⟨vs, rfl, r1⟩, r2, r3, r4⟩
      · cases hx
    | _ => simp [argT] at hx

theorem argsT_ok {fl hd : List Nat} {sh : Bool} {C1 : Cons} {Z1 : Nat → Prop} (S : CallSt B Fr Z0 w0 h h1 fl hd sh C1 Z1 w) (Hk : HR B Fr Z0 w0 (deads hd ++ (freezeL h fl ++ h1)) C1 Z1 w) :
    ∀ {ps : List Pk} {as : List AV} {x : Ins ps} {vs : List Value}, (sh = true → ps.any Pk.isRb = false) → (∀ p, p ∈ ps → p.Ok) → argsT h (deads hd ++ (freezeL h fl ++ h)) ps as = some x → All2 (VR C1) as vs →
    (∀ i, i ∈ handed ps as → i ∈ hd) → (sh = true → ∀ i, i ∈ frz h ps as → i ∈ fl) →
    ∃ F, InR w (zoneOf sh (deads hd ++ (freezeL h fl ++ h1)) C1 Z1) ps x vs F ∧ (∀ b, b ∈ F → ∃ i, i ∈ handed ps as ∧ b ∈ ft (freezeL h fl ++ h1) C1 i) ∧ ((handed ps as).Nodup → F.Nodup) ∧
      (∀ i, i ∈ handed ps as → ∃ b, lk (freezeL h fl ++ h1) i = some b)
  | [], [], x, [], _, _, _, _, _, _ => ⟨[], ⟨rfl, rfl⟩, (fun b hb => by cases hb), (fun _ => List.nodup_nil), (fun i hi => by cases hi)⟩
  | p :: ps, a :: as, x, v :: vs, hrb, hok, hx, ⟨hv, hvs⟩, hh, hf => by
    simp only [argsT] at hx
    split at hx
    · rename_i x1 hx1
      split at hx
      · rename_i y hy
        cases hx
        simp only [handed] at hh ⊢
        simp only [frz] at hf
        obtain ⟨F1, a1, a2, a3, a4⟩ := argT_ok S Hk (fun e => by cases hsh : sh with | false => rfl | true => have := hrb hsh; rw [List.any_cons, e] at this; cases this) (hok p (by simp)) hx1 hv (fun i hi => hh i (List.mem_append_left _ hi)) (fun e i hi => hf e i (List.mem_append_left _ hi))
        obtain ⟨F2, b1, b2, b3, b4⟩ := argsT_ok S Hk (fun e => by have := hrb e; rw [List.any_cons, Bool.or_eq_false_iff] at this; exact this.2) (fun q hq => hok q (List.mem_cons_of_mem _ hq)) hy hvs (fun i hi => hh i (List.mem_append_right _ hi)) (fun e i hi => hf e i (List.mem_append_right _ hi))
        refine ⟨F1 ++ F2, ⟨v, vs, F1, F2, rfl, rfl, a1, b1⟩, fun q hq => ?_, fun hn => ?_, fun i hi => ?_⟩
        · rcases List.mem_append.1 hq with hq | hq
          · obtain ⟨i, hi, hb⟩ := a2 q hq; exact ⟨i, List.mem_append_left _ hi, hb⟩
          · obtain ⟨i, hi, hb⟩ := b2 q hq; exact ⟨i, List.mem_append_right _ hi, hb⟩
        · obtain ⟨n1, n2, n3⟩ := List.nodup_append.1 hn
          refine List.nodup_append.2 ⟨a3 n1, b3 n2, fun q hq q' hq' e => ?_⟩
          subst e
          obtain ⟨i, hi, hb⟩ := a2 q hq
          obtain ⟨j, hj, hb'⟩ := b2 q hq'
          exact S.H1.dis i j (n3 i hi j hj) q hb hb'
        · rcases List.mem_append.1 hi with hi | hi
          · exact a4 i hi
          · exact b4 i hi
      · cases hx
    · cases hx
  | [], _ :: _, _, _, _, _, hx, _, _, _ => by simp [argsT] at hx
  | _ :: _, [], _, _, _, _, hx, _, _, _ => by simp [argsT] at hx
  | [], [], _, _ :: _, _, _, _, h, _, _ => h.elim
  | _ :: _, _ :: _, _, [], _, _, _, h, _, _ => h.elim

/-! ### behind the call -/

theorem HR.congr {h h' : List (Nat × Blk)} (H : HR B Fr Z0 w0 h C Z w) (hl : ∀ i, lk h' i = lk h i) : HR B Fr Z0 w0 h' C Z w := by
  have hft : ∀ i, ft h' C i = ft h C i := fun i => by unfold ft; rw [hl]
  exact ⟨fun i hi => H.dom i (by rw [← hl]; exact hi), fun i b hb => H.blk i b (by rw [← hl]; exact hb), fun i j hij b hb => by rw [hft] at hb ⊢; exact H.dis i j hij b hb, fun i b hb => H.own i b (by rw [← hft]; exact hb), H.zon, H.zsb, H.zin, H.frm⟩

/-- The world behind a call: the zone has grown by what is new and only read. -/
theorem HR.after {K : List (Nat × Blk)} {C1 : Cons} {Z1 ZZ Z' : Nat → Prop} {w' : World} {F Fu Fo : List Nat} (H : HR B Fr Z0 w0 K C1 Z1 w) (A : After w w' ZZ Z' F Fu Fo) (hZZ : ∀ b, ZZ b → b < w.heap.size) (hFs : ∀ b, b ∈ F → b < w.heap.size) (hF : ∀ b, b ∈ F → ¬ Z1 b ∧ (B ≤ b ∨ Fr b) ∧ ∀ i, b ∉ ft K C1 i) :
    HR B Fr Z0 w0 K C1 (fun b => Z1 b ∨ (Z' b ∧ w.heap.size ≤ b)) w' := by
  refine H.step (fun _ => False) (fun _ _ => ⟨rfl, rfl⟩) (Ext.refl C1) (fun _ h => h.elim) (fun _ _ h => h.elim) (fun _ _ h => h.elim) (fun _ _ h => h.elim) (fun _ h => .inl h) (fun b hz => ?_) (fun b hb _ hz => ?_) A.size A.os A.tape A.out
  · rcases hz with hz | ⟨hz, hge⟩
    · exact ⟨Nat.lt_of_lt_of_le (H.zon b hz) A.size, .inl hz⟩
    · rcases A.zone b hz with h | h | h
      · exact absurd (hZZ b h) (by omega)
      · exact ⟨h.2, .inr (.inr hge)⟩
      · exact absurd (hFs b h.1) (by omega)
  · refine A.blk b hb fun hF' => ?_
    obtain ⟨h1, h2, h3⟩ := hF b hF'
    rcases hz with hz | ⟨i, hi⟩ | ⟨hb1, hb2⟩
    · exact h1 hz
    · exact h3 i hi
    · rcases h2 with h2 | h2
      · omega
      · exact hb2 h2

end
end Go.Ev
