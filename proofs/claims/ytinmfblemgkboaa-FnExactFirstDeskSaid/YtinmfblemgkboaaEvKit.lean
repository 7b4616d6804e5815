import Derived.Test.YtinmfblemgkboaaEvFn
import Derived.KernelRfl
/- Tables of types and contracts. -/
set_option linter.unusedVariables false
set_option linter.unusedSimpArgs false
namespace Go.Ev
open Go

def lim0 : TypeId → Nat := fun _ => 4294967296

theorem tyOk_of {P : Program} {l : List (Nat × Kd)} {ones : List Nat} (h : ∀ p, p ∈ l → TyFit P lim0 p.1 p.2) (h1 : ∀ t, t ∈ ones → OneFit P t) (nt : Nat) (spec : FuncId → Option FSpec) :
    TyOk P ⟨nt, fun t => lk l t, fun t => ones.any fun u => Nat.beq u t, lim0, spec⟩ :=
  ⟨fun t k ht => h (t, k) (lk_mem ht), fun t ht => by
    obtain ⟨u, hu, he⟩ := List.any_eq_true.1 ht
    have := Nat.eq_of_beq_eq_true he
    subst this
    exact h1 u hu⟩

def spLk : List (Nat × FSpec) → Nat → Option FSpec
  | [], _ => none
  | (k, v) :: l, i => match Nat.beq k i with | true => some v | false => spLk l i

/-- one contract that is proved -/
structure Cert (P : Program) (f : FuncId) (sp : FSpec) : Prop where
  go : GoFn P f
  holds : Holds P f sp
  ins : ∀ p, p ∈ sp.ins → p.Ok
  out : ∀ p, p ∈ sp.out → Shape1 p.1

def AllCert (P : Program) : List (Nat × FSpec) → Prop
  | [] => True
  | p :: l => Cert P p.1 p.2 ∧ AllCert P l
theorem spOk_of {P : Program} {nt : Nat} {ty : TypeId → Option Kd} {one : TypeId → Bool} {lim : TypeId → Nat} : ∀ {l : List (Nat × FSpec)}, AllCert P l → SpOk P ⟨nt, ty, one, lim, spLk l⟩
  | [], _ => fun f sp h => by cases h
  | p :: l, ⟨h1, h2⟩ => fun f sp h => by
    simp only [spLk] at h
    split at h
    · rename_i hb
      have := Nat.eq_of_beq_eq_true hb
      subst this
      cases h
      exact ⟨h1.go, h1.holds, h1.ins, h1.out⟩
    · exact spOk_of (nt := nt) (ty := ty) (one := one) (lim := lim) h2 f sp h

/-- the contract out of a plain function -/
def mkSpec (ins : List Pk) (out : List (Kd × Bool)) (F : Ins ins → Option (Outs out × Ups ins)) : FSpec where
  ins := ins
  out := out
  rel x o u := F x = some (o, u)
  call x K := match F x with | some p => K p.1 p.2 | none => none
  law x K r h := by
    cases hF : F x with
    | none => rw [hF] at h; cases h
    | some p => rw [hF] at h; exact ⟨p.1, p.2, rfl, h⟩

def noDr {R : Type} : Array Oper → St → (St → Option R) → Option R := fun _ _ _ => none
theorem noDr_ok {P : Program} {env : Env} {B : Nat} {Fr Z0 : Nat → Prop} {w0 : World} {args : List Value} {R : Type} : DrOk P env B Fr Z0 w0 args (noDr (R := R)) := fun _ _ _ _ _ h => by cases h

def okPk : Pk → Bool | .ro k => k.isSt || Nat.beq k.sz 1 | .wr k => k.isSt || Nat.beq k.sz 1 | _ => true
theorem okPk_ok {p : Pk} (h : okPk p = true) : p.Ok := by
  cases p with
  | ro k =>
    intro hs
    simp only [okPk, hs, Bool.false_or] at h
    exact Nat.eq_of_beq_eq_true h
  | wr k =>
    intro hs
    simp only [okPk, hs, Bool.false_or] at h
    exact Nat.eq_of_beq_eq_true h
  | _ => trivial
def okOut (p : Kd × Bool) : Bool := p.1.isSt || Nat.beq p.1.sz 1
theorem okOut_ok {p : Kd × Bool} (h : okOut p = true) : Shape1 p.1 := fun hs => by
  simp only [okOut, hs, Bool.false_or] at h
  exact Nat.eq_of_beq_eq_true h

/-- A function's contract, told. -/
theorem FnCx.told {P : Program} {c : FnCx} {f : FuncId} {fn : Func} (F : Ins c.ins → Option (Outs c.out × Ups c.ins)) (ok : TyOk P c.env) (spk : SpOk P c.env) (hdr : ∀ B Fr Z0 w0 args, DrOk P c.env B Fr Z0 w0 args (c.dr (R := c.R)))
    (hf : P.funcs[f]? = some fn) (hb : fn.body = some c.body) (hres : fn.results.toList = c.res) (hnt : fn.ntmps = c.env.nt) (hname : (fn.name == "runtime.NumGoroutine") = false) (hins : c.ins.all okPk = true) (houts : c.out.all okOut = true)
    (hrel : ∀ x r, BdI c.ins x → F x = some r → ∃ n, c.start (c.G n) x = some r) : Cert P f (mkSpec c.ins c.out F) := by
  have hi : ∀ p, p ∈ c.ins → p.Ok := fun p hp => okPk_ok (List.all_eq_true.1 hins p hp)
  have ho : ∀ p, p ∈ c.out → Shape1 p.1 := fun p hp => okOut_ok (List.all_eq_true.1 houts p hp)
  exact ⟨⟨fn, hf, by rw [hb]; rfl, hname⟩, FnCx.holds (law := (mkSpec c.ins c.out F).law) ok spk hdr hf hb hres hnt hi ho (fun x o u hb h => hrel x (o, u) hb h), hi, ho⟩


/-- the contract of a function that answers always -/
def mkTot (ins : List Pk) (out : List (Kd × Bool)) (u : Ups ins) (F : Ins ins → Outs out) : FSpec where
  ins := ins
  out := out
  rel x o u' := o = F x ∧ u' = u
  call x K := K (F x) u
  law x K r h := ⟨F x, u, ⟨rfl, rfl⟩, h⟩
/-- the contract of a function that answers where it may -/
def mkRo (ins : List Pk) (out : List (Kd × Bool)) (u : Ups ins) (F : Ins ins → Option (Outs out)) : FSpec where
  ins := ins
  out := out
  rel x o u' := F x = some o ∧ u' = u
  call x K := match F x with | some o => K o u | none => none
  law x K r h := by
    cases hF : F x with
    | none => rw [hF] at h; cases h
    | some o => rw [hF] at h; exact ⟨o, u, ⟨rfl, rfl⟩, h⟩

theorem FnCx.certT {P : Program} {c : FnCx} {f : FuncId} {fn : Func} (u : Ups c.ins) (F : Ins c.ins → Outs c.out) (ok : TyOk P c.env) (spk : SpOk P c.env) (hdr : ∀ B Fr Z0 w0 args, DrOk P c.env B Fr Z0 w0 args (c.dr (R := c.R)))
    (hf : P.funcs[f]? = some fn) (hb : fn.body = some c.body) (hres : fn.results.toList = c.res) (hnt : fn.ntmps = c.env.nt) (hname : (fn.name == "runtime.NumGoroutine") = false) (hins : c.ins.all okPk = true) (houts : c.out.all okOut = true)
    (hrel : ∀ x, BdI c.ins x → ∃ n, c.start (c.G n) x = some (F x, u)) : Cert P f (mkTot c.ins c.out u F) := by
  have hi : ∀ p, p ∈ c.ins → p.Ok := fun p hp => okPk_ok (List.all_eq_true.1 hins p hp)
  have ho : ∀ p, p ∈ c.out → Shape1 p.1 := fun p hp => okOut_ok (List.all_eq_true.1 houts p hp)
  exact ⟨⟨fn, hf, by rw [hb]; rfl, hname⟩, FnCx.holds (law := (mkTot c.ins c.out u F).law) ok spk hdr hf hb hres hnt hi ho (fun x o u' hb h => by obtain ⟨rfl, rfl⟩ := h; exact hrel x hb), hi, ho⟩
theorem FnCx.certO {P : Program} {c : FnCx} {f : FuncId} {fn : Func} (u : Ups c.ins) (F : Ins c.ins → Option (Outs c.out)) (ok : TyOk P c.env) (spk : SpOk P c.env) (hdr : ∀ B Fr Z0 w0 args, DrOk P c.env B Fr Z0 w0 args (c.dr (R := c.R)))
    (hf : P.funcs[f]? = some fn) (hb : fn.body = some c.body) (hres : fn.results.toList = c.res) (hnt : fn.ntmps = c.env.nt) (hname : (fn.name == "runtime.NumGoroutine") = false) (hins : c.ins.all okPk = true) (houts : c.out.all okOut = true)
    (hrel : ∀ x o, BdI c.ins x → F x = some o → ∃ n, c.start (c.G n) x = some (o, u)) : Cert P f (mkRo c.ins c.out u F) := by
  have hi : ∀ p, p ∈ c.ins → p.Ok := fun p hp => okPk_ok (List.all_eq_true.1 hins p hp)
  have ho : ∀ p, p ∈ c.out → Shape1 p.1 := fun p hp => okOut_ok (List.all_eq_true.1 houts p hp)
  exact ⟨⟨fn, hf, by rw [hb]; rfl, hname⟩, FnCx.holds (law := (mkRo c.ins c.out u F).law) ok spk hdr hf hb hres hnt hi ho (fun x o u' hb h => by obtain ⟨h, rfl⟩ := h; exact hrel x o hb h), hi, ho⟩

theorem cs1 {α β γ : Type} {b : Bool} {x y : α} {p : β} {u : γ} {X Y : Option ((α × β) × γ)} (hx : X = some ((x, p), u)) (hy : Y = some ((y, p), u)) : cond b X Y = some ((cond b x y, p), u) := by cases b <;> assumption
theorem cs2 {α γ : Type} {b : Bool} {x y : α} {u : γ} {X Y : Option (α × γ)} (hx : X = some (x, u)) (hy : Y = some (y, u)) : cond b X Y = some (cond b x y, u) := by cases b <;> assumption
/-- an answer and what has turned -/
def lift {α γ : Type} (u : γ) : Option α → Option (α × γ) | some o => some (o, u) | none => none
def lift1 {α β γ : Type} (p : β) (u : γ) : Option α → Option ((α × β) × γ) | some o => some ((o, p), u) | none => none
theorem ls {α γ : Type} {b : Bool} {x y : Option α} {u : γ} {X Y : Option (α × γ)} (hx : X = lift u x) (hy : Y = lift u y) : cond b X Y = lift u (cond b x y) := by cases b <;> assumption
theorem lb {α δ γ : Type} {m : Option δ} {g : δ → Option α} {u : γ} {G : δ → Option (α × γ)} (h : ∀ r, G r = lift u (g r)) : Option.bind m G = lift u (Option.bind m g) := by
  cases m with
  | none => rfl
  | some r => exact h r
theorem lift_some {α γ : Type} {u : γ} {o : Option α} {x : α} (h : o = some x) : lift u o = some (x, u) := by rw [h]; rfl

/-- the contract of a function that answers always, and writes -/
def mkTotU (ins : List Pk) (out : List (Kd × Bool)) (U : Ins ins → Ups ins) (F : Ins ins → Outs out) : FSpec where
  ins := ins
  out := out
  rel x o u := o = F x ∧ u = U x
  call x K := K (F x) (U x)
  law x K r h := ⟨F x, U x, ⟨rfl, rfl⟩, h⟩
theorem FnCx.certTU {P : Program} {c : FnCx} {f : FuncId} {fn : Func} (U : Ins c.ins → Ups c.ins) (F : Ins c.ins → Outs c.out) (ok : TyOk P c.env) (spk : SpOk P c.env) (hdr : ∀ B Fr Z0 w0 args, DrOk P c.env B Fr Z0 w0 args (c.dr (R := c.R)))
    (hf : P.funcs[f]? = some fn) (hb : fn.body = some c.body) (hres : fn.results.toList = c.res) (hnt : fn.ntmps = c.env.nt) (hname : (fn.name == "runtime.NumGoroutine") = false) (hins : c.ins.all okPk = true) (houts : c.out.all okOut = true)
    (hrel : ∀ x, BdI c.ins x → ∃ n, c.start (c.G n) x = some (F x, U x)) : Cert P f (mkTotU c.ins c.out U F) := by
  have hi : ∀ p, p ∈ c.ins → p.Ok := fun p hp => okPk_ok (List.all_eq_true.1 hins p hp)
  have ho : ∀ p, p ∈ c.out → Shape1 p.1 := fun p hp => okOut_ok (List.all_eq_true.1 houts p hp)
  exact ⟨⟨fn, hf, by rw [hb]; rfl, hname⟩, FnCx.holds (law := (mkTotU c.ins c.out U F).law) ok spk hdr hf hb hres hnt hi ho (fun x o u' hb h => by obtain ⟨rfl, rfl⟩ := h; exact hrel x hb), hi, ho⟩
theorem cu1 {α β γ : Type} {b : Bool} {x y : α} {p : β} {u v : γ} {X Y : Option ((α × β) × γ)} (hx : X = some ((x, p), u)) (hy : Y = some ((y, p), v)) : cond b X Y = some ((cond b x y, p), cond b u v) := by cases b <;> assumption
theorem cu2 {α γ : Type} {b : Bool} {x y : α} {u v : γ} {X Y : Option (α × γ)} (hx : X = some (x, u)) (hy : Y = some (y, v)) : cond b X Y = some (cond b x y, cond b u v) := by cases b <;> assumption

end Go.Ev
