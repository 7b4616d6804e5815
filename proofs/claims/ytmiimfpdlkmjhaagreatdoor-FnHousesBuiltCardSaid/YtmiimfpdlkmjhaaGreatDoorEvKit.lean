/- Tables of types and contracts. -/
import Derived.Test.YtmiimfpdlkmjhaaGreatDoorEvFn
import Derived.KernelRfl
set_option linter.unusedVariables false
set_option linter.unusedSectionVars false
set_option linter.unusedSimpArgs false
namespace Go.Ev
open Go
variable [Lax]

def lim0 : TypeId → Nat := fun _ => 4294967296

theorem tyOk_of {P : Program} {l : List (Nat × Kd)} {ones : List Nat} (h : ∀ p, p ∈ l → TyFit P lim0 p.1 p.2) (h1 : ∀ t, t ∈ ones → OneFit P t) (h2 : ∀ p, p ∈ l → EqOk P p.1 p.2) (nt : Nat) (spec : FuncId → List AV → Option FSpec) (pre : WPre) (mv : Nat → Bool) :
    TyOk P ⟨nt, fun t => lk l t, fun t => ones.any fun u => Nat.beq u t, lim0, spec, pre, mv⟩ :=
  ⟨fun t k ht => h (t, k) (lk_mem ht), fun t ht => by
    obtain ⟨u, hu, he⟩ := List.any_eq_true.1 ht
    have := Nat.eq_of_beq_eq_true he
    subst this
    exact h1 u hu, fun t k ht => h2 (t, k) (lk_mem ht)⟩

/-- a contract is for the functions that it was told of -/
def fitsP : Pk → AV → Bool
  | .fn f _, .fn g _ => Nat.beq f g
  | .fr f _, .fn g _ => Nat.beq f g
  | _, _ => true
def fitsL : List Pk → List AV → Bool
  | p :: ps, a :: as => fitsP p a && fitsL ps as
  | _, _ => true
def spLk : List (Nat × FSpec) → Nat → List AV → Option FSpec
  | [], _, _ => none
  | (k, v) :: l, i, as => match Nat.beq k i && fitsL v.ins as with | true => some v | false => spLk l i as

/-- one contract that is proved -/
structure Cert (P : Program) (f : FuncId) (sp : FSpec) : Prop where
  go : GoFn P f
  holds : Holds P f sp
  ins : ∀ p, p ∈ sp.ins → p.Ok
  out : ∀ p, p ∈ sp.out → Shape1 p.1

def AllCert (P : Program) (pre : WPre) : List (Nat × FSpec) → Prop
  | [] => True
  | p :: l => Cert P p.1 p.2 ∧ (∀ w Z, pre.p w Z → p.2.pre.p w Z) ∧ AllCert P pre l
theorem spOk_of {P : Program} {nt : Nat} {ty : TypeId → Option Kd} {one : TypeId → Bool} {lim : TypeId → Nat} {pre : WPre} {mv : Nat → Bool} : ∀ {l : List (Nat × FSpec)}, AllCert P pre l → SpOk P ⟨nt, ty, one, lim, spLk l, pre, mv⟩
  | [], _ => fun f as sp h => by cases h
  | p :: l, ⟨h1, h3, h2⟩ => fun f as sp h => by
    simp only [spLk] at h
    split at h
    · rename_i hb
      have := Nat.eq_of_beq_eq_true (Bool.and_eq_true _ _ ▸ hb).1
      subst this
      cases h
      exact ⟨h1.go, h1.holds, h1.ins, h1.out, h3⟩
    · exact spOk_of (nt := nt) (ty := ty) (one := one) (lim := lim) (pre := pre) (mv := mv) h2 f as sp h

def noDr {R : Type} : Array Oper → St → (St → Option R) → Option R := fun _ _ _ => none
theorem noDr_ok {P : Program} {env : Env} {B : Nat} {Fr Z0 : Nat → Prop} {w0 : World} {args : List Value} {R : Type} : DrOk P env B Fr Z0 w0 args (noDr (R := R)) := fun _ _ _ _ _ h => by cases h

def okPk : Pk → Bool | .ro k => k.isSt || Nat.beq k.sz 1 | .wr k => k.isSt || Nat.beq k.sz 1 | .mv k => k.isSt || Nat.beq k.sz 1 | _ => true
theorem okPk_ok {p : Pk} (h : okPk p = true) : p.Ok := by
  cases p with
  | ro k =>
    intro hs
    simp only [okPk, hs, Bool.false_or] at h
    exact Nat.eq_of_beq_eq_true h
  | wr k =>
    intro hs
    simp only [okPk, hs, Bool.false_or] at h
    exact Nat.eq_of_beq_eq_true h
  | mv k =>
    intro hs
    simp only [okPk, hs, Bool.false_or] at h
    exact Nat.eq_of_beq_eq_true h
  | _ => trivial
def okOut (p : Kd × Bool) : Bool := p.1.isSt || Nat.beq p.1.sz 1
theorem okOut_ok {p : Kd × Bool} (h : okOut p = true) : Shape1 p.1 := fun hs => by
  simp only [okOut, hs, Bool.false_or] at h
  exact Nat.eq_of_beq_eq_true h

end Go.Ev
