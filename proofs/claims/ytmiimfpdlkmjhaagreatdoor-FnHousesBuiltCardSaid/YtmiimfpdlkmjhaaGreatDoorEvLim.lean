/- The limit of the rounds: what the points come to, with as many rounds as are wanted. -/
import Derived.Test.YtmiimfpdlkmjhaaGreatDoorEvKit
set_option linter.unusedVariables false
set_option linter.unusedSectionVars false
set_option linter.unusedSimpArgs false
namespace Go.Ev
open Go
variable [Lax]

section
variable {R : Type}

inductive Leaf : (l : List Pt) → (Gs R l → Option R) → Prop where
  | here {p : Pt} {l : List Pt} (s : p.2.X) : Leaf (p :: l) (fun g => g.1 s)
  | there {p : Pt} {l : List Pt} {X : Gs R l → Option R} (h : Leaf l X) : Leaf (p :: l) (fun g => X g.2)

/-- an answer that is told already, or one that a point tells -/
def Tail (l : List Pt) (X : Gs R l → Option R) : Prop := (∃ o, ∀ g, X g = o) ∨ Leaf l X

theorem Tail.const {l : List Pt} (o : Option R) : Tail l (fun _ => o) := .inl ⟨o, fun _ => rfl⟩
theorem Tail.here {p : Pt} {l : List Pt} (s : p.2.X) : Tail (R := R) (p :: l) (fun g => g.1 s) := .inr (.here s)
theorem Tail.there {p : Pt} {l : List Pt} {X : Gs R l → Option R} (h : Tail l X) : Tail (p :: l) (fun g => X g.2) := by
  rcases h with ⟨o, h⟩ | h
  · exact .inl ⟨o, fun g => h g.2⟩
  · exact .inr (.there h)
theorem Tail.cond {l : List Pt} {b : Bool} {X Y : Gs R l → Option R} (hx : Tail l X) (hy : Tail l Y) : Tail l (fun g => cond b (X g) (Y g)) := by cases b <;> assumption
theorem Tail.bind {α : Type} {l : List Pt} {m : Option α} {X : α → Gs R l → Option R} (h : ∀ a, Tail l (X a)) : Tail l (fun g => Option.bind m fun a => X a g) := by
  cases m with
  | none => exact .const none
  | some a => exact h a
theorem Tail.eq {l : List Pt} {X Y : Gs R l → Option R} (h : Tail l Y) (e : ∀ g, X g = Y g) : Tail l X := by
  have : X = Y := funext e
  rw [this]; exact h

def Tails {l : List Pt} : (l' : List Pt) → (Gs R l → Gs R l') → Prop
  | [], _ => True
  | _ :: l', F => (∀ s, Tail l (fun g => (F g).1 s)) ∧ Tails l' (fun g => (F g).2)

noncomputable def lim (f : Nat → Option R) : Option R := open Classical in if h : ∃ r n, f n = some r then some (Classical.choose h) else none
noncomputable def limG : (l : List Pt) → (Nat → Gs R l) → Gs R l
  | [], _ => ()
  | _ :: l, G => (fun s => lim fun n => (G n).1 s, limG l fun n => (G n).2)

def LeG : (l : List Pt) → Gs R l → Gs R l → Prop
  | [], _, _ => True
  | _ :: l, g, g' => (∀ s r, g.1 s = some r → g'.1 s = some r) ∧ LeG l g.2 g'.2
theorem LeG.refl : ∀ (l : List Pt) (g : Gs R l), LeG l g g
  | [], _ => trivial
  | _ :: l, g => ⟨fun _ _ h => h, LeG.refl l g.2⟩
theorem LeG.trans : ∀ {l : List Pt} {a b c : Gs R l}, LeG l a b → LeG l b c → LeG l a c
  | [], _, _, _, _, _ => trivial
  | _ :: _, _, _, _, ⟨h1, h2⟩, ⟨k1, k2⟩ => ⟨fun s r h => k1 s r (h1 s r h), LeG.trans h2 k2⟩
theorem noneG_le : ∀ (l : List Pt) (g : Gs R l), LeG l (noneG l) g
  | [], _ => trivial
  | _ :: l, g => ⟨fun s r h => (by cases h), noneG_le l g.2⟩
theorem Leaf.mono {l : List Pt} {X : Gs R l → Option R} (h : Leaf l X) {g g' : Gs R l} {r : R} (hg : LeG l g g') (hr : X g = some r) : X g' = some r := by
  induction h with
  | here s => exact hg.1 s r hr
  | there _ ih => exact ih hg.2 hr
theorem Tail.mono {l : List Pt} {X : Gs R l → Option R} (h : Tail l X) {g g' : Gs R l} {r : R} (hg : LeG l g g') (hr : X g = some r) : X g' = some r := by
  rcases h with ⟨o, h⟩ | h
  · rw [h] at hr ⊢; exact hr
  · exact h.mono hg hr
theorem Tails.mono {l : List Pt} : ∀ {l' : List Pt} {F : Gs R l → Gs R l'}, Tails l' F → ∀ {g g' : Gs R l}, LeG l g g' → LeG l' (F g) (F g')
  | [], _, _, _, _, _ => trivial
  | _ :: _, _, ⟨h1, h2⟩, _, _, hg => ⟨fun s _ hr => (h1 s).mono hg hr, h2.mono hg⟩

def Chain (l : List Pt) (G : Nat → Gs R l) : Prop := ∀ n m, n ≤ m → LeG l (G n) (G m)

theorem lim_iff {f : Nat → Option R} (hf : ∀ n m, n ≤ m → ∀ r, f n = some r → f m = some r) (r : R) : lim f = some r ↔ ∃ n, f n = some r := by
  unfold lim
  constructor
  · intro h
    split at h
    · rename_i hx
      cases h
      exact Classical.choose_spec hx
    · cases h
  · rintro ⟨n, hn⟩
    have hx : ∃ r n, f n = some r := ⟨r, n, hn⟩
    rw [dif_pos hx]
    obtain ⟨m, hm⟩ := Classical.choose_spec hx
    have a := hf n (n + m) (by omega) _ hn
    have b := hf m (n + m) (by omega) _ hm
    rw [a] at b
    exact b.symm
theorem Leaf.lim {l : List Pt} {X : Gs R l → Option R} (h : Leaf l X) : ∀ {G : Nat → Gs R l}, Chain l G → ∀ r, X (limG l G) = some r ↔ ∃ n, X (G n) = some r := by
  induction h with
  | here s => exact fun hG r => lim_iff (fun n m hn r => (hG n m hn).1 s r) r
  | there _ ih => exact fun hG r => ih (fun n m hn => (hG n m hn).2) r
theorem Tail.lim {l : List Pt} {X : Gs R l → Option R} (h : Tail l X) {G : Nat → Gs R l} (hG : Chain l G) (r : R) : X (limG l G) = some r ↔ ∃ n, X (G n) = some r := by
  rcases h with ⟨o, h⟩ | h
  · simp only [h]
    exact ⟨fun h => ⟨0, h⟩, fun ⟨_, h⟩ => h⟩
  · exact h.lim hG r
theorem opt_ext {a b : Option R} (h : ∀ r, a = some r ↔ b = some r) : a = b := by
  cases a with
  | none =>
    cases b with
    | none => rfl
    | some b => exact absurd ((h b).2 rfl) (by simp)
  | some a => exact ((h a).1 rfl).symm
theorem Tails.lim {l : List Pt} {G : Nat → Gs R l} (hG : Chain l G) : ∀ {l' : List Pt} {F : Gs R l → Gs R l'}, Tails l' F → limG l' (fun n => F (G n)) = F (limG l G)
  | [], _, _ => rfl
  | p :: l', F, ⟨h1, h2⟩ => by
    have e1 : (limG (p :: l') (fun n => F (G n))).1 = (F (limG l G)).1 := by
      funext s
      refine opt_ext fun r => ?_
      rw [(h1 s).lim hG r]
      exact lim_iff (fun n m hn r hr => (h1 s).mono (hG n m hn) hr) r
    exact Prod.ext e1 (Tails.lim hG h2)
theorem limG_shift : ∀ {l : List Pt} {G : Nat → Gs R l}, Chain l G → limG l (fun n => G (n + 1)) = limG l G
  | [], _, _ => rfl
  | p :: l, G, hG => by
    refine Prod.ext ?_ (limG_shift fun n m hn => (hG n m hn).2)
    funext s
    refine opt_ext fun r => ?_
    have h1 := lim_iff (f := fun n => (G (n + 1)).1 s) (fun n m hn r => (hG (n + 1) (m + 1) (by omega)).1 s r) r
    have h2 := lim_iff (f := fun n => (G n).1 s) (fun n m hn r => (hG n m hn).1 s r) r
    refine h1.trans (Iff.trans ⟨fun ⟨n, h⟩ => ⟨n + 1, h⟩, fun ⟨n, h⟩ => ⟨n, (hG n (n + 1) (by omega)).1 s r h⟩⟩ h2.symm)
end

noncomputable def FnCx.L (c : FnCx) : Gs c.R c.pts := limG c.pts c.G
theorem FnCx.chain {c : FnCx} (h : Tails c.pts c.round) : Chain c.pts c.G := by
  have one : ∀ n, LeG c.pts (c.G n) (c.G (n + 1)) := by
    intro n
    induction n with
    | zero => exact noneG_le _ _
    | succ n ih => exact h.mono ih
  intro n m hn
  induction hn with
  | refl => exact LeG.refl _ _
  | step _ ih => exact ih.trans (one _)
theorem FnCx.L_eq {c : FnCx} (h : Tails c.pts c.round) : c.L = c.round c.L := by
  have h1 := limG_shift (FnCx.chain h)
  have h2 : limG c.pts (fun n => c.G (n + 1)) = limG c.pts (fun n => c.round (c.G n)) := rfl
  unfold FnCx.L
  rw [← Tails.lim (FnCx.chain h) h, ← h2, h1]
theorem FnCx.start_L {c : FnCx} (h : Tails c.pts c.round) (hs : ∀ x, Tail c.pts (fun g => c.start g x)) {x : Ins c.ins} {t : c.T} (ht : c.start c.L x = some t) : ∃ n, c.start (c.G n) x = some t :=
  ((hs x).lim (FnCx.chain h) t).1 ht

/-- contracts out of what is told -/
def mkF {T : Type} (pre : WPre) (ins : List Pk) (out : List (Kd × Bool)) (inj : T → Outs out × Ups ins) (F : Ins ins → Option T) : FSpec where
  ins := ins
  out := out
  rel x o u := ∃ t, F x = some t ∧ inj t = (o, u)
  call x K := match F x with | some t => K (inj t).1 (inj t).2 | none => none
  law x K r h := by
    cases hF : F x with
    | none => rw [hF] at h; cases h
    | some t => rw [hF] at h; exact ⟨(inj t).1, (inj t).2, ⟨t, rfl, rfl⟩, h⟩
  pre := pre
def mkT {T : Type} (pre : WPre) (ins : List Pk) (out : List (Kd × Bool)) (inj : T → Outs out × Ups ins) (F : Ins ins → T) : FSpec where
  ins := ins
  out := out
  rel x o u := inj (F x) = (o, u)
  call x K := K (inj (F x)).1 (inj (F x)).2
  law x K r h := ⟨(inj (F x)).1, (inj (F x)).2, rfl, h⟩
  pre := pre

section
variable {P : Program} {c : FnCx} {f : FuncId} {fn : Func}
theorem FnCx.certF (F : Ins c.ins → Option c.T) (ok : TyOk P c.env) (spk : SpOk P c.env) (hdr : ∀ B Fr Z0 w0 args, SpOkS P c.env B Fr Z0 w0 → DrOk P c.env B Fr Z0 w0 args (c.dr (R := c.R)))
    (hf : P.funcs[f]? = some fn) (hb : fn.body = some c.body) (hres : fn.results.toList = c.res) (hnt : fn.ntmps = c.env.nt) (hname : (fn.name == "runtime.NumGoroutine") = false) (hins : c.ins.all okPk = true) (houts : c.out.all okOut = true) (hfi : ∀ r, c.inj (c.fin r) = r)
    (hT : Tails c.pts c.round) (hs : ∀ x, Tail c.pts (fun g => c.start g x)) (hF : ∀ x t, BdI c.ins x → F x = some t → c.start c.L x = some t) : Cert P f (mkF c.env.pre c.ins c.out c.inj F) := by
  have hi : ∀ p, p ∈ c.ins → p.Ok := fun p hp => okPk_ok (List.all_eq_true.1 hins p hp)
  have ho : ∀ p, p ∈ c.out → Shape1 p.1 := fun p hp => okOut_ok (List.all_eq_true.1 houts p hp)
  exact ⟨⟨fn, hf, by rw [hb]; rfl, hname⟩, FnCx.holds (law := (mkF c.env.pre c.ins c.out c.inj F).law) ok spk hdr hf hb hres hnt hi ho hfi (fun x o u hb ⟨t, h1, h2⟩ => by
    obtain ⟨n, hn⟩ := FnCx.start_L hT hs (hF x t hb h1)
    exact ⟨n, t, hn, h2⟩), hi, ho⟩
theorem FnCx.certT (F : Ins c.ins → c.T) (ok : TyOk P c.env) (spk : SpOk P c.env) (hdr : ∀ B Fr Z0 w0 args, SpOkS P c.env B Fr Z0 w0 → DrOk P c.env B Fr Z0 w0 args (c.dr (R := c.R)))
    (hf : P.funcs[f]? = some fn) (hb : fn.body = some c.body) (hres : fn.results.toList = c.res) (hnt : fn.ntmps = c.env.nt) (hname : (fn.name == "runtime.NumGoroutine") = false) (hins : c.ins.all okPk = true) (houts : c.out.all okOut = true) (hfi : ∀ r, c.inj (c.fin r) = r)
    (hT : Tails c.pts c.round) (hs : ∀ x, Tail c.pts (fun g => c.start g x)) (hF : ∀ x, BdI c.ins x → c.start c.L x = some (F x)) : Cert P f (mkT c.env.pre c.ins c.out c.inj F) := by
  have hi : ∀ p, p ∈ c.ins → p.Ok := fun p hp => okPk_ok (List.all_eq_true.1 hins p hp)
  have ho : ∀ p, p ∈ c.out → Shape1 p.1 := fun p hp => okOut_ok (List.all_eq_true.1 houts p hp)
  exact ⟨⟨fn, hf, by rw [hb]; rfl, hname⟩, FnCx.holds (law := (mkT c.env.pre c.ins c.out c.inj F).law) ok spk hdr hf hb hres hnt hi ho hfi (fun x o u hb h => by
    obtain ⟨n, hn⟩ := FnCx.start_L hT hs (hF x hb)
    exact ⟨n, F x, hn, h⟩), hi, ho⟩
end
/-! recursion: contracts by rounds -/
section
variable {P : Program} {c : FnCx} {f : FuncId} {fn : Func} {T : Type} {pre : WPre} {ins : List Pk} {out : List (Kd × Bool)} {inj : T → Outs out × Ups ins}
theorem lim_some {R : Type} {f : Nat → Option R} {r : R} (h : lim f = some r) : ∃ n, f n = some r := by
  unfold lim at h
  split at h
  · rename_i hx
    cases h
    exact Classical.choose_spec hx
  · cases h
theorem cert_none (hf : P.funcs[f]? = some fn) (hb : fn.body.isSome = true) (hname : (fn.name == "runtime.NumGoroutine") = false) (hins : ins.all okPk = true) (houts : out.all okOut = true) : Cert P f (mkF pre ins out inj fun _ => none) :=
  ⟨⟨fn, hf, hb, hname⟩, fun _ _ _ _ _ _ _ _ _ _ _ _ ⟨_, h, _⟩ => (by cases h), fun p hp => okPk_ok (List.all_eq_true.1 hins p hp), fun p hp => okOut_ok (List.all_eq_true.1 houts p hp)⟩
theorem cert_lim {F : Nat → Ins ins → Option T} {G : Ins ins → Option T} (h : ∀ n, Cert P f (mkF pre ins out inj (F n))) (hG : ∀ x t, BdI ins x → G x = some t → ∃ n, F n x = some t) : Cert P f (mkF pre ins out inj G) :=
  ⟨(h 0).go, fun w Z x args Fr hp hin hn hF hz o u ⟨t, h1, h2⟩ => by
    obtain ⟨n, hn'⟩ := hG x t (InR.bd hin) h1
    exact (h n).holds w Z x args Fr hp hin hn hF hz o u ⟨t, hn', h2⟩, (h 0).ins, (h 0).out⟩
end
theorem condS {α : Type} {b : Bool} {x y : α} {X Y : Option α} (hx : X = some x) (hy : Y = some y) : cond b X Y = some (cond b x y) := by cases b <;> assumption
end Go.Ev
