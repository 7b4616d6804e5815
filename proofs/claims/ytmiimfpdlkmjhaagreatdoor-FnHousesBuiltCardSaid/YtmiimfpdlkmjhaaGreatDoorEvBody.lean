/- The evaluator of whole bodies tells where the machine comes to. -/
import Derived.Test.YtmiimfpdlkmjhaaGreatDoorEvCode
set_option linter.unusedVariables false
set_option linter.unusedSectionVars false
set_option linter.unusedSimpArgs false
namespace Go.Ev
open Go
variable [Lax]

theorem at_skip (p : List Nat) : Code.at_ .skip p = .skip := by cases p <;> rfl
theorem at_nil (c : Code) : Code.at_ c [] = c := by cases c <;> rfl
theorem at_seq0 (x y : Code) : Code.at_ (.seq x y) [0] = x := at_nil x
theorem at_seq1 (x y : Code) : Code.at_ (.seq x y) [1] = y := at_nil y
theorem at_cond0 (c : Operand) (x y : Code) : Code.at_ (.cond c x y) [0] = x := at_nil x
theorem at_cond1 (c : Operand) (x y : Code) : Code.at_ (.cond c x y) [1] = y := at_nil y
theorem at_block (id : Nat) (x : Code) : Code.at_ (.block id x) [0] = x := at_nil x
theorem at_loop (x : Code) : Code.at_ (.loop x) [0] = x := at_nil x
theorem at_append : ∀ (p : List Nat) (c : Code) (q : List Nat), Code.at_ c (p ++ q) = Code.at_ (Code.at_ c p) q
  | [], c, q => by cases c <;> rfl
  | i :: p, c, q => by
    cases c with
    | seq a b => cases i <;> exact at_append p _ q
    | cond _ a b => cases i <;> exact at_append p _ q
    | block _ b => exact at_append p b q
    | loop b => exact at_append p b q
    | _ => exact (at_skip q).symm

theorem exitP_ok {body : Code} {id : Nat} : ∀ {k k' : List PI}, exitP id k = some k' → exitTo id (items body k) = some (items body k')
  | [], _, h => by cases h
  | .inBlock i :: k, k', h => by
    unfold exitP at h
    unfold items
    simp only [List.map_cons, item, exitTo]
    split at h
    · rename_i hb
      have hb := Nat.eq_of_beq_eq_true hb
      subst hb
      cases h
      simp
    · rename_i hb
      have : (i == id) = false := by
        rcases hq : (i == id) with _ | _
        · rfl
        · have : i = id := by simpa using hq
          subst this; rw [Nat.beq_refl] at hb; cases hb
      simp only [this]
      exact exitP_ok h
  | .code p :: k, k', h => by
    simp only [exitP] at h
    simpa [items, item, exitTo] using exitP_ok (body := body) h
  | .inLoop p :: k, k', h => by
    simp only [exitP] at h
    simpa [items, item, exitTo] using exitP_ok (body := body) h

theorem Steps.tail {P : Program} {m m1 m' : Machine} (h : Steps P m m') (h1 : step P m = .next m1) (hne : m ≠ m') : Steps P m1 m' := by
  obtain ⟨n, hn⟩ := h
  cases n with
  | zero => simp [runN] at hn; exact absurd hn hne
  | succ n =>
    refine ⟨n, ?_⟩
    simpa [runN, h1] using hn

section
variable {B : Nat} {Fr Z0 : Nat → Prop} {w0 w : World} {C : Cons} {Z : Nat → Prop} {P : Program} {env : Env} {R : Type} {nt : Nat} {args : List Value} {body : Code} {st : St} {a : Act}
  {b : Frame} {Φ : R → Act → World → Prop}

/-- From whatever stands for the abstract state, the machine comes to the function's end, with the answer r. -/
def Reach (P : Program) (b : Frame) (body : Code) (B : Nat) (Fr Z0 : Nat → Prop) (w0 : World) (nt : Nat) (args : List Value) (Φ : R → Act → World → Prop) (todo : List PI) (st : St) (r : R) : Prop :=
  ∀ C Z a w, Rel B Fr Z0 w0 nt args st C Z a w → ∀ cs, ∃ a' w' todo', Φ r a' w' ∧ a'.defers = [] ∧ Steps P (lone (b.at a (items body todo)) cs w) (lone { b.at a' todo' with mode := .returning } cs w')

theorem Reach.step {todo todo' : List PI} {r : R} (h : Reach P b body B Fr Z0 w0 nt args Φ todo' st r) (hs : ∀ a w cs, Go.step P (lone (b.at a (items body todo)) cs w) = .next (lone (b.at a (items body todo')) cs w)) :
    Reach P b body B Fr Z0 w0 nt args Φ todo st r := fun C Z a w H cs => by
  obtain ⟨a', w', t', h1, h2, h3⟩ := h C Z a w H cs
  exact ⟨a', w', t', h1, h2, .head (hs a w cs) h3⟩

def DrOk (P : Program) (env : Env) (B : Nat) (Fr Z0 : Nat → Prop) (w0 : World) (args : List Value) (dr : Array Oper → St → (St → Option R) → Option R) : Prop :=
  ∀ id ops st k r, dr ops st k = some r → ∀ C Z a w, Rel B Fr Z0 w0 env.nt args st C Z a w → (Code.region id ops true).wp P (OpsPost B Fr Z0 w0 env.nt args k r) a w

theorem region_ok {c : Code} {p : List Nat} {k : List PI} {K : St → Option R} {r : R} (hc : Code.at_ body p = c) (hwp : ∀ C Z a w, Rel B Fr Z0 w0 nt args st C Z a w → c.wp P (OpsPost B Fr Z0 w0 nt args K r) a w)
    (hK : ∀ st, K st = some r → Reach P b body B Fr Z0 w0 nt args Φ k st r) : Reach P b body B Fr Z0 w0 nt args Φ (.code p :: k) st r := fun C Z a w H cs => by
  obtain ⟨e, a1, w1, ⟨rfl, st1, C1, Z1, hk, H1⟩, harr⟩ := hwp C Z a w H b (items body k) cs
  obtain ⟨a', w', t', h1, h2, h3⟩ := hK st1 hk C1 Z1 a1 w1 H1 cs
  refine ⟨a', w', t', h1, h2, Steps.trans ?_ h3⟩
  have h4 : Steps P (lone (b.at a (.code c :: items body k)) cs w) (lone (b.at a1 (items body k)) cs w1) := harr
  simpa [items, item, hc] using h4

theorem evBody_ok (ok : TyOk P env) (spk : SpOkS P env B Fr Z0 w0) {dr : Array Oper → St → (St → Option R) → Option R} (hdr : DrOk P env B Fr Z0 w0 args dr) {ret : St → Option R}
    (hret : ∀ st r, ret st = some r → ∀ C Z a w, Rel B Fr Z0 w0 env.nt args st C Z a w → Φ r a w) {ih : List PI → St → Option R}
    (hih : ∀ todo st r, ih todo st = some r → Reach P b body B Fr Z0 w0 env.nt args Φ todo st r) {todo : List PI} {st : St} {r : R} (hk : evBody env body ret dr ih todo st = some r) :
    Reach P b body B Fr Z0 w0 env.nt args Φ todo st r := by
  unfold evBody at hk
  split at hk
  · exact fun C Z a w H cs => ⟨a, w, [], hret _ _ hk C Z a w H, H.df, .one step_end⟩
  · exact (hih _ _ _ hk).step fun a w cs => step_inBlock
  · exact (hih _ _ _ hk).step fun a w cs => step_inLoop
  · rename_i p k
    have hap : ∀ i, Code.at_ body (p ++ [i]) = Code.at_ (Code.at_ body p) [i] := fun i => at_append p body [i]
    split at hk
    · rename_i hc
      exact (hih _ _ _ hk).step fun a w cs => by simpa [items, item, hc] using step_skip
    · rename_i hc
      refine fun C Z a w H cs => ⟨a, w, .code .ret :: items body k, hret _ _ hk C Z a w H, H.df, .one ?_⟩
      simp only [items, List.map_cons, item, hc]
      exact step_ret
    · rename_i x y hc
      refine (hih _ _ _ hk).step fun a w cs => ?_
      simp only [items, List.map_cons, item, hap, hc, at_seq0, at_seq1]
      exact step_seq
    · rename_i id x hc
      refine (hih _ _ _ hk).step fun a w cs => ?_
      simp only [items, List.map_cons, item, hap, hc, at_block]
      exact step_block
    · rename_i x hc
      intro C Z a w H cs
      obtain ⟨a', w', t', h1, h2, h3⟩ := hih _ _ _ hk C Z a w H cs
      refine ⟨a', w', t', h1, h2, ?_⟩
      simp only [items, List.map_cons, item, hap, hc, at_loop] at h3 ⊢
      refine .head step_loop (Steps.tail h3 step_inLoop ?_)
      intro he
      have := congrArg (fun m => (m.gs.toList.map fun g => g.frame.mode)) he
      simp [lone, Frame.at] at this
    · rename_i id hc
      split at hk
      · rename_i k' hx
        refine (hih _ _ _ hk).step fun a w cs => ?_
        simp only [items, List.map_cons, item, hc]
        exact step_exit (exitP_ok hx)
      · cases hk
    · rename_i c x y hc
      have arm : ∀ {st' : St} {t : Bool}, ih (.code (p ++ [cond t 0 1]) :: k) st' = some r → (∀ C Z a w, Rel B Fr Z0 w0 env.nt args st C Z a w → a.eval c = .bool t ∧ Rel B Fr Z0 w0 env.nt args st' C Z a w) →
          Reach P b body B Fr Z0 w0 env.nt args Φ (.code p :: k) st r := fun {st' t} hk hb C Z a w H cs => by
        obtain ⟨he, H'⟩ := hb C Z a w H
        obtain ⟨a', w', t', h1, h2, h3⟩ := hih _ _ _ hk C Z a w H' cs
        refine ⟨a', w', t', h1, h2, .head ?_ h3⟩
        simp only [items, List.map_cons, item, hap, hc]
        have := step_cond (P := P) (b := b) (k := items body k) (cs := cs) (w := w) (x := x) (y := y) he
        cases t
        · simp only [cond_false, at_cond1]; exact this
        · simp only [cond_true, at_cond0]; exact this
      split at hk
      · rename_i t bb hsl
        have hs : st.slot t = .bool bb := hsl
        cases bb
        · exact arm (t := false) hk fun C Z a w H => ⟨by have := opv_VR (s := st) H.sl (.tmp t); rw [hsl] at this; exact this.bool, H.know hs⟩
        · exact arm (t := true) hk fun C Z a w H => ⟨by have := opv_VR (s := st) H.sl (.tmp t); rw [hsl] at this; exact this.bool, H.know hs⟩
      · rename_i v bb hsl
        cases bb
        · exact arm (t := false) hk fun C Z a w H => ⟨by have := opv_VR (s := st) H.sl (.const v); rw [hsl] at this; exact this.bool, H⟩
        · exact arm (t := true) hk fun C Z a w H => ⟨by have := opv_VR (s := st) H.sl (.const v); rw [hsl] at this; exact this.bool, H⟩
      · cases hk
    · rename_i id ops hc
      refine region_ok hc (fun C Z a w H => ?_) (fun st h => hih _ _ _ h)
      have := evOps_ok (n := 0) (B := B) (Fr := Fr) (Z0 := Z0) (w0 := w0) ok spk (all := ops) rfl hk H
      refine wp_region ?_
      rw [List.range_eq_range']
      simpa using this
    · rename_i id ops hc
      exact region_ok hc (fun C Z a w H => hdr id ops st _ r hk C Z a w H) (fun st h => hih _ _ _ h)
    · cases hk

end
end Go.Ev
