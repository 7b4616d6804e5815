/- The contract of a function out of the evaluator's answers. -/
import Derived.Test.YtmiimfpdlkmjhaaGreatDoorEvExit
set_option linter.unusedVariables false
set_option linter.unusedSectionVars false
set_option linter.unusedSimpArgs false
namespace Go.Ev
open Go
variable [Lax]

section
variable {B : Nat} {Fr Z0 : Nat → Prop} {w0 w : World} {h h1 : List (Nat × Blk)} {C : Cons} {Z : Nat → Prop} {nt : Nat} {args : List Value} {st : St} {a : Act} {P : Program} {env : Env}

theorem outIds_keys : ∀ {l : List (Kd × Bool)} {as : List AV} {ids : List Nat}, outIds h l as = some ids → ∀ i, i ∈ ids → ∃ b, lk h i = some b
  | [], [], ids, hi, i, hm => by simp only [outIds] at hi; cases hi; cases hm
  | (k, true) :: l, a :: as, ids, hi, i, hm => by
    simp only [outIds] at hi
    split at hi
    · rename_i hr
      split at hi
      · rename_i hj
        cases hi
        rcases List.mem_append.1 hm with hm | hm
        · exact reO_keys hr i hm
        · exact outIds_keys hj i hm
      · cases hi
    · cases hi
  | (k, false) :: l, a :: as, ids, hi, i, hm => by simp only [outIds] at hi; exact outIds_keys hi i hm
  | [], _ :: _, _, hi, _, _ => by simp [outIds] at hi
  | _ :: _, [], _, hi, _, _ => by simp [outIds] at hi

theorem upT_keys {h2 : List (Nat × Blk)} {p : Pk} {a : AV} {x : p.Up} (hx : upT h h2 p a = some x) : ∀ i, i ∈ handedG1 p a → ∃ b, lk h i = some b := by
  cases p with
  | mv k => intro i hi; simp [handedG1] at hi
  | nl => intro i hi; simp [handedG1, handed1] at hi
  | rb t k => intro i hi; simp [handedG1, handed1] at hi
  | fr f l => intro i hi; simp [handedG1, handed1] at hi
  | ro k => intro i hi; simp [handedG1, handed1] at hi
  | wr k =>
    simp only [upT] at hx
    split at hx
    · exact argT_keys hx
    · cases hx
  | ptr t k => exact argT_keys hx
  | fn f l => exact argT_keys hx
theorem upsT_keys {h2 : List (Nat × Blk)} : ∀ {ps : List Pk} {as : List AV} {x : Ups ps}, upsT h h2 ps as = some x → ∀ i, i ∈ handedG ps as → ∃ b, lk h i = some b
  | [], [], _, _, i, hi => by cases hi
  | p :: ps, a :: as, x, hx, i, hi => by
    simp only [upsT] at hx
    split at hx
    · rename_i x1 hx1
      split at hx
      · rename_i y hy
        simp only [handedG, List.mem_append] at hi
        rcases hi with hi | hi
        · exact upT_keys hx1 i hi
        · exact upsT_keys hy i hi
      · cases hx
    · cases hx
  | [], _ :: _, _, hx, _, _ => by simp [upsT] at hx
  | _ :: _, [], _, hx, _, _ => by simp [upsT] at hx

theorem Reps_plain {k : Kd} (hp : k.plain = true) {sz : Nat} : ∀ {xs : List k.Ty} {F : List Nat} {cs : List Value}, Reps (Ow w k) sz F xs cs → F = []
  | [], _, _, ⟨h, _⟩ => h
  | x :: xs, _, _, ⟨F1, F2, c1, c2, h1, _, _, h4, h5⟩ => by rw [h1, plain_F hp h4, Reps_plain hp h5]; rfl
/-- the blocks that slices lead to -/
def footV (cs : List Value) : List Nat := cs.flatMap fun v => v.ownBlock.toList
theorem flat_F {w : World} : ∀ {k : Kd} {F : List Nat} {x : k.Ty} {cs : List Value}, k.flat = true → Ow w k F x cs → F = footV cs := by
  intro k
  induction k with
  | int j => intro F x cs _ h; obtain ⟨rfl, rfl⟩ := h; rfl
  | bool => intro F x cs _ h; obtain ⟨rfl, rfl⟩ := h; rfl
  | str => intro F x cs _ h; obtain ⟨rfl, rfl⟩ := h; rfl
  | raw => intro F x cs hf h; cases hf
  | err => intro F x cs hf h; cases hf
  | sl e k ih =>
    intro F x cs hp h
    obtain ⟨v', cells, G, rfl, _, hr, hF⟩ := h
    rw [hF, Reps_plain hp hr, List.append_nil]
    simp [footV]
  | st k ih => intro F x cs hp h; exact ih hp h
  | pair a b iha ihb =>
    intro F x cs hp h
    simp only [Kd.flat, Bool.and_eq_true] at hp
    obtain ⟨F1, F2, c1, c2, rfl, rfl, h1, h2⟩ := h
    rw [iha hp.1 h1, ihb hp.2 h2]
    simp [footV]
theorem asV_inj {k : Kd} (hk : Shape1 k) {cs cs' : List Value} (h1 : cs.length = k.sz) (h2 : cs'.length = k.sz) (h : asV k cs = asV k cs') : cs = cs' := by
  unfold asV at h
  cases hs : k.isSt
  · rw [hs] at h
    have := hk hs
    match cs, cs', h1.trans this, h2.trans this with
    | [c], [c'], _, _ => simp only at h; rw [h]
  · rw [hs] at h
    simpa using h
theorem CapR_foot {w' : World} {Z' : Nat → Prop} : ∀ {l : List (TypeId × Kd)} {x x' : CapTy l} {vs : List Value} {F F' : List Nat}, CapR w Z l x vs F → CapR w' Z' l x' vs F' → F' = F
  | [], _, _, _, _, _, ⟨_, h⟩, ⟨_, h'⟩ => by rw [h, h']
  | (t, k) :: l, _, _, _, _, _, ⟨b, F1, vs1, cs, h1, h2, _, _, h5⟩, ⟨b', F1', vs1', cs', h1', h2', _, _, h5'⟩ => by
    rw [h1] at h1'
    simp only [List.cons.injEq, Value.pointer.injEq, Option.some.injEq, Addr.mk.injEq, and_true] at h1'
    obtain ⟨e1, e2⟩ := h1'
    subst e1; subst e2
    rw [h2, h2', CapR_foot h5 h5']

theorem upT_ok {fl hd : List Nat} {C1 : Cons} {Z1 : Nat → Prop} (S : CallSt B Fr Z0 w0 h h fl hd true C1 Z1 w) (Hk : HR B Fr Z0 w0 (deads hd ++ (freezeL h fl ++ h)) C1 Z1 w)
    {p : Pk} {a : AV} {u : p.Up} {v : Value} {x0 : p.In} {F : List Nat} {w00 : World} {Z00 : Nat → Prop} (hp : p.Ok) (h0 : PkR w00 Z00 p x0 v F) (hu : upT h (deads hd ++ (freezeL h fl ++ h)) p a = some u) (hv : VR C1 a v)
    (hh : ∀ i, i ∈ handedG1 p a → i ∈ hd) (hf : ∀ i, i ∈ frz1 h p a → i ∈ fl) :
    ∃ Fu, Fu.Sublist F ∧ PkU w Z1 p u v Fu ∧ (∀ b, b ∈ Fu → ∃ i, i ∈ handedG1 p a ∧ b ∈ ft (freezeL h fl ++ h) C1 i) := by
  cases p with
  | ro k =>
    obtain ⟨rfl, _⟩ := h0
    exact ⟨[], List.Sublist.refl _, rfl, fun b hb => by cases hb⟩
  | mv k => exact ⟨[], List.nil_sublist _, rfl, fun b hb => by cases hb⟩
  | nl => exact ⟨[], List.nil_sublist _, rfl, fun b hb => by cases hb⟩
  | rb t k => exact ⟨[], List.nil_sublist _, rfl, fun b hb => by cases hb⟩
  | fr f l => exact ⟨[], List.nil_sublist _, rfl, fun b hb => by cases hb⟩
  | wr k =>
    simp only [upT] at hu
    split at hu
    · rename_i hpl
      obtain ⟨F', ⟨cs', ho', hv'⟩, h2, _⟩ := argT_ok S Hk (fun e => by cases e) hp hu hv hh (fun _ => hf)
      obtain ⟨cs, ho, hv0⟩ := h0
      have hcs : cs = cs' := asV_inj hp ho.len ho'.len (hv0.symm.trans hv')
      subst hcs
      have e1 := flat_F hpl ho
      have e2 := flat_F hpl ho'
      rw [e1, ← e2]
      exact ⟨_, List.Sublist.refl _, ⟨cs, ho', hv'⟩, h2⟩
    · cases hu
  | ptr t k =>
    obtain ⟨F', h1, h2, _⟩ := argT_ok S Hk (fun e => by cases e) hp hu hv hh (fun _ => hf)
    obtain ⟨b, cs, rfl, rfl, _⟩ := h0
    obtain ⟨b', cs', hb, rfl, g1, g2⟩ := h1
    simp only [Value.pointer.injEq, Option.some.injEq, Addr.mk.injEq, and_true] at hb
    subst hb
    exact ⟨_, List.Sublist.refl _, ⟨b, cs', rfl, rfl, g1, g2⟩, h2⟩
  | fn f l =>
    obtain ⟨F', h1, h2, _⟩ := argT_ok S Hk (fun e => by cases e) hp hu hv hh (fun _ => hf)
    obtain ⟨vs, rfl, hc⟩ := h0
    obtain ⟨vs', hb, hc'⟩ := h1
    simp only [Value.func.injEq] at hb
    have hvs : vs = vs' := by simpa using hb
    subst hvs
    have := CapR_foot hc hc'
    subst this
    exact ⟨_, List.Sublist.refl _, ⟨vs, rfl, hc'⟩, h2⟩

theorem upsT_ok {fl hd : List Nat} {C1 : Cons} {Z1 : Nat → Prop} (S : CallSt B Fr Z0 w0 h h fl hd true C1 Z1 w) (Hk : HR B Fr Z0 w0 (deads hd ++ (freezeL h fl ++ h)) C1 Z1 w) {w00 : World} {Z00 : Nat → Prop} :
    ∀ {ps : List Pk} {as : List AV} {u : Ups ps} {vs : List Value} {x0 : Ins ps} {F : List Nat}, (∀ p, p ∈ ps → p.Ok) → InR w00 Z00 ps x0 vs F → upsT h (deads hd ++ (freezeL h fl ++ h)) ps as = some u → All2 (VR C1) as vs →
    (∀ i, i ∈ handedG ps as → i ∈ hd) → (∀ i, i ∈ frz h ps as → i ∈ fl) →
    ∃ Fu, Fu.Sublist F ∧ UpR w Z1 ps u vs Fu ∧ (∀ b, b ∈ Fu → ∃ i, i ∈ handedG ps as ∧ b ∈ ft (freezeL h fl ++ h) C1 i)
  | [], [], u, [], x0, F, _, ⟨_, h0⟩, _, _, _, _ => by subst h0; exact ⟨[], List.Sublist.refl _, ⟨rfl, rfl⟩, fun b hb => by cases hb⟩
  | p :: ps, a :: as, u, v :: vs, x0, F, hok, ⟨v', vs', F1, F2, hvs, hF, h1, h2⟩, hu, ⟨hv, hvs2⟩, hh, hf => by
    simp only [List.cons.injEq] at hvs
    obtain ⟨e1, e2⟩ := hvs
    subst e1; subst e2; subst hF
    simp only [upsT] at hu
    split at hu
    · rename_i u1 hu1
      split at hu
      · rename_i u2 hu2
        cases hu
        simp only [handedG] at hh ⊢
        simp only [frz] at hf
        obtain ⟨U1, s1, a1, a2⟩ := upT_ok S Hk (hok p (by simp)) h1 hu1 hv (fun i hi => hh i (List.mem_append_left _ hi)) (fun i hi => hf i (List.mem_append_left _ hi))
        obtain ⟨U2, s2, b1, b2⟩ := upsT_ok S Hk (fun q hq => hok q (List.mem_cons_of_mem _ hq)) h2 hu2 hvs2 (fun i hi => hh i (List.mem_append_right _ hi)) (fun i hi => hf i (List.mem_append_right _ hi))
        refine ⟨U1 ++ U2, s1.append s2, ⟨v, vs, U1, U2, rfl, rfl, a1, b1⟩, fun q hq => ?_⟩
        rcases List.mem_append.1 hq with hq | hq
        · obtain ⟨i, hi, hb⟩ := a2 q hq; exact ⟨i, List.mem_append_left _ hi, hb⟩
        · obtain ⟨i, hi, hb⟩ := b2 q hq; exact ⟨i, List.mem_append_right _ hi, hb⟩
      · cases hu
    · cases hu
  | [], _ :: _, _, _, _, _, _, _, hu, _, _, _ => by simp [upsT] at hu
  | _ :: _, [], _, _, _, _, _, _, hu, _, _, _ => by simp [upsT] at hu
  | [], [], _, _ :: _, _, _, _, _, _, h, _, _ => h.elim
  | _ :: _, _ :: _, _, [], _, _, _, _, _, h, _, _ => h.elim

theorem retF_ok (ok : TyOk P env) {fn : Func} {ins : List Pk} {out : List (Kd × Bool)} (hins : ∀ p, p ∈ ins → p.Ok) (houts : ∀ p, p ∈ out → Shape1 p.1) {x0 : Ins ins} {F : List Nat} (hin : InR w0 Z0 ins x0 args F) (H : Rel w0.heap.size (· ∈ F) Z0 w0 nt args st C Z a w)
    {o : Outs out} {u : Ups ins} (h : retF env fn.results.toList ins out st = some (o, u)) :
    ∃ vs Fo Fu Z', (results fn a.tmps).run P w = .ok (retV vs) w ∧ OutR w Z' out o vs Fo ∧ UpR w Z' ins u args Fu ∧ After w0 w Z0 Z' F Fu Fo := by
  unfold retF at h
  split at h
  · rename_i as has
    split at h
    · rename_i ids hids
      split at h
      · rename_i hc
        split at h
        · rename_i o1 ho
          split at h
          · rename_i u1 hu
            cases h
            simp only [Bool.and_eq_true, List.all_eq_true, Bool.not_eq_true'] at hc
            obtain ⟨hnd, hap⟩ := hc
            have hnd := nodupB_ok hnd
            obtain ⟨vs, hvs, hall⟩ := resAVs_ok ok H.hr H.sl has
            obtain ⟨C1, Z1, H1, x1, z1, z2, c1, f1⟩ := H.hr.freezes (l := outFrz st.h out as ++ frz st.h ins st.g) (fun _ _ h => h)
            have apart : ∀ i, i ∈ handedG ins st.g ++ ids → i ∉ outFrz st.h out as ++ frz st.h ins st.g := fun i hi hj => by
              have := hap i hi i hj
              rw [Nat.beq_refl] at this
              cases this
            have S : CallSt w0.heap.size (· ∈ F) Z0 w0 st.h st.h (outFrz st.h out as ++ frz st.h ins st.g) (handedG ins st.g ++ ids) true C1 Z1 w := ⟨H1, fun _ _ h => h, apart⟩
            obtain ⟨Hk, f2⟩ := HR.kills (ids := handedG ins st.g ++ ids) H1 (fun i hi => by
              rw [lk_app_none (lk_freezeL_none (apart i hi))]
              rcases List.mem_append.1 hi with hi | hi
              · exact upsT_keys hu i hi
              · exact outIds_keys hids i hi)
            obtain ⟨Fo, h1, h2, h3, h4⟩ := outsT_ok H.hr x1 S Hk houts hids ho hall (fun i hi => List.mem_append_left _ hi)
            obtain ⟨Fu, gs, g1, g2⟩ := upsT_ok S Hk hins hin hu (H.gh.imp fun _ _ => VR.ext x1) (fun i hi => List.mem_append_left _ hi) (fun i hi => List.mem_append_right _ hi)
            obtain ⟨n1, n2, n3⟩ := List.nodup_append.1 hnd
            refine ⟨vs, Fo, Fu, Z1, results_run hvs, h1, g1, ⟨H.hr.frm.os, H.hr.frm.tape, H.hr.frm.out, H.hr.frm.size, H.hr.frm.blk, h3 n2, ⟨fun hn => gs.nodup hn, fun _ hb => gs.subset hb⟩, fun b hb => ?_, H1.zsb, fun b hb => ?_⟩⟩
            · obtain ⟨i, hi, hbi⟩ := h2 b hb
              obtain ⟨q1, q2, q3⟩ := H.hr.own i b hbi
              have hi' : i ∉ outFrz st.h out as ++ frz st.h ins st.g := apart i (List.mem_append_right _ hi)
              have hft : ft (freezeL st.h (outFrz st.h out as ++ frz st.h ins st.g) ++ st.h) C1 i = ft st.h C i := by
                unfold ft; rw [lk_app_none (lk_freezeL_none hi'), c1 i hi']
              refine ⟨?_, q1, (H1.own i b (by rw [hft]; exact hbi)).2.1⟩
              rcases q3 with q3 | q3
              · exact .inl q3
              · refine .inr ⟨q3, fun q4 => ?_⟩
                obtain ⟨j, hj, hbj⟩ := g2 b q4
                exact absurd (f1 j b hbj) (H.hr.dis i j (Ne.symm (n3 j hj i hi)) b hbi)
            · rcases H1.zin b hb with h | h | h
              · exact .inl h
              · exact .inr (.inl ⟨h, H1.zon b hb⟩)
              · refine .inr (.inr ⟨h, fun q4 => ?_⟩)
                obtain ⟨j, hj, hbj⟩ := g2 b q4
                exact absurd hb (H1.own j b hbj).2.1
          · cases h
        · cases h
      · cases h
    · cases h
  · cases h
end

/-! ### points at which the evaluation is cut -/

abbrev Pt := List PI × Shape
structure Cutp (R : Type) where
  todo : List PI
  sh : Shape
  g : sh.X → Option R

def cutAt {R : Type} : List (Cutp R) → List PI → St → Option (Option R)
  | [], _, _ => none
  | c :: l, todo, st => match eqTodo c.todo todo with
    | true => some (match c.sh.enc st with | some x => c.g x | none => none)
    | false => cutAt l todo st

noncomputable def ev {R : Type} (env : Env) (body : Code) (ret : St → Option R) (dr : Array Oper → St → (St → Option R) → Option R) (cuts : List (Cutp R)) (n : Nat) : List PI → St → Option R :=
  Nat.rec (motive := fun _ => List PI → St → Option R) (fun _ _ => none)
    (fun _ ih todo st => match cutAt cuts todo st with
      | some r => r
      | none => evBody env body ret dr ih todo st) n

@[reducible] def Gs (R : Type) : List Pt → Type
  | [] => Unit
  | p :: l => (p.2.X → Option R) × Gs R l
def cutsOf {R : Type} : (l : List Pt) → Gs R l → List (Cutp R)
  | [], _ => []
  | p :: l, g => ⟨p.1, p.2, g.1⟩ :: cutsOf l g.2
def noneG {R : Type} : (l : List Pt) → Gs R l
  | [] => ()
  | _ :: l => (fun _ => none, noneG l)
def mapG {R : Type} (f : (p : Pt) → p.2.X → Option R) : (l : List Pt) → Gs R l
  | [] => ()
  | p :: l => (f p, mapG f l)

/-- what the evaluator needs of a function -/
structure FnCx where
  env : Env
  body : Code
  res : List ResultVar
  ins : List Pk
  out : List (Kd × Bool)
  /-- the answer, as it is told -/
  T : Type
  fin : Outs out × Ups ins → T
  inj : T → Outs out × Ups ins
  pts : List Pt
  fuel : Nat
  dr : {R : Type} → Array Oper → St → (St → Option R) → Option R

abbrev FnCx.R (c : FnCx) : Type := c.T
def FnCx.retT (c : FnCx) (st : St) : Option c.R := match retF c.env c.res c.ins c.out st with | some r => some (c.fin r) | none => none
noncomputable def FnCx.evs (c : FnCx) (g : Gs c.R c.pts) : List PI → St → Option c.R := ev c.env c.body c.retT c.dr (cutsOf c.pts g) c.fuel
/-- one round at each point -/
noncomputable def FnCx.round (c : FnCx) (g : Gs c.R c.pts) : Gs c.R c.pts := mapG (fun p x => evBody c.env c.body c.retT c.dr (c.evs g) p.1 (p.2.st x)) c.pts
noncomputable def FnCx.G (c : FnCx) : Nat → Gs c.R c.pts := fun n => Nat.rec (noneG c.pts) (fun _ g => c.round g) n
noncomputable def FnCx.start (c : FnCx) (g : Gs c.R c.pts) (x : Ins c.ins) : Option c.R := c.evs g [.code []] (st0 c.ins x)

section
variable {B : Nat} {Fr Z0 : Nat → Prop} {w0 w : World} {C : Cons} {Z : Nat → Prop} {P : Program} {env : Env} {R : Type} {args : List Value} {body : Code} {st : St} {a : Act} {b : Frame} {Φ : R → Act → World → Prop}

theorem eqL_ok : ∀ {p q : List Nat}, eqL p q = true → p = q
  | [], [], _ => rfl
  | a :: x, b :: y, h => by
    simp only [eqL] at h
    split at h
    · rename_i hb; rw [Nat.eq_of_beq_eq_true hb, eqL_ok h]
    · cases h
  | [], _ :: _, h => by cases h
  | _ :: _, [], h => by cases h
theorem eqTodo_ok : ∀ {p q : List PI}, eqTodo p q = true → p = q
  | [], [], _ => rfl
  | .code p :: k, .code q :: l, h => by
    simp only [eqTodo] at h
    split at h
    · rename_i hb; rw [eqL_ok hb, eqTodo_ok h]
    · cases h
  | .inLoop p :: k, .inLoop q :: l, h => by
    simp only [eqTodo] at h
    split at h
    · rename_i hb; rw [eqL_ok hb, eqTodo_ok h]
    · cases h
  | .inBlock p :: k, .inBlock q :: l, h => by
    simp only [eqTodo] at h
    split at h
    · rename_i hb; rw [Nat.eq_of_beq_eq_true hb, eqTodo_ok h]
    · cases h
  | [], _ :: _, h => by simp [eqTodo] at h
  | _ :: _, [], h => by simp [eqTodo] at h
  | .code _ :: _, .inLoop _ :: _, h => by simp [eqTodo] at h
  | .code _ :: _, .inBlock _ :: _, h => by simp [eqTodo] at h
  | .inLoop _ :: _, .code _ :: _, h => by simp [eqTodo] at h
  | .inLoop _ :: _, .inBlock _ :: _, h => by simp [eqTodo] at h
  | .inBlock _ :: _, .code _ :: _, h => by simp [eqTodo] at h
  | .inBlock _ :: _, .inLoop _ :: _, h => by simp [eqTodo] at h

/-- what a point's function tells is right -/
def CutsOk (P : Program) (b : Frame) (body : Code) (B : Nat) (Fr Z0 : Nat → Prop) (w0 : World) (nt : Nat) (args : List Value) (Φ : R → Act → World → Prop) (l : List (Cutp R)) : Prop :=
  ∀ c, c ∈ l → ∀ x r, c.g x = some r → Reach P b body B Fr Z0 w0 nt args Φ c.todo (c.sh.st x) r

theorem cutAt_ok {nt : Nat} : ∀ {l : List (Cutp R)}, CutsOk P b body B Fr Z0 w0 nt args Φ l → ∀ {todo : List PI} {st : St} {r : R}, cutAt l todo st = some (some r) → Reach P b body B Fr Z0 w0 nt args Φ todo st r
  | [], _, todo, st, r, h => by cases h
  | c :: l, hc, todo, st, r, h => by
    simp only [cutAt] at h
    split at h
    · rename_i he
      have := eqTodo_ok he
      subst this
      simp only [Option.some.injEq] at h
      split at h
      · rename_i x hx
        intro C Z a w H cs
        obtain ⟨C', Z', H'⟩ := Shape.enc_ok hx H
        exact hc c (by simp) x r h C' Z' a w H' cs
      · cases h
    · exact cutAt_ok (fun c' hc' => hc c' (List.mem_cons_of_mem _ hc')) h

theorem ev_ok (ok : TyOk P env) (spk : SpOkS P env B Fr Z0 w0) {dr : Array Oper → St → (St → Option R) → Option R} (hdr : DrOk P env B Fr Z0 w0 args dr) {ret : St → Option R}
    (hret : ∀ st r, ret st = some r → ∀ C Z a w, Rel B Fr Z0 w0 env.nt args st C Z a w → Φ r a w) {cuts : List (Cutp R)} (hcuts : CutsOk P b body B Fr Z0 w0 env.nt args Φ cuts) :
    ∀ (n : Nat) (todo : List PI) (st : St) (r : R), ev env body ret dr cuts n todo st = some r → Reach P b body B Fr Z0 w0 env.nt args Φ todo st r
  | 0, todo, st, r, h => by cases h
  | n + 1, todo, st, r, h => by
    have h' : (match cutAt cuts todo st with
      | some r => r
      | none => evBody env body ret dr (ev env body ret dr cuts n) todo st) = some r := h
    split at h'
    · rename_i q hq
      subst h'
      exact cutAt_ok hcuts hq
    · exact evBody_ok ok spk hdr hret (ev_ok ok spk hdr hret hcuts n) h'

theorem cutsOf_map {nt : Nat} {f : (p : Pt) → p.2.X → Option R} (hf : ∀ (p : Pt) x r, f p x = some r → Reach P b body B Fr Z0 w0 nt args Φ p.1 (p.2.st x) r) : ∀ l : List Pt, CutsOk P b body B Fr Z0 w0 nt args Φ (cutsOf l (mapG f l))
  | [] => fun c hc => by cases hc
  | p :: l => fun c hc => by
    rcases List.mem_cons.1 hc with hc | hc
    · subst hc; exact hf p
    · exact cutsOf_map hf l c hc
theorem cutsOf_none {nt : Nat} : ∀ l : List Pt, CutsOk P b body B Fr Z0 w0 nt args Φ (cutsOf (R := R) l (noneG l))
  | [] => fun c hc => by cases hc
  | p :: l => fun c hc => by
    rcases List.mem_cons.1 hc with hc | hc
    · subst hc; intro x r h; cases h
    · exact cutsOf_none l c hc

theorem FnCx.G_ok {c : FnCx} {Φ : c.R → Act → World → Prop} (ok : TyOk P c.env) (spk : SpOkS P c.env B Fr Z0 w0) (hdr : DrOk P c.env B Fr Z0 w0 args (c.dr (R := c.R)))
    (hret : ∀ st r, c.retT st = some r → ∀ C Z a w, Rel B Fr Z0 w0 c.env.nt args st C Z a w → Φ r a w) : ∀ n, CutsOk P b c.body B Fr Z0 w0 c.env.nt args Φ (cutsOf c.pts (c.G n))
  | 0 => cutsOf_none c.pts
  | n + 1 => cutsOf_map (fun p x r h => evBody_ok ok spk hdr hret (ev_ok ok spk hdr hret (FnCx.G_ok ok spk hdr hret n) c.fuel) h) c.pts

end

/-! ### what is known of typed values that stand in the world: no slice is too long -/
def Bd : (k : Kd) → k.Ty → Prop
  | .sl _ k, xs => xs.length ≤ maxLen ∧ ∀ x, x ∈ xs → Bd k x
  | .st k, x => Bd k x
  | .pair a b, x => Bd a x.1 ∧ Bd b x.2
  | .int _, _ => True
  | .bool, _ => True
  | .err, _ => True
  | .str, _ => True
  | .raw, _ => True
theorem Rd.bd {w : World} {Z : Nat → Prop} : ∀ {k : Kd} {x : k.Ty} {cs : List Value}, Rd w Z k x cs → Bd k x := by
  intro k
  induction k with
  | int j => intro x cs _; trivial
  | bool => intro x cs _; trivial
  | err => intro x cs _; trivial
  | str => intro x cs _; trivial
  | raw => intro x cs _; trivial
  | sl e k ih =>
    intro x cs h
    obtain ⟨A, c, _, _, h3, h4⟩ := h
    refine ⟨h3, fun y hy => ?_⟩
    rcases h4 with h4 | ⟨ad, _, _, _, h5⟩
    · subst h4; cases hy
    · obtain ⟨i, hi⟩ := List.getElem?_of_mem hy
      obtain ⟨cs', _, h6, _⟩ := h5 i y hi
      exact ih h6
  | st k ih => intro x cs h; exact ih h
  | pair a b iha ihb => intro x cs h; obtain ⟨c1, c2, _, h1, h2⟩ := h; exact ⟨iha h1, ihb h2⟩
def BdC : (l : List (TypeId × Kd)) → CapTy l → Prop
  | [], _ => True
  | p :: l, x => Bd p.2 x.1 ∧ BdC l x.2
def BdP : (p : Pk) → p.In → Prop
  | .ro k, x => Bd k x
  | .wr k, x => Bd k x
  | .mv k, x => Bd k x
  | .nl, _ => True
  | .rb _ k, x => Bd k x
  | .fr _ l, x => BdC l x
  | .ptr _ k, x => Bd k x
  | .fn _ l, x => BdC l x
def BdI : (ps : List Pk) → Ins ps → Prop
  | [], _ => True
  | p :: ps, x => BdP p x.1 ∧ BdI ps x.2
theorem CapR.bd {w : World} {Z : Nat → Prop} : ∀ {l : List (TypeId × Kd)} {x : CapTy l} {vs : List Value} {F : List Nat}, CapR w Z l x vs F → BdC l x
  | [], _, _, _, _ => trivial
  | (t, k) :: l, x, vs, F, ⟨b, F', vs', cs, _, _, _, h1, h2⟩ => ⟨h1.bd, CapR.bd h2⟩
theorem RbsR.bd {w : World} {Z : Nat → Prop} : ∀ {l : List (TypeId × Kd)} {x : CapTy l} {vs : List Value}, RbsR w Z l x vs → BdC l x
  | [], _, _, _ => trivial
  | (t, k) :: l, x, vs, ⟨v, vs', _, ⟨b, off, _, h1⟩, h2⟩ => ⟨h1.bd.2 _ (by simp), RbsR.bd h2⟩
theorem PkR.bd {w : World} {Z : Nat → Prop} {p : Pk} {x : p.In} {v : Value} {F : List Nat} (h : PkR w Z p x v F) : BdP p x := by
  cases p with
  | ro k => obtain ⟨_, cs, h1, _⟩ := h; exact h1.bd
  | nl => trivial
  | rb t k => obtain ⟨_, b, off, _, h1⟩ := h; exact h1.bd.2 _ (by simp)
  | fr f l => obtain ⟨_, vs, _, h1⟩ := h; exact RbsR.bd h1
  | mv k => obtain ⟨cs, h, _⟩ := h; exact (Ow.rd (Z := fun _ => True) (fun _ _ => trivial) h).bd
  | wr k => obtain ⟨cs, h, _⟩ := h; exact (Ow.rd (Z := fun _ => True) (fun _ _ => trivial) h).bd
  | ptr t k => obtain ⟨b, cs, _, _, _, h1⟩ := h; exact h1.bd
  | fn f l => obtain ⟨vs, _, h1⟩ := h; exact CapR.bd h1
theorem InR.bd {w : World} {Z : Nat → Prop} : ∀ {ps : List Pk} {x : Ins ps} {vs : List Value} {F : List Nat}, InR w Z ps x vs F → BdI ps x
  | [], _, _, _, _ => trivial
  | p :: ps, x, vs, F, ⟨v, vs', F1, F2, _, _, h1, h2⟩ => ⟨PkR.bd h1, InR.bd h2⟩

/-- THE CONTRACT: what the evaluator tells of a function's code is what a call of it comes to. -/
theorem FnCx.holds {P : Program} {c : FnCx} {f : FuncId} {fn : Func} (ok : TyOk P c.env) (spk : SpOk P c.env) (hdr : ∀ B Fr Z0 w0 args, SpOkS P c.env B Fr Z0 w0 → DrOk P c.env B Fr Z0 w0 args (c.dr (R := c.R)))
    (hf : P.funcs[f]? = some fn) (hb : fn.body = some c.body) (hres : fn.results.toList = c.res) (hnt : fn.ntmps = c.env.nt) (hins : ∀ p, p ∈ c.ins → p.Ok) (houts : ∀ p, p ∈ c.out → Shape1 p.1)
    (hfi : ∀ r, c.inj (c.fin r) = r)
    {rel : Ins c.ins → Outs c.out → Ups c.ins → Prop} (hrel : ∀ x o u, BdI c.ins x → rel x o u → ∃ n t, c.start (c.G n) x = some t ∧ c.inj t = (o, u))
    {call : {R : Type} → Ins c.ins → (Outs c.out → Ups c.ins → Option R) → Option R} {law : ∀ {R : Type} (x : Ins c.ins) (K : Outs c.out → Ups c.ins → Option R) (r : R), call x K = some r → ∃ o u, rel x o u ∧ K o u = some r} :
    Holds P f ⟨c.ins, c.out, rel, call, law, c.env.pre⟩ := by
  intro w Z x args F hpre hin hn hF hz o u hr
  have spk : SpOkS P c.env w.heap.size (· ∈ F) Z w := ⟨spk, hpre, fun b hb => ⟨hz b hb, fun h => (hF b h).2 hb⟩⟩
  obtain ⟨n, t, hs, ht⟩ := hrel x o u (InR.bd hin) hr
  obtain ⟨C0, H0⟩ := st0_ok hins hin hn hF hz c.env.nt
  intro cs
  let b : Frame := { (default : Frame) with fn := f, kind := .normal }
  let Φ : c.R → Act → World → Prop := fun r a w' => ∃ vs Fo Fu Z', (results fn a.tmps).run P w' = .ok (retV vs) w' ∧ OutR w' Z' c.out (c.inj r).1 vs Fo ∧ UpR w' Z' c.ins (c.inj r).2 args Fu ∧ After w w' Z Z' F Fu Fo
  have hret : ∀ st r, c.retT st = some r → ∀ C Z' a w', Rel w.heap.size (· ∈ F) Z w c.env.nt args st C Z' a w' → Φ r a w' := fun st r h C Z' a w' H => by
    unfold FnCx.retT at h
    rw [← hres] at h
    split at h
    · rename_i q hq
      cases h
      obtain ⟨vs, Fo, Fu, Z2, h1, h2, h3, h4⟩ := retF_ok ok hins houts hin H (o := q.1) (u := q.2) hq
      exact ⟨vs, Fo, Fu, Z2, h1, by rw [hfi]; exact h2, by rw [hfi]; exact h3, h4⟩
    · cases h
  have hG := FnCx.G_ok (b := b) (Φ := Φ) ok spk (hdr w.heap.size (· ∈ F) Z w args spk) hret n
  obtain ⟨a', w', todo', ⟨vs, Fo, Fu, Z', h1, h2, h3, h4⟩, hd, hsteps⟩ := ev_ok (b := b) (Φ := Φ) ok spk (hdr w.heap.size (· ∈ F) Z w args spk) hret hG c.fuel _ _ _ hs C0 Z _ w H0 cs
  have henter : Frame.enter P f args.toArray .normal = b.at { tmps := args.toArray ++ Array.replicate (c.env.nt - args.toArray.size) undef, defers := [] } [.code c.body] := by
    simp [Frame.enter, Frame.at, hf, hb, b, hnt]
  have hit : items c.body [.code []] = [.code c.body] := by simp [items, item, at_nil]
  refine ⟨.returned (retV vs), w', { b.at a' todo' with mode := .returning }, ⟨vs, Fo, Fu, Z', rfl, by rw [ht] at h2; exact h2, by rw [ht] at h3; exact h3, h4⟩, ?_, rfl, rfl, hd, rfl, fn, hf, h1⟩
  rw [henter, ← hit]
  exact hsteps

end Go.Ev
