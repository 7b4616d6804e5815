/- Whole function bodies, by small steps, with points at which the evaluation is cut. -/
import Derived.Test.YtmiimfpdlkmjhaaGreatDoorEvOp
import Derived.Orders
import Derived.WalkSpells
set_option linter.unusedVariables false
set_option linter.unusedSectionVars false
set_option linter.unusedSimpArgs false
namespace Go.Ev
open Go
variable [Lax]

inductive PI where
  | code (p : List Nat)
  | inLoop (p : List Nat)
  | inBlock (id : Nat)

def Code.at_ : Code → List Nat → Code
  | c, [] => c
  | .seq a b, i :: p => match i with | 0 => Code.at_ a p | _ => Code.at_ b p
  | .cond _ a b, i :: p => match i with | 0 => Code.at_ a p | _ => Code.at_ b p
  | .block _ b, _ :: p => Code.at_ b p
  | .loop b, _ :: p => Code.at_ b p
  | _, _ => .skip

def exitP (id : Nat) : List PI → Option (List PI)
  | [] => none
  | .inBlock i :: k => match Nat.beq i id with | true => some k | false => exitP id k
  | _ :: k => exitP id k

def eqL : List Nat → List Nat → Bool
  | [], [] => true
  | a :: x, b :: y => match Nat.beq a b with | true => eqL x y | false => false
  | _, _ => false
def eqTodo : List PI → List PI → Bool
  | [], [] => true
  | .code p :: k, .code q :: l => match eqL p q with | true => eqTodo k l | false => false
  | .inLoop p :: k, .inLoop q :: l => match eqL p q with | true => eqTodo k l | false => false
  | .inBlock p :: k, .inBlock q :: l => match Nat.beq p q with | true => eqTodo k l | false => false
  | _, _ => false

section
variable {R : Type}

def St.put (st : St) (d : Option Nat) (v : AV) : St := { st with s := putS st.s d v }
def okDst (nt : Nat) : Option Nat → Bool
  | none => true
  | some d => Nat.blt d nt
def gslot (all : Array Oper) (j : Nat) : Option Nat := match all.toList[j]? with | some o => o.dst | none => none

/-- the numbers of an effect -/
def Eff.ok (e : Eff) (n : Nat) : Bool := match e.new, e.upd with
  | [], [] => true
  | _, _ => e.new.all (fun p => Nat.blt p.1 (n + e.new.length)) && e.upd.all (fun p => Nat.blt p.1 n)

/-- both, if they are the same -/
noncomputable def both (a b : Option R) : Option R := open Classical in if a = b then a else none
theorem both_ok {a b : Option R} {r : R} (h : both a b = some r) : a = some r ∧ b = some r := by
  unfold both at h
  split at h
  · rename_i e; subst e; exact ⟨h, h⟩
  · cases h
theorem both_same (a : Option R) : both a a = a := by simp [both]

/-- a slice that is compared with nil: the answer if it is nil; whether it has elements -/
def nilCmp (env : Env) (o : Oper) (st : St) : Option (Bool × Bool) :=
  match o.op with
  | .binOp .eql t x y _ => match opv st x, opv st y with
    | .sl id, .nil => match env.ty t, blkOf st.h id with
      | some (.sl _ _), .row _ _ xs _ => some (true, decide (0 < (xs.length : Int)))
      | _, _ => none
    | _, _ => none
  | .binOp .neq t x y _ => match opv st x, opv st y with
    | .sl id, .nil => match env.ty t, blkOf st.h id with
      | some (.sl _ _), .row _ _ xs _ => some (false, decide (0 < (xs.length : Int)))
      | _, _ => none
    | _, _ => none
  | _ => none

noncomputable def evOps (env : Env) (all : Array Oper) : List Oper → St → (St → Option R) → Option R
  | [], st, k => k st
  | o :: l, st, k => match okDst env.nt o.dst with
    | false => none
    | true => match o.guard with
      | none => match nilCmp env o st with
        | some (e, ne) => cond ne (evOps env all l (st.put o.dst (.bool (!e))) k) (both (evOps env all l (st.put o.dst (.bool e)) k) (evOps env all l (st.put o.dst (.bool (!e))) k))
        | none => evOp env o st fun e => (match e.ok st.n with | true => evOps env all l (st.app o.dst e) k | false => none)
      | some (j, want) => match gslot all j with
        | none => none
        | some d => match st.slot d, Nat.blt d env.nt with
          | .bool b, true => cond b
            (match want with | true => evOp env o (st.put (some d) (.bool true)) fun e => (match e.ok st.n with | true => evOps env all l ((st.put (some d) (.bool true)).app o.dst e) k | false => none) | false => evOps env all l ((st.put (some d) (.bool true)).put o.dst (.tup [])) k)
            (match want with | false => evOp env o (st.put (some d) (.bool false)) fun e => (match e.ok st.n with | true => evOps env all l ((st.put (some d) (.bool false)).app o.dst e) k | false => none) | true => evOps env all l ((st.put (some d) (.bool false)).put o.dst (.tup [])) k)
          | .tup [], true => evOps env all l (st.put o.dst (.tup [])) k
          | _, _ => none

/-- one move of the evaluator -/
noncomputable def evBody (env : Env) (body : Code) (ret : St → Option R) (dr : Array Oper → St → (St → Option R) → Option R) (ih : List PI → St → Option R) (todo : List PI) (st : St) : Option R :=
  match todo with
  | [] => ret st
  | .inBlock _ :: k => ih k st
  | .inLoop p :: k => ih (.code p :: .inLoop p :: k) st
  | .code p :: k => match Code.at_ body p with
    | .skip => ih k st
    | .ret => ret st
    | .seq _ _ => ih (.code (p ++ [0]) :: .code (p ++ [1]) :: k) st
    | .block id _ => ih (.code (p ++ [0]) :: .inBlock id :: k) st
    | .loop _ => ih (.inLoop (p ++ [0]) :: k) st
    | .exit id => match exitP id k with | some k => ih k st | none => none
    | .cond c _ _ => match c, opv st c with
      | .tmp t, .bool b => cond b (ih (.code (p ++ [0]) :: k) (st.put (some t) (.bool true))) (ih (.code (p ++ [1]) :: k) (st.put (some t) (.bool false)))
      | .const _, .bool b => cond b (ih (.code (p ++ [0]) :: k) st) (ih (.code (p ++ [1]) :: k) st)
      | _, _ => none
    | .region _ ops false => evOps env ops ops.toList st fun st => ih k st
    | .region _ ops true => dr ops st fun st => ih k st
    | _ => none

end

/-! ### what they say of the world -/

structure Rel (B : Nat) (Fr Z0 : Nat → Prop) (w0 : World) (nt : Nat) (args : List Value) (st : St) (C : Cons) (Z : Nat → Prop) (a : Act) (w : World) : Prop where
  hr : HR B Fr Z0 w0 st.h C Z w
  sl : Slots C st.s a
  sz : nt ≤ a.tmps.size
  df : a.defers = []
  fr : ∀ i, st.n ≤ i → lk st.h i = none
  gh : All2 (VR C) st.g args

def item (body : Code) : PI → Item
  | .code p => .code (Code.at_ body p)
  | .inLoop p => .inLoop (Code.at_ body p)
  | .inBlock id => .inBlock id
def items (body : Code) (l : List PI) : List Item := l.map (item body)

section
variable {B : Nat} {Fr Z0 : Nat → Prop} {w0 w : World} {h h1 : List (Nat × Blk)} {C : Cons} {Z : Nat → Prop} {P : Program} {env : Env} {R : Type} {nt : Nat} {args : List Value} {body : Code} {st : St} {a : Act}

theorem Slots.put {s : List (Nat × AV)} (hs : Slots C s a) {d : Nat} {av : AV} {v : Value} (hv : VR C av v) (hd : d < a.tmps.size) : Slots C ((d, av) :: s) (a.put (some d) v) := fun t x hx => by
  by_cases e : t = d
  · subst e
    rw [lk_same] at hx; cases hx
    simpa [Act.put, Array.getD, hd] using hv
  · rw [lk_ne _ _ e] at hx
    have := hs t x hx
    have h2 : (a.put (some d) v).tmps.getD t undef = a.tmps.getD t undef := by
      simp only [Act.put, Array.getD_eq_getD_getElem?]
      rw [Array.getElem?_setIfInBounds_ne (Ne.symm e)]
    rw [h2]; exact this
theorem Slots.ext {C' : Cons} {s : List (Nat × AV)} (hs : Slots C s a) (hx : Ext C C') : Slots C' s a := fun t x h => (hs t x h).ext hx
theorem size_put (a : Act) (d : Option Nat) (v : Value) : (a.put d v).tmps.size = a.tmps.size := by cases d <;> simp [Act.put]
theorem defers_put (a : Act) (d : Option Nat) (v : Value) : (a.put d v).defers = a.defers := by cases d <;> rfl

theorem okDst_some {nt d : Nat} (h : okDst nt (some d) = true) : d < nt := by simpa [okDst, Nat.blt_eq] using h

theorem Rel.put (H : Rel B Fr Z0 w0 nt args st C Z a w) {d : Option Nat} {av : AV} {v : Value} (hd : okDst nt d = true) (hv : VR C av v) : Rel B Fr Z0 w0 nt args (st.put d av) C Z (a.put d v) w := by
  refine ⟨H.hr, ?_, by rw [size_put]; exact H.sz, by rw [defers_put]; exact H.df, H.fr, H.gh⟩
  cases d with
  | none => exact H.sl
  | some d => exact H.sl.put hv (Nat.lt_of_lt_of_le (okDst_some hd) H.sz)
/-- a Bool that is known now -/
theorem Rel.know (H : Rel B Fr Z0 w0 nt args st C Z a w) {d : Nat} {b : Bool} (hs : st.slot d = .bool b) : Rel B Fr Z0 w0 nt args (st.put (some d) (.bool b)) C Z a w := by
  refine ⟨H.hr, fun t x hx => ?_, H.sz, H.df, H.fr, H.gh⟩
  by_cases e : t = d
  · subst e
    simp only [St.put, putS] at hx
    rw [lk_same] at hx; cases hx
    have := opv_VR (s := st) H.sl (.tmp t)
    simp only [opv, hs] at this
    exact this
  · simp only [St.put, putS] at hx
    rw [lk_ne _ _ e] at hx
    exact H.sl t x hx

theorem Rel.app (H : Rel B Fr Z0 w0 nt args st C Z a w) {d : Option Nat} {e : Eff} {v : Value} {w' : World} (hd : okDst nt d = true) (hdo : Does B Fr Z0 w0 st.h C (.ok v w') e)
    (hk : ∀ p, p ∈ e.new → p.1 < st.n + e.new.length) (hu : ∀ p, p ∈ e.upd → p.1 < st.n) : ∃ C' Z', Rel B Fr Z0 w0 nt args (st.app d e) C' Z' (a.put d v) w' := by
  obtain ⟨v', w2, C', Z', hr, H', x, hv⟩ := hdo
  cases hr
  refine ⟨C', Z', H', ?_, by rw [size_put]; exact H.sz, by rw [defers_put]; exact H.df, fun i hi => ?_, H.gh.imp fun _ _ => VR.ext x⟩
  · cases d with
    | none => exact H.sl.ext x
    | some d => exact (H.sl.ext x).put hv (Nat.lt_of_lt_of_le (okDst_some hd) H.sz)
  · simp only [St.app] at hi ⊢
    rw [lk_append fun p hp e' => by have := hk p hp; omega, lk_append fun p hp e' => by have := hu p hp; omega]
    exact H.fr i (by omega)

theorem Eff.ok_new {e : Eff} {n : Nat} (h : e.ok n = true) : (∀ p, p ∈ e.new → p.1 < n + e.new.length) ∧ (∀ p, p ∈ e.upd → p.1 < n) := by
  unfold Eff.ok at h
  split at h
  · rename_i h1 h2
    rw [h1, h2]
    exact ⟨(fun p hp => by cases hp), (fun p hp => by cases hp)⟩
  · simp only [Bool.and_eq_true, List.all_eq_true, Nat.blt_eq] at h
    exact h

theorem Rel.fresh (H : Rel B Fr Z0 w0 nt args st C Z a w) (e : Eff) : Fresh st.n e st.h := fun i hi _ => H.fr i hi

def OpsPost (B : Nat) (Fr Z0 : Nat → Prop) (w0 : World) (nt : Nat) (args : List Value) (k : St → Option R) (r : R) : Exit → Act → World → Prop :=
  fun e a w => e = .normal ∧ ∃ st C Z, k st = some r ∧ Rel B Fr Z0 w0 nt args st C Z a w

theorem wanted_none {o : Oper} {y : Nat → Option Bool} (h : o.guard = none) : Region.wanted o y = true := by unfold Region.wanted; rw [h]
theorem wanted_some {o : Oper} {y : Nat → Option Bool} {j : Nat} {b : Bool} (h : o.guard = some (j, b)) : Region.wanted o y = (y j == some b) := by unfold Region.wanted; rw [h]
theorem yielded_at {all : Array Oper} {j d : Nat} (h : gslot all j = some d) (hd : d < a.tmps.size) : yielded all a.tmps j = match a.tmps.getD d undef with | .bool b => some b | _ => none := by
  unfold gslot at h
  split at h
  · rename_i o ho
    have h1 : all[j]? = some o := by rw [← Array.getElem?_toList]; exact ho
    unfold yielded
    simp only [h1, Option.bind_some, h]
    simp [Array.getD, hd]
    cases a.tmps[d] <;> rfl
  · cases h

theorem row_nil {id : Nat} {k : Kd} {e : TypeId} {xs : List k.Ty} {own : Bool} {n c : Nat} {F : List Nat} (H : HR B Fr Z0 w0 h C Z w) (hb : blkOf h id = .row k e xs own) (hc : C id = some (.row (.slice none n c) F)) : xs = [] := by
  obtain ⟨q, hq, hr⟩ := H.blk id _ (blkOf_lk hb (by simp))
  rw [hc] at hq; cases hq
  have hr : Rd w (fun b => Z b ∨ b ∈ F) (.sl e k) xs [.slice none n c] := by
    cases own
    · exact hr.2.mono (fun _ _ => rfl) (fun b hb => .inl hb)
    · exact hr.1.rd (fun b hb => .inr hb)
  obtain ⟨A, c', he, _, _, h4⟩ := hr
  simp only [List.cons.injEq, Value.slice.injEq, and_true] at he
  rcases h4 with h4 | ⟨ad, hA, _⟩
  · exact h4
  · rw [← he.1] at hA; cases hA
theorem nilCmp_ok (ok : TyOk P env) {o : Oper} {e ne : Bool} (hn : nilCmp env o st = some (e, ne)) (H : Rel B Fr Z0 w0 nt args st C Z a w) {Q : Exit → Act → World → Prop} :
    ∃ b, (ne = true → b = !e) ∧ (b = e ∨ b = !e) ∧ o.wp P a w (fun a' w' => a' = a.put o.dst (.bool b) ∧ w' = w) Q := by
  have wpv : ∀ {m : Sem Value} {v : Value}, execOp a.eval o = (do pure (.value (← m))) → m.run P w = .ok v w → o.wp P a w (fun a' w' => a' = a.put o.dst v ∧ w' = w) Q := fun hex hm => by
    unfold Oper.wp
    rw [hex]
    simp only [Sem.run_bind, hm, Result.andThen, Sem.run_pure, Oper.upon]
    exact ⟨trivial, trivial⟩
  have hg : ∀ {op : BinOp} {t : TypeId} {x y : Operand} {A : Option Addr} {n c : Nat}, (eqGuard op t x y (.slice A n c) (.slice none 0 0)).run P w = .ok () w := fun {op t x y A n c} => by
    unfold eqGuard
    cases op <;> rfl
  have fin : ∀ {op : BinOp} {t : TypeId} {x y : Operand} {yt : TypeId} {id : Nat} {e0 : TypeId} {k0 : Kd} {k : Kd} {e1 : TypeId} {xs : List k.Ty} {own : Bool}, o.op = .binOp op t x y yt → opv st x = .sl id → opv st y = .nil → env.ty t = some (.sl e0 k0) → blkOf st.h id = .row k e1 xs own →
      (∀ {el : TypeId} (A : Option Addr) (n c : Nat), P.underlying t = some (.slice el) → (binOp op t (.slice A n c) (.slice none 0 0)).run P w = .ok (.bool (A.isNone == e)) w) → ne = decide (0 < (xs.length : Int)) →
      ∃ b, (ne = true → b = !e) ∧ (b = e ∨ b = !e) ∧ o.wp P a w (fun a' w' => a' = a.put o.dst (.bool b) ∧ w' = w) Q := fun {op t x y yt id e0 k0 k e1 xs own} ho hx hy ht hb hop hne => by
    have hT := (ok.ty t _ ht).2.2.1
    have vx := opv_VR (s := st) H.sl x
    have vy := opv_VR (s := st) H.sl y
    rw [hx] at vx; rw [hy] at vy
    obtain ⟨⟨F, hF⟩, A, n, c, he⟩ := vx.sl
    have vy := vy.nil
    have hrun : (do eqGuard op t x y (a.eval x) (a.eval y); binOp op t (a.eval x) (a.eval y) : Sem Value).run P w = .ok (.bool (A.isNone == e)) w := by
      rw [he, vy, Sem.run_bind, hg]
      exact hop A n c hT
    refine ⟨A.isNone == e, fun h => ?_, ?_, wpv (by unfold execOp; rw [ho]) hrun⟩
    · cases A with
      | none =>
        rw [he] at hF
        have hxs := row_nil H.hr hb hF
        subst hxs
        rw [hne] at h; simp at h
      | some A => cases e <;> rfl
    · cases A <;> cases e <;> simp
  unfold nilCmp at hn
  split at hn
  · rename_i t x y yt ho
    split at hn
    · rename_i id hx hy
      split at hn
      · rename_i ht hb
        cases hn
        exact fin ho hx hy ht hb (fun A n c hT => by rw [Lib.run_eql_slice_nil w _ _ A n c 0 0 hT]; cases A <;> rfl) rfl
      · cases hn
    · cases hn
  · rename_i t x y yt ho
    split at hn
    · rename_i id hx hy
      split at hn
      · rename_i ht hb
        cases hn
        exact fin ho hx hy ht hb (fun A n c hT => by rw [run_neq_slice_nil_any w _ _ A n c 0 0 hT]; cases A <;> rfl) rfl
      · cases hn
    · cases hn
  · cases hn

theorem evOps_ok (ok : TyOk P env) (spk : SpOkS P env B Fr Z0 w0) {all : Array Oper} {k : St → Option R} {r : R} : ∀ {l : List Oper} {n : Nat} {st : St} {C : Cons} {Z : Nat → Prop} {a : Act} {w : World}, all.toList.drop n = l → evOps env all l st k = some r → Rel B Fr Z0 w0 env.nt args st C Z a w →
    wpOps P all (OpsPost B Fr Z0 w0 env.nt args k r) (List.range' n l.length) a w
  | [], n, st, C, Z, a, w, hl, hk, H => ⟨rfl, st, C, Z, hk, H⟩
  | o :: l, n, st, C, Z, a, w, hl, hk, H => by
    have hd : all.toList.drop (n + 1) = l := by rw [← List.drop_drop, hl]; rfl
    have ho : all[n]? = some o := by
      have : (all.toList.drop n)[0]? = some o := by rw [hl]; rfl
      rw [List.getElem?_drop] at this
      simpa using this
    unfold evOps at hk
    split at hk
    · cases hk
    rename_i hdst
    -- one operation that is carried out
    have run : ∀ {st : St}, Rel B Fr Z0 w0 env.nt args st C Z a w → (evOp env o st fun e => match e.ok st.n with | true => evOps env all l (st.app o.dst e) k | false => none) = some r →
        o.wp P a w (wpOps P all (OpsPost B Fr Z0 w0 env.nt args k r) (List.range' (n + 1) l.length)) (OpsPost B Fr Z0 w0 env.nt args k r) := fun {st} H hk => by
      obtain ⟨e, hK, hwp⟩ := evOp_ok (B := B) (Fr := Fr) (Z0 := Z0) (w0 := w0) ok spk hk
      split at hK
      · rename_i hok
        obtain ⟨ok1, ok2⟩ := Eff.ok_new hok
        refine Oper.wp_mono (fun a' w' hp => ?_) (hwp H.hr (fun i b h => h) (H.fresh e) H.sl)
        obtain ⟨v, rfl, hdo⟩ := hp
        obtain ⟨C', Z', H'⟩ := H.app hdst hdo ok1 ok2
        exact evOps_ok ok spk hd hK H'
      · cases hK
    -- one that is not
    have skip : ∀ {st : St}, Rel B Fr Z0 w0 env.nt args st C Z a w → evOps env all l (st.put o.dst (.tup [])) k = some r →
        wpOps P all (OpsPost B Fr Z0 w0 env.nt args k r) (List.range' (n + 1) l.length) (a.put o.dst undef) w := fun {st} H hk =>
      evOps_ok ok spk hd hk (H.put hdst ⟨[], rfl, trivial⟩)
    simp only [List.length_cons, List.range'_succ, wpOps, ho]
    split at hk
    · rename_i hg
      simp only [wanted_none hg, if_true]
      split at hk
      · rename_i e ne hn
        obtain ⟨b, h1, h2, h3⟩ := nilCmp_ok (Q := OpsPost B Fr Z0 w0 env.nt args k r) ok hn H
        have hkb : evOps env all l (st.put o.dst (.bool b)) k = some r := by
          cases ne
          · obtain ⟨g1, g2⟩ := both_ok hk
            rcases h2 with h2 | h2 <;> rw [h2] <;> assumption
          · rw [h1 rfl]; exact hk
        refine .inl (Oper.wp_mono (fun a' w' hp => ?_) h3)
        obtain ⟨rfl, rfl⟩ := hp
        exact evOps_ok ok spk hd hkb (H.put hdst rfl)
      · exact .inl (run H hk)
    · rename_i j want hg
      split at hk
      · cases hk
      rename_i d hs
      split at hk
      · rename_i b hsl hdn
        have hdn : d < env.nt := by simpa [Nat.blt_eq] using hdn
        have hv := opv_VR (s := st) H.sl (.tmp d)
        simp only [opv, hsl] at hv
        have hv : a.tmps.getD d undef = .bool b := hv.bool
        have hy : yielded all a.tmps j = some b := by rw [yielded_at hs (Nat.lt_of_lt_of_le hdn H.sz), hv]
        simp only [wanted_some hg, hy]
        have Hk := H.know hsl
        cases b <;> cases want <;> simp only [cond_true, cond_false] at hk <;> simp
        · exact .inl (run Hk hk)
        · exact skip Hk hk
        · exact skip Hk hk
        · exact .inl (run Hk hk)
      · rename_i hsl hdn
        have hdn : d < env.nt := by simpa [Nat.blt_eq] using hdn
        have hv := opv_VR (s := st) H.sl (.tmp d)
        simp only [opv, hsl] at hv
        obtain ⟨vs, hv, hvs⟩ : ∃ vs : List Value, a.tmps.getD d undef = .tuple vs.toArray ∧ All2 (VR1 C) [] vs := hv
        have hy : yielded all a.tmps j = none := by rw [yielded_at hs (Nat.lt_of_lt_of_le hdn H.sz), hv]
        simp only [wanted_some hg, hy]
        simp
        exact skip H hk
      · cases hk
end
end Go.Ev
