/- One operation. -/
import Derived.Test.YtmiimfpdlkmjhaaGreatDoorEvCall2
import Derived.WideLaws
import Derived.Test.YtmiimfpdlkmjhaaGreatDoorEvOps4
set_option linter.unusedVariables false
set_option linter.unusedSectionVars false
set_option linter.unusedSimpArgs false
namespace Go.Ev
open Go
variable [Lax]

/-- the temporaries in the world -/
def Slots (C : Cons) (s : List (Nat × AV)) (a : Act) : Prop := ∀ t av, lk s t = some av → VR C av (a.tmps.getD t undef)

section
variable {B : Nat} {Fr Z0 : Nat → Prop} {w0 w : World} {h h1 : List (Nat × Blk)} {C : Cons} {Z : Nat → Prop} {P : Program} {env : Env} {R : Type}

theorem VR.undef' (C : Cons) (v : Value) : VR C .undef v := trivial

theorem constAV_VR (C : Cons) (v : Value) : VR C (constAV v) v := by
  unfold constAV
  split
  · rfl
  · rfl
  · rfl
  · rfl
  · rfl
  · rename_i f first caps
    split
    · rename_i h1 h2
      refine ⟨[], ?_, trivial⟩
      have e1 : first = #[] := by simpa using h1
      have e2 : caps = #[] := by simpa using h2
      subst e1; subst e2; rfl
    · trivial
  · trivial

theorem opv_VR {s : St} {a : Act} (hs : Slots C s.s a) (x : Operand) : VR C (opv s x) (a.eval x) := by
  cases x with
  | tmp t =>
    show VR C (s.slot t) (a.tmps.getD t undef)
    unfold St.slot
    rcases hq : lk s.s t with _ | v
    · trivial
    · exact hs t v hq
  | const v => exact constAV_VR C v
  | func f => exact ⟨[], rfl, trivial⟩
  | global g => trivial

theorem opv_all {s : St} {a : Act} (hs : Slots C s.s a) : ∀ l : List Operand, All2 (VR C) (l.map (opv s)) (l.map a.eval)
  | [] => trivial
  | x :: l => ⟨opv_VR hs x, opv_all hs l⟩
theorem opv_parts {s : St} {a : Act} (hs : Slots C s.s a) : ∀ l : List (Nat × Operand), All2 (fun (p : Nat × AV) (q : Nat × Value) => q.1 = p.1 ∧ VR C p.2 q.2) (l.map fun p => (p.1, opv s p.2)) (l.map fun p => (p.1, a.eval p.2))
  | [] => trivial
  | x :: l => ⟨⟨rfl, opv_VR hs x.2⟩, opv_parts hs l⟩
theorem opv_opt {s : St} {a : Act} (hs : Slots C s.s a) (o : Option Operand) : optV (o.map (opv s)) (o.map a.eval) C := by
  cases o with
  | none => trivial
  | some x => exact opv_VR hs x

def Post (B : Nat) (Fr Z0 : Nat → Prop) (w0 : World) (h1 : List (Nat × Blk)) (C : Cons) (o : Oper) (a : Act) (e : Eff) : Act → World → Prop := fun a' w' => ∃ v, a' = a.put o.dst v ∧ Does B Fr Z0 w0 h1 C (.ok v w') e

variable {o : Oper} {a : Act} {Q : Exit → Act → World → Prop}

theorem wp_does {m : Sem Value} {e : Eff} (hex : execOp a.eval o = (do pure (.value (← m)))) (hd : Does B Fr Z0 w0 h1 C (m.run P w) e) : o.wp P a w (Post B Fr Z0 w0 h1 C o a e) Q := by
  obtain ⟨v, w', C', Z', hr, H, x, hv⟩ := hd
  unfold Oper.wp
  rw [hex]
  simp only [Sem.run_bind, hr, Result.andThen, Sem.run_pure, Oper.upon]
  exact ⟨v, rfl, v, w', C', Z', rfl, H, x, hv⟩
theorem wp_pure {v : Value} {av : AV} (hex : execOp a.eval o = pure (.value v)) (H : HR B Fr Z0 w0 h1 C Z w) (hv : VR C av v) : o.wp P a w (Post B Fr Z0 w0 h1 C o a (.val av)) Q := by
  unfold Oper.wp
  rw [hex]
  exact ⟨v, rfl, Does.pure H hv⟩
theorem wp_doesU {m : Sem Unit} {e : Eff} (hex : execOp a.eval o = (do m; pure .skip)) (he : e.v = .undef) (hd : DoesU B Fr Z0 w0 h1 C (m.run P w) e) : o.wp P a w (Post B Fr Z0 w0 h1 C o a e) Q := by
  obtain ⟨w', C', Z', hr, H, x⟩ := hd
  unfold Oper.wp
  rw [hex]
  simp only [Sem.run_bind, hr, Result.andThen, Sem.run_pure, Oper.upon]
  exact ⟨undef, rfl, undef, w', C', Z', rfl, H, x, by rw [he]; trivial⟩
theorem wp_val {m : Sem Value} {av : AV} (hex : execOp a.eval o = (do pure (.value (← m)))) (H : HR B Fr Z0 w0 h1 C Z w) (hd : ∃ v, m.run P w = .ok v w ∧ VR C av v) : o.wp P a w (Post B Fr Z0 w0 h1 C o a (.val av)) Q := by
  obtain ⟨v, hr, hv⟩ := hd
  exact wp_does hex (by rw [hr]; exact Does.pure H hv)

/-- a function that is called -/
theorem run_enter {f : FuncId} (hg : GoFn P f) (args : Array Value) (w : World) : (callFunc f args).run P w = .ok (.enter f args) w := by
  obtain ⟨fn, hf, hb, hn⟩ := hg
  have hnn : fn.body.isNone = false := by cases h : fn.body <;> simp_all
  unfold callFunc
  rw [Sem.run_bind]
  have hp : (program : Sem Program).run P w = .ok P w := rfl
  rw [hp]
  simp only [Result.andThen, hf, hn, hnn]
  rfl

theorem Fresh.one {n : Nat} {e : Eff} (hf : Fresh n e h1) (hp : ∃ p, e.new = [p]) : lk h1 n = none := by
  obtain ⟨p, hp⟩ := hp
  exact hf n (Nat.le_refl _) (by rw [hp]; simp)

theorem CR0.vr {av : AV} {v : Value} (h : CR0 C av v) : VR C av v := by
  cases av <;> first | exact h | exact h.elim
theorem VR1.vr {av : AV} {v : Value} (h : VR1 C av v) : VR C av v := by
  cases av <;> first | exact h | exact absurd h (by unfold VR1 CR; simp [CR0])
theorem isCap_all : ∀ {l : List AV} {vs : List Value}, l.all isCap = true → All2 (VR C) l vs → All2 (CR0 C) l vs
  | [], [], _, _ => trivial
  | x :: l, v :: vs, h, ⟨h1, h2⟩ => by
    simp only [List.all_cons, Bool.and_eq_true] at h
    refine ⟨?_, isCap_all h.2 h2⟩
    have hx := h.1
    cases x <;> first | exact h1 | exact absurd hx (by simp [isCap])
  | [], _ :: _, _, h => h.elim
  | _ :: _, [], _, h => h.elim

theorem evOp_ok (ok : TyOk P env) (spk : SpOkS P env B Fr Z0 w0) {s : St} {K : Eff → Option R} {r : R} (hk : evOp env o s K = some r) :
    ∃ e, K e = some r ∧ ∀ {h1 : List (Nat × Blk)} {C : Cons} {Z : Nat → Prop} {w : World} {a : Act} {Q : Exit → Act → World → Prop}, HR B Fr Z0 w0 h1 C Z w → Sub s.h h1 → Fresh s.n e h1 → Slots C s.s a → o.wp P a w (Post B Fr Z0 w0 h1 C o a e) Q := by
  unfold evOp at hk
  split at hk
  · rename_i x ho
    exact ⟨_, hk, fun {h1 C Z w a Q} H hs hf hl => wp_pure (by unfold execOp; rw [ho]) H (opv_VR hl x)⟩
  · rename_i x ho
    exact ⟨_, hk, fun {h1 C Z w a Q} H hs hf hl => wp_pure (by unfold execOp; rw [ho]) H (opv_VR hl x)⟩
  · rename_i c x y ho
    split at hk
    · rename_i b hc
      have hex : ∀ {a : Act} {C : Cons}, Slots C s.s a → execOp a.eval o = (do pure (.value (if ← asBool (.bool b) then a.eval x else a.eval y))) := fun {a C} hl => by
        have hv := opv_VR hl c
        rw [hc] at hv
        unfold execOp; rw [ho]; simp only [hv.bool]
      have hex' : ∀ {a : Act} {C : Cons}, Slots C s.s a → execOp a.eval o = pure (.value (if b = true then a.eval x else a.eval y)) := fun {a C} hl => hex hl
      split at hk
      · rename_i p q hx hy
        refine ⟨_, hk, fun {h1 C Z w a Q} H hs hf hl => wp_pure (hex' hl) H ?_⟩
        have h1 := opv_VR hl x
        have h2 := opv_VR hl y
        rw [hx] at h1; rw [hy] at h2
        cases b
        · exact h2
        · exact h1
      · cases b
        · exact ⟨_, hk, fun {h1 C Z w a Q} H hs hf hl => wp_pure (hex' hl) H (opv_VR hl y)⟩
        · exact ⟨_, hk, fun {h1 C Z w a Q} H hs hf hl => wp_pure (hex' hl) H (opv_VR hl x)⟩
    · cases hk
  · rename_i t ho
    split at hk
    · rename_i kd hty
      refine ⟨_, hk, fun {h1 C Z w a Q} H hs hf hl => wp_does (by unfold execOp; rw [ho]) (evAlloc_ok ok hty H (hf.one ⟨_, rfl⟩))⟩
    · cases hk
  · rename_i t x ho
    split at hk
    · rename_i hd
      refine ⟨_, hk, fun {h1 C Z w a Q} H hs hf hl => wp_does (by unfold execOp; rw [ho]) (evBox_ok hd H (hf.one ⟨_, rfl⟩) (opv_VR hl x))⟩
    · cases hk
  · rename_i t ps ho
    obtain ⟨av, hK, hd⟩ := evBuild_ok ok hk
    refine ⟨_, hK, fun {h1 C Z w a Q} H hs hf hl => wp_val (by unfold execOp; rw [ho]) H (hd w ?_)⟩
    simpa using opv_parts hl ps.toList
  · rename_i t len ps ho
    split at hk
    · obtain ⟨e, hK, hp, hd⟩ := evBuildSlice_ok (B := B) (Fr := Fr) (Z0 := Z0) (w0 := w0) ok hk
      refine ⟨e, hK, fun {h1 C Z w a Q} H hs hf hl => wp_does (by unfold execOp; rw [ho]) (hd H hs (hf.one hp) ?_)⟩
      simpa using opv_parts hl ps.toList
    · obtain ⟨e, hK, hp, hd⟩ := evBuildRo_ok (B := B) (Fr := Fr) (Z0 := Z0) (w0 := w0) ok hk
      refine ⟨e, hK, fun {h1 C Z w a Q} H hs hf hl => wp_does (by unfold execOp; rw [ho]) (hd H hs (hf.one hp) ?_)⟩
      simpa using opv_parts hl ps.toList
  · rename_i t x ho
    split at hk
    · obtain ⟨e, hK, hd⟩ := evLoadMv_ok (B := B) (Fr := Fr) (Z0 := Z0) (w0 := w0) ok hk
      exact ⟨e, hK, fun {h1 C Z w a Q} H hs hf hl => wp_does (by unfold execOp; rw [ho]) (hd H hs hf (opv_VR hl x))⟩
    · obtain ⟨e, hK, hd⟩ := evLoad_ok (B := B) (Fr := Fr) (Z0 := Z0) (w0 := w0) ok hk
      exact ⟨e, hK, fun {h1 C Z w a Q} H hs hf hl => wp_does (by unfold execOp; rw [ho]) (hd H hs hf (opv_VR hl x))⟩
  · rename_i t x y ho
    obtain ⟨e, hK, hv, hn, hd⟩ := evStore_ok (B := B) (Fr := Fr) (Z0 := Z0) (w0 := w0) ok hk
    exact ⟨e, hK, fun {h1 C Z w a Q} H hs hf hl => wp_doesU (by unfold execOp; rw [ho]) hv (hd H hs (opv_VR hl x) (opv_VR hl y))⟩
  · rename_i x ho
    split at hk
    · rename_i i f hx
      refine ⟨_, hk, fun {h1 C Z w a Q} H hs hf hl => ?_⟩
      have hv := opv_VR hl x
      rw [hx] at hv
      obtain ⟨b, hC, he⟩ := hv.ptr
      exact wp_pure (v := a.eval x) (by unfold execOp; rw [ho]; simp only [he]) H hv
    · rename_i i j f z hx
      refine ⟨_, hk, fun {h1 C Z w a Q} H hs hf hl => ?_⟩
      have hv := opv_VR hl x
      rw [hx] at hv
      obtain ⟨A, n, c, F, _, _, _, _, he⟩ := hv.ep
      exact wp_pure (v := a.eval x) (by unfold execOp; rw [ho]; simp only [he]) H hv
    · cases hk
  · rename_i op t x y yt ho
    split at hk
    · rename_i b hb ht
      obtain ⟨m, hm⟩ := (ok.ty t _ ht).2
      have hi : P.underlying t = some (.interface (P.methodsAt t)) := by unfold Program.methodsAt; rw [hm]
      unfold errNil at hb
      split at hb
      · rename_i b' hx
        cases hb
        refine ⟨_, hk, fun {h1 C Z w a Q} H hs hf hl => wp_val (by unfold execOp; rw [ho]) H ⟨.bool b, ?_, rfl⟩⟩
        have hv := opv_VR hl x
        rw [hx] at hv
        rcases (show ErrV b (a.eval x) from hv) with ⟨rfl, e⟩ | ⟨rfl, u, p, e⟩ <;> rw [e]
        · show (do eqGuard .eql t x (.const .nilIface) .nilIface .nilIface; binOp .eql t .nilIface .nilIface : Sem Value).run P w = _
          rw [eqGuard_nil_constR]; exact run_eql_nil_nil w t hi
        · show (do eqGuard .eql t x (.const .nilIface) (.iface u p) .nilIface; binOp .eql t (.iface u p) .nilIface : Sem Value).run P w = _
          rw [eqGuard_at_iface]; exact run_eql_held_nil w t u p hi
      · rename_i b' hx
        cases hb
        refine ⟨_, hk, fun {h1 C Z w a Q} H hs hf hl => wp_val (by unfold execOp; rw [ho]) H ⟨.bool (!b'), ?_, rfl⟩⟩
        have hv := opv_VR hl x
        rw [hx] at hv
        rcases (show ErrV b' (a.eval x) from hv) with ⟨rfl, e⟩ | ⟨rfl, u, p, e⟩ <;> rw [e]
        · show (do eqGuard .neq t x (.const .nilIface) .nilIface .nilIface; binOp .neq t .nilIface .nilIface : Sem Value).run P w = _
          rw [eqGuard_nil_constR]; exact run_neq_nil_nil w t hi
        · show (do eqGuard .neq t x (.const .nilIface) (.iface u p) .nilIface; binOp .neq t (.iface u p) .nilIface : Sem Value).run P w = _
          rw [eqGuard_at_iface]; exact run_neq_held_nil w t u p hi
      · cases hb
    · obtain ⟨av, hK, hd⟩ := evBin_ok (ox := x) (oy := y) ok hk
      exact ⟨_, hK, fun {h1 C Z w a Q} H hs hf hl => wp_val (by unfold execOp; rw [ho]) H (hd w (opv_VR hl x) (opv_VR hl y))⟩
  · rename_i t x ho
    split at hk
    · rename_i b hx
      refine ⟨_, hk, fun {h1 C Z w a Q} H hs hf hl => ?_⟩
      have hv := opv_VR hl x
      rw [hx] at hv
      exact wp_val (by unfold execOp; rw [ho]) H ⟨.bool (!b), by rw [hv.bool]; rfl, rfl⟩
    · cases hk
  · rename_i t x ho
    split at hk
    · rename_i j m hx
      refine ⟨_, hk, fun {h1 C Z w a Q} H hs hf hl => ?_⟩
      have hv := opv_VR hl x
      rw [hx] at hv
      exact wp_val (by unfold execOp; rw [ho]) H ⟨.int j (j.wrap (0 - m)), by rw [hv.int]; rfl, rfl⟩
    · cases hk
  · rename_i src dst x ho
    unfold evConvert at hk
    split at hk
    · rename_i k j k' n hsrc hdst hx
      refine ⟨_, hk, fun {h1 C Z w a Q} H hs hf hl => ?_⟩
      have hv := opv_VR hl x
      rw [hx] at hv
      have h1 := (ok.ty _ _ hsrc).2
      have h2 := (ok.ty _ _ hdst).2
      refine wp_val (by unfold execOp; rw [ho]) H ⟨.int j (j.wrap n), ?_, rfl⟩
      rw [hv.int]
      simp [convert, underlying, h1, h2, Conv.intToInt]
    · rename_i k k' n hsrc hdst hx
      refine ⟨_, hk, fun {h1 C Z w a Q} H hs hf hl => ?_⟩
      have hv := opv_VR hl x
      rw [hx] at hv
      have h1 := (ok.ty _ _ hsrc).2
      have h2 := (ok.ty _ _ hdst).2
      refine wp_val (by unfold execOp; rw [ho]) H ⟨.string (Utf8.encode n), ?_, rfl⟩
      rw [hv.int]
      simp [convert, underlying, h1, h2, Conv.intToString]
    · rename_i e hsrc hdst hx
      split at hk
      · rename_i he
        refine ⟨_, hk, fun {h1 C Z w a Q} H hs hf hl => ?_⟩
        have hv := opv_VR hl x
        rw [hx] at hv
        have h1 := (ok.ty _ _ hsrc).2.2.1
        have h2 := (ok.ty _ _ hdst).2
        have h3 := (ok.ty _ _ he).2
        refine wp_val (by unfold execOp; rw [ho]) H ⟨.string ByteArray.empty, ?_, rfl⟩
        rw [hv.nil, run_convert_bytes_string w src dst e _ _ _ h1 h3 h2]
        simp [Conv.bytesToString]
      · cases hk
    · rename_i e id hsrc hdst hx
      split at hk
      · rename_i e' xs own he hb
        refine ⟨_, hk, fun {h1 C Z w a Q} H hs hf hl => ?_⟩
        have hv := opv_VR hl x
        rw [hx] at hv
        have h1 := (ok.ty _ _ hsrc).2.2.1
        have h2 := (ok.ty _ _ hdst).2
        have h3 := (ok.ty _ _ he).2
        refine wp_val (by unfold execOp; rw [ho]) H ⟨.string (bytesS xs), ?_, rfl⟩
        obtain ⟨⟨F, hC⟩, A, n, c, hve⟩ := hv.sl
        obtain ⟨v', F', hC', hrd⟩ := H.rowRd (hs _ _ (blkOf_lk hb (by simp)))
        rw [hC] at hC'
        simp only [Option.some.injEq, Con.row.injEq] at hC'
        obtain ⟨A', c', hv', _, _, hrow⟩ := hrd
        rw [← hC'.1] at hv'
        rw [hve] at hv' ⊢
        simp only [List.cons.injEq, Value.slice.injEq, and_true] at hv'
        obtain ⟨rfl, rfl, rfl⟩ := hv'
        rw [run_convert_bytes_string w src dst e _ _ _ h1 h3 h2]
        rcases hrow with rfl | ⟨ad, rfl, hsp, hz, hel⟩
        · cases A with
          | none => simp [Conv.bytesToString, bytesS]
          | some a0 =>
            have := run_bytesToString (P := P) w a0 0 c [] (by simpa using run_loadCells_list (P := P) w a0 [] (fun j v hj => by simp at hj))
            simpa [bytesS] using this
        · refine run_bytesToString (P := P) w ad _ c xs ?_
          have := run_loadCells_list (P := P) w ad (xs.map (Value.int .u8)) (fun j v hj => by
            rw [List.getElem?_map] at hj
            cases hx : xs[j]? with
            | none => rw [hx] at hj; cases hj
            | some y =>
              rw [hx] at hj
              simp only [Option.map_some, Option.some.injEq] at hj
              obtain ⟨cs, hl, hp, hc⟩ := hel j y hx
              have hp : cs = [.int .u8 y] := hp
              subst hp
              have := hc 0 _ rfl
              subst hj
              have hsz : (Kd.int IntKind.u8).sz = 1 := rfl
              rw [hsz, Nat.mul_one, Nat.add_zero] at this
              have had : ad.add j = ⟨ad.block, ad.off + j, none⟩ := by cases ad; simp only at hsp; subst hsp; rw [add_off]
              rw [had]; exact this)
          simpa using this
      · cases hk
    · cases hk
  · rename_i f first caps ho
    split at hk
    · rename_i hfirst hcaps
      refine ⟨_, hk, fun {h1 C Z w a Q} H hs hf hl => ?_⟩
      have e1 : first = #[] := by simpa using hfirst
      subst e1
      refine wp_val (by unfold execOp; rw [ho]) H ⟨.func (.func f) #[] (caps.toList.map a.eval).toArray, ?_, caps.toList.map a.eval, rfl, ?_⟩
      · have hm : caps.map a.eval = (caps.toList.map a.eval).toArray := by apply Array.toList_inj.1; simp
        rw [hm]; simp [Instr.makeFunc]
      · exact isCap_all hcaps (opv_all hl caps.toList)
    · cases hk
  · rename_i t l c ho
    obtain ⟨e, hK, hp, hd⟩ := evMake_ok (B := B) (Fr := Fr) (Z0 := Z0) (w0 := w0) ok hk
    exact ⟨e, hK, fun {h1 C Z w a Q} H hs hf hl => wp_does (by unfold execOp; rw [ho]) (hd H (hf.one hp) (opv_VR hl l) (opv_VR hl c))⟩
  · rename_i t x lo hi ho
    split at hk
    · obtain ⟨e, hK, hd⟩ := evSliceMv_ok (B := B) (Fr := Fr) (Z0 := Z0) (w0 := w0) ok hk
      refine ⟨e, hK, fun {h1 C Z w a Q} H hs hf hl => wp_does (by unfold execOp; rw [ho]; rfl) (hd H hs ?_ (opv_VR hl x) (opv_opt hl lo) (opv_opt hl hi))⟩
      intro hne
      exact hf s.n (Nat.le_refl _) (by cases h : e.new with | nil => exact absurd h hne | cons _ _ => simp)
    · obtain ⟨e, hK, hd⟩ := evSlice_ok (B := B) (Fr := Fr) (Z0 := Z0) (w0 := w0) ok hk
      refine ⟨e, hK, fun {h1 C Z w a Q} H hs hf hl => wp_does (by unfold execOp; rw [ho]; rfl) (hd H hs ?_ (opv_VR hl x) (opv_opt hl lo) (opv_opt hl hi))⟩
      intro hne
      exact hf s.n (Nat.le_refl _) (by cases h : e.new with | nil => exact absurd h hne | cons _ _ => simp)
  · rename_i t x f ho
    split at hk
    · rename_i kd hty
      split at hk
      · rename_i q id off hq hx
        refine ⟨_, hk, fun {h1 C Z w a Q} H hs hf hl => ?_⟩
        have hv := opv_VR hl x
        rw [hx] at hv
        obtain ⟨b, hC, he⟩ := hv.ptr
        exact wp_val (by unfold execOp; rw [ho]) H ⟨_, by rw [he]; exact evField_ok ok hty hq (a := ⟨b, off, none⟩) rfl w, ⟨b, hC, rfl⟩⟩
      · rename_i q id i off sz hq hx
        refine ⟨_, hk, fun {h1 C Z w a Q} H hs hf hl => ?_⟩
        have hv := opv_VR hl x
        rw [hx] at hv
        obtain ⟨A, n, c, F, g1, g2, g3, g4, he⟩ := hv.ep
        refine wp_val (by unfold execOp; rw [ho]) H ⟨_, by rw [he]; exact evField_ok ok hty hq (a := ⟨A.block, A.off + (i.toNat * sz + off), none⟩) rfl w, A, n, c, F, g1, g2, g3, g4, ?_⟩
        simp only [Nat.add_assoc]
      · cases hk
    · cases hk
  · rename_i t x i ho
    obtain ⟨av, hK, hd⟩ := evIndexAddr_ok (B := B) (Fr := Fr) (Z0 := Z0) (w0 := w0) ok hk
    exact ⟨_, hK, fun {h1 C Z w a Q} H hs hf hl => wp_val (by unfold execOp; rw [ho]) H (hd H hs (opv_VR hl x) (opv_VR hl i))⟩
  · rename_i t x i ho
    split at hk
    · rename_i b k j hty hx hi
      rcases h0 : decide (0 ≤ j) with _ | _ <;> rw [h0] at hk
      · cases hk
      rcases hlt : decide (j < (b.size : Int)) with _ | _ <;> rw [hlt] at hk
      · cases hk
      have h0 := of_decide_eq_true h0
      have hlt := of_decide_eq_true hlt
      refine ⟨_, hk, fun {h1 C Z w a Q} H hs hf hl => ?_⟩
      have hv := opv_VR hl x
      rw [hx] at hv
      have hw := opv_VR hl i
      rw [hi] at hw
      refine wp_val (by unfold execOp; rw [ho]) H ⟨.int .u8 (bt b j), ?_, rfl⟩
      have h2 := (ok.ty _ _ hty).2
      have hn : j.toNat < b.size := by omega
      rw [hv.str, hw.int]
      have hb : bt b j = ((b[j.toNat]'hn).toNat : Int) := by
        unfold bt
        rw [List.getD_eq_getElem?_getD, List.getElem?_eq_getElem (by simpa using hn)]
        simp
        rfl
      simp [Instr.index, asIntOf, underlying, h2, h0, hn, hb]
    · cases hk
  · rename_i x i ho
    split at hk
    · rename_i vs hx
      split at hk
      · rename_i v hvi
        refine ⟨_, hk, fun {h1 C Z w a Q} H hs hf hl => ?_⟩
        have hv := opv_VR hl x
        rw [hx] at hv
        obtain ⟨us, he, ha⟩ := hv
        obtain ⟨u, hu, hr⟩ := ha.get i v hvi
        refine wp_val (by unfold execOp; rw [ho]) H ⟨u, ?_, hr.vr⟩
        rw [he]
        simp [Instr.extract, hu]
      · cases hk
    · cases hk
  · rename_i c ho
    have hargs : ∀ {x : List Operand}, c.args.toList = x → c.args = x.toArray := fun h => by rw [← h]
    split at hk
    · rename_i x t hc ha ht
      obtain ⟨av, hK, hd⟩ := evLen_ok (B := B) (Fr := Fr) (Z0 := Z0) (w0 := w0) (ty := o.type) ok hk
      refine ⟨_, hK, fun {h1 C Z w a Q} H hs hf hl => wp_val (m := Builtin.len_ #[t] o.type #[a.eval x]) ?_ H (hd H hs (opv_VR hl x))⟩
      have e2 : c.argTypes = #[t] := by rw [← Array.toArray_toList (xs := c.argTypes), ht]
      have e3 : c.args.map a.eval = #[a.eval x] := by rw [hargs ha]; simp
      unfold execOp; rw [ho]
      simp only [resolve, hc, e2, e3]
      rfl
    · rename_i x t hc ha ht
      split at hk
      · rename_i e0 q0 hty hx
        refine ⟨_, hk, fun {h1 C Z w a Q} H hs hf hl => wp_val (m := Builtin.cap_ #[t] o.type #[a.eval x]) ?_ H ⟨.int .i64 0, ?_, rfl⟩⟩
        · have e2 : c.argTypes = #[t] := by rw [← Array.toArray_toList (xs := c.argTypes), ht]
          have e3 : c.args.map a.eval = #[a.eval x] := by rw [hargs ha]; simp
          unfold execOp; rw [ho]
          simp only [resolve, hc, e2, e3]
          rfl
        · have hv := opv_VR hl x
          rw [hx] at hv
          have hu := (ok.ty t _ hty).2.2.1
          rw [hv.nil]
          simp [Builtin.cap_, underlying, hu]
          rfl
      · cases hk
    · rename_i x y t t' hc ha ht
      split at hk
      · rename_i htt
        have htt := Nat.eq_of_beq_eq_true htt
        subst htt
        obtain ⟨e, hK, hp, hd⟩ := evAppend_ok (B := B) (Fr := Fr) (Z0 := Z0) (w0 := w0) (ty := o.type) ok hk
        refine ⟨e, hK, fun {h1 C Z w a Q} H hs hf hl => wp_does (m := Builtin.append_ #[t, t] o.type #[a.eval x, a.eval y]) ?_ (hd H hs (hf.one hp) (opv_VR hl x) (opv_VR hl y))⟩
        have e2 : c.argTypes = #[t, t] := by rw [← Array.toArray_toList (xs := c.argTypes), ht]
        have e3 : c.args.map a.eval = #[a.eval x, a.eval y] := by rw [hargs ha]; simp
        unfold execOp; rw [ho]
        simp only [resolve, hc, e2, e3]
        rfl
      · obtain ⟨e, hK, hp, hd⟩ := evGrow_ok (B := B) (Fr := Fr) (Z0 := Z0) (w0 := w0) (ty := o.type) ok hk
        refine ⟨e, hK, fun {h1 C Z w a Q} H hs hf hl => wp_does (m := Builtin.append_ #[t, t'] o.type #[a.eval x, a.eval y]) ?_ (hd H (hf.one hp) (opv_VR hl x) (opv_VR hl y))⟩
        have e2 : c.argTypes = #[t, t'] := by rw [← Array.toArray_toList (xs := c.argTypes), ht]
        have e3 : c.args.map a.eval = #[a.eval x, a.eval y] := by rw [hargs ha]; simp
        unfold execOp; rw [ho]
        simp only [resolve, hc, e2, e3]
        rfl
    · rename_i x t hc ha ht
      obtain ⟨e, hK, hp, hd⟩ := evClear_ok (B := B) (Fr := Fr) (Z0 := Z0) (w0 := w0) (ty := o.type) ok hk
      refine ⟨e, hK, fun {h1 C Z w a Q} H hs hf hl => wp_does (m := Builtin.clear_ #[t] o.type #[a.eval x]) ?_ (hd H hs (opv_VR hl x))⟩
      have e2 : c.argTypes = #[t] := by rw [← Array.toArray_toList (xs := c.argTypes), ht]
      have e3 : c.args.map a.eval = #[a.eval x] := by rw [hargs ha]; simp
      unfold execOp; rw [ho]
      simp only [resolve, hc, e2, e3]
      rfl
    · rename_i x y hc ha
      split at hk
      · rename_i j p j' q hx hy
        refine ⟨_, hk, fun {h1 C Z w a Q} H hs hf hl => ?_⟩
        have hv := opv_VR hl x
        rw [hx] at hv
        have hw := opv_VR hl y
        rw [hy] at hw
        refine wp_val (m := Builtin.min_ c.argTypes o.type #[a.eval x, a.eval y]) ?_ H ⟨.int j (cond (decide (q < p)) q p), ?_, rfl⟩
        · have e3 : c.args.map a.eval = #[a.eval x, a.eval y] := by rw [hargs ha]; simp
          unfold execOp; rw [ho]
          simp only [resolve, hc, e3]
          rfl
        · rw [hv.int, hw.int]
          unfold Builtin.min_ Builtin.min2
          by_cases hlt : q < p <;> simp [hlt]
      · cases hk
    · rename_i x y hc ha
      split at hk
      · rename_i j p j' q hx hy
        refine ⟨_, hk, fun {h1 C Z w a Q} H hs hf hl => ?_⟩
        have hv := opv_VR hl x
        rw [hx] at hv
        have hw := opv_VR hl y
        rw [hy] at hw
        refine wp_val (m := Builtin.max_ c.argTypes o.type #[a.eval x, a.eval y]) ?_ H ⟨.int j (cond (decide (q > p)) q p), ?_, rfl⟩
        · have e3 : c.args.map a.eval = #[a.eval x, a.eval y] := by rw [hargs ha]; simp
          unfold execOp; rw [ho]
          simp only [resolve, hc, e3]
          rfl
        · rw [hv.int, hw.int]
          unfold Builtin.max_ Builtin.max2
          by_cases hlt : q > p <;> simp [hlt]
      · cases hk
    · rename_i g hc
      split at hk
      · rename_i f caps hg
        obtain ⟨e, hK, hgo, hd⟩ := evCall_ok (B := B) (Fr := Fr) (Z0 := Z0) (w0 := w0) spk hk
        refine ⟨e, hK, fun {h1 C Z w a Q} H hs hf hl => ?_⟩
        have hv := opv_VR hl g
        rw [hg] at hv
        obtain ⟨cs, he, hcs⟩ := hv
        have hall : All2 (VR C) (c.args.toList.map (opv s) ++ caps) (c.args.toList.map a.eval ++ cs) := All2.append (opv_all hl _) (hcs.imp fun _ _ => CR0.vr)
        have := hd H hs hf hall
        unfold Oper.wp
        have hrun : (execOp a.eval o).run P w = .ok (.enter f (c.args.toList.map a.eval ++ cs).toArray) w := by
          have h1 : execOp a.eval o = callFunc f (#[] ++ c.args.map a.eval ++ cs.toArray) := by
            unfold execOp; rw [ho]
            simp only [resolve, hc, he]
            rfl
          rw [h1]
          have h2 : (#[] ++ c.args.map a.eval ++ cs.toArray) = (c.args.toList.map a.eval ++ cs).toArray := by simp
          rw [h2]
          exact run_enter hgo _ w
        rw [hrun, Oper.upon_enter]
        refine Calls.mono this fun en w' hen => ?_
        obtain ⟨v, rfl, hdo⟩ := hen
        exact ⟨v, rfl, hdo⟩
      · cases hk
    · cases hk
  · cases hk

end
end Go.Ev
