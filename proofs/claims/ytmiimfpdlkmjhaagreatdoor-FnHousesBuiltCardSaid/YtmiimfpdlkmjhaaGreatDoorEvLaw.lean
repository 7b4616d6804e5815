/- A law's arguments: what was handed in, as typed values. -/
import Derived.Test.YtmiimfpdlkmjhaaGreatDoorEvLim
import Derived.WalkKit
import Derived.ProofKit
import Derived.OpenShut
import Derived.ShutString
import Derived.ChangeOld
import Derived.Below
import Derived.Carry
import Derived.SizedLaws
set_option linter.unusedVariables false
set_option linter.unusedSectionVars false
set_option linter.unusedSimpArgs false
namespace Go.Ev
open Go Go.ChangeShapes Go.WideShapes Go.ChangeAt Go.RowKit
variable [Lax]

/-- a typed value within its bounds -/
def Wf : (k : Kd) → k.Ty → Prop
  | .int j, n => (Lit.int j n).wf = true
  | .bool, _ => True
  | .err, _ => True
  | .str, s => s.size ≤ maxLen
  | .raw, _ => True
  | .sl _ k, xs => xs.length ≤ maxLen ∧ ∀ x, x ∈ xs → Wf k x
  | .st k, x => Wf k x
  | .pair a b, x => Wf a x.1 ∧ Wf b x.2

def single (T : TypeId → Prop) (P : Program) (sz : Nat) : List Field → Nat → Prop
  | [f], off => f.offset = off ∧ P.cellsOf f.type = sz ∧ T f.type
  | _, _ => False
/-- a type's whole tree is of a kind; fields, one behind the other -/
def TF (P : Program) : Kd → (TypeId → Prop) × (List Field → Nat → Prop)
  | .pair a b => (fun _ => False, fun fs off => match fs with | f :: fs => f.offset = off ∧ P.cellsOf f.type = a.sz ∧ (TF P a).1 f.type ∧ (TF P b).2 fs (off + a.sz) | [] => False)
  | .st q => (fun t => ∃ fs, P.underlying t = some (.struct fs) ∧ P.cellsOf t = q.sz ∧ (TF P q).2 fs.toList 0, single (fun t => ∃ fs, P.underlying t = some (.struct fs) ∧ P.cellsOf t = q.sz ∧ (TF P q).2 fs.toList 0) P q.sz)
  | .sl e q => (fun t => P.underlying t = some (.slice e) ∧ P.cellsOf e = q.sz ∧ (TF P q).1 e, single (fun t => P.underlying t = some (.slice e) ∧ P.cellsOf e = q.sz ∧ (TF P q).1 e) P 1)
  | .int j => (fun t => P.underlying t = some (.int j), single (fun t => P.underlying t = some (.int j)) P 1)
  | .bool => (fun t => P.underlying t = some .bool, single (fun t => P.underlying t = some .bool) P 1)
  | .str => (fun t => P.underlying t = some .string, single (fun t => P.underlying t = some .string) P 1)
  | .raw => (fun _ => False, fun _ _ => False)
  | .err => (fun _ => False, fun _ _ => False)

section
variable {H : Type} {enc : TypeId × Value → H} {P : Program} {w : World} {base : Nat} {spare : Nat → Bool} {held : Bool}

theorem trod_bool1 {t : TypeId} {fuel : Nat} {cs : List Value} {x : DataW H × List MemPlace} (ht : P.underlying t = some .bool) (h : DataW.trod enc P w base spare held fuel t cs = some x) : ∃ b, cs = [.bool b] := by
  cases fuel with
  | zero => simp [DataW.trod] at h
  | succ n =>
    unfold DataW.trod at h
    rw [ht] at h
    split at h <;> simp_all

/-- one and the same: a single field behind others -/
theorem single_rd {T : TypeId → Prop} {k : Kd} (one : ∀ {t : TypeId} {fuel : Nat} {cs : List Value} {x : DataW H × List MemPlace}, T t → DataW.trod enc P w base spare held fuel t cs = some x → ∃ y, Rd w (· < w.heap.size) k y cs ∧ Wf k y)
    {fs : List Field} {off n : Nat} {cs : List Value} (hs : single T P k.sz fs off) (h : ∀ f, f ∈ fs → ∃ x, DataW.trod enc P w base spare held n f.type ((cs.drop f.offset).take (P.cellsOf f.type)) = some x) :
    ∃ y, Rd w (· < w.heap.size) k y ((cs.drop off).take k.sz) ∧ Wf k y := by
  match fs, hs with
  | [f], ⟨h1, h2, h3⟩ =>
    obtain ⟨x, hx⟩ := h f (by simp)
    rw [h1, h2] at hx
    exact one h3 hx

theorem trod_Rd : ∀ (k : Kd), (∀ {t : TypeId} {fuel : Nat} {cs : List Value} {x : DataW H × List MemPlace}, (TF P k).1 t → DataW.trod enc P w base spare held fuel t cs = some x → ∃ y, Rd w (· < w.heap.size) k y cs ∧ Wf k y) ∧
    (∀ {fs : List Field} {off n : Nat} {cs : List Value}, (TF P k).2 fs off → (∀ f, f ∈ fs → ∃ x, DataW.trod enc P w base spare held n f.type ((cs.drop f.offset).take (P.cellsOf f.type)) = some x) → ∃ y, Rd w (· < w.heap.size) k y ((cs.drop off).take k.sz) ∧ Wf k y) := by
  intro k
  induction k with
  | int j =>
    have one : ∀ {t : TypeId} {fuel : Nat} {cs : List Value} {x : DataW H × List MemPlace}, P.underlying t = some (.int j) → DataW.trod enc P w base spare held fuel t cs = some x → ∃ y, Rd w (· < w.heap.size) (.int j) y cs ∧ Wf (.int j) y := fun ht h => by
      obtain ⟨n, h1, _, h2⟩ := DataW.trod_int ht h
      exact ⟨n, h1, h2⟩
    exact ⟨one, single_rd one⟩
  | bool =>
    have one : ∀ {t : TypeId} {fuel : Nat} {cs : List Value} {x : DataW H × List MemPlace}, P.underlying t = some .bool → DataW.trod enc P w base spare held fuel t cs = some x → ∃ y, Rd w (· < w.heap.size) .bool y cs ∧ Wf .bool y := fun ht h => by
      obtain ⟨n, h1⟩ := trod_bool1 ht h
      exact ⟨n, h1, trivial⟩
    exact ⟨one, single_rd one⟩
  | str =>
    have one : ∀ {t : TypeId} {fuel : Nat} {cs : List Value} {x : DataW H × List MemPlace}, P.underlying t = some .string → DataW.trod enc P w base spare held fuel t cs = some x → ∃ y, Rd w (· < w.heap.size) .str y cs ∧ Wf .str y := fun ht h => by
      obtain ⟨n, h1, _, h2⟩ := DataW.trod_string ht h
      exact ⟨n, h1, h2⟩
    exact ⟨one, single_rd one⟩
  | raw => exact ⟨fun h => h.elim, fun h => h.elim⟩
  | err => exact ⟨fun h => h.elim, fun h => h.elim⟩
  | sl e q ih =>
    have one : ∀ {t : TypeId} {fuel : Nat} {cs : List Value} {x : DataW H × List MemPlace}, (P.underlying t = some (.slice e) ∧ P.cellsOf e = q.sz ∧ (TF P q).1 e) → DataW.trod enc P w base spare held fuel t cs = some x → ∃ y, Rd w (· < w.heap.size) (.sl e q) y cs ∧ Wf (.sl e q) y := fun ⟨ht, hc, hq⟩ h => by
      rcases DataW.trod_slice ht h with ⟨h0, _⟩ | ⟨a, len, cap, elems, rest, n, _, rfl, _, hb, hl, hm, hlen, hel, _, _⟩
      · exact ⟨[], ⟨none, 0, h0, by simp, by simp [maxLen], .inl rfl⟩, by simp [maxLen], fun x hx => by cases hx⟩
      · have each : ∀ i, i < len → ∃ (y : q.Ty) (cs : List Value), Rd w (· < w.heap.size) q y cs ∧ Wf q y ∧ cs.length = q.sz ∧ ∀ j, j < q.sz → w.cell? ((a.add (i * q.sz)).add j) = cs[j]? := fun i hi => by
          have h1 := hel i hi
          rw [List.getElem?_eq_getElem (by omega), hc, Option.bind_eq_some_iff] at h1
          obtain ⟨cs, h2, h3⟩ := h1
          obtain ⟨_, h4, h5⟩ := World.cells?_some h2
          obtain ⟨y, h6, h7⟩ := ih.1 hq h3
          exact ⟨y, cs, h6, h7, h4, h5⟩
        have hmk : ∃ ys : List q.Ty, ys.length = len ∧ ∀ (i : Nat) (y : q.Ty), ys[i]? = some y → ∃ cs : List Value, Rd w (· < w.heap.size) q y cs ∧ Wf q y ∧ cs.length = q.sz ∧ ∀ j, j < q.sz → w.cell? ((a.add (i * q.sz)).add j) = cs[j]? := by
          have : ∀ m, m ≤ len → ∃ ys : List q.Ty, ys.length = m ∧ ∀ (i : Nat) (y : q.Ty), ys[i]? = some y → ∃ cs : List Value, Rd w (· < w.heap.size) q y cs ∧ Wf q y ∧ cs.length = q.sz ∧ ∀ j, j < q.sz → w.cell? ((a.add (i * q.sz)).add j) = cs[j]? := by
            intro m
            induction m with
            | zero => exact fun _ => ⟨[], rfl, fun i y hy => by simp at hy⟩
            | succ m ihm =>
              intro hle
              obtain ⟨ys, h1, h2⟩ := ihm (by omega)
              obtain ⟨y, cs, h3⟩ := each m (by omega)
              refine ⟨ys ++ [y], by simp [h1], fun i z hz => ?_⟩
              by_cases hi : i < ys.length
              · rw [List.getElem?_append_left hi] at hz; exact h2 i z hz
              · rw [List.getElem?_append_right (by omega)] at hz
                have : i = m := by
                  have := (List.getElem?_eq_some_iff.1 hz).1
                  simp at this; omega
                subst this
                simp [h1] at hz
                subst hz
                exact ⟨cs, h3⟩
          exact this len (Nat.le_refl _)
        obtain ⟨ys, h1, h2⟩ := hmk
        refine ⟨ys, ⟨some a, cap, by rw [h1], by omega, by omega, ?_⟩, by omega, fun y hy => ?_⟩
        · by_cases h0 : len = 0
          · exact .inl (List.eq_nil_of_length_eq_zero (by omega))
          · refine .inr ⟨a, rfl, ?_⟩
            obtain ⟨y0, cs0, hr0, _, hl0, hc0⟩ := each 0 (by omega)
            have hp := q.sz_pos
            have hc00 := hc0 0 hp
            rw [Nat.zero_mul] at hc00
            have haa : (a.add 0).add 0 = a := by simp [Addr.add]
            rw [haa, List.getElem?_eq_getElem (by omega)] at hc00
            have hsp : a.spot = none ∧ a.block < w.heap.size := by
              unfold World.cell? at hc00
              split at hc00
              · rename_i hb
                split at hc00
                · cases hc00
                · rename_i hs
                  exact ⟨by cases h : a.spot <;> simp_all, (Array.getElem?_eq_some_iff.1 hb).1⟩
              · cases hc00
            refine ⟨hsp.1, hsp.2, fun i x hx => ?_⟩
            obtain ⟨cs, h3, _, h4, h5⟩ := h2 i x hx
            refine ⟨cs, h4, h3, fun j v hj => ?_⟩
            have hjl := (List.getElem?_eq_some_iff.1 hj).1
            have := h5 j (by omega)
            rw [add_spot hsp.1, add_off, hj, Nat.add_assoc] at this
            exact this
        · obtain ⟨i, hi⟩ := List.getElem?_of_mem hy
          obtain ⟨cs, _, h4, _⟩ := h2 i y hi
          exact h4
    exact ⟨one, single_rd (k := .sl e q) one⟩
  | st q ih =>
    have one : ∀ {t : TypeId} {fuel : Nat} {cs : List Value} {x : DataW H × List MemPlace}, (∃ fs, P.underlying t = some (.struct fs) ∧ P.cellsOf t = q.sz ∧ (TF P q).2 fs.toList 0) → DataW.trod enc P w base spare held fuel t cs = some x → ∃ y, Rd w (· < w.heap.size) (.st q) y cs ∧ Wf (.st q) y := fun ⟨fs, ht, hc, hq⟩ h => by
      obtain ⟨xs, n, _, _, hl, hxs, hf⟩ := DataW.trod_struct ht h
      obtain ⟨y, h1, h2⟩ := ih.2 (n := n) hq (fun f hf' => by
        obtain ⟨i, hi⟩ := List.getElem?_of_mem hf'
        rw [Array.getElem?_toList] at hi
        have h3 := hf i f hi
        have hlt := (Array.getElem?_eq_some_iff.1 hi).1
        rw [List.getElem?_eq_getElem (by omega)] at h3
        exact ⟨_, h3⟩)
      rw [List.drop_zero, List.take_of_length_le (by omega)] at h1
      exact ⟨y, h1, h2⟩
    exact ⟨one, single_rd (k := .st q) one⟩
  | pair a b iha ihb =>
    refine ⟨fun h => h.elim, fun {fs off n cs} hfs h => ?_⟩
    match fs, hfs with
    | f :: fs, ⟨h1, h2, h3, h4⟩ =>
      obtain ⟨x, hx⟩ := h f (by simp)
      obtain ⟨y, g1, g2⟩ := iha.1 h3 hx
      obtain ⟨z, g3, g4⟩ := ihb.2 h4 (fun f hf => h f (List.mem_cons_of_mem _ hf))
      rw [h1, h2] at g1
      refine ⟨(y, z), ⟨_, _, ?_, g1, g3⟩, g2, g4⟩
      show (cs.drop off).take (a.sz + b.sz) = _
      rw [List.take_add, List.drop_drop]

theorem okWide_asV {k : Kd} {r : Go.Reach} {b0 : Nat} {t : TypeId} {v : Value} (ht : (TF P k).1 t) (hv : Value.okWide P w r b0 t v) : v = asV k v.cells.toList := by
  cases k with
  | int j => obtain ⟨n, rfl⟩ := okWide_int ht hv; rfl
  | bool =>
    have ht : P.underlying t = some .bool := ht
    simp only [Value.okWide, ht, Cell.okWide] at hv
    cases v <;> first | rfl | simp_all [Cell.ok]
  | str => obtain ⟨n, rfl⟩ := okWide_string ht hv; rfl
  | raw => exact ht.elim
  | err => exact ht.elim
  | sl e q => obtain ⟨a, l, c, rfl⟩ := okWide_slice ht.1 hv; rfl
  | st q =>
    obtain ⟨fs, h1, _⟩ := ht
    simp only [Value.okWide, h1] at hv
    obtain ⟨cs, rfl, _⟩ := hv
    rfl
  | pair a b => exact ht.elim

/-- an argument, opened -/
theorem open_kd {k : Kd} {r : Go.Reach} {b0 : Nat} {t : TypeId} {v : Value} {d : DataW H} {ps : List MemPlace} (ht : (TF P k).1 t) (hv : Value.okWide P w r b0 t v) (hd : DataW.Trod enc P w base spare held t v d ps) :
    ∃ y, PkR w (· < w.heap.size) (.ro k) y v [] ∧ Wf k y := by
  obtain ⟨fuel, hf⟩ := hd
  obtain ⟨y, h1, h2⟩ := (trod_Rd (enc := enc) (P := P) (w := w) (base := base) (spare := spare) (held := held) k).1 ht hf
  exact ⟨y, ⟨rfl, _, h1, okWide_asV ht hv⟩, h2⟩
end

/-- A law's call, out of its contract. -/
theorem law_calls {P : Program} {f : FuncId} {sp : FSpec} (hc : Cert P f sp) (ho : sp.out = [(.bool, true)]) {w : World} {x : Ins sp.ins} {o : Outs sp.out} {u : Ups sp.ins} {args : List Value}
    (hpre : sp.pre.p w (· < w.heap.size)) (hin : InR w (· < w.heap.size) sp.ins x args []) (hr : sp.rel x o u) (ht : HEq o ((true, ()) : Outs [(Kd.bool, true)])) : Calls P f args.toArray w fun e w' => e = .returned (.bool true) ∧ Below w.heap.size w w' := by
  obtain ⟨ins, out, rel, call, law, pre⟩ := sp
  simp only at ho
  subst ho
  have ht := eq_of_heq ht
  subst ht
  refine Calls.mono (hc.holds w (· < w.heap.size) x args [] hpre hin List.nodup_nil (fun b hb => by cases hb) (fun b hb => hb) (true, ()) u hr) fun e w' h => ?_
  obtain ⟨vs, Fo, Fu, Z', rfl, ho, _, A⟩ := h
  obtain ⟨cs, vs', F1, F2, rfl, rfl, ⟨rfl, rfl⟩, rfl, rfl⟩ := ho
  exact ⟨rfl, A.os, A.tape, A.out.1, A.size, fun b hb => A.blk b hb (by simp)⟩
theorem law_callsT {P : Program} {f : FuncId} {pre : WPre} {ins : List Pk} {inj : Bool → Outs [(.bool, true)] × Ups ins} {F : Ins ins → Bool} (hi : (inj true).1 = (true, ())) (hc : Cert P f (mkT pre ins [(.bool, true)] inj F)) {w : World} {x : Ins ins} {args : List Value}
    (hpre : pre.p w (· < w.heap.size)) (hin : InR w (· < w.heap.size) ins x args []) (hF : F x = true) : Calls P f args.toArray w fun e w' => e = .returned (.bool true) ∧ Below w.heap.size w w' :=
  law_calls (sp := mkT pre ins [(.bool, true)] inj F) hc rfl (o := (true, ())) (u := (inj true).2) hpre hin (by show inj (F x) = _; rw [hF, ← hi]) HEq.rfl
theorem law_callsO {P : Program} {f : FuncId} {pre : WPre} {ins : List Pk} {inj : Bool → Outs [(.bool, true)] × Ups ins} {F : Ins ins → Option Bool} (hi : (inj true).1 = (true, ())) (hc : Cert P f (mkF pre ins [(.bool, true)] inj F)) {w : World} {x : Ins ins} {args : List Value}
    (hpre : pre.p w (· < w.heap.size)) (hin : InR w (· < w.heap.size) ins x args []) (hF : F x = some true) : Calls P f args.toArray w fun e w' => e = .returned (.bool true) ∧ Below w.heap.size w w' :=
  law_calls (sp := mkF pre ins [(.bool, true)] inj F) hc rfl (o := (true, ())) (u := (inj true).2) hpre hin ⟨true, hF, by rw [← hi]⟩ HEq.rfl

end Go.Ev
