/- How a function is left. -/
import Derived.Test.YtmiimfpdlkmjhaaGreatDoorEvEntry
set_option linter.unusedVariables false
set_option linter.unusedSectionVars false
set_option linter.unusedSimpArgs false
namespace Go.Ev
open Go
variable [Lax]

/-- a result's value -/
def resAV (env : Env) (st : St) : ResultVar → Option AV
  | .tmp t => some (st.slot t)
  | .cell a t => match st.slot a with
    | .ptr id off => evLoad env t (.ptr id off) st.h st.n fun e => some e.v
    | _ => none
def resAVs (env : Env) (st : St) : List ResultVar → Option (List AV)
  | [] => some []
  | r :: l => match resAV env st r with
    | some a => match resAVs env st l with
      | some as => some (a :: as)
      | none => none
    | none => none
/-- the rows that are given away -/
def outIds (h : List (Nat × Blk)) : (l : List (Kd × Bool)) → List AV → Option (List Nat)
  | [], [] => some []
  | (k, true) :: l, a :: as => match reO h k (cellsOf a) with
    | some (_, _, ids) => match outIds h l as with
      | some js => some (ids ++ js)
      | none => none
    | none => none
  | (_, false) :: l, _ :: as => outIds h l as
  | _, _ => none
/-- the rows that are only read from now on -/
def outFrz (h : List (Nat × Blk)) : (l : List (Kd × Bool)) → List AV → List Nat
  | (_, false) :: l, a :: as => ownIn h (cellsOf a) ++ outFrz h l as
  | (_, true) :: l, _ :: as => outFrz h l as
  | _, _ => []
def outsT (h h2 : List (Nat × Blk)) : (l : List (Kd × Bool)) → List AV → Option (Outs l)
  | [], [] => some ()
  | (k, true) :: l, a :: as => match a.isAgg == k.isSt, reO h k (cellsOf a) with
    | true, some (x, [], _) => match outsT h h2 l as with
      | some y => some (x, y)
      | none => none
    | _, _ => none
  | (k, false) :: l, a :: as => match a.isAgg == k.isSt, reC h2 k (cellsOf a) with
    | true, some (x, []) => match outsT h h2 l as with
      | some y => some (x, y)
      | none => none
    | _, _ => none
  | _, _ => none
def upT (h h2 : List (Nat × Blk)) : (p : Pk) → AV → Option p.Up
  | .ro _, _ => some ()
  | .mv _, _ => some ()
  | .nl, _ => some ()
  | .rb _ _, _ => some ()
  | .fr _ _, _ => some ()
  | .wr k, a => match k.flat with | true => argT h h2 (.wr k) a | false => none
  | .ptr t k, a => argT h h2 (.ptr t k) a
  | .fn f l, a => argT h h2 (.fn f l) a
def upsT (h h2 : List (Nat × Blk)) : (ps : List Pk) → List AV → Option (Ups ps)
  | [], [] => some ()
  | p :: ps, a :: as => match upT h h2 p a with
    | some x => match upsT h h2 ps as with
      | some y => some (x, y)
      | none => none
    | none => none
  | _, _ => none

/-- what is handed back at the end: nothing of what was handed over for good -/
def handedG1 : Pk → AV → List Nat
  | .mv _, _ => []
  | p, a => handed1 p a
def handedG : List Pk → List AV → List Nat
  | p :: ps, a :: as => handedG1 p a ++ handedG ps as
  | _, _ => []
/-- the answer of a function at its end -/
def retF (env : Env) (res : List ResultVar) (ins : List Pk) (out : List (Kd × Bool)) (st : St) : Option (Outs out × Ups ins) :=
  match resAVs env st res with
  | some as => match outIds st.h out as with
    | some ids => match nodupB (handedG ins st.g ++ ids) && (handedG ins st.g ++ ids).all (fun i => (outFrz st.h out as ++ frz st.h ins st.g).all fun j => !(Nat.beq i j)) with
      | true => match outsT st.h (deads (handedG ins st.g ++ ids) ++ (freezeL st.h (outFrz st.h out as ++ frz st.h ins st.g) ++ st.h)) out as with
        | some o => match upsT st.h (deads (handedG ins st.g ++ ids) ++ (freezeL st.h (outFrz st.h out as ++ frz st.h ins st.g) ++ st.h)) ins st.g with
          | some u => some (o, u)
          | none => none
        | none => none
      | false => none
    | none => none
  | none => none

section
variable {B : Nat} {Fr Z0 : Nat → Prop} {w0 w : World} {h h1 : List (Nat × Blk)} {C : Cons} {Z : Nat → Prop} {nt : Nat} {args : List Value} {st : St} {a : Act} {P : Program} {env : Env}

theorem loadBox_ok (ok : TyOk P env) (H : HR B Fr Z0 w0 h C Z w) {t : TypeId} {id off n : Nat} {av : AV} {v : Value} (hk : evLoad env t (.ptr id off) h n (fun e => some e.v) = some av) (hv : VR C (.ptr id off) v) :
    ∃ u, (Instr.loadAt t v).run P w = .ok u w ∧ VR C av u := by
  unfold evLoad at hk
  simp only at hk
  obtain ⟨b, hC, rfl⟩ := hv.ptr
  split at hk
  · rename_i t' cs hb
    obtain ⟨c, hc, hbr⟩ := H.blk id _ (blkOf_lk hb (by simp))
    rw [hC] at hc; cases hc
    obtain ⟨vs, hvs, ha⟩ := hbr
    split at hk
    · rename_i kd hty
      split at hk
      · rename_i hle
        cases hk
        have hle' := Nat.le_of_ble_eq_true hle
        have hlen := ha.length
        have ha' := All2.take kd.sz (All2.drop off ha)
        have hcl : ((vs.toList.drop off).take kd.sz).length = kd.sz := by simp; simp at hlen; omega
        have hrun := run_loadVar (w := w) (ok.ty t kd hty) (a := ⟨b, off, none⟩) hcl (box_cells hvs fun j v hj => by
          rw [List.getElem?_take] at hj
          split at hj
          · rw [List.getElem?_drop] at hj; simpa using hj
          · cases hj)
        rw [show (Instr.loadAt t (.pointer (some ⟨b, off, none⟩))).run P w = (loadVar t ⟨b, off, none⟩).run P w from by simp [Instr.loadAt, Instr.sureAddr], hrun]
        exact ⟨_, rfl, ofCells_VR hcl (ok.ty t kd hty).one ha'⟩
      · cases hk
    · rename_i hty
      split at hk
      · rename_i c rest h1o hd
        cases hk
        have ha' := All2.drop off ha
        rw [hd] at ha'
        match hd2 : vs.toList.drop off, ha' with
        | u :: us, ⟨hu, _⟩ =>
          obtain ⟨d, hdd, hnd, i, hi, hi1⟩ := ok.one t h1o
          have hcell : w.cell? ⟨b, off, none⟩ = some u := by
            rw [cell_of_row w b _ vs t' (0, 0) hvs]
            have : (vs.toList.drop off)[0]? = some u := by rw [hd2]; rfl
            rw [List.getElem?_drop] at this
            simpa using this
          have hrun' : (Instr.loadAt t (.pointer (some ⟨b, off, none⟩))).run P w = .ok u w := by
            cases d <;> first | exact hnd.elim | simp [Instr.loadAt, Instr.sureAddr, loadVar, isAgg, underlying, hdd, hcell]
          refine ⟨u, hrun', ?_⟩
          have hv1 : VR1 C c u := by
            cases c <;> try exact hu
            exact absurd hu (by unfold CR; simp [CR0])
          cases c <;> try exact hv1
          exact absurd hu (by unfold CR; simp [CR0])
        | [], hno => exact hno.elim
      · cases hk
  · cases hk

def resSem (a : Act) : ResultVar → Sem Value
  | .tmp t => pure (a.tmps.getD t undef)
  | .cell b t => do loadVar t (← asAddr (a.tmps.getD b undef))

theorem resAV_ok (ok : TyOk P env) (H : HR B Fr Z0 w0 st.h C Z w) (hs : Slots C st.s a) {r : ResultVar} {av : AV} (h : resAV env st r = some av) : ∃ v, (resSem a r).run P w = .ok v w ∧ VR C av v := by
  cases r with
  | tmp t =>
    simp only [resAV] at h; cases h
    exact ⟨_, rfl, opv_VR hs (.tmp t)⟩
  | cell b t =>
    simp only [resAV] at h
    split at h
    · rename_i id off hsl
      have hv := opv_VR hs (.tmp b)
      simp only [opv, hsl] at hv
      have hv : VR C (.ptr id off) (a.tmps.getD b undef) := hv
      obtain ⟨u, h1, h2⟩ := loadBox_ok ok H h hv
      refine ⟨u, ?_, h2⟩
      obtain ⟨q, _, he⟩ := hv.ptr
      simp only [resSem]
      rw [he] at h1 ⊢
      exact h1
    · cases h
theorem resAVs_ok (ok : TyOk P env) (H : HR B Fr Z0 w0 st.h C Z w) (hs : Slots C st.s a) : ∀ {l : List ResultVar} {as : List AV}, resAVs env st l = some as → ∃ vs, (l.mapM (resSem a)).run P w = .ok vs w ∧ All2 (VR C) as vs
  | [], as, h => by
    simp only [resAVs] at h; cases h
    exact ⟨[], rfl, trivial⟩
  | r :: l, as, h => by
    simp only [resAVs] at h
    split at h
    · rename_i x hx
      split at h
      · rename_i xs hxs
        cases h
        obtain ⟨v, h1, h2⟩ := resAV_ok ok H hs hx
        obtain ⟨vs, h3, h4⟩ := resAVs_ok ok H hs hxs
        refine ⟨v :: vs, ?_, h2, h4⟩
        simp [List.mapM_cons, h1, h3]
      · cases h
    · cases h

theorem results_run {fn : Func} {vs : List Value} (h : (fn.results.toList.mapM (resSem a)).run P w = .ok vs w) : (results fn a.tmps).run P w = .ok (retV vs) w := by
  have e : fn.results.mapM (resSem a) = (do pure (← fn.results.toList.mapM (resSem a)).toArray) := by
    have := Array.mapM_eq_mapM_toList (f := resSem a) (xs := fn.results)
    simpa using this
  have e2 : results fn a.tmps = (do
      let vs ← fn.results.mapM (resSem a)
      pure (if h : vs.size = 1 then vs[0] else .tuple vs)) := by
    unfold results
    congr 1
  rw [e2, e]
  simp [h]
  match vs with
  | [] => simp [retV]
  | [v] => simp [retV]
  | a :: b :: l => simp [retV]

theorem outsT_ok {fl hd : List Nat} {C1 : Cons} {Z1 : Nat → Prop} (H : HR B Fr Z0 w0 h C Z w) (hx : Ext C C1) (S : CallSt B Fr Z0 w0 h h fl hd true C1 Z1 w) (Hk : HR B Fr Z0 w0 (deads hd ++ (freezeL h fl ++ h)) C1 Z1 w) :
    ∀ {l : List (Kd × Bool)} {as : List AV} {o : Outs l} {vs : List Value} {ids : List Nat}, (∀ p, p ∈ l → Shape1 p.1) → outIds h l as = some ids → outsT h (deads hd ++ (freezeL h fl ++ h)) l as = some o → All2 (VR C) as vs → (∀ i, i ∈ outFrz h l as → i ∈ fl) →
    ∃ Fo, OutR w Z1 l o vs Fo ∧ (∀ b, b ∈ Fo → ∃ i, i ∈ ids ∧ b ∈ ft h C i) ∧ (ids.Nodup → Fo.Nodup) ∧ (∀ i, i ∈ ids → ∃ b, lk h i = some b)
  | [], [], o, [], ids, _, hi, _, _, _ => by
    simp only [outIds] at hi; cases hi
    exact ⟨[], ⟨rfl, rfl⟩, (fun b hb => by cases hb), (fun _ => List.nodup_nil), (fun i hi => by cases hi)⟩
  | (k, true) :: l, a :: as, o, v :: vs, ids, hs, hi, ho, ⟨hv, hvs⟩, hf => by
    simp only [outIds] at hi
    split at hi
    · rename_i x0 l0 i1 hr0
      split at hi
      · rename_i js hjs
        cases hi
        simp only [outsT] at ho
        split at ho
        · rename_i x ids' hc hr
          split at ho
          · rename_i y hy
            cases ho
            rw [hr] at hr0
            simp only [Option.some.injEq, Prod.mk.injEq] at hr0
            obtain ⟨_, _, rfl⟩ := hr0
            have hc : a.isAgg = k.isSt := by simpa using hc
            obtain ⟨p0, hp0, hdef⟩ := reO_def hr
            rw [List.append_nil] at hp0
            subst hp0
            obtain ⟨hcells, _⟩ := hv.cells hdef
            have hasv := hv.asV hc (hs (k, true) (by simp)) hdef
            obtain ⟨cs, rest, F1, hcs, how, a1, a2, a3, hrest⟩ := reO_ow H (fun _ _ h => h) hr hcells
            have hr0 : rest = [] := by cases rest with | nil => rfl | cons _ _ => exact hrest.elim
            subst hr0
            rw [List.append_nil] at hcs
            obtain ⟨F2, b0, b1, b2, b3⟩ := outsT_ok H hx S Hk (fun p hp => hs p (List.mem_cons_of_mem _ hp)) hjs hy hvs hf
            refine ⟨F1 ++ F2, ⟨cs, vs, F1, F2, by rw [hasv, hcs], rfl, how, b0⟩, fun b hb => ?_, fun hn => ?_, fun i hi => ?_⟩
            · rcases List.mem_append.1 hb with hb | hb
              · obtain ⟨i, h1, h2⟩ := a1 b hb; exact ⟨i, List.mem_append_left _ h1, h2⟩
              · obtain ⟨i, h1, h2⟩ := b1 b hb; exact ⟨i, List.mem_append_right _ h1, h2⟩
            · obtain ⟨n1, n2, n3⟩ := List.nodup_append.1 hn
              refine List.nodup_append.2 ⟨a2 n1, b2 n2, fun q hq q' hq' e => ?_⟩
              subst e
              obtain ⟨i, h1, h2⟩ := a1 q hq
              obtain ⟨j, h3, h4⟩ := b1 q hq'
              exact H.dis i j (n3 i h1 j h3) q h2 h4
            · rcases List.mem_append.1 hi with hi | hi
              · obtain ⟨k, e, xs, hl⟩ := a3 i hi; exact ⟨_, hl⟩
              · exact b3 i hi
          · cases ho
        · cases ho
      · cases hi
    · cases hi
  | (k, false) :: l, a :: as, o, v :: vs, ids, hs, hi, ho, ⟨hv, hvs⟩, hf => by
    simp only [outIds] at hi
    simp only [outsT] at ho
    split at ho
    · rename_i x hc hr
      split at ho
      · rename_i y hy
        cases ho
        have hc : a.isAgg = k.isSt := by simpa using hc
        obtain ⟨p0, hp0, hdef⟩ := reC_def hr
        rw [List.append_nil] at hp0
        subst hp0
        have hv1 := hv.ext hx
        obtain ⟨hcells, _⟩ := hv1.cells hdef
        have hasv := hv1.asV hc (hs (k, false) (by simp)) hdef
        simp only [outFrz] at hf
        obtain ⟨cs, rest, hcs, hrd, hrest⟩ := reC_gen (w := w) (Zt := zoneOf true (deads hd ++ (freezeL h fl ++ h)) C1 Z1) hr hcells (fun i k e xs own hm hb' =>
          S.row Hk i k e xs own (fun e' ⟨k0, e0, xs0, hb0⟩ => hf i (List.mem_append_left _ (mem_ownIn hm hb0))) hb')
        have hr0 : rest = [] := by cases rest with | nil => rfl | cons _ _ => exact hrest.elim
        subst hr0
        rw [List.append_nil] at hcs
        obtain ⟨F2, b0, b1, b2, b3⟩ := outsT_ok H hx S Hk (fun p hp => hs p (List.mem_cons_of_mem _ hp)) hi hy hvs (fun i hi => hf i (List.mem_append_right _ hi))
        exact ⟨F2, ⟨cs, vs, by rw [hasv, hcs], hrd, b0⟩, b1, b2, b3⟩
      · cases ho
    · cases ho
  | [], _ :: _, _, _, _, _, _, ho, _, _ => by simp [outsT] at ho
  | _ :: _, [], _, _, _, _, hi, _, _, _ => by simp [outIds] at hi
  | [], [], _, _ :: _, _, _, _, _, h, _ => h.elim
  | _ :: _, _ :: _, _, [], _, _, _, _, h, _ => h.elim

end
end Go.Ev
