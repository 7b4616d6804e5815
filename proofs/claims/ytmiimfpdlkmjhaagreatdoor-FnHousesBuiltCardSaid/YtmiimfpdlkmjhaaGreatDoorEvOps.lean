/- The single operations: what the evaluator says of them is what they do. -/
import Derived.Test.YtmiimfpdlkmjhaaGreatDoorEvTy
set_option linter.unusedVariables false
set_option linter.unusedSectionVars false
namespace Go.Ev
open Go
variable [Lax]

def Sub (h h1 : List (Nat × Blk)) : Prop := ∀ i b, lk h i = some b → lk h1 i = some b
def Fresh (n : Nat) (e : Eff) (h1 : List (Nat × Blk)) : Prop := ∀ i, n ≤ i → i < n + e.new.length → lk h1 i = none

/-- The run comes to the value and the heap that the effect tells. -/
def Does (B : Nat) (Fr Z0 : Nat → Prop) (w0 : World) (h1 : List (Nat × Blk)) (C : Cons) (r : Result Value) (e : Eff) : Prop :=
  ∃ v' w' C' Z', r = .ok v' w' ∧ HR B Fr Z0 w0 (e.new ++ (e.upd ++ h1)) C' Z' w' ∧ Ext C C' ∧ VR C' e.v v'

/-- the value of a kind out of its cells -/
def asV (k : Kd) (cs : List Value) : Value := match k.isSt with | true => .agg cs.toArray | false => match cs with | c :: _ => c | [] => .bool false

section
variable {B : Nat} {Fr Z0 : Nat → Prop} {w0 w : World} {h h1 : List (Nat × Blk)} {C : Cons} {Z : Nat → Prop} {P : Program} {env : Env} {R : Type}

theorem Does.pure (H : HR B Fr Z0 w0 h1 C Z w) {a : AV} {v : Value} (hv : VR C a v) : Does B Fr Z0 w0 h1 C (.ok v w) (.val a) := ⟨v, w, C, Z, rfl, H, Ext.refl C, hv⟩

theorem VR.ptr {id off : Nat} {v : Value} (h : VR C (.ptr id off) v) : ∃ b, C id = some (.box b) ∧ v = .pointer (some ⟨b, off, none⟩) := h
theorem VR.ep {id off sz : Nat} {i : Int} {v : Value} (h : VR C (.ep id i off sz) v) : ∃ A n c F, C id = some (.row (.slice (some A) n c) F) ∧ A.spot = none ∧ 0 ≤ i ∧ i < (n : Int) ∧ v = .pointer (some ⟨A.block, A.off + (i.toNat * sz + off), none⟩) := h
theorem VR.sl {id : Nat} {v : Value} (h : VR C (.sl id) v) : (∃ F, C id = some (.row v F)) ∧ ∃ A n c, v = .slice A n c := h
theorem VR.int {k : IntKind} {n : Int} {v : Value} (h : VR C (.int k n) v) : v = .int k n := h
theorem VR.bool {b : Bool} {v : Value} (h : VR C (.bool b) v) : v = .bool b := h
theorem VR.str {s : ByteArray} {v : Value} (h : VR C (.str s) v) : v = .string s := h
theorem VR.nil {v : Value} (h : VR C .nil v) : v = .slice none 0 0 := h

theorem cells_one {v : Value} (h : v.oneCell' = true) : v.cells.toList = [v] := by cases v <;> first | rfl | cases h
theorem CR.one {a : AV} {v : Value} (hd : a.isDef = true) (h : CR C a v) : v.oneCell' = true := by
  cases a <;> simp [AV.isDef] at hd <;> unfold CR at h
  · simp only [CR0] at h; subst h; rfl
  · simp only [CR0] at h; subst h; rfl
  · simp only [CR0] at h; subst h; rfl
  · simp only [CR0] at h; subst h; rfl
  · simp only [CR0] at h; subst h; rfl
  · simp only [CR0] at h; obtain ⟨_, A, n, c, rfl⟩ := h; rfl
  · simp only [CR0] at h; obtain ⟨A, n, c, F, _, _, _, _, rfl⟩ := h; rfl
  · simp only [CR0] at h; obtain ⟨b, _, rfl⟩ := h; rfl
  · obtain ⟨vs, rfl, _⟩ := h; rfl
  · rename_i r; simp only [CR0] at h; subst h; exact r.2
  · simp only [CR0] at h; rcases h with ⟨_, rfl⟩ | ⟨_, t, p, rfl⟩ <;> rfl
  · simp only [CR0] at h; obtain ⟨A, n, c, F, _, _, _, _, rfl⟩ := h; rfl

theorem add_off (b o n : Nat) : (⟨b, o, none⟩ : Addr).add n = ⟨b, o + n, none⟩ := by unfold Addr.add; split <;> simp_all
theorem add_spot {A : Addr} (hA : A.spot = none) (n : Nat) : A.add n = ⟨A.block, A.off + n, none⟩ := by
  obtain ⟨b, o, s⟩ := A; simp only at hA; subst hA; exact add_off b o n

/-- a variable of a kind is loaded -/
theorem run_loadVar {t : TypeId} {kd : Kd} (ht : TyFit P env.lim t kd) {a : Addr} {cs : List Value} (hl : cs.length = kd.sz) (hc : ∀ (j : Nat) (v : Value), cs[j]? = some v → w.cell? (a.add j) = some v) :
    (loadVar t a).run P w = .ok (asV kd cs) w := by
  obtain ⟨⟨i, hi, hs, hz⟩, hk⟩ := ht
  have one : ∀ d, P.underlying t = some d → (match d with | .struct _ => False | .array _ _ => False | _ => True) → kd.sz = 1 → kd.isSt = false →
      (loadVar t a).run P w = .ok (asV kd cs) w := by
    intro d hd hnd h1 h2
    unfold asV
    rw [h2]
    match cs, hl.trans h1 with
    | [c], _ =>
      have h0 := hc 0 c rfl
      rw [show a.add 0 = a from by simp [Addr.add]] at h0
      cases d <;> first | exact hnd.elim | simp [loadVar, isAgg, underlying, hd, h0]
  cases kd with
  | int j => exact one _ hk trivial rfl rfl
  | bool => exact one _ hk trivial rfl rfl
  | str => exact one _ hk trivial rfl rfl
  | raw => obtain ⟨e, hk⟩ := hk; exact one _ hk trivial rfl rfl
  | err => obtain ⟨e, hk⟩ := hk; exact one _ hk trivial rfl rfl
  | sl e q => exact one _ hk.2.1 trivial rfl rfl
  | st q =>
    obtain ⟨fs, hf, _⟩ := hk
    have := run_loadCells_list (P := P) w a cs hc
    rw [hl, ← hs] at this
    simp [loadVar, isAgg, underlying, hf, sizeOf, typeInfo, hi, this, Kd.isSt, asV]
  | pair a b => exact hk.elim

theorem ofCells_VR {kd : Kd} {as : List AV} {cs : List Value} (hl : cs.length = kd.sz) (h1 : kd.isSt = false → kd.sz = 1) (ha : All2 (CR C) as cs) :
    VR C (ofCells kd as) (asV kd cs) := by
  unfold ofCells asV
  cases hs : kd.isSt
  · have := h1 hs
    match cs, as, hl.trans this, ha with
    | [c], [a], _, ⟨hr, _⟩ =>
      simp only
      have hr' : VR1 C a c := by
        cases a <;> try exact hr
        exact absurd hr (by unfold CR; simp [CR0])
      cases a <;> try exact hr'
      exact absurd hr (by unfold CR; simp [CR0])
  · exact ⟨cs, rfl, ha⟩
theorem TyFit.one {lim : TypeId → Nat} {t : TypeId} {kd : Kd} (h : TyFit P lim t kd) (hs : kd.isSt = false) : kd.sz = 1 := by
  cases kd <;> first | rfl | exact h.2.elim | cases hs


/-- the world's cells of a box -/
theorem box_cells {b off : Nat} {t : TypeId} {vs : Array Value} (hb : w.heap[b]? = some (.cells vs t (0, 0))) {cs : List Value} (hcs : ∀ (j : Nat) (v : Value), cs[j]? = some v → vs[off + j]? = some v) :
    ∀ (j : Nat) (v : Value), cs[j]? = some v → w.cell? ((⟨b, off, none⟩ : Addr).add j) = some v := fun j v hj => by
  rw [add_off, cell_of_row w b _ vs t (0, 0) hb]; exact hcs j v hj

theorem subAt_Rd {w : World} {Z : Nat → Prop} {q : Kd} {y : q.Ty} : ∀ {k : Kd} {x : k.Ty} {off : Nat} {cs : List Value}, subAt k x off q = some y → Rd w Z k x cs → ∃ a b c, cs = a ++ (b ++ c) ∧ a.length = off ∧ Rd w Z q y b := by
  intro k
  have leaf : ∀ {k : Kd} {x : k.Ty} {off : Nat} {cs : List Value}, (if hq : k = q then (if off = 0 then some (hq ▸ x) else none) else none) = some y → Rd w Z k x cs → ∃ a b c, cs = a ++ (b ++ c) ∧ a.length = off ∧ Rd w Z q y b := by
    intro k x off cs hs hr
    split at hs
    · rename_i hq; subst hq
      split at hs
      · rename_i h0; subst h0; cases hs; exact ⟨[], cs, [], by simp, rfl, hr⟩
      · cases hs
    · cases hs
  induction k with
  | int j => intro x off cs hs hr; exact leaf hs hr
  | bool => intro x off cs hs hr; exact leaf hs hr
  | str => intro x off cs hs hr; exact leaf hs hr
  | raw => intro x off cs hs hr; exact leaf hs hr
  | err => intro x off cs hs hr; exact leaf hs hr
  | sl e k ih => intro x off cs hs hr; exact leaf hs hr
  | st k ih =>
    intro x off cs hs hr
    unfold subAt at hs
    split at hs
    · rename_i hq; subst hq
      split at hs
      · rename_i h0; subst h0; cases hs; exact ⟨[], cs, [], by simp, rfl, hr⟩
      · exact ih hs hr
    · exact ih hs hr
  | pair a b iha ihb =>
    intro x off cs hs hr
    unfold subAt at hs
    split at hs
    · rename_i hq; subst hq
      split at hs
      · rename_i h0; subst h0; cases hs; exact ⟨[], cs, [], by simp, rfl, hr⟩
      · cases hs
    · obtain ⟨c1, c2, rfl, h1, h2⟩ := hr
      split at hs
      · obtain ⟨p, m, s, rfl, hp, hm⟩ := iha hs h1
        exact ⟨p, m, s ++ c2, by simp, hp, hm⟩
      · rename_i hlt
        have hge : a.sz ≤ off := by
          rcases Nat.lt_or_ge off a.sz with h | h
          · exact absurd (show Nat.blt off a.sz = true by rw [Nat.blt_eq]; exact h) (by rw [hlt]; simp)
          · exact h
        obtain ⟨p, m, s, rfl, hp, hm⟩ := ihb hs h2
        exact ⟨c1 ++ p, m, s, by simp, by simp [hp, h1.len]; omega, hm⟩

/-- the element that a pointer into a row leads to -/
theorem Rd.elem {k : Kd} {e : TypeId} {xs : List k.Ty} {A : Addr} {n c : Nat} (hr : Rd w Z (.sl e k) xs [.slice (some A) n c]) (hA : A.spot = none) {i : Int} (h0 : 0 ≤ i) (hi : i < (n : Int)) :
    n = xs.length ∧ ∃ cs, cs.length = k.sz ∧ Rd w Z k (rdk k xs i) cs ∧ ∀ (j : Nat) (v : Value), cs[j]? = some v → w.cell? ⟨A.block, A.off + (i.toNat * k.sz + j), none⟩ = some v := by
  obtain ⟨A', c', hv, _, _, hrow⟩ := hr
  simp only [List.cons.injEq, Value.slice.injEq, and_true] at hv
  obtain ⟨hA', hn, _⟩ := hv
  refine ⟨hn, ?_⟩
  rcases hrow with hx | ⟨ad, h1, h2, h3, h4⟩
  · subst hx; simp at hn; omega
  · rw [← hA'] at h1
    cases h1
    have hlt : i.toNat < xs.length := by omega
    obtain ⟨cs, g1, g2, g3⟩ := h4 i.toNat _ (List.getElem?_eq_getElem hlt)
    refine ⟨cs, g1, ?_, g3⟩
    unfold rdk
    rw [List.getD_eq_getElem?_getD, List.getElem?_eq_getElem hlt]
    exact g2

theorem injC_plain {Z : Nat → Prop} : ∀ {k : Kd} {x : k.Ty} {n : Nat} {cs : List Value}, (injC false k x n).2 = [] → Rd w Z k x cs → All2 (CR C) (injC false k x n).1 cs := by
  intro k
  induction k with
  | int j => intro x n cs _ hr; simp only [Rd] at hr; subst hr; simp [injC, All2, CR, CR0]
  | bool => intro x n cs _ hr; simp only [Rd] at hr; subst hr; simp [injC, All2, CR, CR0]
  | str => intro x n cs _ hr; simp only [Rd] at hr; subst hr; simp [injC, All2, CR, CR0]
  | raw => intro x n cs _ hr; simp only [Rd] at hr; subst hr; simp [injC, All2, CR, CR0]
  | err => intro x n cs _ hr; obtain ⟨v, rfl, he⟩ := hr; exact ⟨he, trivial⟩
  | sl e k ih => intro x n cs h _; simp [injC] at h
  | st k ih => intro x n cs h hr; exact ih h hr
  | pair a b iha ihb =>
    intro x n cs h hr
    obtain ⟨c1, c2, rfl, h1, h2⟩ := hr
    simp only [injC, List.append_eq_nil_iff] at h
    exact All2.append (iha h.1 h1) (ihb h.2 h2)

/-- the part of an element in the world -/
theorem row_part {rk kd : Kd} {e : TypeId} {xs : List rk.Ty} {A : Addr} {n c off : Nat} {Z : Nat → Prop} (hr : Rd w Z (.sl e rk) xs [.slice (some A) n c]) (hA : A.spot = none) {i : Int} (h0 : 0 ≤ i) (hi : i < (n : Int))
    {y : kd.Ty} (hs : subAt rk (rdk rk xs i) off kd = some y) :
    ∃ cs, Rd w Z kd y cs ∧ ∀ (j : Nat) (v : Value), cs[j]? = some v → w.cell? ((⟨A.block, A.off + (i.toNat * rk.sz + off), none⟩ : Addr).add j) = some v := by
  obtain ⟨_, cs, _, hrd, hcell⟩ := hr.elem hA h0 hi
  obtain ⟨p, m, s, rfl, hp, hm⟩ := subAt_Rd hs hrd
  refine ⟨m, hm, fun j v hj => ?_⟩
  rw [add_off]
  have := hcell (off + j) v (by
    rw [List.getElem?_append_right (by omega), List.getElem?_append_left (by rw [hp]; have := (List.getElem?_eq_some_iff.1 hj).1; omega)]
    rw [hp]; simpa using hj)
  rw [← this]
  congr 2
  omega

theorem evLoad_ok (ok : TyOk P env) {t : TypeId} {a : AV} {n : Nat} {K : Eff → Option R} {r : R} (hk : evLoad env t a h n K = some r) :
    ∃ e, K e = some r ∧ ∀ {h1 : List (Nat × Blk)} {C : Cons} {Z : Nat → Prop} {w : World} {v : Value}, HR B Fr Z0 w0 h1 C Z w → Sub h h1 → Fresh n e h1 → VR C a v → Does B Fr Z0 w0 h1 C ((Instr.loadAt t v).run P w) e := by
  unfold evLoad at hk
  split at hk
  · -- a box
    rename_i id off
    split at hk
    · rename_i t' cs hb
      split at hk
      · rename_i kd hty
        split at hk
        · rename_i hle
          refine ⟨_, hk, fun {h1 C Z w v} H hs _ hv => ?_⟩
          obtain ⟨b, hC, rfl⟩ := hv.ptr
          obtain ⟨c, hc, hbr⟩ := H.blk id _ (hs _ _ (blkOf_lk hb (by simp)))
          rw [hC] at hc; cases hc
          obtain ⟨vs, hvs, ha⟩ := hbr
          have hle' := Nat.le_of_ble_eq_true hle
          have hlen := ha.length
          have ha' := All2.take kd.sz (All2.drop off ha)
          have hcl : ((vs.toList.drop off).take kd.sz).length = kd.sz := by simp; simp at hlen; omega
          have hrun := run_loadVar (w := w) (ok.ty t kd hty) (a := ⟨b, off, none⟩) hcl (box_cells hvs fun j v hj => by
            rw [List.getElem?_take] at hj
            split at hj
            · rw [List.getElem?_drop] at hj; simpa using hj
            · cases hj)
          rw [show (Instr.loadAt t (.pointer (some ⟨b, off, none⟩))).run P w = (loadVar t ⟨b, off, none⟩).run P w from by simp [Instr.loadAt, Instr.sureAddr], hrun]
          exact Does.pure H (ofCells_VR hcl (ok.ty t kd hty).one ha')
        · cases hk
      · rename_i hty
        split at hk
        · rename_i c rest h1o hd
          refine ⟨_, hk, fun {h1 C Z w v} H hs _ hv => ?_⟩
          obtain ⟨b, hC, rfl⟩ := hv.ptr
          obtain ⟨c0, hc, hbr⟩ := H.blk id _ (hs _ _ (blkOf_lk hb (by simp)))
          rw [hC] at hc; cases hc
          obtain ⟨vs, hvs, ha⟩ := hbr
          have ha' := All2.drop off ha
          rw [hd] at ha'
          match hd2 : vs.toList.drop off, ha' with
          | u :: us, ⟨hu, _⟩ =>
            obtain ⟨d, hdd, hnd, i, hi, hi1⟩ := ok.one t h1o
            have hcell : w.cell? ⟨b, off, none⟩ = some u := by
              rw [cell_of_row w b _ vs t' (0, 0) hvs]
              have : (vs.toList.drop off)[0]? = some u := by rw [hd2]; rfl
              rw [List.getElem?_drop] at this
              simpa using this
            have hrun' : (Instr.loadAt t (.pointer (some ⟨b, off, none⟩))).run P w = .ok u w := by
              cases d <;> first | exact hnd.elim | simp [Instr.loadAt, Instr.sureAddr, loadVar, isAgg, underlying, hdd, hcell]
            rw [hrun']
            refine Does.pure H ?_
            have hv1 : VR1 C c u := by
              cases c <;> try exact hu
              exact absurd hu (by unfold CR; simp [CR0])
            cases c <;> try exact hv1
            exact absurd hu (by unfold CR; simp [CR0])
          | [], hno => exact hno.elim
        · cases hk
    · cases hk
  · -- a row
    rename_i id i off sz
    split at hk
    · rename_i rk e xs own kd hb hty
      split at hk
      · rename_i y hsz hsub
        have hsz := Nat.eq_of_beq_eq_true hsz
        subst hsz
        refine ⟨_, hk, fun {h1 C Z w v} H hs hf hv => ?_⟩
        obtain ⟨A, m, c, F, hC, hA, h0, hi, rfl⟩ := hv.ep
        have hl := hs _ _ (blkOf_lk hb (by simp))
        obtain ⟨c0, hc, hbr⟩ := H.blk id _ hl
        rw [hC] at hc; cases hc
        have fin : ∀ {Z1 : Nat → Prop} {cs : List Value}, Rd w Z1 kd y cs → (∀ (j : Nat) (v : Value), cs[j]? = some v → w.cell? ((⟨A.block, A.off + (i.toNat * rk.sz + off), none⟩ : Addr).add j) = some v) →
            (Instr.loadAt t (.pointer (some ⟨A.block, A.off + (i.toNat * rk.sz + off), none⟩))).run P w = .ok (asV kd cs) w := fun {Z1 cs} hrd hcell => by
          rw [show (Instr.loadAt t (.pointer (some ⟨A.block, A.off + (i.toNat * rk.sz + off), none⟩))).run P w = (loadVar t ⟨A.block, A.off + (i.toNat * rk.sz + off), none⟩).run P w from by simp [Instr.loadAt, Instr.sureAddr]]
          exact run_loadVar (ok.ty t kd hty) hrd.len hcell
        have h1s := (ok.ty t kd hty).one
        cases own
        · obtain ⟨hF, hrd⟩ := hbr
          obtain ⟨cs, hy, hcell⟩ := row_part hrd hA h0 hi hsub
          obtain ⟨C', H', hx, ha⟩ := H.injRo (n := n) hf hy
          rw [fin hy hcell]
          exact ⟨_, w, C', Z, rfl, H', hx, ofCells_VR hy.len h1s ha⟩
        · rcases hnew : (injC false kd y n).2 with _ | ⟨q, qs⟩
          · obtain ⟨v', F', hC', hrd⟩ := H.rowRd hl
            rw [hC] at hC'; cases hC'
            obtain ⟨cs, hy, hcell⟩ := row_part hrd hA h0 hi hsub
            rw [fin hy hcell]
            exact ⟨_, w, C, Z, rfl, H, Ext.refl C, ofCells_VR hy.len h1s (injC_plain hnew hy)⟩
          · have H1 := H.freeze hl hC
            have hrd := hbr.1.rd (Z := fun b => Z b ∨ b ∈ F) (fun b hb => .inr hb)
            obtain ⟨cs, hy, hcell⟩ := row_part hrd hA h0 hi hsub
            obtain ⟨C', H', hx, ha⟩ := H1.injRo (n := n) (k := kd) (x := y) (fun j hj hj' => by
              have := hf j hj (by simpa using hj')
              rw [lk_ne _ _ (fun e => by subst e; rw [hl] at this; cases this)]
              exact this) hy
            rw [fin hy hcell]
            rw [hnew] at H'
            exact ⟨_, w, C', fun b => Z b ∨ b ∈ F, rfl, H', (Ext.put_row hC).trans hx, ofCells_VR hy.len h1s ha⟩
      · cases hk
    · cases hk
  · cases hk


theorem VR.cells {a : AV} {v : Value} (hv : VR C a v) (hd : (cellsOf a).all AV.isDef = true) : All2 (CR C) (cellsOf a) v.cells.toList ∧ ∀ u, u ∈ v.cells.toList → u.oneCell' = true := by
  have key : ∀ {as : List AV} {vs : List Value}, All2 (CR C) as vs → as.all AV.isDef = true → ∀ u, u ∈ vs → u.oneCell' = true := by
    intro as
    induction as with
    | nil => intro vs ha _ u hu; cases vs <;> simp_all [All2]
    | cons a as ih =>
      intro vs ha hall u hu
      match vs, ha with
      | v :: vs, ⟨h1, h2⟩ =>
        simp only [List.all_cons, Bool.and_eq_true] at hall
        rcases List.mem_cons.1 hu with hu | hu
        · subst hu; exact h1.one hall.1
        · exact ih h2 hall.2 u hu
  have main : All2 (CR C) (cellsOf a) v.cells.toList := by
    cases a with
    | agg cs => obtain ⟨vs, rfl, ha⟩ := hv; simpa [cellsOf, Value.cells] using ha
    | undef => simp [cellsOf, AV.isDef] at hd
    | tup vs => simp [cellsOf, AV.isDef] at hd
    | nil => have := hv.nil; subst this; exact ⟨rfl, trivial⟩
    | nilp => have h : v = .pointer none := hv; subst h; exact ⟨rfl, trivial⟩
    | int k n => have := hv.int; subst this; exact ⟨rfl, trivial⟩
    | bool b => have := hv.bool; subst this; exact ⟨rfl, trivial⟩
    | str s => have := hv.str; subst this; exact ⟨rfl, trivial⟩
    | err b =>
      have h : ErrV b v := hv
      have e : v.cells.toList = [v] := by rcases h with ⟨_, rfl⟩ | ⟨_, t, p, rfl⟩ <;> rfl
      rw [e]; exact ⟨h, trivial⟩
    | raw s =>
      have h : v = s.1 := hv
      subst h
      have e : s.1.cells.toList = [s.1] := cells_one s.2
      rw [e]; exact ⟨rfl, trivial⟩
    | tl id i sz =>
      have h := hv
      obtain ⟨A, n, c, F, h1, h2, h3, h4, rfl⟩ : ∃ A n c F, C id = some (.row (.slice A n c) F) ∧ 0 ≤ i ∧ i ≤ (n : Int) ∧ n ≤ c ∧ v = .slice (if c = i.toNat then A else A.map (·.add (i.toNat * sz))) (n - i.toNat) (c - i.toNat) := hv
      exact ⟨h, trivial⟩
    | sl id => obtain ⟨hF, A, n, c, rfl⟩ := hv.sl; exact ⟨⟨hF, A, n, c, rfl⟩, trivial⟩
    | ep id i off sz => have h := hv; obtain ⟨A, n, c, F, h1, h2, h3, h4, rfl⟩ := hv.ep; exact ⟨h, trivial⟩
    | ptr id off => have h := hv; obtain ⟨b, h1, rfl⟩ := hv.ptr; exact ⟨h, trivial⟩
    | fn f caps => have h : CR C (.fn f caps) v := hv; obtain ⟨vs, rfl, h2⟩ := hv; exact ⟨h, trivial⟩
  exact ⟨main, key main hd⟩

theorem evBox_ok {t : TypeId} {a : AV} {v : Value} {n : Nat} (hd : (cellsOf a).all AV.isDef = true) (H : HR B Fr Z0 w0 h1 C Z w) (hf : lk h1 n = none) (hv : VR C a v) :
    Does B Fr Z0 w0 h1 C ((Instr.box t v).run P w) ⟨.ptr n 0, [], [(n, .box t (cellsOf a))]⟩ := by
  obtain ⟨hc, _⟩ := hv.cells hd
  refine ⟨.pointer (some ⟨w.heap.size, 0, none⟩), w.alloc (.cells v.cells t), C.put n (.box w.heap.size), Z, ?_, H.addBox hf hc, Ext.put_new (H.dom n hf), ⟨_, Cons.put_same _ _ _, rfl⟩⟩
  simp [Instr.box, newVar, newRow]

theorem evAlloc_ok (ok : TyOk P env) {t : TypeId} {kd : Kd} (ht : env.ty t = some kd) {n : Nat} (H : HR B Fr Z0 w0 h1 C Z w) (hf : lk h1 n = none) :
    Does B Fr Z0 w0 h1 C ((Instr.alloc t true (.tuple #[])).run P w) ⟨.ptr n 0, [], [(n, .box t (zeroAVs kd))]⟩ := by
  have hT := ok.ty t kd ht
  have hT2 := hT
  obtain ⟨⟨i, hi, hs, hz⟩, _⟩ := hT2
  have hc := zero_CR C kd
  rw [← zeroV_cells kd hT.noPair] at hc
  refine ⟨.pointer (some ⟨w.heap.size, 0, none⟩), w.alloc (.cells (zeroV kd).cells t), C.put n (.box w.heap.size), Z, ?_, H.addBox hf hc, Ext.put_new (H.dom n hf), ⟨_, Cons.put_same _ _ _, rfl⟩⟩
  simp [Instr.alloc, zeroValue, typeInfo, hi, hz, newVar, newRow]

theorem over_All2 {as ys : List AV} {vs us : List Value} {off : Nat} (ha : All2 (CR C) as vs) (hy : All2 (CR C) ys us) :
    All2 (CR C) (over as off ys) (vs.take off ++ us ++ vs.drop (off + us.length)) := by
  unfold over
  rw [List.append_assoc, hy.length]
  exact All2.append (All2.take _ ha) (All2.append hy (All2.drop _ ha))

theorem storeSize (ok : TyOk P env) {t : TypeId} {a : AV} (h : (match env.ty t with | some kd => Nat.beq kd.sz (cellsOf a).length | none => env.one t && Nat.beq 1 (cellsOf a).length) = true) :
    ∃ i, P.info? t = some i ∧ i.size = (cellsOf a).length := by
  split at h
  · rename_i kd hty
    obtain ⟨⟨i, hi, hs, _⟩, _⟩ := ok.ty t kd hty
    exact ⟨i, hi, hs.trans (Nat.eq_of_beq_eq_true h)⟩
  · rw [Bool.and_eq_true] at h
    obtain ⟨d, _, _, i, hi, h1⟩ := ok.one t h.1
    exact ⟨i, hi, h1.trans (Nat.eq_of_beq_eq_true h.2)⟩


theorem plain_Ow {w : World} {Z : Nat → Prop} : ∀ {k : Kd} {x : k.Ty} {cs : List Value}, k.plain = true → Rd w Z k x cs → Ow w k [] x cs := by
  intro k
  induction k with
  | int j => intro x cs _ h; exact ⟨rfl, h⟩
  | bool => intro x cs _ h; exact ⟨rfl, h⟩
  | str => intro x cs _ h; exact ⟨rfl, h⟩
  | raw => intro x cs _ h; exact ⟨rfl, h⟩
  | err => intro x cs hp _; cases hp
  | sl e k ih => intro x cs hp _; cases hp
  | st k ih => intro x cs hp h; exact ih hp h
  | pair a b iha ihb =>
    intro x cs hp h
    simp only [Kd.plain, Bool.and_eq_true] at hp
    obtain ⟨c1, c2, h0, h1, h2⟩ := h
    exact ⟨[], [], c1, c2, rfl, h0, iha hp.1 h1, ihb hp.2 h2⟩
theorem plain_F {w : World} : ∀ {k : Kd} {F : List Nat} {x : k.Ty} {cs : List Value}, k.plain = true → Ow w k F x cs → F = [] := by
  intro k
  induction k with
  | int j => intro F x cs _ h; exact h.1
  | bool => intro F x cs _ h; exact h.1
  | str => intro F x cs _ h; exact h.1
  | raw => intro F x cs _ h; exact h.1
  | err => intro F x cs hp _; cases hp
  | sl e k ih => intro F x cs hp _; cases hp
  | st k ih => intro F x cs hp h; exact ih hp h
  | pair a b iha ihb =>
    intro F x cs hp h
    simp only [Kd.plain, Bool.and_eq_true] at hp
    obtain ⟨F1, F2, c1, c2, rfl, _, h1, h2⟩ := h
    rw [iha hp.1 h1, ihb hp.2 h2]; rfl

theorem setAt_Ow {w : World} {Z : Nat → Prop} {q : Kd} {y : q.Ty} {ys : List Value} (hq : q.plain = true) (hy : Rd w Z q y ys) : ∀ {k : Kd} {x z : k.Ty} {off : Nat} {F : List Nat} {cs : List Value}, setAt k x off q y = some z → Ow w k F x cs →
    ∃ a b c, cs = a ++ (b ++ c) ∧ a.length = off ∧ b.length = ys.length ∧ Ow w k F z (a ++ (ys ++ c)) := by
  intro k
  have leaf : ∀ {k : Kd} {x z : k.Ty} {off : Nat} {F : List Nat} {cs : List Value}, (if hq : q = k then (if off = 0 then some (hq ▸ y) else none) else none) = some z → Ow w k F x cs →
      ∃ a b c, cs = a ++ (b ++ c) ∧ a.length = off ∧ b.length = ys.length ∧ Ow w k F z (a ++ (ys ++ c)) := by
    intro k x z off F cs hs ho
    split at hs
    · rename_i e; subst e
      split at hs
      · rename_i h0; subst h0; cases hs
        refine ⟨[], cs, [], by simp, rfl, by rw [ho.len, hy.len], ?_⟩
        have hF := plain_F hq ho
        subst hF
        simpa using plain_Ow hq hy
      · cases hs
    · cases hs
  induction k with
  | int j => intro x z off F cs hs ho; exact leaf hs ho
  | bool => intro x z off F cs hs ho; exact leaf hs ho
  | str => intro x z off F cs hs ho; exact leaf hs ho
  | raw => intro x z off F cs hs ho; exact leaf hs ho
  | err => intro x z off F cs hs ho; exact leaf hs ho
  | sl e k ih => intro x z off F cs hs ho; exact leaf hs ho
  | st k ih =>
    intro x z off F cs hs ho
    unfold setAt at hs
    split at hs
    · rename_i e; subst e
      split at hs
      · rename_i h0; subst h0; cases hs
        refine ⟨[], cs, [], by simp, rfl, by rw [ho.len, hy.len], ?_⟩
        have hF := plain_F hq ho
        subst hF
        simpa using plain_Ow hq hy
      · exact ih hs ho
    · exact ih hs ho
  | pair a b iha ihb =>
    intro x z off F cs hs ho
    unfold setAt at hs
    obtain ⟨F1, F2, c1, c2, rfl, rfl, h1, h2⟩ := ho
    split at hs
    · split at hs
      · rename_i z1 hz; cases hs
        obtain ⟨p, m, s, rfl, hp, hm, ho⟩ := iha hz h1
        exact ⟨p, m, s ++ c2, by simp, hp, hm, F1, F2, p ++ (ys ++ s), c2, rfl, by simp, ho, h2⟩
      · cases hs
    · rename_i hlt
      have hge : a.sz ≤ off := by
        rcases Nat.lt_or_ge off a.sz with h | h
        · exact absurd (show Nat.blt off a.sz = true by rw [Nat.blt_eq]; exact h) (by rw [hlt]; simp)
        · exact h
      split at hs
      · rename_i z1 hz; cases hs
        obtain ⟨p, m, s, rfl, hp, hm, ho⟩ := ihb hz h2
        exact ⟨c1 ++ p, m, s, by simp, by simp [hp, h1.len]; omega, hm, F1, F2, c1, p ++ (ys ++ s), rfl, by simp, h1, ho⟩
      · cases hs

theorem Reps_set {α : Type} {p : List Nat → α → List Value → Prop} {sz : Nat} : ∀ {xs : List α} {F : List Nat} {cs : List Value}, Reps p sz F xs cs → ∀ (i : Nat) (x : α), xs[i]? = some x →
    ∃ G c pre post, (∀ b, b ∈ G → b ∈ F) ∧ cs = pre ++ (c ++ post) ∧ pre.length = i * sz ∧ c.length = sz ∧ p G x c ∧ ∀ z c', c'.length = sz → p G z c' → Reps p sz F (xs.set i z) (pre ++ (c' ++ post))
  | [], _, _, _, i, x, hi => by simp at hi
  | y :: ys, F, cs, ⟨F1, F2, c1, c2, h1, h2, h3, h4, h5⟩, 0, x, hi => by
    simp at hi; subst hi
    refine ⟨F1, c1, [], c2, fun b hb => by subst h1; exact List.mem_append_left _ hb, by simpa using h2, by simp, h3, h4, fun z c' hc hz => ⟨F1, F2, c', c2, h1, by simp, hc, hz, h5⟩⟩
  | y :: ys, F, cs, ⟨F1, F2, c1, c2, h1, h2, h3, h4, h5⟩, i + 1, x, hi => by
    obtain ⟨G, c, pre, post, g0, g1, g2, g3, g4, g5⟩ := Reps_set h5 i x (by simpa using hi)
    refine ⟨G, c, c1 ++ pre, post, fun b hb => by subst h1; exact List.mem_append_right _ (g0 b hb), by rw [h2, g1]; simp, by simp [h3, g2, Nat.add_mul]; omega, g3, g4, fun z c' hc hz => ?_⟩
    exact ⟨F1, F2, c1, pre ++ (c' ++ post), h1, by simp, h3, h4, g5 z c' hc hz⟩

theorem setRow_out (w : World) (g : Nat) (cs : Array Value) : (w.setRow g cs).os = w.os ∧ (w.setRow g cs).tape = w.tape ∧ (w.setRow g cs).output = w.output := ⟨rfl, rfl, rfl⟩

theorem run_storeAt {t : TypeId} {b off : Nat} {v : Value} {i : TypeInfo} (hi : P.info? t = some i) (hs : i.size = v.cells.size) {t' : TypeId} {cur : Array Value} (hb : w.heap[b]? = some (.cells cur t' (0, 0)))
    (hl : off + v.cells.size ≤ cur.size) (h1 : ∀ u, u ∈ v.cells.toList → u.oneCell' = true) :
    (Instr.storeAt t (.pointer (some ⟨b, off, none⟩)) v).run P w = .ok () (w.setRow b (cur.toList.take off ++ v.cells.toList ++ cur.toList.drop (off + v.cells.toList.length)).toArray) := by
  have := run_storeCells_at (P := P) b off t' v.cells.toList 0 cur w hb (by simpa using hl) h1
  simp only [Nat.add_zero] at this
  simp [Instr.storeAt, Instr.sureAddr, storeVar, sizeOf, typeInfo, hi, hs, this]


def DoesU (B : Nat) (Fr Z0 : Nat → Prop) (w0 : World) (h1 : List (Nat × Blk)) (C : Cons) (r : Result Unit) (e : Eff) : Prop :=
  ∃ w' C' Z', r = .ok () w' ∧ HR B Fr Z0 w0 (e.new ++ (e.upd ++ h1)) C' Z' w' ∧ Ext C C'

theorem reC_plain {w : World} {Z : Nat → Prop} : ∀ {k : Kd} {l l' : List AV} {x : k.Ty} {vs : List Value}, k.plain = true → reC [] k l = some (x, l') → All2 (CR C) l vs → ∃ cs vs', vs = cs ++ vs' ∧ Rd w Z k x cs ∧ All2 (CR C) l' vs' := by
  intro k
  induction k with
  | int j =>
    intro l l' x vs _ hr ha
    match l, vs, ha with
    | [], _, _ => simp [reC] at hr
    | .int i n :: l, v :: vs, ⟨h1, h2⟩ =>
      simp only [reC] at hr
      split at hr
      · rename_i e; subst e; cases hr
        simp only [CR, CR0] at h1
        exact ⟨[v], vs, rfl, by rw [h1]; rfl, h2⟩
      · cases hr
    | .undef :: _, _, _ | .nil :: _, _, _ | .nilp :: _, _, _ | .bool _ :: _, _, _ | .str _ :: _, _, _ | .sl _ :: _, _, _ | .ep _ _ _ _ :: _, _, _ | .ptr _ _ :: _, _, _ | .agg _ :: _, _, _ | .tup _ :: _, _, _ | .fn _ _ :: _, _, _ | .raw _ :: _, _, _ | .tl _ _ _ :: _, _, _ | .err _ :: _, _, _ => simp [reC] at hr
  | bool =>
    intro l l' x vs _ hr ha
    match l, vs, ha with
    | [], _, _ => simp [reC] at hr
    | .bool b :: l, v :: vs, ⟨h1, h2⟩ =>
      simp only [reC] at hr; cases hr
      simp only [CR, CR0] at h1
      exact ⟨[v], vs, rfl, by rw [h1]; rfl, h2⟩
    | .undef :: _, _, _ | .nil :: _, _, _ | .nilp :: _, _, _ | .int _ _ :: _, _, _ | .str _ :: _, _, _ | .sl _ :: _, _, _ | .ep _ _ _ _ :: _, _, _ | .ptr _ _ :: _, _, _ | .agg _ :: _, _, _ | .tup _ :: _, _, _ | .fn _ _ :: _, _, _ | .raw _ :: _, _, _ | .tl _ _ _ :: _, _, _ | .err _ :: _, _, _ => simp [reC] at hr
  | err =>
    intro l l' x vs _ hr ha
    match l, vs, ha with
    | [], _, _ => simp [reC] at hr
    | .err b :: l, v :: vs, ⟨h1, h2⟩ =>
      simp only [reC] at hr; cases hr
      simp only [CR, CR0] at h1
      exact ⟨[v], vs, rfl, ⟨v, rfl, h1⟩, h2⟩
    | .undef :: _, _, _ | .nil :: _, _, _ | .nilp :: _, _, _ | .int _ _ :: _, _, _ | .str _ :: _, _, _ | .sl _ :: _, _, _ | .ep _ _ _ _ :: _, _, _ | .ptr _ _ :: _, _, _ | .agg _ :: _, _, _ | .tup _ :: _, _, _ | .fn _ _ :: _, _, _ | .raw _ :: _, _, _ | .tl _ _ _ :: _, _, _ | .bool _ :: _, _, _ => simp [reC] at hr
  | str =>
    intro l l' x vs _ hr ha
    match l, vs, ha with
    | [], _, _ => simp [reC] at hr
    | .str s :: l, v :: vs, ⟨h1, h2⟩ =>
      simp only [reC] at hr; cases hr
      simp only [CR, CR0] at h1
      exact ⟨[v], vs, rfl, by rw [h1]; rfl, h2⟩
    | .undef :: _, _, _ | .nil :: _, _, _ | .nilp :: _, _, _ | .int _ _ :: _, _, _ | .bool _ :: _, _, _ | .sl _ :: _, _, _ | .ep _ _ _ _ :: _, _, _ | .ptr _ _ :: _, _, _ | .agg _ :: _, _, _ | .tup _ :: _, _, _ | .fn _ _ :: _, _, _ | .raw _ :: _, _, _ | .tl _ _ _ :: _, _, _ | .err _ :: _, _, _ => simp [reC] at hr
  | raw =>
    intro l l' x vs _ hr ha
    match l, vs, ha with
    | [], _, _ => simp [reC] at hr
    | .raw s :: l, v :: vs, ⟨h1, h2⟩ =>
      simp only [reC] at hr; cases hr
      simp only [CR, CR0] at h1
      exact ⟨[v], vs, rfl, by rw [h1]; rfl, h2⟩
    | .undef :: _, _, _ | .nil :: _, _, _ | .nilp :: _, _, _ | .int _ _ :: _, _, _ | .bool _ :: _, _, _ | .sl _ :: _, _, _ | .ep _ _ _ _ :: _, _, _ | .ptr _ _ :: _, _, _ | .agg _ :: _, _, _ | .tup _ :: _, _, _ | .fn _ _ :: _, _, _ | .str _ :: _, _, _ | .tl _ _ _ :: _, _, _ | .err _ :: _, _, _ => simp [reC] at hr
  | sl e k ih => intro l l' x vs hp; cases hp
  | st k ih => intro l l' x vs hp hr ha; exact ih hp (by simpa [reC] using hr) ha
  | pair a b iha ihb =>
    intro l l' x vs hp hr ha
    simp only [Kd.plain, Bool.and_eq_true] at hp
    simp only [reC] at hr
    split at hr
    · rename_i x1 l1 hx1
      split at hr
      · rename_i y1 l2 hy1
        cases hr
        obtain ⟨c1, v1, rfl, r1, s1⟩ := iha hp.1 hx1 ha
        obtain ⟨c2, v2, rfl, r2, s2⟩ := ihb hp.2 hy1 s1
        exact ⟨c1 ++ c2, v2, by simp, ⟨c1, c2, rfl, r1, r2⟩, s2⟩
      · cases hr
    · cases hr
theorem reC_def : ∀ {k : Kd} {l l' : List AV} {x : k.Ty} {h : List (Nat × Blk)}, reC h k l = some (x, l') → ∃ p, l = p ++ l' ∧ p.all AV.isDef = true := by
  intro k
  induction k with
  | int j =>
    intro l l' x h hr
    match l with
    | .int i n :: l => simp only [reC] at hr; split at hr; (· cases hr; exact ⟨[_], rfl, rfl⟩); (· cases hr)
    | [] | .undef :: _ | .nil :: _ | .nilp :: _ | .bool _ :: _ | .str _ :: _ | .sl _ :: _ | .ep _ _ _ _ :: _ | .ptr _ _ :: _ | .agg _ :: _ | .tup _ :: _ | .fn _ _ :: _ | .raw _ :: _ | .tl _ _ _ :: _ | .err _ :: _ => simp [reC] at hr
  | bool =>
    intro l l' x h hr
    match l with
    | .bool b :: l => simp only [reC] at hr; cases hr; exact ⟨[_], rfl, rfl⟩
    | [] | .undef :: _ | .nil :: _ | .nilp :: _ | .int _ _ :: _ | .str _ :: _ | .sl _ :: _ | .ep _ _ _ _ :: _ | .ptr _ _ :: _ | .agg _ :: _ | .tup _ :: _ | .fn _ _ :: _ | .raw _ :: _ | .tl _ _ _ :: _ | .err _ :: _ => simp [reC] at hr
  | err =>
    intro l l' x h hr
    match l with
    | .err b :: l => simp only [reC] at hr; cases hr; exact ⟨[_], rfl, rfl⟩
    | [] | .undef :: _ | .nil :: _ | .nilp :: _ | .int _ _ :: _ | .str _ :: _ | .sl _ :: _ | .ep _ _ _ _ :: _ | .ptr _ _ :: _ | .agg _ :: _ | .tup _ :: _ | .fn _ _ :: _ | .raw _ :: _ | .tl _ _ _ :: _ | .bool _ :: _ => simp [reC] at hr
  | str =>
    intro l l' x h hr
    match l with
    | .str b :: l => simp only [reC] at hr; cases hr; exact ⟨[_], rfl, rfl⟩
    | [] | .undef :: _ | .nil :: _ | .nilp :: _ | .int _ _ :: _ | .bool _ :: _ | .sl _ :: _ | .ep _ _ _ _ :: _ | .ptr _ _ :: _ | .agg _ :: _ | .tup _ :: _ | .fn _ _ :: _ | .raw _ :: _ | .tl _ _ _ :: _ | .err _ :: _ => simp [reC] at hr
  | raw =>
    intro l l' x h hr
    match l with
    | .raw b :: l => simp only [reC] at hr; cases hr; exact ⟨[_], rfl, rfl⟩
    | [] | .undef :: _ | .nil :: _ | .nilp :: _ | .int _ _ :: _ | .bool _ :: _ | .sl _ :: _ | .ep _ _ _ _ :: _ | .ptr _ _ :: _ | .agg _ :: _ | .tup _ :: _ | .fn _ _ :: _ | .str _ :: _ | .tl _ _ _ :: _ | .err _ :: _ => simp [reC] at hr
  | sl e k ih =>
    intro l l' x h hr
    match l with
    | .nil :: l => simp only [reC] at hr; cases hr; exact ⟨[_], rfl, rfl⟩
    | .sl id :: l =>
      simp only [reC] at hr
      split at hr
      · split at hr
        · split at hr
          · cases hr; exact ⟨[_], rfl, rfl⟩
          · cases hr
        · cases hr
      · cases hr
    | [] | .undef :: _ | .nilp :: _ | .int _ _ :: _ | .bool _ :: _ | .str _ :: _ | .ep _ _ _ _ :: _ | .ptr _ _ :: _ | .agg _ :: _ | .tup _ :: _ | .fn _ _ :: _ | .raw _ :: _ | .tl _ _ _ :: _ | .err _ :: _ => simp [reC] at hr
  | st k ih => intro l l' x h hr; exact ih (by simpa [reC] using hr)
  | pair a b iha ihb =>
    intro l l' x h hr
    simp only [reC] at hr
    split at hr
    · rename_i x1 l1 hx1
      split at hr
      · rename_i y1 l2 hy1
        cases hr
        obtain ⟨p, rfl, hp⟩ := iha hx1
        obtain ⟨q, rfl, hq⟩ := ihb hy1
        exact ⟨p ++ q, by simp, by simp [hp, hq]⟩
      · cases hr
    · cases hr

theorem list_cut3 {α : Type} {l p m s y : List α} (h : l = p ++ (m ++ s)) (hl : y.length = m.length) : l.take p.length ++ y ++ l.drop (p.length + y.length) = p ++ (y ++ s) := by
  subst h
  rw [List.take_left, hl, ← List.drop_drop, List.drop_left, List.drop_left, List.append_assoc]

theorem evStore_ok (ok : TyOk P env) {t : TypeId} {a x : AV} {K : Eff → Option R} {r : R} (hk : evStore env t a x h K = some r) :
    ∃ e, K e = some r ∧ e.v = .undef ∧ e.new = [] ∧ ∀ {h1 : List (Nat × Blk)} {C : Cons} {Z : Nat → Prop} {w : World} {va vx : Value}, HR B Fr Z0 w0 h1 C Z w → Sub h h1 → VR C a va → VR C x vx → DoesU B Fr Z0 w0 h1 C ((Instr.storeAt t va vx).run P w) e := by
  unfold evStore at hk
  split at hk
  · rename_i id off
    split at hk
    · rename_i t' cs hb
      split at hk
      · rename_i hc
        simp only [Bool.and_eq_true] at hc
        obtain ⟨hsz, hle, hd⟩ := hc
        refine ⟨_, hk, rfl, rfl, fun {h1 C Z w va vx} H hs hva hvx => ?_⟩
        obtain ⟨b, hC, rfl⟩ := hva.ptr
        have hl := hs _ _ (blkOf_lk hb (by simp))
        obtain ⟨c, hc, hbr⟩ := H.blk id _ hl
        rw [hC] at hc; cases hc
        obtain ⟨vs, hvs, ha⟩ := hbr
        obtain ⟨hx, hone⟩ := hvx.cells hd
        obtain ⟨i, hi, his⟩ := storeSize ok hsz
        have hlen := ha.length
        have hxl := hx.length
        have hle' := Nat.le_of_ble_eq_true hle
        have hrun := run_storeAt (P := P) (w := w) (t := t) (b := b) (off := off) (v := vx) hi (by rw [his, hxl]; simp) hvs (by simp at hlen hxl; omega) hone
        refine ⟨_, C, Z, hrun, ?_, Ext.refl C⟩
        refine H.setBox hl hC (setRow_heap w b vs _ t' (0, 0) hvs) ?_ (fun q hq => setRow_other w b q _ hq) (by simp) rfl rfl ⟨rfl, DrLe.refl _⟩
        simp only [List.append_assoc] at *
        have := over_All2 (off := off) ha hx
        simpa [List.append_assoc] using this
      · cases hk
    · cases hk
  · rename_i id i off sz
    split at hk
    · rename_i rk e xs kd hb hty
      split at hk
      · rename_i y hcond hre
        simp only [Bool.and_eq_true] at hcond
        have hsz := Nat.eq_of_beq_eq_true hcond.1
        subst hsz
        split at hk
        · rename_i z hset
          refine ⟨_, hk, rfl, rfl, fun {h1 C Z w va vx} H hs hva hvx => ?_⟩
          obtain ⟨A, m, c, F, hC, hA, h0, hi, rfl⟩ := hva.ep
          have hl := hs _ _ (blkOf_lk hb (by simp))
          obtain ⟨c0, hc, hbr⟩ := H.blk id _ hl
          rw [hC] at hc; cases hc
          obtain ⟨how, hnd⟩ := hbr
          have how0 := how
          obtain ⟨v', cells, G, hv', hrow, hreps, hF⟩ := how
          simp only [List.cons.injEq, and_true] at hv'
          subst hv'
          obtain ⟨hcl, hrow⟩ := hrow
          rcases hrow with ⟨hv, _⟩ | ⟨g, cap, cur, hv, _, hg, hn, hcm, hcs, htake⟩
          · simp at hv
          simp only [Value.slice.injEq, Option.some.injEq] at hv
          obtain ⟨hAg, hm, hcap⟩ := hv
          subst hAg
          obtain ⟨p0, hp0, hdef⟩ := reC_def hre
          simp only [List.append_nil] at hp0
          subst hp0
          obtain ⟨hx, hone⟩ := hvx.cells hdef
          obtain ⟨ys, rest, hys, hrd, hrest⟩ := reC_plain (w := w) (Z := fun _ => False) hcond.2 hre hx
          have hrest0 : rest = [] := by cases rest with | nil => rfl | cons _ _ => exact hrest.elim
          subst hrest0
          rw [List.append_nil] at hys
          have hlt : i.toNat < xs.length := by omega
          have hget : xs[i.toNat]? = some (rdk rk xs i) := by unfold rdk; rw [List.getD_eq_getElem?_getD, List.getElem?_eq_getElem hlt]; rfl
          obtain ⟨G1, c1, pre, post, hG, hcells, hpre, hc1, hp1, hput⟩ := Reps_set hreps i.toNat _ hget
          obtain ⟨pa, pb, pc, rfl, hpa, hpb, how1⟩ := setAt_Ow (w := w) hcond.2 hrd hset hp1
          have hT := ok.ty t kd hty
          obtain ⟨⟨ti, hti, hts, _⟩, _⟩ := hT
          have hysl : ys.length = kd.sz := hrd.len
          have hcur : cur.toList = (pre ++ pa) ++ (pb ++ (pc ++ post ++ cur.toList.drop (xs.length * rk.sz))) := by
            have := List.take_append_drop (xs.length * rk.sz) cur.toList
            rw [htake, hcells] at this
            exact this.symm.trans (by simp)
          have hoff : i.toNat * rk.sz + off = (pre ++ pa).length := by simp [hpre, hpa]
          have hrun := run_storeAt (P := P) (w := w) (t := t) (b := g) (off := 0 + (i.toNat * rk.sz + off)) (v := vx) hti (by rw [hts, ← hysl, ← hys]; simp) hg (by
            have h1 := congrArg List.length hcur
            have h2 := congrArg List.length hys
            simp at h1 h2 hoff
            omega) hone
          rw [Nat.zero_add, hoff, hys, list_cut3 hcur (by rw [hpb])] at hrun
          have hgF : g ∉ G := by
            rw [hF] at hnd
            simp only [Value.ownBlock, Option.toList, List.singleton_append, List.nodup_cons] at hnd
            exact hnd.1
          refine ⟨_, C, Z, by simpa [Nat.zero_add, hoff] using hrun, ?_, Ext.refl C⟩
          have hput' := hput z (pa ++ (ys ++ pc)) (by have h1 := hc1; have h2 := hpb; simp at h1 ⊢; omega) how1
          refine H.setRow hl hC ⟨_, pre ++ (pa ++ (ys ++ pc) ++ post), G, rfl, ⟨?_, .inr ⟨g, cap, _, by simp [hm, hcap], Nat.zero_le _, setRow_heap w g cur _ e (0, 0) hg, ?_, hcm, ?_, ?_⟩⟩, ?_, hF⟩ (fun q hq => setRow_other w g q _ (fun e => hq (by rw [hF, e]; simp [Value.ownBlock]))) (by simp) rfl rfl ⟨rfl, DrLe.refl _⟩
          · have h1 := congrArg List.length hcells
            simp at h1 ⊢
            rw [hcl] at h1
            omega
          · simpa using hn
          · have h1 := congrArg List.length hcur
            simp at h1 ⊢
            omega
          · have h1 := congrArg List.length hcells
            rw [hcl] at h1
            simp at h1
            simp only [List.append_assoc, List.length_set]
            rw [show pre ++ (pa ++ (ys ++ (pc ++ (post ++ List.drop (xs.length * rk.sz) cur.toList)))) = (pre ++ (pa ++ (ys ++ (pc ++ post)))) ++ List.drop (xs.length * rk.sz) cur.toList from by simp]
            rw [List.take_left' (by simp; omega)]
          · refine Reps.imp (fun G' x cs hG' h => Ow.mono (fun b hb => setRow_other w g b _ (fun e => hgF (by subst e; exact hG' _ hb))) h) ?_
            simpa using hput'
        · cases hk
      · cases hk
    · cases hk
  · cases hk

end
end Go.Ev
