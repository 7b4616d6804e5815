/- Regions whose order of operations is drawn: every order comes to the same. -/
import Derived.Test.YtmiimfpdlkmjhaaGreatDoorEvKit
set_option linter.unusedVariables false
set_option linter.unusedSectionVars false
set_option linter.unusedSimpArgs false
namespace Go.Ev
open Go
variable [Lax]

/-- a set of numbers, by its bits -/
def NSet : Type := Nat
def memN (m : NSet) (i : Nat) : Bool := Nat.beq (Nat.land (Nat.shiftRight m i) 1) 1
def oneN (i : Nat) : NSet := Nat.shiftLeft 1 i
def orN (a b : NSet) : NSet := Nat.lor a b
def noneN : NSet := (0 : Nat)
def belowN (m : NSet) (i : Nat) : Bool := Nat.beq (Nat.shiftRight m i) 0
instance : Membership Nat NSet := ⟨fun m i => memN m i = true⟩

/-- an operation that is evaluated: its number, what must come before it, its effect, its first new number, the numbers and slots that it looks at -/
structure Rc where
  i : Nat
  o : Oper
  bef : NSet
  e : Eff
  n : Nat
  need : List Nat
  tm : List Nat

def Rc.E (r : Rc) : List (Nat × Blk) := r.e.new ++ r.e.upd
/-- the heap behind the operations of which p holds -/
def HLw (p : Nat → Bool) (base : List (Nat × Blk)) : List Rc → List (Nat × Blk)
  | [] => base
  | r :: l => match p r.i with | true => r.E ++ HLw p base l | false => HLw p base l
def SLw (p : Nat → Bool) (base : List (Nat × AV)) : List Rc → List (Nat × AV)
  | [] => base
  | r :: l => match p r.i with | true => putS (SLw p base l) r.o.dst r.e.v | false => SLw p base l

def befOf : List Rc → Nat → NSet
  | [], _ => noneN
  | r :: l, j => match Nat.beq r.i j with | true => r.bef | false => befOf l j
def bindsA (e : Edge) : Bool := match e.ground with | .textOnly _ => false | .gcOnly _ => false | _ => true
def befs (recs : List Rc) : List Edge → NSet
  | [] => noneN
  | e :: l => match bindsA e with | true => orN (orN (oneN e.on) (befOf recs e.on)) (befs recs l) | false => befs recs l
def tmpsOf (o : Oper) : List Nat := o.op.operands.toList.filterMap fun | .tmp t => some t | _ => none

def ids0 : AV → List Nat
  | .sl id => [id]
  | .ptr id _ => [id]
  | .ep id _ _ _ => [id]
  | _ => []
def ids1 (h : List (Nat × Blk)) : AV → List Nat
  | .ptr id _ => id :: (match blkOf h id with | .box _ cs => cs.flatMap ids0 | _ => [])
  | v => ids0 v
def reach (h : List (Nat × Blk)) : AV → List Nat
  | .agg cs => cs.flatMap (ids1 h)
  | .tup cs => cs.flatMap (ids1 h)
  | .fn _ cs => cs.flatMap (ids1 h)
  | v => ids1 h v
def cutH (h : List (Nat × Blk)) : List Nat → List (Nat × Blk)
  | [] => []
  | q :: l => match lk h q with | some b => (q, b) :: cutH h l | none => cutH h l
def cutS (s : List (Nat × AV)) : List Nat → List (Nat × AV)
  | [] => []
  | q :: l => match lk s q with | some b => (q, b) :: cutS s l | none => cutS s l

/-- does it look at memory -/
def looks : Op → Bool
  | .move _ | .assign _ | .pick _ _ _ | .nilCheck _ | .extract _ _ | .box _ _ | .build _ _ | .makeFunc _ _ _ | .fieldAddr _ _ _ => false
  | _ => true
/-- what a load looks at: the box, and the row that is read out of it -/
def reachL (h : List (Nat × Blk)) : AV → List Nat
  | .ptr id off => match blkOf h id with
    | .box _ cs => match cs.drop off with
      | .sl r :: _ => [id, r]
      | _ => reach h (.ptr id off)
    | _ => reach h (.ptr id off)
  | v => reach h v
def isLoad : Op → Bool
  | .load _ _ => true
  | _ => false
def needOf (o : Oper) (s : List (Nat × AV)) (h : List (Nat × Blk)) : List Nat := match looks o.op with
  | false => []
  | true => (tmpsOf o).flatMap fun t => match lk s t with
    | some v => match isLoad o.op with
      | true => reachL h v
      | false => reach h v
    | none => []

section
variable {R : Type}
/-- what an operation gave that a guard asks for, and its slot -/
def valAt : List Rc → Nat → Option (AV × Nat)
  | [], _ => none
  | r :: l, j => match Nat.beq r.i j with
    | true => match r.o.dst with
      | some d => some (r.e.v, d)
      | none => none
    | false => valAt l j
/-- the same with the answer known -/
def know : List Rc → Nat → Bool → List Rc
  | [], _, _ => []
  | r :: l, j, b => match Nat.beq r.i j with
    | true => { r with e := ⟨.bool b, r.e.upd, r.e.new⟩ } :: l
    | false => r :: know l j b
def drOne (env : Env) (st : St) (o : Oper) (i : Nat) (recs : List Rc) (n : Nat) (tm : List Nat) (k : List Rc → Nat → Option R) : Option R :=
  evOp env o ⟨cutS (SLw (memN (befs recs o.after.toList)) st.s recs) (tmpsOf o), cutH (HLw (memN (befs recs o.after.toList)) st.h recs) (needOf o (SLw (memN (befs recs o.after.toList)) st.s recs) (HLw (memN (befs recs o.after.toList)) st.h recs)), n, []⟩ fun e =>
    k (⟨i, o, befs recs o.after.toList, e, n, needOf o (SLw (memN (befs recs o.after.toList)) st.s recs) (HLw (memN (befs recs o.after.toList)) st.h recs), tm ++ tmpsOf o⟩ :: recs) (n + e.new.length)
def drSkip (o : Oper) (i : Nat) (recs : List Rc) (n d : Nat) (k : List Rc → Nat → Option R) : Option R :=
  k (⟨i, o, befs recs o.after.toList, ⟨.tup [], [], []⟩, n, [], [d]⟩ :: recs) n
def drG (env : Env) (st : St) (o : Oper) (i : Nat) (recs : List Rc) (n j d : Nat) (want : Bool) (k : List Rc → Nat → Option R) : Option R :=
  match memN (befs recs o.after.toList) j && Nat.blt d env.nt, lk (SLw (memN (befs recs o.after.toList)) st.s recs) d with
  | true, some (.bool true) => (match want with | true => drOne env st o i recs n [d] k | false => drSkip o i recs n d k)
  | true, some (.bool false) => (match want with | true => drSkip o i recs n d k | false => drOne env st o i recs n [d] k)
  | true, some (.tup []) => drSkip o i recs n d k
  | _, _ => none
def evDrGo (env : Env) (st : St) (fin : List Rc → Nat → Option R) : List Oper → Nat → List Rc → Nat → Option R
  | [], _, recs, n => fin recs n
  | o :: l, i, recs, n => match o.guard with
    | none => drOne env st o i recs n [] (evDrGo env st fin l (i + 1))
    | some (j, want) => match valAt recs j with
      | some (.bool c, d) => cond c (drG env st o i (know recs j true) n j d want (evDrGo env st fin l (i + 1))) (drG env st o i (know recs j false) n j d want (evDrGo env st fin l (i + 1)))
      | some (.tup [], d) => drG env st o i recs n j d want (evDrGo env st fin l (i + 1))
      | _ => none

def keysApart (a b : List (Nat × Blk)) : Bool := a.all fun p => b.all fun q => !(Nat.beq p.1 q.1)
def keysOut (a : List (Nat × Blk)) (l : List Nat) : Bool := a.all fun p => l.all fun q => !(Nat.beq p.1 q)
def dstOut (d : Option Nat) (l : List Nat) : Bool := match d with | none => true | some d => l.all fun q => !(Nat.beq d q)
def dstNe (d d' : Option Nat) : Bool := match d, d' with | some a, some b => !(Nat.beq a b) | _, _ => true
def rangeOut (a : List (Nat × Blk)) (n len : Nat) : Bool := a.all fun p => !(Nat.ble n p.1 && Nat.blt p.1 (n + len))
/-- two operations do not touch one another -/
def apartR (r s : Rc) : Bool := keysApart r.E s.E && keysApart s.E r.E && keysOut s.E r.need && keysOut r.E s.need && dstOut s.o.dst r.tm && dstOut r.o.dst s.tm && dstNe r.o.dst s.o.dst && dstNe s.o.dst r.o.dst && rangeOut s.E r.n r.e.new.length && rangeOut r.E s.n s.e.new.length
def pairOk (r s : Rc) : Bool := memN r.bef s.i || apartR r s
/-- each operation against those ahead of it in the text -/
def recsOk (nt n0 : Nat) : List Rc → Bool
  | [] => true
  | r :: l => (l.all fun s => pairOk r s) && (okDst nt r.o.dst && (r.e.new.all (fun p => Nat.blt p.1 (r.n + r.e.new.length)) && (r.e.upd.all (fun p => Nat.blt p.1 r.n) && (belowN r.bef r.i && (r.o.after.toList.all (fun e => !(bindsA e) || Nat.blt e.on r.i) && recsOk nt n0 l)))))
def allN : Nat → Bool := fun _ => true

def evDr (env : Env) (ops : Array Oper) (st : St) (k : St → Option R) : Option R :=
  evDrGo env st (fun recs n => match recsOk env.nt st.n recs with
    | true => k ⟨SLw allN st.s recs, HLw allN st.h recs, n, st.g⟩
    | false => none) ops.toList 0 [] st.n
end

/-! ### every order -/

theorem memN_bit (m : Nat) (i : Nat) : memN m i = Nat.testBit m i := by
  have h : memN m i = Nat.beq ((m >>> i) &&& 1) 1 := rfl
  rw [h, Nat.and_one_is_mod, Nat.shiftRight_eq_div_pow, Nat.testBit_eq_decide_div_mod_eq]
  exact (Bool.eq_iff_iff.2 (by rw [Nat.beq_eq, decide_eq_true_eq]))
theorem memN_iff {l : NSet} {i : Nat} : memN l i = true ↔ i ∈ l := Iff.rfl
theorem mem_noneN {j : Nat} : ¬ j ∈ noneN := fun h => by
  have h : memN (0 : Nat) j = true := h
  rw [memN_bit] at h; simp at h
theorem mem_orN {j : Nat} {a b : NSet} (h : j ∈ orN a b) : j ∈ a ∨ j ∈ b := by
  have h : memN (Nat.lor a b : Nat) j = true := h
  rw [memN_bit] at h
  have e : Nat.testBit (Nat.lor a b) j = (Nat.testBit a j || Nat.testBit b j) := Nat.testBit_or a b j
  rw [e, Bool.or_eq_true] at h
  rcases h with h | h
  · exact .inl (by show memN a j = true; exact (memN_bit a j).trans h)
  · exact .inr (by show memN b j = true; exact (memN_bit b j).trans h)
theorem mem_oneN {j i : Nat} (h : j ∈ oneN i) : j = i := by
  have h : memN ((1 : Nat) <<< i : Nat) j = true := h
  rw [memN_bit, Nat.testBit_shiftLeft, Bool.and_eq_true] at h
  obtain ⟨h1, h2⟩ := h
  have h1 := of_decide_eq_true h1
  rw [Nat.testBit_eq_decide_div_mod_eq] at h2
  have h2 := of_decide_eq_true h2
  rcases Nat.eq_zero_or_pos (j - i) with h0 | h0
  · omega
  · have : 1 / 2 ^ (j - i) = 0 := Nat.div_eq_of_lt (Nat.one_lt_two_pow (by omega))
    rw [this] at h2; simp at h2
theorem belowN_bit {m i j : Nat} (h : belowN m i = true) (hj : memN m j = true) : j < i := by
  have h : Nat.beq (m >>> i) 0 = true := h
  rw [memN_bit] at hj
  rcases Nat.lt_or_ge j i with k | k
  · exact k
  · have h := Nat.eq_of_beq_eq_true h
    have e : Nat.testBit (m >>> i) (j - i) = Nat.testBit m j := by
      rw [Nat.testBit_shiftRight]; congr 1; omega
    rw [h] at e
    rw [hj] at e
    simp at e
theorem mem_belowN {m : NSet} {i j : Nat} (h : belowN m i = true) (hj : j ∈ m) : j < i := belowN_bit h hj

theorem lk_not_of_keys {a : List (Nat × Blk)} {l : List Nat} (h : keysOut a l = true) {q : Nat} (hq : q ∈ l) : lk a q = none := by
  rcases hl : lk a q with _ | b
  · rfl
  · have := List.all_eq_true.1 (List.all_eq_true.1 h _ (lk_mem hl)) q hq
    simp at this
theorem lk_apart {a b : List (Nat × Blk)} (h : keysApart a b = true) {q : Nat} {x : Blk} (hq : lk a q = some x) : lk b q = none := by
  rcases hl : lk b q with _ | y
  · rfl
  · have := List.all_eq_true.1 (List.all_eq_true.1 h _ (lk_mem hq)) _ (lk_mem hl)
    simp at this
theorem lk_congr {α : Type} {a b c : List (Nat × α)} {q : Nat} (h : lk b q = lk c q) : lk (a ++ b) q = lk (a ++ c) q := by
  rcases ha : lk a q with _ | x
  · rw [lk_app_none ha, lk_app_none ha, h]
  · rw [lk_app_some ha, lk_app_some ha]
theorem lk_swap {a b c : List (Nat × Blk)} (h : keysApart a b = true) (q : Nat) : lk (a ++ (b ++ c)) q = lk (b ++ (a ++ c)) q := by
  rcases ha : lk a q with _ | x
  · rw [lk_app_none ha]
    exact lk_congr (by rw [lk_app_none ha])
  · rw [lk_app_some ha, lk_app_none (lk_apart h ha), lk_app_some ha]

theorem HLw_congr {p p' : Nat → Bool} {base : List (Nat × Blk)} : ∀ {l : List Rc}, (∀ r, r ∈ l → p r.i = p' r.i) → HLw p base l = HLw p' base l
  | [], _ => rfl
  | r :: l, h => by
    unfold HLw
    rw [h r (by simp), HLw_congr (l := l) (fun s hs => h s (List.mem_cons_of_mem _ hs))]
theorem SLw_congr {p p' : Nat → Bool} {base : List (Nat × AV)} : ∀ {l : List Rc}, (∀ r, r ∈ l → p r.i = p' r.i) → SLw p base l = SLw p' base l
  | [], _ => rfl
  | r :: l, h => by
    unfold SLw
    rw [h r (by simp), SLw_congr (l := l) (fun s hs => h s (List.mem_cons_of_mem _ hs))]

theorem HLw_insert {p p' : Nat → Bool} {base : List (Nat × Blk)} {r : Rc} {earlier : List Rc} (hp : p r.i = false) (hp' : p' r.i = true) (he : ∀ s, s ∈ earlier → p s.i = p' s.i) : ∀ {later : List Rc}, (∀ s, s ∈ later → p s.i = p' s.i) → (∀ s, s ∈ later → p s.i = true → keysApart s.E r.E = true) →
    ∀ q, lk (HLw p' base (later ++ r :: earlier)) q = lk (r.E ++ HLw p base (later ++ r :: earlier)) q
  | [], _, _, q => by
    simp only [List.nil_append]
    rw [HLw, hp', HLw, hp, HLw_congr (fun s hs => (he s hs).symm)]
  | s :: later, h1, h2, q => by
    have ih := HLw_insert (base := base) hp hp' he (later := later) (fun x hx => h1 x (List.mem_cons_of_mem _ hx)) (fun x hx => h2 x (List.mem_cons_of_mem _ hx)) q
    simp only [List.cons_append]
    rw [HLw, HLw, ← h1 s (by simp)]
    cases hs : p s.i
    · exact ih
    · simp only
      rw [lk_congr ih]
      exact lk_swap (h2 s (by simp) hs) q

theorem lk_putS {s : List (Nat × AV)} {d : Option Nat} {v : AV} {t : Nat} : lk (putS s d v) t = if d = some t then some v else lk s t := by
  cases d with
  | none => simp [putS]
  | some d =>
    by_cases e : t = d
    · subst e; simp [putS, lk_same]
    · simp only [putS]; rw [lk_ne _ _ e]; simp [Ne.symm e]

theorem SLw_insert {p p' : Nat → Bool} {base : List (Nat × AV)} {r : Rc} {earlier : List Rc} (hp : p r.i = false) (hp' : p' r.i = true) (he : ∀ s, s ∈ earlier → p s.i = p' s.i) : ∀ {later : List Rc}, (∀ s, s ∈ later → p s.i = p' s.i) → (∀ s, s ∈ later → p s.i = true → dstNe s.o.dst r.o.dst = true) →
    ∀ q, lk (SLw p' base (later ++ r :: earlier)) q = lk (putS (SLw p base (later ++ r :: earlier)) r.o.dst r.e.v) q
  | [], _, _, q => by
    simp only [List.nil_append]
    rw [SLw, hp', SLw, hp, SLw_congr (fun s hs => (he s hs).symm)]
  | s :: later, h1, h2, q => by
    have ih := SLw_insert (base := base) hp hp' he (later := later) (fun x hx => h1 x (List.mem_cons_of_mem _ hx)) (fun x hx => h2 x (List.mem_cons_of_mem _ hx)) q
    simp only [List.cons_append]
    rw [SLw, SLw, ← h1 s (by simp)]
    cases hs : p s.i
    · exact ih
    · simp only
      rw [lk_putS, ih, lk_putS, lk_putS, lk_putS]
      have := h2 s (by simp) hs
      by_cases e1 : s.o.dst = some q <;> by_cases e2 : r.o.dst = some q <;> simp [e1, e2]
      rw [e1, e2] at this
      simp [dstNe] at this

/-- what an operation looks at is as it was when it was evaluated -/
theorem HLw_need {p : Nat → Bool} {base : List (Nat × Blk)} {bef : NSet} {q : Nat} : ∀ {l : List Rc}, (∀ s, s ∈ l → s.i ∈ bef → p s.i = true) → (∀ s, s ∈ l → p s.i = true → s.i ∉ bef → lk s.E q = none) → lk (HLw p base l) q = lk (HLw (memN bef) base l) q
  | [], _, _ => rfl
  | s :: l, h1, h2 => by
    have ih := HLw_need (p := p) (base := base) (bef := bef) (q := q) (l := l) (fun x hx => h1 x (List.mem_cons_of_mem _ hx)) (fun x hx => h2 x (List.mem_cons_of_mem _ hx))
    rw [HLw, HLw]
    by_cases hb : s.i ∈ bef
    · rw [memN_iff.2 hb, h1 s (by simp) hb]
      exact lk_congr ih
    · have hm : memN bef s.i = false := by
        rcases h : memN bef s.i with _ | _
        · rfl
        · exact absurd (memN_iff.1 h) hb
      rw [hm]
      cases hs : p s.i
      · exact ih
      · simp only
        rw [lk_app_none (h2 s (by simp) hs hb)]
        exact ih
theorem SLw_need {p : Nat → Bool} {base : List (Nat × AV)} {bef : NSet} {q : Nat} : ∀ {l : List Rc}, (∀ s, s ∈ l → s.i ∈ bef → p s.i = true) → (∀ s, s ∈ l → p s.i = true → s.i ∉ bef → s.o.dst ≠ some q) → lk (SLw p base l) q = lk (SLw (memN bef) base l) q
  | [], _, _ => rfl
  | s :: l, h1, h2 => by
    have ih := SLw_need (p := p) (base := base) (bef := bef) (q := q) (l := l) (fun x hx => h1 x (List.mem_cons_of_mem _ hx)) (fun x hx => h2 x (List.mem_cons_of_mem _ hx))
    rw [SLw, SLw]
    by_cases hb : s.i ∈ bef
    · rw [memN_iff.2 hb, h1 s (by simp) hb]
      simp only
      rw [lk_putS, lk_putS, ih]
    · have hm : memN bef s.i = false := by
        rcases h : memN bef s.i with _ | _
        · rfl
        · exact absurd (memN_iff.1 h) hb
      rw [hm]
      cases hs : p s.i
      · exact ih
      · simp only
        rw [lk_putS, if_neg (h2 s (by simp) hs hb)]
        exact ih

theorem cutH_lk {h : List (Nat × Blk)} : ∀ {l : List Nat} {q : Nat} {b : Blk}, lk (cutH h l) q = some b → q ∈ l ∧ lk h q = some b
  | [], _, _, hl => by cases hl
  | x :: l, q, b, hl => by
    unfold cutH at hl
    split at hl
    · rename_i c hc
      by_cases e : q = x
      · subst e; rw [lk_same] at hl; cases hl; exact ⟨by simp, hc⟩
      · rw [lk_ne _ _ e] at hl
        obtain ⟨h1, h2⟩ := cutH_lk hl
        exact ⟨List.mem_cons_of_mem _ h1, h2⟩
    · obtain ⟨h1, h2⟩ := cutH_lk hl
      exact ⟨List.mem_cons_of_mem _ h1, h2⟩
theorem cutS_lk {h : List (Nat × AV)} : ∀ {l : List Nat} {q : Nat} {b : AV}, lk (cutS h l) q = some b → q ∈ l ∧ lk h q = some b
  | [], _, _, hl => by cases hl
  | x :: l, q, b, hl => by
    unfold cutS at hl
    split at hl
    · rename_i c hc
      by_cases e : q = x
      · subst e; rw [lk_same] at hl; cases hl; exact ⟨by simp, hc⟩
      · rw [lk_ne _ _ e] at hl
        obtain ⟨h1, h2⟩ := cutS_lk hl
        exact ⟨List.mem_cons_of_mem _ h1, h2⟩
    · obtain ⟨h1, h2⟩ := cutS_lk hl
      exact ⟨List.mem_cons_of_mem _ h1, h2⟩

theorem HLw_skip {p : Nat → Bool} {base : List (Nat × Blk)} {b : List Rc} : ∀ {a : List Rc}, (∀ s, s ∈ a → p s.i = false) → HLw p base (a ++ b) = HLw p base b
  | [], _ => rfl
  | s :: a, h => by
    simp only [List.cons_append]
    rw [HLw, h s (by simp)]
    exact HLw_skip fun x hx => h x (List.mem_cons_of_mem _ hx)
theorem SLw_skip {p : Nat → Bool} {base : List (Nat × AV)} {b : List Rc} : ∀ {a : List Rc}, (∀ s, s ∈ a → p s.i = false) → SLw p base (a ++ b) = SLw p base b
  | [], _ => rfl
  | s :: a, h => by
    simp only [List.cons_append]
    rw [SLw, h s (by simp)]
    exact SLw_skip fun x hx => h x (List.mem_cons_of_mem _ hx)

theorem befOf_mem {j j' : Nat} : ∀ {l : List Rc}, j' ∈ befOf l j → ∃ s, s ∈ l ∧ s.i = j ∧ j' ∈ s.bef
  | [], h => (mem_noneN h).elim
  | r :: l, h => by
    unfold befOf at h
    split at h
    · rename_i hb; exact ⟨r, by simp, Nat.eq_of_beq_eq_true hb, h⟩
    · obtain ⟨s, h1, h2, h3⟩ := befOf_mem h; exact ⟨s, List.mem_cons_of_mem _ h1, h2, h3⟩
theorem befs_mem {recs : List Rc} {j : Nat} : ∀ {l : List Edge}, j ∈ befs recs l → ∃ e, e ∈ l ∧ bindsA e = true ∧ (j = e.on ∨ ∃ s, s ∈ recs ∧ s.i = e.on ∧ j ∈ s.bef)
  | [], h => (mem_noneN h).elim
  | e :: l, h => by
    unfold befs at h
    split at h
    · rename_i hb
      rcases mem_orN h with h | h
      · rcases mem_orN h with h | h
        · exact ⟨e, by simp, hb, .inl (mem_oneN h)⟩
        · exact ⟨e, by simp, hb, .inr (befOf_mem h)⟩
      · obtain ⟨e', h1, h2⟩ := befs_mem h; exact ⟨e', List.mem_cons_of_mem _ h1, h2⟩
    · obtain ⟨e', h1, h2⟩ := befs_mem h; exact ⟨e', List.mem_cons_of_mem _ h1, h2⟩
theorem bindsA_eq (e : Edge) : Region.binds .any e = bindsA e := by
  unfold Region.binds bindsA
  cases e.ground <;> rfl

def nAt (n0 : Nat) : List Rc → Nat
  | [] => n0
  | r :: _ => r.n + r.e.new.length

section
variable {B : Nat} {Fr Z0 : Nat → Prop} {w0 w : World} {C : Cons} {Z : Nat → Prop} {P : Program} {env : Env} {R : Type} {args : List Value} {st : St} {a : Act}

/-- what is known of a guard: the slot that it asks, and the answer -/
def Asked (nt : Nat) (st : St) (r : Rc) (l : List Rc) (ans : Bool → AV → Prop) : Prop :=
  ∃ j want d v0 v, r.o.guard = some (j, want) ∧ valAt l j = some (v0, d) ∧ d ∈ r.tm ∧ d < nt ∧ lk (SLw (memN r.bef) st.s l) d = some v ∧ ans want v
def ansYes (want : Bool) (v : AV) : Prop := v = .bool want
def ansNo (want : Bool) (v : AV) : Prop := v = .bool (!want) ∨ v = .tup []
structure Fact (P : Program) (nt : Nat) (B : Nat) (Fr Z0 : Nat → Prop) (w0 : World) (st : St) (r : Rc) (l : List Rc) : Prop where
  bf : r.bef = befs l r.o.after.toList
  ix : r.i = l.length
  nn : r.n = nAt st.n l
  run : ((r.o.guard = none ∨ Asked nt st r l ansYes) ∧ ∃ hR sR, (∀ q b, lk hR q = some b → q ∈ r.need ∧ lk (HLw (memN r.bef) st.h l) q = some b) ∧ (∀ t v, lk sR t = some v → t ∈ r.tm ∧ lk (SLw (memN r.bef) st.s l) t = some v) ∧
    ∀ {h1 : List (Nat × Blk)} {C : Cons} {Z : Nat → Prop} {w : World} {a : Act} {Q : Exit → Act → World → Prop}, HR B Fr Z0 w0 h1 C Z w → Sub hR h1 → Fresh r.n r.e h1 → Slots C sR a → r.o.wp P a w (Post B Fr Z0 w0 h1 C r.o a r.e) Q) ∨
    (Asked nt st r l ansNo ∧ r.e = ⟨.tup [], [], []⟩)
def Facts (P : Program) (nt : Nat) (B : Nat) (Fr Z0 : Nat → Prop) (w0 : World) (st : St) : List Rc → Prop
  | [] => True
  | r :: l => Fact P nt B Fr Z0 w0 st r l ∧ Facts P nt B Fr Z0 w0 st l
theorem know_same {c : Bool} : ∀ {l : List Rc} {j d : Nat}, valAt l j = some (.bool c, d) → know l j c = l
  | [], _, _, h => by cases h
  | r :: l, j, d, h => by
    unfold valAt at h
    unfold know
    split at h
    · rename_i hb
      split at h
      · simp only [Option.some.injEq, Prod.mk.injEq] at h
        obtain ⟨i, o, bef, ⟨v, upd, new⟩, n, need, tm⟩ := r
        simp only at h ⊢
        rw [h.1]
      · cases h
    · rw [know_same h]

theorem evDrGo_ok (ok : TyOk P env) (spk : SpOkS P env B Fr Z0 w0) {fin : List Rc → Nat → Option R} {r : R} : ∀ {l : List Oper} {i : Nat} {recs : List Rc} {n : Nat}, evDrGo env st fin l i recs n = some r → Facts P env.nt B Fr Z0 w0 st recs → i = recs.length → n = nAt st.n recs →
    ∃ recs', fin recs' (nAt st.n recs') = some r ∧ Facts P env.nt B Fr Z0 w0 st recs' ∧ recs'.map Rc.o = l.reverse ++ recs.map Rc.o
  | [], i, recs, n, h, hf, hi, hn => by
    subst hn
    exact ⟨recs, h, hf, by simp⟩
  | o :: l, i, recs, n, h, hf, hi, hn => by
    have one : ∀ {tm : List Nat}, (o.guard = none ∨ ∃ j want d v0 v, o.guard = some (j, want) ∧ valAt recs j = some (v0, d) ∧ d ∈ tm ∧ d < env.nt ∧ lk (SLw (memN (befs recs o.after.toList)) st.s recs) d = some v ∧ ansYes want v) →
        drOne env st o i recs n tm (evDrGo env st fin l (i + 1)) = some r → ∃ recs', fin recs' (nAt st.n recs') = some r ∧ Facts P env.nt B Fr Z0 w0 st recs' ∧ recs'.map Rc.o = (o :: l).reverse ++ recs.map Rc.o := fun {tm} hg h => by
      unfold drOne at h
      obtain ⟨e, hK, hwp⟩ := evOp_ok (B := B) (Fr := Fr) (Z0 := Z0) (w0 := w0) ok spk h
      have hfact : Fact P env.nt B Fr Z0 w0 st ⟨i, o, befs recs o.after.toList, e, n, needOf o (SLw (memN (befs recs o.after.toList)) st.s recs) (HLw (memN (befs recs o.after.toList)) st.h recs), tm ++ tmpsOf o⟩ recs :=
        ⟨rfl, hi, hn, .inl ⟨hg.imp id (fun ⟨j, want, d, v0, v, g1, g2, g3, g4, g5, g6⟩ => ⟨j, want, d, v0, v, g1, g2, List.mem_append_left _ g3, g4, g5, g6⟩), _, _, fun q b hq => cutH_lk hq, fun t v ht => ⟨List.mem_append_right _ (cutS_lk ht).1, (cutS_lk ht).2⟩, fun H hs hfr hsl => hwp H hs hfr hsl⟩⟩
      obtain ⟨recs', h1, h2, h3⟩ := evDrGo_ok ok spk hK ⟨hfact, hf⟩ (by simp [hi]) rfl
      exact ⟨recs', h1, h2, by rw [h3]; simp⟩
    have skip : ∀ {j : Nat} {want : Bool} {d : Nat} {v0 v : AV}, o.guard = some (j, want) → valAt recs j = some (v0, d) → d < env.nt → lk (SLw (memN (befs recs o.after.toList)) st.s recs) d = some v → ansNo want v →
        drSkip o i recs n d (evDrGo env st fin l (i + 1)) = some r → ∃ recs', fin recs' (nAt st.n recs') = some r ∧ Facts P env.nt B Fr Z0 w0 st recs' ∧ recs'.map Rc.o = (o :: l).reverse ++ recs.map Rc.o := fun {j want d v0 v} g1 g2 g4 g5 g6 h => by
      unfold drSkip at h
      have hfact : Fact P env.nt B Fr Z0 w0 st ⟨i, o, befs recs o.after.toList, ⟨.tup [], [], []⟩, n, [], [d]⟩ recs :=
        ⟨rfl, hi, hn, .inr ⟨⟨j, want, d, v0, v, g1, g2, by simp, g4, g5, g6⟩, rfl⟩⟩
      obtain ⟨recs', h1, h2, h3⟩ := evDrGo_ok ok spk h ⟨hfact, hf⟩ (by simp [hi]) (by simp [nAt])
      exact ⟨recs', h1, h2, by rw [h3]; simp⟩
    have gd : ∀ {j : Nat} {want : Bool} {d : Nat} {v : AV}, o.guard = some (j, want) → valAt recs j = some (v, d) → drG env st o i recs n j d want (evDrGo env st fin l (i + 1)) = some r →
        ∃ recs', fin recs' (nAt st.n recs') = some r ∧ Facts P env.nt B Fr Z0 w0 st recs' ∧ recs'.map Rc.o = (o :: l).reverse ++ recs.map Rc.o := fun {j want d v} g1 g2 h => by
      unfold drG at h
      split at h
      · rename_i hm hl
        rw [Bool.and_eq_true, Nat.blt_eq] at hm
        cases want
        · exact skip g1 g2 hm.2 hl (.inl rfl) h
        · exact one (.inr ⟨j, true, d, _, _, g1, g2, by simp, hm.2, hl, rfl⟩) h
      · rename_i hm hl
        rw [Bool.and_eq_true, Nat.blt_eq] at hm
        cases want
        · exact one (.inr ⟨j, false, d, _, _, g1, g2, by simp, hm.2, hl, rfl⟩) h
        · exact skip g1 g2 hm.2 hl (.inl rfl) h
      · rename_i hm hl
        rw [Bool.and_eq_true, Nat.blt_eq] at hm
        exact skip g1 g2 hm.2 hl (.inr rfl) h
      · cases h
    unfold evDrGo at h
    split at h
    · rename_i hg
      exact one (.inl hg) h
    · rename_i j want hg
      split at h
      · rename_i c d hv
        have hk := know_same hv
        cases c
        · rw [cond_false, hk] at h; exact gd hg hv h
        · rw [cond_true, hk] at h; exact gd hg hv h
      · rename_i d hv
        exact gd hg hv h
      · cases h

theorem facts_split {nt : Nat} : ∀ {x : List Rc} {r : Rc} {y : List Rc}, Facts P nt B Fr Z0 w0 st (x ++ r :: y) → Fact P nt B Fr Z0 w0 st r y ∧ Facts P nt B Fr Z0 w0 st y ∧ ∀ s, s ∈ x → y.length < s.i
  | [], r, y, h => ⟨h.1, h.2, fun s hs => by cases hs⟩
  | q :: x, r, y, h => by
    obtain ⟨h1, h2, h3⟩ := facts_split h.2
    refine ⟨h1, h2, fun s hs => ?_⟩
    rcases List.mem_cons.1 hs with e | hs
    · subst e
      have := h.1.ix
      rw [this]; simp; omega
    · exact h3 s hs
theorem facts_lt {nt : Nat} : ∀ {l : List Rc}, Facts P nt B Fr Z0 w0 st l → ∀ s, s ∈ l → s.i < l.length
  | [], _, s, hs => by cases hs
  | r :: l, h, s, hs => by
    rcases List.mem_cons.1 hs with e | hs
    · subst e; rw [h.1.ix]; simp
    · have := facts_lt h.2 s hs; simp; omega
theorem facts_n {nt : Nat} : ∀ {l : List Rc}, Facts P nt B Fr Z0 w0 st l → st.n ≤ nAt st.n l ∧ ∀ s, s ∈ l → s.n + s.e.new.length ≤ nAt st.n l ∧ st.n ≤ s.n
  | [], _ => ⟨Nat.le_refl _, fun s hs => by cases hs⟩
  | r :: l, h => by
    obtain ⟨h1, h2⟩ := facts_n h.2
    have hn := h.1.nn
    refine ⟨by simp only [nAt]; omega, fun s hs => ?_⟩
    rcases List.mem_cons.1 hs with e | hs
    · subst e; simp only [nAt]; omega
    · have := h2 s hs; simp only [nAt]; omega

theorem recsOk_split {nt n0 : Nat} : ∀ {x : List Rc} {r : Rc} {y : List Rc}, recsOk nt n0 (x ++ r :: y) = true → (∀ s, s ∈ y → pairOk r s = true) ∧ (∀ s, s ∈ x → pairOk s r = true) ∧ okDst nt r.o.dst = true ∧
      (∀ p, p ∈ r.e.new → p.1 < r.n + r.e.new.length) ∧ (∀ p, p ∈ r.e.upd → p.1 < r.n) ∧ (∀ j, j ∈ r.bef → j < r.i) ∧ (∀ e, e ∈ r.o.after.toList → bindsA e = true → e.on < r.i)
  | [], r, y, h => by
    simp only [List.nil_append, recsOk, Bool.and_eq_true, List.all_eq_true, Nat.blt_eq, Bool.or_eq_true, Bool.not_eq_true'] at h
    obtain ⟨h1, h2, h3, h4, h5, h6, _⟩ := h
    exact ⟨h1, (fun s hs => by cases hs), h2, h3, h4, (fun j hj => mem_belowN h5 hj), fun e he hb => by
      rcases h6 e he with h | h
      · rw [hb] at h; cases h
      · exact h⟩
  | q :: x, r, y, h => by
    have h' := h
    simp only [List.cons_append, recsOk, Bool.and_eq_true, List.all_eq_true] at h'
    obtain ⟨h1, h2⟩ := h'
    obtain ⟨g1, g2, g3⟩ := recsOk_split h2.2.2.2.2.2
    refine ⟨g1, fun s hs => ?_, g3⟩
    rcases List.mem_cons.1 hs with e | hs
    · subst e; exact h1 r (by simp)
    · exact g2 s hs

theorem lk_E_hi {r : Rc} (h1 : ∀ p, p ∈ r.e.new → p.1 < r.n + r.e.new.length) (h2 : ∀ p, p ∈ r.e.upd → p.1 < r.n) {q : Nat} (hq : r.n + r.e.new.length ≤ q) : lk r.E q = none := by
  rcases hl : lk r.E q with _ | b
  · rfl
  · have := lk_mem hl
    rcases List.mem_append.1 this with h | h
    · have := h1 _ h; simp at this; omega
    · have := h2 _ h; simp at this; omega
theorem HLw_none {p : Nat → Bool} {base : List (Nat × Blk)} {q : Nat} (hb : lk base q = none) : ∀ {l : List Rc}, (∀ s, s ∈ l → p s.i = true → lk s.E q = none) → lk (HLw p base l) q = none
  | [], _ => hb
  | s :: l, h => by
    have ih := HLw_none (p := p) hb (l := l) (fun x hx => h x (List.mem_cons_of_mem _ hx))
    unfold HLw
    cases hs : p s.i
    · exact ih
    · simp only; rw [lk_app_none (h s (by simp) hs)]; exact ih

structure Inv (P : Program) (nt : Nat) (B : Nat) (Fr Z0 : Nat → Prop) (w0 : World) (args : List Value) (st : St) (recs : List Rc) (L : Nat → Bool) (a : Act) (w : World) : Prop where
  down : ∀ s, s ∈ recs → L s.i = true → ∀ j, j ∈ s.bef → L j = true
  st : ∃ C Z, HR B Fr Z0 w0 (HLw L st.h recs) C Z w ∧ Slots C (SLw L st.s recs) a ∧ All2 (VR C) st.g args
  sz : nt ≤ a.tmps.size
  df : a.defers = []

theorem Slots.congr {s s' : List (Nat × AV)} (h : Slots C s a) (hl : ∀ q, lk s' q = lk s q) : Slots C s' a := fun t v ht => h t v (by rw [← hl]; exact ht)

theorem op_at {ops : List Oper} {x : List Rc} {r : Rc} {y : List Rc} (h : (x ++ r :: y).map Rc.o = ops.reverse) : ops[y.length]? = some r.o := by
  have h1 : ops = ((x ++ r :: y).map Rc.o).reverse := by rw [h, List.reverse_reverse]
  rw [h1]
  simp

theorem valAt_mem {j d : Nat} {v : AV} : ∀ {l : List Rc}, valAt l j = some (v, d) → ∃ s, s ∈ l ∧ s.i = j ∧ s.o.dst = some d
  | [], h => by cases h
  | r :: l, h => by
    unfold valAt at h
    split at h
    · rename_i hb
      split at h
      · rename_i d' hd
        simp only [Option.some.injEq, Prod.mk.injEq] at h
        exact ⟨r, by simp, Nat.eq_of_beq_eq_true hb, by rw [hd, h.2]⟩
      · cases h
    · obtain ⟨s, h1, h2⟩ := valAt_mem h
      exact ⟨s, List.mem_cons_of_mem _ h1, h2⟩
theorem valAt_gslot {nt j d : Nat} {v : AV} {x y : List Rc} {r : Rc} {ops : Array Oper} (hF : Facts P nt B Fr Z0 w0 st (x ++ r :: y)) (hops : (x ++ r :: y).map Rc.o = ops.toList.reverse) (h : valAt y j = some (v, d)) : gslot ops j = some d := by
  obtain ⟨s, h1, h2, h3⟩ := valAt_mem h
  obtain ⟨y1, y2, hy⟩ := List.append_of_mem h1
  have e : x ++ r :: y = (x ++ r :: y1) ++ s :: y2 := by rw [hy]; simp
  rw [e] at hF hops
  have hi := (facts_split hF).1.ix
  have := op_at (ops := ops.toList) hops
  unfold gslot
  rw [← h2, hi, this]
  exact h3

/-- one operation of the region, whenever it comes up -/
theorem Inv.step {nt n0 : Nat} {ops : Array Oper} {x : List Rc} {r : Rc} {y : List Rc} (hops : (x ++ r :: y).map Rc.o = ops.toList.reverse) (hF : Facts P nt B Fr Z0 w0 st (x ++ r :: y)) (hok : recsOk nt n0 (x ++ r :: y) = true) (hfr : ∀ i, st.n ≤ i → lk st.h i = none) {L L' : Nat → Bool} (hL : L r.i = false) (hL' : L' r.i = true) (hLL : ∀ j, j ≠ r.i → L' j = L j)
    (hI : Inv P nt B Fr Z0 w0 args st (x ++ r :: y) L a w) (hafter : ∀ e, e ∈ r.o.after.toList → bindsA e = true → L e.on = true) {Q : Exit → Act → World → Prop} :
    (Region.wanted r.o (yielded ops a.tmps) = true ∧ r.o.wp P a w (fun a' w' => Inv P nt B Fr Z0 w0 args st (x ++ r :: y) L' a' w') Q) ∨ (Region.wanted r.o (yielded ops a.tmps) = false ∧ Inv P nt B Fr Z0 w0 args st (x ++ r :: y) L' (a.put r.o.dst undef) w) := by
  obtain ⟨f, fy, hx⟩ := facts_split hF
  obtain ⟨py, px, hdst, hnew, hupd, hbef, hon⟩ := recsOk_split hok
  have hLt : ∀ j, L j = true → L' j = true := fun j hj => by rw [hLL j (fun e => by subst e; rw [hL] at hj; cases hj)]; exact hj
  have hbL : ∀ j, j ∈ r.bef → L j = true := fun j hj => by
    rw [f.bf] at hj
    obtain ⟨e, h1, h2, h3⟩ := befs_mem hj
    rcases h3 with h3 | ⟨s, h4, h5, h6⟩
    · subst h3; exact hafter e h1 h2
    · exact hI.down s (List.mem_append_right _ (List.mem_cons_of_mem _ h4)) (by rw [h5]; exact hafter e h1 h2) j h6
  have hxi : ∀ s, s ∈ x → s.i ≠ r.i := fun s hs e => by have := hx s hs; rw [e, f.ix] at this; omega
  have hyi : ∀ s, s ∈ y → s.i ≠ r.i := fun s hs e => by have := facts_lt fy s hs; rw [e, f.ix] at this; omega
  -- who is listed and not ahead is apart
  have apx : ∀ s, s ∈ x → L s.i = true → apartR s r = true := fun s hs hl => by
    have := px s hs
    simp only [pairOk, Bool.or_eq_true] at this
    rcases this with h | h
    · have := hI.down s (List.mem_append_left _ hs) hl _ (memN_iff.1 h)
      rw [hL] at this; cases this
    · exact h
  have apy : ∀ s, s ∈ y → s.i ∉ r.bef → apartR r s = true := fun s hs hb => by
    have := py s hs
    simp only [pairOk, Bool.or_eq_true] at this
    rcases this with h | h
    · exact absurd (memN_iff.1 h) hb
    · exact h
  obtain ⟨C, Z, H, hsl, hg⟩ := hI.st
  have hskip : ∀ s, s ∈ x ++ [r] → memN r.bef s.i = false := fun s hs => by
    rcases hm : memN r.bef s.i with _ | _
    · rfl
    · have h1 := hbef _ (memN_iff.1 hm)
      rcases List.mem_append.1 hs with hs | hs
      · have := hx s hs; rw [f.ix] at h1; omega
      · simp at hs; subst hs; omega
  have hassoc : x ++ r :: y = (x ++ [r]) ++ y := by simp
  have hsub : ∀ {hR : List (Nat × Blk)}, (∀ q b, lk hR q = some b → q ∈ r.need ∧ lk (HLw (memN r.bef) st.h y) q = some b) → Sub hR (HLw L st.h (x ++ r :: y)) := fun {hR} hh q b hq => by
    obtain ⟨h1, h2⟩ := hh q b hq
    rw [HLw_need (bef := r.bef) (fun s hs hb => hbL _ hb) (fun s hs hl hb => ?_), hassoc, HLw_skip hskip]
    · exact h2
    · rcases List.mem_append.1 hs with hs | hs
      · have := apx s hs hl
        simp only [apartR, Bool.and_eq_true] at this
        exact lk_not_of_keys this.1.1.1.1.1.1.2 h1
      · rcases List.mem_cons.1 hs with e | hs
        · subst e; rw [hL] at hl; cases hl
        · have := apy s hs hb
          simp only [apartR, Bool.and_eq_true] at this
          exact lk_not_of_keys this.1.1.1.1.1.1.1.2 h1
  have dne : ∀ {d : Option Nat} {l : List Nat} {t : Nat}, dstOut d l = true → t ∈ l → d ≠ some t := fun {d l t} h ht e => by
    subst e
    simp only [dstOut, List.all_eq_true] at h
    have := h t ht
    simp at this
  have hslr : ∀ {t : Nat} {v : AV}, t ∈ r.tm → lk (SLw (memN r.bef) st.s y) t = some v → VR C v (a.tmps.getD t undef) := fun {t v} h1 h2 => by
    refine hsl t v ?_
    rw [SLw_need (bef := r.bef) (fun s hs hb => hbL _ hb) (fun s hs hl hb => ?_), hassoc, SLw_skip hskip]
    · exact h2
    · rcases List.mem_append.1 hs with hs | hs
      · have := apx s hs hl
        simp only [apartR, Bool.and_eq_true] at this
        exact dne this.1.1.1.1.2 h1
      · rcases List.mem_cons.1 hs with e | hs
        · subst e; rw [hL] at hl; cases hl
        · have := apy s hs hb
          simp only [apartR, Bool.and_eq_true] at this
          exact dne this.1.1.1.1.1.2 h1
  have hn0 := (facts_n fy).1
  have hfresh : Fresh r.n r.e (HLw L st.h (x ++ r :: y)) := fun q hq hq' => by
    refine HLw_none (hfr q (by have := f.nn; omega)) fun s hs hl => ?_
    rcases List.mem_append.1 hs with hs | hs
    · have := apx s hs hl
      simp only [apartR, Bool.and_eq_true] at this
      rcases hlk : lk s.E q with _ | b
      · rfl
      · have := List.all_eq_true.1 this.2 _ (lk_mem hlk)
        simp only [Bool.not_eq_true', Bool.and_eq_false_iff] at this
        rcases this with h | h
        · rw [Nat.ble_eq_true_of_le hq] at h; cases h
        · have h2 : Nat.blt q (r.n + r.e.new.length) = true := by rw [Nat.blt_eq]; exact hq'
          rw [h2] at h; cases h
    · rcases List.mem_cons.1 hs with e | hs
      · subst e; rw [hL] at hl; cases hl
      · obtain ⟨y1, y2, hy⟩ := List.append_of_mem hs
        have hok2 : recsOk nt n0 ((x ++ r :: y1) ++ s :: y2) = true := by rw [hy] at hok; simpa using hok
        obtain ⟨_, _, _, hn1, hn2, _, _⟩ := recsOk_split hok2
        exact lk_E_hi hn1 hn2 (by have := ((facts_n fy).2 s hs).1; have := f.nn; omega)
  have hLx : ∀ s, s ∈ x → L s.i = L' s.i := fun s hs => (hLL _ (hxi s hs)).symm
  have hLy : ∀ s, s ∈ y → L s.i = L' s.i := fun s hs => (hLL _ (hyi s hs)).symm
  have put : ∀ {C' : Cons} {Z' : Nat → Prop} {w' : World} {v : Value}, HR B Fr Z0 w0 (r.e.new ++ (r.e.upd ++ HLw L st.h (x ++ r :: y))) C' Z' w' → Ext C C' → VR C' r.e.v v → Inv P nt B Fr Z0 w0 args st (x ++ r :: y) L' (a.put r.o.dst v) w' := fun {C' Z' w' v} H' hxt hv => by
    refine ⟨fun s hs hl j hj => ?_, ⟨C', Z', ?_, ?_, hg.imp fun _ _ => VR.ext hxt⟩, by rw [size_put]; exact hI.sz, by rw [defers_put]; exact hI.df⟩
    · by_cases e : s.i = r.i
      · have hsr : s = r := by
          rcases List.mem_append.1 hs with hs | hs
          · exact absurd e (hxi s hs)
          · rcases List.mem_cons.1 hs with h | hs
            · exact h
            · exact absurd e (hyi s hs)
        subst hsr
        exact hLt j (hbL j hj)
      · rw [hLL _ e] at hl
        exact hLt j (hI.down s hs hl j hj)
    · refine H'.congr fun q => ?_
      rw [HLw_insert hL hL' hLy hLx (fun s hs hl => by
        have := apx s hs hl
        simp only [apartR, Bool.and_eq_true] at this
        exact this.1.1.1.1.1.1.1.1.1)]
      simp only [Rc.E, List.append_assoc]
    · have h1 : Slots C' (putS (SLw L st.s (x ++ r :: y)) r.o.dst r.e.v) (a.put r.o.dst v) := by
        cases hd : r.o.dst with
        | none => exact hsl.ext hxt
        | some d =>
          rw [hd] at hdst
          exact (hsl.ext hxt).put hv (Nat.lt_of_lt_of_le (okDst_some hdst) hI.sz)
      exact h1.congr fun q => SLw_insert hL hL' hLy hLx (fun s hs hl => by
        have := apx s hs hl
        simp only [apartR, Bool.and_eq_true] at this
        exact this.1.1.1.2) q
  have ask : ∀ {ans : Bool → AV → Prop}, Asked nt st r y ans → ∃ j want v d, r.o.guard = some (j, want) ∧ ans want v ∧ VR C v (a.tmps.getD d undef) ∧ yielded ops a.tmps j = (match a.tmps.getD d undef with | .bool b => some b | _ => none) := fun {ans} ⟨j, want, d, v0, v, g1, g2, g3, g4, g5, g6⟩ =>
    ⟨j, want, v, d, g1, g6, hslr g3 g5, yielded_at (valAt_gslot hF hops g2) (Nat.lt_of_lt_of_le g4 hI.sz)⟩
  rcases f.run with ⟨hg', hR, sR, hh, hs, hwp⟩ | ⟨hg', he⟩
  · refine .inl ⟨?_, Oper.wp_mono (fun a' w' hp => ?_) (hwp H (hsub hh) hfresh (fun t v ht => hslr (hs t v ht).1 (hs t v ht).2))⟩
    · rcases hg' with hg' | hg'
      · exact wanted_none hg'
      · obtain ⟨j, want, v, d, g1, g2, g3, g4⟩ := ask hg'
        have g2 : v = .bool want := g2
        subst g2
        rw [wanted_some g1, g4, g3.bool]
        simp
    · obtain ⟨v, rfl, v', w2, C', Z', hr, H', hxt, hv⟩ := hp
      cases hr
      exact put H' hxt hv
  · refine .inr ⟨?_, put (v := undef) (by rw [he]; exact H) (Ext.refl C) (by rw [he]; exact ⟨[], rfl, trivial⟩)⟩
    obtain ⟨j, want, v, d, g1, g2, g3, g4⟩ := ask hg'
    rcases g2 with g2 | g2
    · subst g2
      rw [wanted_some g1, g4, g3.bool]
      cases want <;> rfl
    · subst g2
      obtain ⟨vs, hv, hvs⟩ := g3
      rw [wanted_some g1, g4, hv]
      rfl


/-- how many are still to come -/
def unl (p : Nat → Bool) : List Rc → Nat
  | [] => 0
  | r :: l => match p r.i with | true => unl p l | false => unl p l + 1
theorem unl_congr {p p' : Nat → Bool} : ∀ {l : List Rc}, (∀ s, s ∈ l → p s.i = p' s.i) → unl p l = unl p' l
  | [], _ => rfl
  | s :: l, h => by
    unfold unl
    rw [h s (by simp), unl_congr (l := l) (fun x hx => h x (List.mem_cons_of_mem _ hx))]
theorem unl_insert {p p' : Nat → Bool} {r : Rc} {y : List Rc} (hp : p r.i = false) (hp' : p' r.i = true) (hy : ∀ s, s ∈ y → p s.i = p' s.i) : ∀ {x : List Rc}, (∀ s, s ∈ x → p s.i = p' s.i) → unl p (x ++ r :: y) = unl p' (x ++ r :: y) + 1
  | [], _ => by simp only [List.nil_append, unl, hp, hp']; rw [unl_congr hy]
  | s :: x, h => by
    have ih := unl_insert hp hp' hy (x := x) (fun z hz => h z (List.mem_cons_of_mem _ hz))
    simp only [List.cons_append, unl]
    rw [h s (by simp)]
    cases p' s.i <;> simp only [ih]
theorem unl_zero {p : Nat → Bool} : ∀ {l : List Rc}, unl p l = 0 → ∀ s, s ∈ l → p s.i = true
  | [], _, s, hs => by cases hs
  | r :: l, h, s, hs => by
    unfold unl at h
    cases hp : p r.i <;> rw [hp] at h
    · simp at h
    · rcases List.mem_cons.1 hs with e | hs
      · subst e; exact hp
      · exact unl_zero h s hs

theorem split_at {α : Type} : ∀ {l : List α} {i : Nat}, i < l.length → ∃ x r y, l = x ++ r :: y ∧ y.length = i
  | r :: l, i, h => by
    by_cases e : i = l.length
    · exact ⟨[], r, l, rfl, e.symm⟩
    · simp only [List.length_cons] at h
      obtain ⟨x, q, y, h1, h2⟩ := split_at (l := l) (i := i) (by omega)
      exact ⟨r :: x, q, y, by rw [h1]; rfl, h2⟩
/-- whatever order is drawn -/
theorem Inv.any {nt n0 : Nat} {ops : Array Oper} {recs : List Rc} (hops : recs.map Rc.o = ops.toList.reverse) (hF : Facts P nt B Fr Z0 w0 st recs) (hok : recsOk nt n0 recs = true) (hfr : ∀ i, st.n ≤ i → lk st.h i = none) {Q : Exit → Act → World → Prop}
    (hQ : ∀ a w, Inv P nt B Fr Z0 w0 args st recs allN a w → Q .normal a w) : ∀ (fuel : Nat) (listed : Array Bool) (a : Act) (w : World), listed.size = ops.size → unl (fun i => listed.getD i false) recs ≤ fuel → Inv P nt B Fr Z0 w0 args st recs (fun i => listed.getD i false) a w →
    wpAny P .any ops Q fuel listed a w := by
  have hlen : recs.length = ops.size := by
    have := congrArg List.length hops
    simpa using this
  have done : ∀ {listed : Array Bool} {a : Act} {w : World}, listed.size = ops.size → unl (fun i => listed.getD i false) recs = 0 → Inv P nt B Fr Z0 w0 args st recs (fun i => listed.getD i false) a w → Region.ready .any ops listed = [] ∧ Q .normal a w := fun {listed a w} hsz hu hI => by
    have hall := unl_zero hu
    refine ⟨?_, hQ a w ?_⟩
    · rw [List.eq_nil_iff_forall_not_mem]
      intro i hi
      obtain ⟨h1, o, h2, _⟩ := mem_ready.1 hi
      have hlt : i < ops.size := (Array.getElem?_eq_some_iff.1 h2).1
      obtain ⟨x, r, y, hr, hy⟩ := split_at (l := recs) (i := i) (by omega)
      have hF' := hF
      rw [hr] at hF'
      have hri := (facts_split hF').1.ix
      have := hall r (by rw [hr]; simp)
      rw [hri, hy] at this
      simp only [Array.getD, hsz, hlt, dif_pos] at this h1
      rw [this] at h1; cases h1
    · obtain ⟨C, Z, h1, h2, h3⟩ := hI.st
      refine ⟨fun s hs _ j _ => rfl, ⟨C, Z, ?_, ?_, h3⟩, hI.sz, hI.df⟩
      · rw [HLw_congr (p := allN) (p' := fun i => listed.getD i false) (fun s hs => (hall s hs).symm)]; exact h1
      · rw [SLw_congr (p := allN) (p' := fun i => listed.getD i false) (fun s hs => (hall s hs).symm)]; exact h2
  intro fuel
  induction fuel with
  | zero =>
    intro listed a w hsz hu hI
    exact done hsz (by omega) hI
  | succ fuel ih =>
    intro listed a w hsz hu hI
    refine ⟨fun hnil => ?_, fun i hi => ?_⟩
    · -- nothing may come up: all have come up
      have hall : ∀ l x, recs = x ++ l → ∀ s, s ∈ l → listed.getD s.i false = true := by
        intro l
        induction l with
        | nil => intro x _ s hs; cases hs
        | cons r y ihy =>
          intro x hx s hs
          have hy := ihy (x ++ [r]) (by rw [hx]; simp)
          have hF' := hF
          rw [hx] at hF'
          have hok' := hok
          rw [hx] at hok'
          have f := (facts_split hF').1
          rcases List.mem_cons.1 hs with e | hs
          · subst e
            rcases hl : listed.getD s.i false with _ | _
            · exfalso
              have hop : ops[s.i]? = some s.o := by
                have := op_at (ops := ops.toList) (by rw [← hx]; exact hops)
                rw [f.ix, ← Array.getElem?_toList]; exact this
              have hlt : s.i < ops.size := (Array.getElem?_eq_some_iff.1 hop).1
              have : s.i ∈ Region.ready .any ops listed := mem_ready.2 ⟨?_, s.o, hop, fun e he hb => ?_⟩
              · rw [hnil] at this; cases this
              · simp only [Array.getD, hsz, hlt, dif_pos] at hl ⊢; exact hl
              · rw [bindsA_eq] at hb
                have hlt2 := (recsOk_split hok').2.2.2.2.2.2 e (by simpa using he) hb
                obtain ⟨y1, q, y2, h1, h2⟩ := split_at (l := y) (i := e.on) (by have := f.ix; omega)
                have hq := hy q (by rw [h1]; simp)
                have hqi : q.i = e.on := by
                  have := (facts_split hF').2.1
                  rw [h1] at this
                  rw [(facts_split this).1.ix, h2]
                rw [hqi] at hq; exact hq
            · rfl
          · exact hy s hs
      refine (done hsz ?_ hI).2
      have : ∀ l : List Rc, (∀ s, s ∈ l → listed.getD s.i false = true) → unl (fun i => listed.getD i false) l = 0 := by
        intro l
        induction l with
        | nil => intro _; rfl
        | cons r y ihy => intro h; unfold unl; simp only [h r (by simp)]; exact ihy fun s hs => h s (List.mem_cons_of_mem _ hs)
      exact this recs (hall recs [] rfl)
    · obtain ⟨h1, o, h2, h3⟩ := mem_ready.1 hi
      have hlt : i < ops.size := (Array.getElem?_eq_some_iff.1 h2).1
      obtain ⟨x, r, y, hr, hy⟩ := split_at (l := recs) (i := i) (by omega)
      have hF' := hF
      rw [hr] at hF'
      have hok' := hok
      rw [hr] at hok'
      have f := (facts_split hF').1
      have hri : r.i = i := by rw [f.ix, hy]
      have hro : o = r.o := by
        have := op_at (ops := ops.toList) (by rw [← hr]; exact hops)
        rw [hy, Array.getElem?_toList, h2] at this
        exact Option.some.inj this
      subst hro
      have hL : listed.getD r.i false = false := by
        rw [hri]
        simp only [Array.getD, hsz, hlt, dif_pos] at h1 ⊢
        exact h1
      have hL' : (listed.setIfInBounds i true).getD r.i false = true := by
        rw [hri]; simp [Array.getD, hsz, hlt]
      have hLL : ∀ j, j ≠ r.i → (listed.setIfInBounds i true).getD j false = listed.getD j false := fun j hj => by
        rw [hri] at hj
        rw [Array.getD_eq_getD_getElem?, Array.getD_eq_getD_getElem?, Array.getElem?_setIfInBounds_ne (Ne.symm hj)]
      have hI' := hI
      rw [hr] at hI'
      have fin : ∀ a' w', Inv P nt B Fr Z0 w0 args st (x ++ r :: y) (fun j => (listed.setIfInBounds i true).getD j false) a' w' → wpAny P .any ops Q fuel (listed.setIfInBounds i true) a' w' := fun a' w' hI2 => by
        refine ih _ a' w' (by simpa using hsz) ?_ (by rw [hr]; exact hI2)
        have hxi : ∀ s, s ∈ x → listed.getD s.i false = (listed.setIfInBounds i true).getD s.i false := fun s hs => (hLL _ (fun e => by have := (facts_split hF').2.2 s hs; rw [e, f.ix] at this; omega)).symm
        have hyi : ∀ s, s ∈ y → listed.getD s.i false = (listed.setIfInBounds i true).getD s.i false := fun s hs => (hLL _ (fun e => by have := facts_lt (facts_split hF').2.1 s hs; rw [e, f.ix] at this; omega)).symm
        have := unl_insert (p := fun i => listed.getD i false) (p' := fun j => (listed.setIfInBounds i true).getD j false) (r := r) (y := y) hL hL' hyi (x := x) hxi
        rw [hr] at hu ⊢
        omega
      unfold wpOp
      simp only [h2]
      rcases Inv.step (L' := fun j => (listed.setIfInBounds i true).getD j false) (Q := Q) (by rw [← hr]; exact hops) hF' hok' hfr hL hL' hLL hI' (fun e he hb => h3 e (by simpa using he) (by rw [bindsA_eq]; exact hb)) with ⟨g1, g2⟩ | ⟨g1, g2⟩
      · rw [if_pos g1]
        exact .inl (Oper.wp_mono fin g2)
      · rw [if_neg (by rw [g1]; simp)]
        exact fin _ _ g2

theorem evDr_ok (ok : TyOk P env) (spk : SpOkS P env B Fr Z0 w0) (hm : P.follows .mixedOrders = true) : DrOk P env B Fr Z0 w0 args (evDr (R := R) env) := by
  intro id ops st k r hk C Z a w H
  unfold evDr at hk
  obtain ⟨recs, h1, hF, hops⟩ := evDrGo_ok (B := B) (Fr := Fr) (Z0 := Z0) (w0 := w0) ok spk hk trivial rfl rfl
  split at h1
  · rename_i hok
    simp only [List.map_nil, List.append_nil] at hops
    refine wp_region_any hm (Inv.any (args := args) hops hF hok H.fr (fun a w hI => ?_) ops.size _ a _ (by simp) ?_ ?_)
    · obtain ⟨C, Z, g1, g2, g3⟩ := hI.st
      refine ⟨rfl, _, C, Z, h1, g1, g2, hI.sz, hI.df, fun i hi => ?_, g3⟩
      have hi : nAt st.n recs ≤ i := hi
      refine HLw_none (H.fr i (by have := (facts_n hF).1; omega)) fun s hs _ => ?_
      obtain ⟨y1, y2, hy⟩ := List.append_of_mem hs
      rw [hy] at hok
      obtain ⟨_, _, _, hn1, hn2, _, _⟩ := recsOk_split hok
      exact lk_E_hi hn1 hn2 (by have := ((facts_n hF).2 s hs).1; omega)
    · have : ∀ l : List Rc, unl (fun i => (Array.replicate ops.size false).getD i false) l ≤ l.length := by
        intro l
        induction l with
        | nil => exact Nat.le_refl _
        | cons r y ih => unfold unl; split <;> simp only [List.length_cons] <;> omega
      have hl : recs.length = ops.size := by have := congrArg List.length hops; simpa using this
      exact Nat.le_trans (this recs) (Nat.le_of_eq hl)
    · have hno : ∀ i, (Array.replicate ops.size false).getD i false = false := fun i => by
        rw [Array.getD_eq_getD_getElem?, Array.getElem?_replicate]; split <;> rfl
      refine ⟨(fun s hs h => by simp only [hno] at h; cases h), ⟨C, Z, ?_, ?_, H.gh⟩, H.sz, H.df⟩
      · have : HLw (fun i => (Array.replicate ops.size false).getD i false) st.h recs = st.h := by
          have := HLw_skip (p := fun i => (Array.replicate ops.size false).getD i false) (base := st.h) (b := []) (a := recs) (fun s _ => hno s.i)
          simpa [HLw] using this
        rw [this]
        exact H.hr.world rfl rfl rfl ⟨rfl, DrLe.of (Nat.le_succ _)⟩
      · have : SLw (fun i => (Array.replicate ops.size false).getD i false) st.s recs = st.s := by
          have := SLw_skip (p := fun i => (Array.replicate ops.size false).getD i false) (base := st.s) (b := []) (a := recs) (fun s _ => hno s.i)
          simpa [SLw] using this
        rw [this]
        exact H.sl
  · cases h1
end
end Go.Ev
