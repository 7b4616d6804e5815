/- Points at which the evaluation is cut: abstract states of one shape, with typed contents. -/
import Derived.Test.YtmiimfpdlkmjhaaGreatDoorEvBody
set_option linter.unusedVariables false
set_option linter.unusedSectionVars false
set_option linter.unusedSimpArgs false
namespace Go.Ev
open Go
variable [Lax]

inductive Cs where
  | sc (k : Kd)
  | sl (i : Nat)
  | ptr (i off : Nat)
  | ep (i sz : Nat)
  | any
inductive Ss where
  | one (c : Cs)
  | agg (l : List Cs)
  | fn (f : FuncId) (l : List Cs)
inductive Bs where
  | row (k : Kd) (e : TypeId) (own : Bool)
  | box (t : TypeId) (l : List Cs)
structure Shape where
  bs : List Bs
  ss : List (Nat × Ss)
  gs : List Ss

@[reducible] def Cs.Ty : Cs → Type | .sc k => k.Ty | _ => Unit
@[reducible] def CsTy : List Cs → Type | [] => Unit | c :: l => c.Ty × CsTy l
@[reducible] def Ss.Ty : Ss → Type | .one c => c.Ty | .agg l => CsTy l | .fn _ l => CsTy l
@[reducible] def SsTy : List Ss → Type | [] => Unit | s :: l => s.Ty × SsTy l
@[reducible] def Bs.Ty : Bs → Type | .row k _ _ => List k.Ty | .box _ l => CsTy l
@[reducible] def BsTy : List Bs → Type | [] => Unit | b :: l => b.Ty × BsTy l
@[reducible] def Shape.X (s : Shape) : Type := BsTy s.bs × SsTy (s.ss.map Prod.snd) × SsTy s.gs

def Cs.dec : (c : Cs) → c.Ty → AV
  | .sc (.int j), x => .int j x
  | .sc .bool, x => .bool x
  | .sc .err, x => .err x
  | .sc .str, x => .str x
  | .sc .raw, x => .raw x
  | .sc _, _ => .undef
  | .sl i, _ => .sl i
  | .ptr i o, _ => .ptr i o
  | .ep i sz, _ => .ep i 0 0 sz
  | .any, _ => .undef
def decL : (l : List Cs) → CsTy l → List AV
  | [], _ => []
  | c :: l, x => c.dec x.1 :: decL l x.2
def Ss.dec : (s : Ss) → s.Ty → AV
  | .one c, x => c.dec x
  | .agg l, x => .agg (decL l x)
  | .fn f l, x => .fn f (decL l x)
def decS : (l : List (Nat × Ss)) → SsTy (l.map Prod.snd) → List (Nat × AV)
  | [], _ => []
  | s :: l, x => (s.1, s.2.dec x.1) :: decS l x.2
def decG : (l : List Ss) → SsTy l → List AV
  | [], _ => []
  | s :: l, x => s.dec x.1 :: decG l x.2
def Bs.dec : (b : Bs) → b.Ty → Blk
  | .row k e own, x => .row k e x own
  | .box t l, x => .box t (decL l x)
def decB : Nat → (l : List Bs) → BsTy l → List (Nat × Blk)
  | _, [], _ => []
  | i, b :: l, x => (i, b.dec x.1) :: decB (i + 1) l x.2
/-- the abstract state of a shape, with its contents -/
def Shape.st (s : Shape) (x : s.X) : St := ⟨decS s.ss x.2.1, decB 0 s.bs x.1, s.bs.length, decG s.gs x.2.2⟩

/-! ### contents out of a state -/

abbrev NM := List (Nat × Option Nat)

def bindN (m : NM) (i : Nat) (v : Option Nat) : Option NM :=
  match lk m i, v with
  | some (some a), some b => match Nat.beq a b with | true => some m | false => none
  | some none, none => some m
  | none, none => some ((i, none) :: m)
  | none, some b => match m.all (fun p => match p.2 with | some a => !(Nat.beq a b) | none => true) with | true => some ((i, some b) :: m) | false => none
  | _, _ => none

def matC (m : NM) : (c : Cs) → AV → Option (c.Ty × NM)
  | .sc (.int j), .int i n => if j = i then some (n, m) else none
  | .sc .bool, .bool b => some (b, m)
  | .sc .err, .err b => some (b, m)
  | .sc .str, .str s => some (s, m)
  | .sc .raw, .raw s => some (s, m)
  | .sl i, .sl id => match bindN m i (some id) with | some m => some ((), m) | none => none
  | .sl i, .nil => match bindN m i none with | some m => some ((), m) | none => none
  | .ep i sz, .ep id j 0 sz' => match Nat.beq sz sz' && decide (j = 0), bindN m i (some id) with | true, some m => some ((), m) | _, _ => none
  | .ptr i o, .ptr id o' => match Nat.beq o o', bindN m i (some id) with | true, some m => some ((), m) | _, _ => none
  | .any, _ => some ((), m)
  | _, _ => none
def matL (m : NM) : (l : List Cs) → List AV → Option (CsTy l × NM)
  | [], [] => some ((), m)
  | c :: l, a :: as => match matC m c a with
    | some (x, m) => match matL m l as with
      | some (y, m) => some ((x, y), m)
      | none => none
    | none => none
  | _, _ => none
def matS (m : NM) : (s : Ss) → AV → Option (s.Ty × NM)
  | .one c, a => matC m c a
  | .agg l, .agg cs => matL m l cs
  | .fn f l, .fn f' cs => match Nat.beq f f' with | true => matL m l cs | false => none
  | _, _ => none
def matSs (st : St) (m : NM) : (l : List (Nat × Ss)) → Option (SsTy (l.map Prod.snd) × NM)
  | [] => some ((), m)
  | s :: l => match matS m s.2 (st.slot s.1) with
    | some (x, m) => match matSs st m l with
      | some (y, m) => some ((x, y), m)
      | none => none
    | none => none
def matG (m : NM) : (l : List Ss) → List AV → Option (SsTy l × NM)
  | [], [] => some ((), m)
  | s :: l, a :: as => match matS m s a with
    | some (x, m) => match matG m l as with
      | some (y, m) => some ((x, y), m)
      | none => none
    | none => none
  | _, _ => none
def matB (h : List (Nat × Blk)) (m : NM) (i : Nat) : (b : Bs) → Option (b.Ty × NM)
  | .row k e own => match lk m i with
    | some none => some ([], m)
    | some (some id) => match blkOf h id with
      | .row k' e' xs own' => if hk : k' = k then (if e' = e then match own, own' with
          | true, false => none
          | _, _ => some (hk ▸ xs, m)
        else none) else none
      | _ => none
    | none => none
  | .box t l => match lk m i with
    | some (some id) => match blkOf h id with
      | .box t' cs => match Nat.beq t' t with | true => matL m l cs | false => none
      | _ => none
    | _ => none
def matBs (h : List (Nat × Blk)) (m : NM) (i : Nat) : (l : List Bs) → Option (BsTy l × NM)
  | [] => some ((), m)
  | b :: l => match matB h m i b with
    | some (x, m) => match matBs h m (i + 1) l with
      | some (y, m) => some ((x, y), m)
      | none => none
    | none => none

def Shape.enc (s : Shape) (st : St) : Option s.X :=
  match matSs st [] s.ss with
  | some (y, m) => match matG m s.gs st.g with
    | some (z, m) => match matBs st.h m 0 s.bs with
      | some (x, m) => match m.all (fun p => Nat.blt p.1 s.bs.length) with
        | true => some (x, y, z)
        | false => none
      | none => none
    | none => none
  | none => none

/-! ### what holds of them -/

def NM.Le (m M : NM) : Prop := ∀ i v, lk m i = some v → lk M i = some v
theorem NM.Le.refl (m : NM) : NM.Le m m := fun _ _ h => h
theorem NM.Le.trans {a b c : NM} (h : NM.Le a b) (k : NM.Le b c) : NM.Le a c := fun i v hv => k i v (h i v hv)
/-- no two numbers for one -/
def NM.Inj (m : NM) : Prop := ∀ i j id, lk m i = some (some id) → lk m j = some (some id) → i = j

theorem lk_mem {α : Type} : ∀ {l : List (Nat × α)} {i : Nat} {a : α}, lk l i = some a → (i, a) ∈ l
  | [], _, _, h => by cases h
  | (j, b) :: l, i, a, h => by
    by_cases e : i = j
    · subst e; rw [lk_same] at h; cases h; simp
    · rw [lk_ne _ _ e] at h; exact List.mem_cons_of_mem _ (lk_mem h)

theorem bindN_ok {m m' : NM} {i : Nat} {v : Option Nat} (h : bindN m i v = some m') (hi : NM.Inj m) : NM.Le m m' ∧ lk m' i = some v ∧ NM.Inj m' := by
  unfold bindN at h
  have new : ∀ {v : Option Nat}, lk m i = none → NM.Le m ((i, v) :: m) := fun hn j u hj => by
    by_cases e : j = i
    · subst e; rw [hn] at hj; cases hj
    · rw [lk_ne _ _ e]; exact hj
  split at h
  · rename_i a b hl
    split at h
    · rename_i hb
      have := Nat.eq_of_beq_eq_true hb
      subst this
      cases h; exact ⟨NM.Le.refl m, hl, hi⟩
    · cases h
  · rename_i hl; cases h; exact ⟨NM.Le.refl m, hl, hi⟩
  · rename_i hl; cases h
    refine ⟨new hl, lk_same _ _ _, fun p q id hp hq => ?_⟩
    by_cases e : p = i
    · subst e; rw [lk_same] at hp; cases hp
    · by_cases e' : q = i
      · subst e'; rw [lk_same] at hq; cases hq
      · rw [lk_ne _ _ e] at hp; rw [lk_ne _ _ e'] at hq; exact hi p q id hp hq
  · rename_i b hl
    split at h
    · rename_i hall
      cases h
      have hno : ∀ j, lk m j ≠ some (some b) := fun j hj => by
        have := List.all_eq_true.1 hall _ (lk_mem hj)
        simp at this
      refine ⟨new hl, lk_same _ _ _, fun p q id hp hq => ?_⟩
      by_cases e : p = i
      · subst e
        rw [lk_same] at hp; cases hp
        by_cases e' : q = p
        · exact e'.symm
        · rw [lk_ne _ _ e'] at hq; exact absurd hq (hno q)
      · rw [lk_ne _ _ e] at hp
        by_cases e' : q = i
        · subst e'; rw [lk_same] at hq; cases hq; exact absurd hp (hno p)
        · rw [lk_ne _ _ e'] at hq; exact hi p q id hp hq
    · cases h
  · cases h

/-- what the numbers stand for -/
def NM.cons (M : NM) (C : Cons) : Cons := fun i => match lk M i with
  | some (some id) => C id
  | some none => some (.row (.slice none 0 0) [])
  | none => none

section
variable {C : Cons} {M : NM}

theorem matC_ok {m m' : NM} {c : Cs} {av : AV} {x : c.Ty} (h : matC m c av = some (x, m')) (hi : NM.Inj m) : NM.Le m m' ∧ NM.Inj m' ∧ ∀ {M : NM} {C : Cons} {v : Value}, NM.Le m' M → CR C av v → CR0 (M.cons C) (c.dec x) v := by
  unfold matC at h
  split at h
  · split at h
    · rename_i e; subst e; cases h
      exact ⟨NM.Le.refl _, hi, fun hl hr => hr⟩
    · cases h
  · cases h; exact ⟨NM.Le.refl _, hi, fun hl hr => hr⟩
  · cases h; exact ⟨NM.Le.refl _, hi, fun hl hr => hr⟩
  · cases h; exact ⟨NM.Le.refl _, hi, fun hl hr => hr⟩
  · cases h; exact ⟨NM.Le.refl _, hi, fun hl hr => hr⟩
  · rename_i i id
    split at h
    · rename_i m1 hb; cases h
      obtain ⟨h1, h2, h3⟩ := bindN_ok hb hi
      refine ⟨h1, h3, fun {M C v} hl hr => ?_⟩
      have hr : CR0 C (.sl id) v := hr
      obtain ⟨⟨F, hF⟩, hs⟩ := hr
      exact ⟨⟨F, by unfold NM.cons; rw [hl _ _ h2]; exact hF⟩, hs⟩
    · cases h
  · rename_i i
    split at h
    · rename_i m1 hb; cases h
      obtain ⟨h1, h2, h3⟩ := bindN_ok hb hi
      refine ⟨h1, h3, fun {M C v} hl hr => ?_⟩
      have hr : v = .slice none 0 0 := hr
      subst hr
      exact ⟨⟨[], by unfold NM.cons; rw [hl _ _ h2]⟩, _, _, _, rfl⟩
    · cases h
  · rename_i i sz id j sz'
    split at h
    · rename_i m1 ho hb; cases h
      simp only [Bool.and_eq_true, decide_eq_true_eq] at ho
      have ho1 := Nat.eq_of_beq_eq_true ho.1
      subst ho1
      have ho2 := ho.2
      subst ho2
      obtain ⟨h1, h2, h3⟩ := bindN_ok hb hi
      refine ⟨h1, h3, fun {M C v} hl hr => ?_⟩
      obtain ⟨A, n, c, F, hC, hr⟩ : ∃ A n c F, C id = some (.row (.slice (some A) n c) F) ∧ A.spot = none ∧ (0 : Int) ≤ 0 ∧ (0 : Int) < (n : Int) ∧ v = .pointer (some ⟨A.block, A.off + ((0 : Int).toNat * sz + 0), none⟩) := hr
      exact ⟨A, n, c, F, by unfold NM.cons; rw [hl _ _ h2]; exact hC, hr⟩
    · cases h
  · rename_i i o id o'
    split at h
    · rename_i m1 ho hb; cases h
      have ho := Nat.eq_of_beq_eq_true ho
      subst ho
      obtain ⟨h1, h2, h3⟩ := bindN_ok hb hi
      refine ⟨h1, h3, fun {M C v} hl hr => ?_⟩
      obtain ⟨b, hb, hv⟩ : ∃ b, C id = some (.box b) ∧ v = .pointer (some ⟨b, o, none⟩) := hr
      exact ⟨b, by unfold NM.cons; rw [hl _ _ h2]; exact hb, hv⟩
    · cases h
  · cases h; exact ⟨NM.Le.refl _, hi, fun hl hr => trivial⟩
  · cases h

theorem CR0.cr {av : AV} {v : Value} (h : CR0 C av v) : CR C av v := by
  cases av <;> first | exact h | exact h.elim

theorem matL_ok : ∀ {l : List Cs} {as : List AV} {m m' : NM} {x : CsTy l}, matL m l as = some (x, m') → NM.Inj m → NM.Le m m' ∧ NM.Inj m' ∧ ∀ {M : NM} {C : Cons} {vs : List Value}, NM.Le m' M → All2 (CR C) as vs → All2 (CR0 (M.cons C)) (decL l x) vs
  | [], [], m, m', x, h, hi => by
    simp only [matL] at h; cases h
    refine ⟨NM.Le.refl _, hi, fun {M C vs} hl hr => ?_⟩
    cases vs with
    | nil => trivial
    | cons _ _ => exact hr.elim
  | c :: l, a :: as, m, m', x, h, hi => by
    simp only [matL] at h
    split at h
    · rename_i x1 m1 h1
      split at h
      · rename_i y m2 h2
        cases h
        obtain ⟨a1, a2, a3⟩ := matC_ok h1 hi
        obtain ⟨b1, b2, b3⟩ := matL_ok h2 a2
        refine ⟨a1.trans b1, b2, fun {M C vs} hl hr => ?_⟩
        cases vs with
        | nil => exact hr.elim
        | cons v vs => exact ⟨a3 (b1.trans hl) hr.1, b3 hl hr.2⟩
      · cases h
    · cases h
  | [], _ :: _, _, _, _, h, _ => by simp [matL] at h
  | _ :: _, [], _, _, _, h, _ => by simp [matL] at h

theorem VR.tocr {c : Cs} {m m' : NM} {av : AV} {x : c.Ty} {v : Value} (h : matC m c av = some (x, m')) (hv : VR C av v) : CR C av v ∨ c = .any := by
  cases c with
  | any => exact .inr rfl
  | _ => cases av <;> first | exact .inl hv | (simp [matC] at h; done) | (rename_i k _; cases k <;> simp [matC] at h)

theorem matS_ok {m m' : NM} {s : Ss} {av : AV} {x : s.Ty} (h : matS m s av = some (x, m')) (hi : NM.Inj m) : NM.Le m m' ∧ NM.Inj m' ∧ ∀ {M : NM} {C : Cons} {v : Value}, NM.Le m' M → VR C av v → VR (M.cons C) (s.dec x) v := by
  unfold matS at h
  split at h
  · rename_i c a
    obtain ⟨h1, h2, h3⟩ := matC_ok h hi
    refine ⟨h1, h2, fun {M C v} hl hr => ?_⟩
    rcases VR.tocr h hr with hr | hc
    · exact CR0.vr (h3 hl hr)
    · subst hc; trivial
  · rename_i l cs
    obtain ⟨h1, h2, h3⟩ := matL_ok h hi
    refine ⟨h1, h2, fun {M C v} hl hr => ?_⟩
    obtain ⟨vs, rfl, ha⟩ := hr
    exact ⟨vs, rfl, (h3 hl ha).imp fun _ _ => CR0.cr⟩
  · rename_i f l f' cs
    split at h
    · rename_i hf
      have hf := Nat.eq_of_beq_eq_true hf
      subst hf
      obtain ⟨h1, h2, h3⟩ := matL_ok h hi
      refine ⟨h1, h2, fun {M C v} hl hr => ?_⟩
      obtain ⟨vs, rfl, ha⟩ : ∃ vs : List Value, v = .func (.func f) #[] vs.toArray ∧ All2 (CR0 C) cs vs := hr
      exact ⟨vs, rfl, h3 hl (ha.imp fun _ _ => CR0.cr)⟩
    · cases h
  · cases h

theorem matSs_ok {st : St} : ∀ {l : List (Nat × Ss)} {m m' : NM} {x : SsTy (l.map Prod.snd)}, matSs st m l = some (x, m') → NM.Inj m → NM.Le m m' ∧ NM.Inj m' ∧ ∀ {M : NM} {C : Cons} {a : Act}, NM.Le m' M → Slots C st.s a → Slots (M.cons C) (decS l x) a
  | [], m, m', x, h, hi => by
    simp only [matSs] at h; cases h
    exact ⟨NM.Le.refl _, hi, fun hl hs t av ht => by cases ht⟩
  | (t, s) :: l, m, m', x, h, hi => by
    simp only [matSs] at h
    split at h
    · rename_i x1 m1 h1
      split at h
      · rename_i y m2 h2
        cases h
        obtain ⟨a1, a2, a3⟩ := matS_ok h1 hi
        obtain ⟨b1, b2, b3⟩ := matSs_ok h2 a2
        refine ⟨a1.trans b1, b2, fun {M C a} hl hs u av hu => ?_⟩
        by_cases e : u = t
        · subst e
          simp only [decS] at hu
          rw [lk_same] at hu; cases hu
          exact a3 (b1.trans hl) (opv_VR (s := st) hs (.tmp u))
        · simp only [decS] at hu
          rw [lk_ne _ _ e] at hu
          exact b3 hl hs u av hu
      · cases h
    · cases h

theorem matG_ok : ∀ {l : List Ss} {as : List AV} {m m' : NM} {x : SsTy l}, matG m l as = some (x, m') → NM.Inj m → NM.Le m m' ∧ NM.Inj m' ∧ ∀ {M : NM} {C : Cons} {vs : List Value}, NM.Le m' M → All2 (VR C) as vs → All2 (VR (M.cons C)) (decG l x) vs
  | [], [], m, m', x, h, hi => by
    simp only [matG] at h; cases h
    refine ⟨NM.Le.refl _, hi, fun {M C vs} hl hr => ?_⟩
    cases vs with
    | nil => trivial
    | cons _ _ => exact hr.elim
  | s :: l, a :: as, m, m', x, h, hi => by
    simp only [matG] at h
    split at h
    · rename_i x1 m1 h1
      split at h
      · rename_i y m2 h2
        cases h
        obtain ⟨a1, a2, a3⟩ := matS_ok h1 hi
        obtain ⟨b1, b2, b3⟩ := matG_ok h2 a2
        refine ⟨a1.trans b1, b2, fun {M C vs} hl hr => ?_⟩
        cases vs with
        | nil => exact hr.elim
        | cons v vs => exact ⟨a3 (b1.trans hl) hr.1, b3 hl hr.2⟩
      · cases h
    · cases h
  | [], _ :: _, _, _, _, h, _ => by simp [matG] at h
  | _ :: _, [], _, _, _, h, _ => by simp [matG] at h

/-- how a block of the shape stands to what was there -/
def BMat (h : List (Nat × Blk)) (M : NM) (i : Nat) (b : Bs) (x : b.Ty) : Prop :=
  match b, x with
  | .row k e own, x => (lk M i = some none ∧ x = []) ∨ ∃ id own', lk M i = some (some id) ∧ blkOf h id = .row k e x own' ∧ (own = true → own' = true)
  | .box t l, x => ∃ id cs, lk M i = some (some id) ∧ blkOf h id = .box t cs ∧ ∀ {C : Cons} {vs : List Value}, All2 (CR C) cs vs → All2 (CR0 (M.cons C)) (decL l x) vs

theorem matB_ok {h : List (Nat × Blk)} {m m' : NM} {i : Nat} {b : Bs} {x : b.Ty} (hm : matB h m i b = some (x, m')) (hi : NM.Inj m) : NM.Le m m' ∧ NM.Inj m' ∧ ∀ {M : NM}, NM.Le m' M → BMat h M i b x := by
  unfold matB at hm
  split at hm
  · rename_i k e own
    split at hm
    · rename_i hl; cases hm
      exact ⟨NM.Le.refl _, hi, fun hM => .inl ⟨hM _ _ hl, rfl⟩⟩
    · rename_i id hl
      split at hm
      · rename_i k' e' xs own' hb
        split at hm
        · rename_i hk; subst hk
          split at hm
          · rename_i he; subst he
            split at hm
            · cases hm
            · rename_i hno
              cases hm
              exact ⟨NM.Le.refl _, hi, fun hM => .inr ⟨id, own', hM _ _ hl, hb, fun ho => by
                cases own'
                · exact (hno ho rfl).elim
                · rfl⟩⟩
          · cases hm
        · cases hm
      · cases hm
    · cases hm
  · rename_i t l
    split at hm
    · rename_i id hl
      split at hm
      · rename_i t' cs hb
        split at hm
        · rename_i ht
          have ht := Nat.eq_of_beq_eq_true ht
          subst ht
          obtain ⟨h1, h2, h3⟩ := matL_ok hm hi
          exact ⟨h1, h2, fun hM => ⟨id, cs, hM _ _ (h1 _ _ hl), hb, fun ha => h3 hM ha⟩⟩
        · cases hm
      · cases hm
    · cases hm

def BsMat (h : List (Nat × Blk)) (M : NM) : Nat → (l : List Bs) → BsTy l → Prop
  | _, [], _ => True
  | i, b :: l, x => BMat h M i b x.1 ∧ BsMat h M (i + 1) l x.2

theorem matBs_ok {h : List (Nat × Blk)} : ∀ {l : List Bs} {i : Nat} {m m' : NM} {x : BsTy l}, matBs h m i l = some (x, m') → NM.Inj m → NM.Le m m' ∧ NM.Inj m' ∧ ∀ {M : NM}, NM.Le m' M → BsMat h M i l x
  | [], i, m, m', x, hm, hi => by
    simp only [matBs] at hm; cases hm
    exact ⟨NM.Le.refl _, hi, fun _ => trivial⟩
  | b :: l, i, m, m', x, hm, hi => by
    simp only [matBs] at hm
    split at hm
    · rename_i x1 m1 h1
      split at hm
      · rename_i y m2 h2
        cases hm
        obtain ⟨a1, a2, a3⟩ := matB_ok h1 hi
        obtain ⟨b1, b2, b3⟩ := matBs_ok h2 a2
        exact ⟨a1.trans b1, b2, fun hM => ⟨a3 (b1.trans hM), b3 hM⟩⟩
      · cases hm
    · cases hm

/-- the numbers of rows that are only read -/
def roIds (M : NM) : Nat → List Bs → List Nat
  | _, [] => []
  | i, .row _ _ false :: l => match lk M i with | some (some id) => id :: roIds M (i + 1) l | _ => roIds M (i + 1) l
  | i, _ :: l => roIds M (i + 1) l
def ownAt (M : NM) (id : Nat) : Nat → List Bs → Prop
  | _, [] => False
  | i, .row _ _ true :: l => lk M i = some (some id) ∨ ownAt M id (i + 1) l
  | i, _ :: l => ownAt M id (i + 1) l

theorem roIds_mem {id : Nat} : ∀ {l : List Bs} {i : Nat}, id ∈ roIds M i l → ∃ j k e, l[j]? = some (.row k e false) ∧ lk M (i + j) = some (some id)
  | [], i, h => by cases h
  | .row k e false :: l, i, h => by
    unfold roIds at h
    split at h
    · rename_i id' hl
      rcases List.mem_cons.1 h with h | h
      · subst h; exact ⟨0, k, e, rfl, hl⟩
      · obtain ⟨j, k', e', h1, h2⟩ := roIds_mem h; exact ⟨j + 1, k', e', h1, by rw [← h2]; congr 1; omega⟩
    · obtain ⟨j, k', e', h1, h2⟩ := roIds_mem h; exact ⟨j + 1, k', e', h1, by rw [← h2]; congr 1; omega⟩
  | .row k e true :: l, i, h => by
    obtain ⟨j, k', e', h1, h2⟩ := roIds_mem (l := l) (i := i + 1) h; exact ⟨j + 1, k', e', h1, by rw [← h2]; congr 1; omega⟩
  | .box t c :: l, i, h => by
    obtain ⟨j, k', e', h1, h2⟩ := roIds_mem (l := l) (i := i + 1) h; exact ⟨j + 1, k', e', h1, by rw [← h2]; congr 1; omega⟩
theorem roIds_of {id : Nat} {k : Kd} {e : TypeId} : ∀ {l : List Bs} {i j : Nat}, l[j]? = some (.row k e false) → lk M (i + j) = some (some id) → id ∈ roIds M i l
  | [], i, j, h, _ => by simp at h
  | .row k' e' false :: l, i, 0, h, hl => by
    unfold roIds; rw [show lk M i = some (some id) from hl]; simp
  | .row k' e' false :: l, i, j + 1, h, hl => by
    have := roIds_of (l := l) (i := i + 1) (j := j) (by simpa using h) (by rw [← hl]; congr 1; omega)
    unfold roIds
    split
    · exact List.mem_cons_of_mem _ this
    · exact this
  | .row k' e' true :: l, i, 0, h, hl => by simp at h
  | .row k' e' true :: l, i, j + 1, h, hl => roIds_of (l := l) (i := i + 1) (j := j) (by simpa using h) (by rw [← hl]; congr 1; omega)
  | .box t c :: l, i, 0, h, hl => by simp at h
  | .box t c :: l, i, j + 1, h, hl => roIds_of (l := l) (i := i + 1) (j := j) (by simpa using h) (by rw [← hl]; congr 1; omega)

theorem decB_lk {h : List (Nat × Blk)} : ∀ {l : List Bs} {i q : Nat} {x : BsTy l} {b : Blk}, lk (decB i l x) q = some b → BsMat h M i l x → ∃ j bs, ∃ y : bs.Ty, q = i + j ∧ l[j]? = some bs ∧ b = bs.dec y ∧ BMat h M q bs y
  | [], i, q, x, b, hl, _ => by cases hl
  | c :: l, i, q, x, b, hl, ⟨h1, h2⟩ => by
    simp only [decB] at hl
    by_cases e : q = i
    · subst e; rw [lk_same] at hl; cases hl
      exact ⟨0, c, x.1, rfl, rfl, rfl, h1⟩
    · rw [lk_ne _ _ e] at hl
      obtain ⟨j, bs, y, g1, g2, g3, g4⟩ := decB_lk hl h2
      exact ⟨j + 1, bs, y, by omega, by simpa using g2, g3, g4⟩
theorem decB_none : ∀ {l : List Bs} {i q : Nat} {x : BsTy l}, lk (decB i l x) q = none → q < i ∨ i + l.length ≤ q
  | [], i, q, x, _ => by simp; omega
  | c :: l, i, q, x, h => by
    simp only [decB] at h
    by_cases e : q = i
    · subst e; rw [lk_same] at h; cases h
    · rw [lk_ne _ _ e] at h
      rcases decB_none h with h | h
      · left; omega
      · right; simp; omega
theorem decB_hi : ∀ {l : List Bs} {i q : Nat} {x : BsTy l}, i + l.length ≤ q → lk (decB i l x) q = none
  | [], _, _, _, _ => rfl
  | c :: l, i, q, x, h => by
    simp only [decB]
    simp only [List.length_cons] at h
    rw [lk_ne _ _ (by omega)]
    exact decB_hi (by omega)

end

section
variable {B : Nat} {Fr Z0 : Nat → Prop} {w0 w : World} {h : List (Nat × Blk)} {C : Cons} {Z : Nat → Prop} {nt : Nat} {args : List Value} {st : St} {a : Act} {M : NM}

theorem HR.pick (H : HR B Fr Z0 w0 h C Z w) (hM : NM.Inj M) {l : List Bs} {x : BsTy l} (hx : BsMat h M 0 l x) (hdom : ∀ i v, lk M i = some v → i < l.length) :
    ∃ C1 Z1, HR B Fr Z0 w0 (decB 0 l x) (M.cons C1) Z1 w ∧ Ext C C1 := by
  obtain ⟨C1, Z1, H1, x1, z1, z2, c1, f1⟩ := H.freezes (l := roIds M 0 l) (fun i b h => h)
  -- each block of the shape
  have blk : ∀ q b, lk (decB 0 l x) q = some b → ∃ c, M.cons C1 q = some c ∧ BR w Z1 (M.cons C1) b c ∧ (c.foot = [] ∨ ∃ id, lk M q = some (some id) ∧ c.foot = ft (freezeL h (roIds M 0 l) ++ h) C1 id) := fun q b hb => by
    obtain ⟨j, bs, y, rfl, hj, rfl, hm⟩ := decB_lk hb hx
    rw [Nat.zero_add] at hm hb ⊢
    cases bs with
    | row k e own =>
      rcases hm with ⟨hn, hy⟩ | ⟨id, own', hid, hbl, ho⟩
      · subst hy
        refine ⟨.row (.slice none 0 0) [], by unfold NM.cons; rw [hn], ?_, .inl rfl⟩
        cases own
        · exact ⟨rfl, none, 0, rfl, by simp, by simp [maxLen], .inl rfl⟩
        · exact ⟨⟨_, [], [], rfl, World.ownsRow_nil w 0 e k.sz, ⟨rfl, rfl⟩, rfl⟩, List.nodup_nil⟩
      · have hl : lk (freezeL h (roIds M 0 l) ++ h) id = some (.row k e y own) := by
          cases own
          · have hin : id ∈ roIds M 0 l := roIds_of hj (by rw [Nat.zero_add]; exact hid)
            cases own'
            · rw [lk_app_none]
              · exact blkOf_lk hbl (by simp)
              · rcases hq : lk (freezeL h (roIds M 0 l)) id with _ | b
                · rfl
                · obtain ⟨_, _, _, _, h2⟩ := lk_freezeL hq
                  rw [hbl] at h2; cases h2
            · exact lk_app_some (lk_freezeL_mem hin hbl)
          · have := ho rfl; subst this
            rw [lk_app_none]
            · exact blkOf_lk hbl (by simp)
            · refine lk_freezeL_none fun hin => ?_
              obtain ⟨j', k', e', h1, h2⟩ := roIds_mem hin
              rw [Nat.zero_add] at h2
              have := hM _ _ _ hid h2
              subst this
              rw [hj] at h1; cases h1
        obtain ⟨c, hc, hbr⟩ := H1.blk id _ hl
        refine ⟨c, by unfold NM.cons; rw [hid]; exact hc, ?_, .inr ⟨id, hid, (ft_mem hl (by simp) hc).symm⟩⟩
        cases c with
        | box b => cases own <;> exact hbr.elim
        | row v F => cases own <;> exact hbr
    | box t cs' =>
      obtain ⟨id, cs, hid, hbl, hcs⟩ := hm
      have hl : lk (freezeL h (roIds M 0 l) ++ h) id = some (.box t cs) := by
        rw [lk_app_none]
        · exact blkOf_lk hbl (by simp)
        · rcases hq : lk (freezeL h (roIds M 0 l)) id with _ | b
          · rfl
          · obtain ⟨_, _, _, _, h2⟩ := lk_freezeL hq
            rw [hbl] at h2; cases h2
      obtain ⟨c, hc, hbr⟩ := H1.blk id _ hl
      refine ⟨c, by unfold NM.cons; rw [hid]; exact hc, ?_, .inr ⟨id, hid, (ft_mem hl (by simp) hc).symm⟩⟩
      cases c with
      | row v F => exact hbr.elim
      | box b =>
        obtain ⟨vs, h1, h2⟩ := hbr
        exact ⟨vs, h1, (hcs h2).imp fun _ _ => CR0.cr⟩
  have nd : ∀ q, lk (decB 0 l x) q ≠ some .dead := fun q hq => by
    obtain ⟨j, bs, y, _, _, hd, _⟩ := decB_lk hq hx
    cases bs <;> cases hd
  have ftq : ∀ q b, b ∈ ft (decB 0 l x) (M.cons C1) q → ∃ id, lk M q = some (some id) ∧ b ∈ ft (freezeL h (roIds M 0 l) ++ h) C1 id := fun q b hb => by
    rcases hl : lk (decB 0 l x) q with _ | bk
    · rw [ft_none hl] at hb; cases hb
    · obtain ⟨c, hc, _, hf⟩ := blk q bk hl
      rw [ft_mem hl (fun e => nd q (by rw [hl, e])) hc] at hb
      rcases hf with hf | ⟨id, h1, h2⟩
      · rw [hf] at hb; cases hb
      · exact ⟨id, h1, by rw [← h2]; exact hb⟩
  refine ⟨C1, Z1, ⟨fun q hq => ?_, fun q b hb => ?_, fun i j hij b hb hb' => ?_, fun q b hb => ?_, H1.zon, H1.zsb, H1.zin, H1.frm⟩, x1⟩
  · unfold NM.cons
    rcases hl : lk M q with _ | v
    · rfl
    · have := hdom q v hl
      rcases decB_none hq with h | h
      · omega
      · omega
  · obtain ⟨c, h1, h2, _⟩ := blk q b hb; exact ⟨c, h1, h2⟩
  · obtain ⟨id, h1, h2⟩ := ftq i b hb
    obtain ⟨id', h3, h4⟩ := ftq j b hb'
    refine H1.dis id id' (fun e => ?_) b h2 h4
    subst e
    exact hij (hM _ _ _ h1 h3)
  · obtain ⟨id, h1, h2⟩ := ftq q b hb
    exact H1.own id b h2

/-- WHAT STANDS FOR A STATE STANDS FOR ITS SHAPE. -/
theorem Shape.enc_ok {s : Shape} {x : s.X} (h : s.enc st = some x) (H : Rel B Fr Z0 w0 nt args st C Z a w) : ∃ C' Z', Rel B Fr Z0 w0 nt args (s.st x) C' Z' a w := by
  unfold Shape.enc at h
  split at h
  · rename_i y m1 h1
    split at h
    · rename_i z m2 h2
      split at h
      · rename_i xb m3 h3
        split at h
        · rename_i hall
          cases h
          obtain ⟨a1, a2, a3⟩ := matSs_ok h1 (fun i j id hi => by cases hi)
          obtain ⟨b1, b2, b3⟩ := matG_ok h2 a2
          obtain ⟨c1, c2, c3⟩ := matBs_ok h3 b2
          obtain ⟨C1, Z1, H1, x1⟩ := H.hr.pick c2 (c3 (NM.Le.refl _)) (fun i v hi => by
            have := List.all_eq_true.1 hall _ (lk_mem hi)
            simpa [Nat.blt_eq] using this)
          refine ⟨_, Z1, H1, a3 (b1.trans c1) (H.sl.ext x1), H.sz, H.df, fun i hi => decB_hi (by simpa [Shape.st] using hi), b3 c1 (H.gh.imp fun _ _ => VR.ext x1)⟩
        · cases h
      · cases h
    · cases h
  · cases h
end
end Go.Ev
