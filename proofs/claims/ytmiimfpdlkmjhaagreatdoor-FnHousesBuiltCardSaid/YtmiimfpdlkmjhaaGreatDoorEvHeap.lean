/- How the abstract heap turns: new rows and boxes, rows that are frozen, handed over, written. -/
import Derived.Test.YtmiimfpdlkmjhaaGreatDoorEvRel
set_option linter.unusedVariables false
set_option linter.unusedSectionVars false
namespace Go.Ev
open Go
variable [Lax]

def Cons.put (C : Cons) (i : Nat) (c : Con) : Cons := fun j => if j = i then some c else C j
theorem Cons.put_same (C : Cons) (i : Nat) (c : Con) : C.put i c i = some c := by simp [Cons.put]
theorem Cons.put_ne (C : Cons) {i j : Nat} (c : Con) (h : j ≠ i) : C.put i c j = C j := by simp [Cons.put, h]
theorem lk_same {α : Type} (l : List (Nat × α)) (i : Nat) (a : α) : lk ((i, a) :: l) i = some a := by simp [lk]
theorem lk_ne {α : Type} (l : List (Nat × α)) {i j : Nat} (a : α) (h : j ≠ i) : lk ((i, a) :: l) j = lk l j := by
  have : Nat.beq i j = false := by
    rcases hb : Nat.beq i j with _ | _
    · rfl
    · exact absurd (Nat.eq_of_beq_eq_true hb).symm h
  simp [lk, this]
theorem Ext.put_new {C : Cons} {i : Nat} {c : Con} (h : C i = none) : Ext C (C.put i c) := fun j c' hj => by
  have : j ≠ i := fun e => by subst e; rw [h] at hj; cases hj
  exact ⟨c', by rw [Cons.put_ne _ _ this]; exact hj, c'.same_refl⟩
theorem Ext.put_row {C : Cons} {i : Nat} {v : Value} {F F' : List Nat} (h : C i = some (.row v F)) : Ext C (C.put i (.row v F')) := fun j c' hj => by
  by_cases e : j = i
  · subst e; rw [h] at hj; cases hj; exact ⟨_, Cons.put_same _ _ _, rfl⟩
  · exact ⟨c', by rw [Cons.put_ne _ _ e]; exact hj, c'.same_refl⟩

section
variable {B : Nat} {Fr Z0 : Nat → Prop} {w0 w w' : World} {h : List (Nat × Blk)} {C : Cons} {Z : Nat → Prop}

theorem Frm.world (H : Frm B Fr w0 w) (hh : w'.heap = w.heap) (h1 : w'.os = w.os) (h2 : w'.tape = w.tape) (h3 : w'.output = w.output ∧ DrLe w.drawn w'.drawn) : Frm B Fr w0 w' :=
  ⟨h1.trans H.os, h2.trans H.tape, ⟨h3.1.trans H.out.1, DrLe.trans H.out.2 h3.2⟩, by rw [hh]; exact H.size, fun b hb hf => by rw [hh]; exact H.blk b hb hf⟩
theorem BR.heap (hh : w'.heap = w.heap) {b : Blk} {c : Con} (H : BR w Z C b c) : BR w' Z C b c := H.mono (fun _ h => h) (fun b _ => by rw [hh]) (Ext.refl C)
/-- A world with the same memory. -/
theorem HR.world (H : HR B Fr Z0 w0 h C Z w) (hh : w'.heap = w.heap) (h1 : w'.os = w.os) (h2 : w'.tape = w.tape) (h3 : w'.output = w.output ∧ DrLe w.drawn w'.drawn) : HR B Fr Z0 w0 h C Z w' :=
  ⟨H.dom, fun i b hb => let ⟨c, hc, hr⟩ := H.blk i b hb; ⟨c, hc, hr.heap hh⟩, H.dis, fun i b hb => by rw [hh]; exact H.own i b hb, fun b hb => by rw [hh]; exact H.zon b hb, H.zsb, H.zin, H.frm.world hh h1 h2 h3⟩

theorem ft_none {i : Nat} (hi : lk h i = none) : ft h C i = [] := by unfold ft; rw [hi]
theorem ft_dead {i : Nat} (hi : lk h i = some .dead) : ft h C i = [] := by unfold ft; rw [hi]

/-- One number turns. -/
theorem HR.one (H : HR B Fr Z0 w0 h C Z w) (id : Nat) (b : Blk) (c : Con) (Z' : Nat → Prop)
    (ext : Ext C (C.put id c)) (hb : BR w' Z' (C.put id c) b c)
    (own' : b ≠ .dead → ∀ q, q ∈ c.foot → q < w'.heap.size ∧ ¬ Z' q ∧ (q ∈ ft h C id ∨ w.heap.size ≤ q ∨ ((∀ j, q ∉ ft h C j) ∧ (B ≤ q ∨ Fr q))))
    (zmono : ∀ b, Z b → Z' b)
    (zon' : ∀ b, Z' b → b < w'.heap.size ∧ (Z b ∨ b ∈ ft h C id ∨ w.heap.size ≤ b))
    (wld : ∀ b, b < w.heap.size → b ∉ ft h C id → (Z b ∨ (∃ i, b ∈ ft h C i) ∨ (b < B ∧ ¬ Fr b)) → w'.heap[b]? = w.heap[b]?)
    (size : w.heap.size ≤ w'.heap.size) (os : w'.os = w.os) (tape : w'.tape = w.tape) (out : w'.output = w.output ∧ DrLe w.drawn w'.drawn) :
    HR B Fr Z0 w0 ((id, b) :: h) (C.put id c) Z' w' := by
  refine H.step (· = id) (fun i hi => ⟨lk_ne _ _ hi, Cons.put_ne _ _ hi⟩) ext ?_ ?_ ?_ ?_ zmono ?_ ?_ size os tape out
  · intro i hi hn; subst hi; rw [lk_same] at hn; cases hn
  · intro i b' hi hb'; subst hi; rw [lk_same] at hb'; cases hb'; exact ⟨c, Cons.put_same _ _ _, hb⟩
  · intro i q hi hq
    subst hi
    by_cases hd : b = .dead
    · subst hd; rw [ft_dead (lk_same _ _ _)] at hq; cases hq
    · rw [ft_mem (lk_same _ _ _) hd (Cons.put_same _ _ _)] at hq
      obtain ⟨h1, h2, h3⟩ := own' hd q hq
      exact ⟨h1, h2, h3.imp (fun h => ⟨_, rfl, h⟩) (fun h => h)⟩
  · intro i j hi hj hij; exact absurd (hi.trans hj.symm) hij
  · intro q hq; obtain ⟨h1, h2⟩ := zon' q hq; exact ⟨h1, h2.imp (fun h => h) (fun h => h.imp (fun h => ⟨_, rfl, h⟩) (fun h => h))⟩
  · intro q hq hn hz; exact wld q hq (hn id rfl) hz

/-- A row that is only read, under a new number. -/
theorem HR.addRo (H : HR B Fr Z0 w0 h C Z w) {id : Nat} (hid : lk h id = none) {e : TypeId} {k : Kd} {xs : List k.Ty} {v : Value} (hr : Rd w Z (.sl e k) xs [v]) :
    HR B Fr Z0 w0 ((id, .row k e xs false) :: h) (C.put id (.row v [])) Z w :=
  H.one id _ _ Z (Ext.put_new (H.dom id hid)) ⟨rfl, hr⟩ (fun _ q hq => by cases hq) (fun _ h => h) (fun b hb => ⟨H.zon b hb, .inl hb⟩) (fun _ _ _ _ => rfl) (Nat.le_refl _) rfl rfl ⟨rfl, DrLe.refl _⟩

/-- A number is given up. -/
theorem HR.kill (H : HR B Fr Z0 w0 h C Z w) {id : Nat} {c : Con} (hc : C id = some c) : HR B Fr Z0 w0 ((id, .dead) :: h) C Z w := by
  have hp : C.put id c = C := by funext j; by_cases e : j = id; · subst e; rw [Cons.put_same, hc]
                                 · rw [Cons.put_ne _ _ e]
  have := H.one (w' := w) id .dead c Z (by rw [hp]; exact Ext.refl C) trivial (fun h => absurd rfl h) (fun _ h => h) (fun b hb => ⟨H.zon b hb, .inl hb⟩) (fun _ _ _ _ => rfl) (Nat.le_refl _) rfl rfl ⟨rfl, DrLe.refl _⟩
  rwa [hp] at this

/-- An owned row is only read from now on. -/
theorem HR.freeze (H : HR B Fr Z0 w0 h C Z w) {id : Nat} {e : TypeId} {k : Kd} {xs : List k.Ty} (hl : lk h id = some (.row k e xs true)) {v : Value} {F : List Nat} (hc : C id = some (.row v F)) :
    HR B Fr Z0 w0 ((id, .row k e xs false) :: h) (C.put id (.row v [])) (fun b => Z b ∨ b ∈ F) w := by
  have hf : ft h C id = F := ft_mem hl (by simp) hc
  obtain ⟨c, hc', hr⟩ := H.blk id _ hl
  rw [hc] at hc'; cases hc'
  refine H.one id _ _ _ (Ext.put_row hc) ⟨rfl, hr.1.rd (fun b hb => .inr hb)⟩ (fun _ q hq => by cases hq) (fun _ h => .inl h) (fun b hb => ?_) (fun _ _ _ _ => rfl) (Nat.le_refl _) rfl rfl ⟨rfl, DrLe.refl _⟩
  rcases hb with hb | hb
  · exact ⟨H.zon b hb, .inl hb⟩
  · rw [hf]; exact ⟨(H.own id b (by rw [hf]; exact hb)).1, .inr (.inl hb)⟩

/-- A new box, in new memory. -/
theorem HR.addBox (H : HR B Fr Z0 w0 h C Z w) {id : Nat} (hid : lk h id = none) {t : TypeId} {cs : List AV} {vs : Array Value} (hv : All2 (CR C) cs vs.toList) :
    HR B Fr Z0 w0 ((id, .box t cs) :: h) (C.put id (.box w.heap.size)) Z (w.alloc (.cells vs t)) := by
  have hx := Ext.put_new (c := .box w.heap.size) (H.dom id hid)
  refine H.one id _ _ Z hx ⟨vs, heap_alloc_new w _, hv.imp fun _ _ => CR.ext hx⟩ (fun _ q hq => ?_) (fun _ h => h) (fun b hb => ⟨?_, .inl hb⟩) (fun b hb _ _ => heap_alloc_old w _ b hb) ?_ rfl rfl ⟨rfl, DrLe.refl _⟩
  · simp only [Con.foot, List.mem_singleton] at hq
    subst hq
    exact ⟨by simp, fun hz => absurd (H.zon _ hz) (by omega), .inr (.inl (Nat.le_refl _))⟩
  · simp only [World.size_alloc]; exact Nat.lt_succ_of_lt (H.zon b hb)
  · simp

/-- A new row of the call's own: the world has grown, what it owns is new. -/
theorem HR.addOwn (H : HR B Fr Z0 w0 h C Z w) {id : Nat} (hid : lk h id = none) {e : TypeId} {k : Kd} {xs : List k.Ty} {v : Value} {F : List Nat}
    (ho : Ow w' (.sl e k) F xs [v]) (hn : F.Nodup) (hF : ∀ b, b ∈ F → w.heap.size ≤ b ∧ b < w'.heap.size) (hg : w.grownBy w' none) (hdr : DrLe w.drawn w'.drawn) :
    HR B Fr Z0 w0 ((id, .row k e xs true) :: h) (C.put id (.row v F)) Z w' := by
  have hx := Ext.put_new (c := .row v F) (H.dom id hid)
  refine H.one id _ _ Z hx ⟨ho, hn⟩ (fun _ q hq => ⟨(hF q hq).2, fun hz => ?_, .inr (.inl (hF q hq).1)⟩) (fun _ h => h) (fun b hb => ⟨Nat.lt_of_lt_of_le (H.zon b hb) hg.size, .inl hb⟩) (fun b hb _ _ => hg.block b hb (by simp)) hg.size hg.os hg.tape ⟨hg.output, hdr⟩
  have := (hF q hq).1
  exact absurd (H.zon q hz) (by omega)

/-- A box is written. -/
theorem HR.setBox (H : HR B Fr Z0 w0 h C Z w) {id : Nat} {t : TypeId} {cs cs' : List AV} (hl : lk h id = some (.box t cs)) {b : Nat} (hc : C id = some (.box b)) {vs : Array Value}
    (hw : w'.heap[b]? = some (.cells vs t (0, 0))) (hv : All2 (CR C) cs' vs.toList) (wld : ∀ q, q ≠ b → w'.heap[q]? = w.heap[q]?) (size : w'.heap.size = w.heap.size)
    (os : w'.os = w.os) (tape : w'.tape = w.tape) (out : w'.output = w.output ∧ DrLe w.drawn w'.drawn) : HR B Fr Z0 w0 ((id, .box t cs') :: h) C Z w' := by
  have hp : C.put id (.box b) = C := by funext j; by_cases e : j = id; · subst e; rw [Cons.put_same, hc]
                                        · rw [Cons.put_ne _ _ e]
  have hf : ft h C id = [b] := ft_mem hl (by simp) hc
  have := H.one (w' := w') id (.box t cs') (.box b) Z (by rw [hp]; exact Ext.refl C) (by rw [hp]; exact ⟨vs, hw, hv⟩) (fun _ q hq => ?_) (fun _ h => h) (fun b hb => ⟨by rw [size]; exact H.zon b hb, .inl hb⟩)
    (fun q _ hq _ => wld q (fun e => hq (by rw [hf, e]; simp))) (Nat.le_of_eq size.symm) os tape out
  · rwa [hp] at this
  · rw [hf]
    have := H.own id q (by rw [hf]; exact hq)
    exact ⟨by rw [size]; exact this.1, this.2.1, .inl hq⟩

/-- A row is written, in its own blocks. -/
theorem HR.setRow (H : HR B Fr Z0 w0 h C Z w) {id : Nat} {k : Kd} {e : TypeId} {xs xs' : List k.Ty} (hl : lk h id = some (.row k e xs true)) {v : Value} {F : List Nat} (hc : C id = some (.row v F))
    (ho : Ow w' (.sl e k) F xs' [v]) (wld : ∀ q, q ∉ F → w'.heap[q]? = w.heap[q]?) (size : w'.heap.size = w.heap.size)
    (os : w'.os = w.os) (tape : w'.tape = w.tape) (out : w'.output = w.output ∧ DrLe w.drawn w'.drawn) : HR B Fr Z0 w0 ((id, .row k e xs' true) :: h) C Z w' := by
  have hp : C.put id (.row v F) = C := by funext j; by_cases e : j = id; · subst e; rw [Cons.put_same, hc]
                                          · rw [Cons.put_ne _ _ e]
  have hf : ft h C id = F := ft_mem hl (by simp) hc
  obtain ⟨c, hc', hr⟩ := H.blk id _ hl
  rw [hc] at hc'; cases hc'
  have := H.one (w' := w') id (.row k e xs' true) (.row v F) Z (by rw [hp]; exact Ext.refl C) ⟨ho, hr.2⟩ (fun _ q hq => ?_) (fun _ h => h) (fun b hb => ⟨by rw [size]; exact H.zon b hb, .inl hb⟩)
    (fun q _ hq _ => wld q (by rw [hf] at hq; exact hq)) (Nat.le_of_eq size.symm) os tape out
  · rwa [hp] at this
  · rw [hf]
    have := H.own id q (by rw [hf]; exact hq)
    exact ⟨by rw [size]; exact this.1, this.2.1, .inl hq⟩

/-- A row of the call's own, over blocks that nobody owns. -/
theorem HR.addFree (H : HR B Fr Z0 w0 h C Z w) {id : Nat} (hid : lk h id = none) {e : TypeId} {k : Kd} {xs : List k.Ty} {v : Value} {F : List Nat}
    (ho : Ow w (.sl e k) F xs [v]) (hn : F.Nodup) (hF : ∀ b, b ∈ F → b < w.heap.size ∧ ¬ Z b ∧ (B ≤ b ∨ Fr b) ∧ ∀ j, b ∉ ft h C j) :
    HR B Fr Z0 w0 ((id, .row k e xs true) :: h) (C.put id (.row v F)) Z w := by
  have hx := Ext.put_new (c := .row v F) (H.dom id hid)
  exact H.one id _ _ Z hx ⟨ho, hn⟩ (fun _ q hq => ⟨(hF q hq).1, (hF q hq).2.1, .inr (.inr ⟨(hF q hq).2.2.2, (hF q hq).2.2.1⟩)⟩) (fun _ h => h) (fun b hb => ⟨H.zon b hb, .inl hb⟩) (fun b hb _ _ => rfl) (Nat.le_refl _) rfl rfl ⟨rfl, DrLe.refl _⟩

/-- The world has grown: what was there is as it was. -/
theorem HR.grow (H : HR B Fr Z0 w0 h C Z w) (hg : w.grownBy w' none) (hdr : DrLe w.drawn w'.drawn) : HR B Fr Z0 w0 h C Z w' := by
  have hb : ∀ b, b < w.heap.size → w'.heap[b]? = w.heap[b]? := fun b hb => hg.block b hb (by simp)
  exact H.step (fun _ => False) (fun _ _ => ⟨rfl, rfl⟩) (Ext.refl C) (fun _ h => h.elim) (fun _ _ h => h.elim) (fun _ _ h => h.elim) (fun _ _ h => h.elim) (fun _ h => h)
    (fun b hz => ⟨Nat.lt_of_lt_of_le (H.zon b hz) hg.size, .inl hz⟩) (fun b hb' _ _ => hb b hb') hg.size hg.os hg.tape ⟨hg.output, hdr⟩

/-- Blocks that nobody owns may only be read from now on. -/
theorem HR.zoneUp (H : HR B Fr Z0 w0 h C Z w) (X : Nat → Prop) (hX : ∀ b, X b → b < w.heap.size ∧ (B ≤ b ∨ Fr b) ∧ ∀ i, b ∉ ft h C i) : HR B Fr Z0 w0 h C (fun b => Z b ∨ X b) w :=
  ⟨H.dom, fun i b hb => let ⟨c, hc, hr⟩ := H.blk i b hb; ⟨c, hc, hr.mono (fun _ h => .inl h) (fun _ _ => rfl) (Ext.refl C)⟩, H.dis,
    fun i b hb => ⟨(H.own i b hb).1, fun hz => by rcases hz with hz | hz; · exact (H.own i b hb).2.1 hz
                                                  · exact (hX b hz).2.2 i hb, (H.own i b hb).2.2⟩,
    fun b hb => by rcases hb with hb | hb; · exact H.zon b hb
                   · exact (hX b hb).1,
    fun b hb => .inl (H.zsb b hb),
    fun b hb => by rcases hb with hb | hb; · exact H.zin b hb
                   · exact .inr (hX b hb).2.1, H.frm⟩

/-- A row of the call's own, over new blocks and blocks that nobody owns, of which the world may have turned some. -/
theorem HR.addTurned (H : HR B Fr Z0 w0 h C Z w) {id : Nat} (hid : lk h id = none) {e : TypeId} {k : Kd} {xs : List k.Ty} {v : Value} {F : List Nat}
    (ho : Ow w' (.sl e k) F xs [v]) (hn : F.Nodup) (hF : ∀ b, b ∈ F → b < w'.heap.size ∧ (w.heap.size ≤ b ∨ (¬ Z b ∧ (B ≤ b ∨ Fr b) ∧ ∀ j, b ∉ ft h C j)))
    (wld : ∀ b, b < w.heap.size → (Z b ∨ (∃ i, b ∈ ft h C i) ∨ (b < B ∧ ¬ Fr b)) → w'.heap[b]? = w.heap[b]?) (size : w.heap.size ≤ w'.heap.size) (os : w'.os = w.os) (tape : w'.tape = w.tape) (out : w'.output = w.output ∧ DrLe w.drawn w'.drawn) :
    HR B Fr Z0 w0 ((id, .row k e xs true) :: h) (C.put id (.row v F)) Z w' := by
  have hx := Ext.put_new (c := .row v F) (H.dom id hid)
  refine H.one id _ _ Z hx ⟨ho, hn⟩ (fun _ q hq => ⟨(hF q hq).1, fun hz => ?_, ?_⟩) (fun _ h => h) (fun b hb => ⟨Nat.lt_of_lt_of_le (H.zon b hb) size, .inl hb⟩) (fun b hb _ hz => wld b hb hz) size os tape out
  · rcases (hF q hq).2 with hge | ⟨hnz, _⟩
    · exact absurd (H.zon q hz) (by omega)
    · exact hnz hz
  · rcases (hF q hq).2 with hge | ⟨_, hfr, hno⟩
    · exact .inr (.inl hge)
    · exact .inr (.inr ⟨hno, hfr⟩)

theorem lk_append {α : Type} : ∀ {l : List (Nat × α)} {h : List (Nat × α)} {i : Nat}, (∀ p, p ∈ l → p.1 ≠ i) → lk (l ++ h) i = lk h i
  | [], _, _, _ => rfl
  | (j, a) :: l, h, i, hl => by
    rw [List.cons_append, lk_ne _ _ (fun e => hl (j, a) (by simp) e.symm)]
    exact lk_append fun p hp => hl p (List.mem_cons_of_mem _ hp)
theorem injC_ids (own : Bool) : ∀ {k : Kd} {x : k.Ty} {n : Nat} (p : Nat × Blk), p ∈ (injC own k x n).2 → n ≤ p.1 ∧ p.1 < n + (injC own k x n).2.length := by
  intro k
  induction k with
  | int k => intro x n p hp; simp [injC] at hp
  | bool => intro x n p hp; simp [injC] at hp
  | err => intro x n p hp; simp [injC] at hp
  | str => intro x n p hp; simp [injC] at hp
  | raw => intro x n p hp; simp [injC] at hp
  | sl e k ih => intro x n p hp; simp [injC] at hp; subst hp; simp [injC]
  | st k ih => intro x n p hp; exact ih p hp
  | pair a b iha ihb =>
    intro x n p hp
    simp only [injC, List.mem_append, List.length_append] at hp ⊢
    rcases hp with hp | hp
    · have := iha p hp; omega
    · have := ihb p hp; omega

/-- Typed cells that are read: their rows under new numbers. -/
theorem HR.injRo' : ∀ {k : Kd} {x : k.Ty} {cs : List Value} {n : Nat} {h : List (Nat × Blk)} {C : Cons}, HR B Fr Z0 w0 h C Z w → (∀ i, n ≤ i → i < n + (injC false k x n).2.length → lk h i = none) → Rd w Z k x cs →
    ∃ C', HR B Fr Z0 w0 ((injC false k x n).2 ++ h) C' Z w ∧ Ext C C' ∧ All2 (CR C') (injC false k x n).1 cs ∧ (∀ i b, b ∈ ft ((injC false k x n).2 ++ h) C' i → b ∈ ft h C i) := by
  intro k
  induction k with
  | int k => intro x cs n h C H _ hr; simp only [Rd] at hr; subst hr; exact ⟨C, H, Ext.refl C, by simp [injC, All2, CR, CR0], fun _ _ h => h⟩
  | bool => intro x cs n h C H _ hr; simp only [Rd] at hr; subst hr; exact ⟨C, H, Ext.refl C, by simp [injC, All2, CR, CR0], fun _ _ h => h⟩
  | err => intro x cs n h C H _ hr; obtain ⟨v, rfl, he⟩ := hr; exact ⟨C, H, Ext.refl C, ⟨he, trivial⟩, fun _ _ h => h⟩
  | str => intro x cs n h C H _ hr; simp only [Rd] at hr; subst hr; exact ⟨C, H, Ext.refl C, by simp [injC, All2, CR, CR0], fun _ _ h => h⟩
  | raw => intro x cs n h C H _ hr; simp only [Rd] at hr; subst hr; exact ⟨C, H, Ext.refl C, by simp [injC, All2, CR, CR0], fun _ _ h => h⟩
  | sl e k ih =>
    intro x cs n h C H hn hr
    have hid : lk h n = none := hn _ (Nat.le_refl _) (by simp [injC])
    obtain ⟨A, c, rfl, r⟩ := hr
    refine ⟨_, H.addRo hid ⟨A, c, rfl, r⟩, Ext.put_new (H.dom n hid), ?_, ?_⟩
    · simp only [injC, All2, CR, CR0, and_true]
      exact ⟨⟨[], Cons.put_same _ _ _⟩, _, _, _, rfl⟩
    · intro i b hb
      by_cases hin : i = n
      · subst hin
        rw [show ((injC false (Kd.sl e k) x i).2 ++ h) = (i, Blk.row k e x false) :: h from rfl, ft_mem (lk_same _ _ _) (by simp) (Cons.put_same _ _ _)] at hb
        cases hb
      · have : ft ((n, Blk.row k e x false) :: h) (C.put n (.row (.slice A x.length c) [])) i = ft h C i := by unfold ft; rw [lk_ne _ _ hin, Cons.put_ne _ _ hin]
        rw [← this]; exact hb
  | st k ih => intro x cs n h C H hn hr; exact ih H hn hr
  | pair a b iha ihb =>
    intro x cs n h C H hn hr
    simp only [injC, List.length_append] at hn
    obtain ⟨c1, c2, rfl, h1, h2⟩ := hr
    obtain ⟨C1, H1, e1, r1, f1⟩ := ihb (n := n + (injC false a x.1 n).2.length) H (fun i hi hi' => hn i (by omega) (by omega)) h2
    obtain ⟨C2, H2, e2, r2, f2⟩ := iha (n := n) H1 (fun i hi hi' => by rw [lk_append fun p hp => by have := injC_ids false p hp; omega]; exact hn i hi (by omega)) h1
    refine ⟨C2, by simp only [injC, List.append_assoc]; exact H2, e1.trans e2, ?_, fun i b hb => ?_⟩
    · simp only [injC]
      exact All2.append r2 (r1.imp fun _ _ => CR.ext e2)
    · simp only [injC, List.append_assoc] at hb
      exact f1 i b (f2 i b hb)
theorem HR.injRo {k : Kd} {x : k.Ty} {cs : List Value} {n : Nat} {h : List (Nat × Blk)} {C : Cons} (H : HR B Fr Z0 w0 h C Z w) (hn : ∀ i, n ≤ i → i < n + (injC false k x n).2.length → lk h i = none) (hr : Rd w Z k x cs) :
    ∃ C', HR B Fr Z0 w0 ((injC false k x n).2 ++ h) C' Z w ∧ Ext C C' ∧ All2 (CR C') (injC false k x n).1 cs :=
  let ⟨C', a, b, c, _⟩ := H.injRo' hn hr; ⟨C', a, b, c⟩

/-- Typed cells that are the call's own: their rows under new numbers. -/
theorem HR.injOw : ∀ {k : Kd} {F : List Nat} {x : k.Ty} {cs : List Value} {n : Nat} {h : List (Nat × Blk)} {C : Cons}, HR B Fr Z0 w0 h C Z w → (∀ i, n ≤ i → i < n + (injC true k x n).2.length → lk h i = none) → Ow w k F x cs → F.Nodup →
    (∀ b, b ∈ F → b < w.heap.size ∧ ¬ Z b ∧ (B ≤ b ∨ Fr b) ∧ ∀ j, b ∉ ft h C j) →
    ∃ C', HR B Fr Z0 w0 ((injC true k x n).2 ++ h) C' Z w ∧ Ext C C' ∧ All2 (CR C') (injC true k x n).1 cs ∧
      (∀ i, (∀ p, p ∈ (injC true k x n).2 → p.1 ≠ i) → C' i = C i) ∧ (∀ i b, b ∈ ft ((injC true k x n).2 ++ h) C' i → b ∈ ft h C i ∨ b ∈ F) := by
  intro k
  induction k with
  | int k => intro F x cs n h C H _ hr _ _; obtain ⟨_, rfl⟩ := hr; exact ⟨C, H, Ext.refl C, by simp [injC, All2, CR, CR0], fun _ _ => rfl, fun _ _ h => .inl h⟩
  | bool => intro F x cs n h C H _ hr _ _; obtain ⟨_, rfl⟩ := hr; exact ⟨C, H, Ext.refl C, by simp [injC, All2, CR, CR0], fun _ _ => rfl, fun _ _ h => .inl h⟩
  | err => intro F x cs n h C H _ hr _ _; obtain ⟨_, v, rfl, he⟩ := hr; exact ⟨C, H, Ext.refl C, ⟨he, trivial⟩, fun _ _ => rfl, fun _ _ h => .inl h⟩
  | str => intro F x cs n h C H _ hr _ _; obtain ⟨_, rfl⟩ := hr; exact ⟨C, H, Ext.refl C, by simp [injC, All2, CR, CR0], fun _ _ => rfl, fun _ _ h => .inl h⟩
  | raw => intro F x cs n h C H _ hr _ _; obtain ⟨_, rfl⟩ := hr; exact ⟨C, H, Ext.refl C, by simp [injC, All2, CR, CR0], fun _ _ => rfl, fun _ _ h => .inl h⟩
  | sl e k ih =>
    intro F x cs n h C H hn hr hnd hF
    have hid : lk h n = none := hn _ (Nat.le_refl _) (by simp [injC])
    have hr0 := hr
    obtain ⟨v, cells, G, rfl, how, _⟩ := hr
    have hvs : ∃ A n c, v = .slice A n c := by
      rcases how.2 with ⟨hv, _⟩ | ⟨g, cap, cur, hv, _⟩
      · exact ⟨_, _, _, hv⟩
      · exact ⟨_, _, _, hv⟩
    refine ⟨_, H.addFree hid hr0 hnd hF, Ext.put_new (H.dom n hid), ?_, ?_, ?_⟩
    · simp only [injC, All2, CR, CR0, and_true]
      exact ⟨⟨F, Cons.put_same _ _ _⟩, hvs⟩
    · intro i hi; exact Cons.put_ne _ _ (fun hq => hi (n, .row k e x true) (by simp [injC]) hq.symm)
    · intro i b hb
      by_cases hin : i = n
      · subst hin
        rw [show ((injC true (Kd.sl e k) x i).2 ++ h) = (i, Blk.row k e x true) :: h from rfl, ft_mem (lk_same _ _ _) (by simp) (Cons.put_same _ _ _)] at hb
        exact .inr hb
      · refine .inl ?_
        have : ft ((n, Blk.row k e x true) :: h) (C.put n (.row v F)) i = ft h C i := by unfold ft; rw [lk_ne _ _ hin, Cons.put_ne _ _ hin]
        rw [← this]; exact hb
  | st k ih => intro F x cs n h C H hn hr; exact ih H hn hr
  | pair a b iha ihb =>
    intro F x cs n h C H hn hr hnd hF
    simp only [injC, List.length_append] at hn
    obtain ⟨F1, F2, c1, c2, rfl, rfl, h1, h2⟩ := hr
    obtain ⟨nd1, nd2, nd3⟩ := List.nodup_append.1 hnd
    obtain ⟨C1, H1, e1, r1, s1, f1⟩ := ihb (n := n + (injC true a x.1 n).2.length) H (fun i hi hi' => hn i (by omega) (by omega)) h2 nd2 (fun b hb => hF b (List.mem_append_right _ hb))
    have fresh : ∀ i, n ≤ i → i < n + (injC true a x.1 n).2.length → lk ((injC true b x.2 (n + (injC true a x.1 n).2.length)).2 ++ h) i = none := fun i hi hi' => by
      rw [lk_append fun p hp => by have := injC_ids true p hp; omega]; exact hn i hi (by omega)
    obtain ⟨C2, H2, e2, r2, s2, f2⟩ := iha (n := n) H1 fresh h1 nd1 (fun q hq => by
      obtain ⟨a1, a2, a3, a4⟩ := hF q (List.mem_append_left _ hq)
      refine ⟨a1, a2, a3, fun j hj => ?_⟩
      rcases f1 j q hj with hj | hj
      · exact a4 j hj
      · exact nd3 q hq q hj rfl)
    refine ⟨C2, by simp only [injC, List.append_assoc]; exact H2, e1.trans e2, ?_, ?_, ?_⟩
    · simp only [injC]
      exact All2.append r2 (r1.imp fun _ _ => CR.ext e2)
    · intro i hi
      simp only [injC, List.mem_append] at hi
      rw [s2 i fun p hp => hi p (.inl hp), s1 i fun p hp => hi p (.inr hp)]
    · intro i q hq
      simp only [injC, List.append_assoc] at hq
      rcases f2 i q hq with hq | hq
      · rcases f1 i q hq with hq | hq
        · exact .inl hq
        · exact .inr (List.mem_append_right _ hq)
      · exact .inr (List.mem_append_left _ hq)

/-- Several numbers are given up. -/
theorem HR.kills : ∀ {ids : List Nat} {h : List (Nat × Blk)}, HR B Fr Z0 w0 h C Z w → (∀ i, i ∈ ids → ∃ b, lk h i = some b) →
    HR B Fr Z0 w0 (ids.map (fun i => (i, Blk.dead)) ++ h) C Z w ∧ ∀ j b, b ∈ ft (ids.map (fun i => (i, Blk.dead)) ++ h) C j → b ∈ ft h C j ∧ j ∉ ids
  | [], h, H, _ => ⟨H, fun j b hb => ⟨hb, by simp⟩⟩
  | i :: ids, h, H, hi => by
    obtain ⟨H1, f1⟩ := HR.kills H (fun j hj => hi j (List.mem_cons_of_mem _ hj))
    obtain ⟨b, hb⟩ := hi i (by simp)
    obtain ⟨c, hc, _⟩ := H.blk i b hb
    refine ⟨H1.kill hc, fun j q hq => ?_⟩
    by_cases e : j = i
    · subst e
      rw [List.map_cons, List.cons_append, ft_dead (lk_same _ _ _)] at hq
      cases hq
    · have : ft (((i :: ids).map (fun i => (i, Blk.dead))) ++ h) C j = ft (ids.map (fun i => (i, Blk.dead)) ++ h) C j := by
        unfold ft; rw [List.map_cons, List.cons_append, lk_ne _ _ e]
      rw [this] at hq
      obtain ⟨h1, h2⟩ := f1 j q hq
      exact ⟨h1, fun h => (List.mem_cons.1 h).elim e h2⟩
theorem lk_kills {ids : List Nat} {j : Nat} (hj : j ∉ ids) : lk (ids.map (fun i => (i, Blk.dead)) ++ h) j = lk h j :=
  lk_append fun p hp e => by
    obtain ⟨i, hi, rfl⟩ := List.mem_map.1 hp
    exact hj (by simp only at e; subst e; exact hi)
end

end Go.Ev
