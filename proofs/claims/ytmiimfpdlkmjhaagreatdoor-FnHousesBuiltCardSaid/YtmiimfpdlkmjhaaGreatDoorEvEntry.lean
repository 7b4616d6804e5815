/- How a function is entered. -/
import Derived.Test.YtmiimfpdlkmjhaaGreatDoorEvShape
set_option linter.unusedVariables false
set_option linter.unusedSectionVars false
set_option linter.unusedSimpArgs false
namespace Go.Ev
open Go
variable [Lax]

def capsA : (l : List (TypeId × Kd)) → CapTy l → Nat → List AV × List (Nat × Blk)
  | [], _, _ => ([], [])
  | (t, k) :: l, x, n => (.ptr n 0 :: (capsA l x.2 (n + ((n, Blk.box t (injC false k x.1 (n + 1)).1) :: (injC false k x.1 (n + 1)).2).length)).1,
      (capsA l x.2 (n + ((n, Blk.box t (injC false k x.1 (n + 1)).1) :: (injC false k x.1 (n + 1)).2).length)).2 ++ ((n, .box t (injC false k x.1 (n + 1)).1) :: (injC false k x.1 (n + 1)).2))
def rbsA : (l : List (TypeId × Kd)) → CapTy l → Nat → List AV × List (Nat × Blk)
  | [], _, _ => ([], [])
  | (t, k) :: l, x, n => (.ep n 0 0 k.sz :: (rbsA l x.2 (n + 1)).1, (rbsA l x.2 (n + 1)).2 ++ [(n, .row k t [x.1] false)])
def inA : (p : Pk) → p.In → Nat → AV × List (Nat × Blk)
  | .ro k, x, n => (ofCells k (injC false k x n).1, (injC false k x n).2)
  | .wr k, x, n => (ofCells k (injC true k x n).1, (injC true k x n).2)
  | .nl, _, _ => (.nil, [])
  | .mv k, x, n => (ofCells k (injC true k x n).1, (injC true k x n).2)
  | .ptr t k, x, n => (.ptr n 0, (n, .box t (injC false k x (n + 1)).1) :: (injC false k x (n + 1)).2)
  | .fn f l, x, n => (.fn f (capsA l x n).1, (capsA l x n).2)
  | .rb t k, x, n => (.ep n 0 0 k.sz, [(n, .row k t [x] false)])
  | .fr f l, x, n => (.fn f (rbsA l x n).1, (rbsA l x n).2)
def insA : (ps : List Pk) → Ins ps → Nat → List AV × List (Nat × Blk)
  | [], _, _ => ([], [])
  | p :: ps, x, n => ((inA p x.1 n).1 :: (insA ps x.2 (n + (inA p x.1 n).2.length)).1, (insA ps x.2 (n + (inA p x.1 n).2.length)).2 ++ (inA p x.1 n).2)
def numbered : Nat → List AV → List (Nat × AV)
  | _, [] => []
  | i, a :: l => (i, a) :: numbered (i + 1) l
/-- the parameters that are kept in mind: those through which may be written -/
def ghosts : List Pk → List AV → List AV
  | .ro _ :: ps, _ :: as => .undef :: ghosts ps as
  | .mv _ :: ps, _ :: as => .undef :: ghosts ps as
  | .nl :: ps, _ :: as => .undef :: ghosts ps as
  | .rb _ _ :: ps, _ :: as => .undef :: ghosts ps as
  | .fr _ _ :: ps, _ :: as => .undef :: ghosts ps as
  | _ :: ps, a :: as => a :: ghosts ps as
  | _, _ => []
def st0 (ps : List Pk) (x : Ins ps) : St := ⟨numbered 0 (insA ps x 0).1, (insA ps x 0).2, (insA ps x 0).2.length, ghosts ps (insA ps x 0).1⟩

section
variable {B : Nat} {Fr Z0 : Nat → Prop} {w0 w : World} {C : Cons} {Z : Nat → Prop} {nt : Nat} {args : List Value} {st : St} {a : Act}

theorem box_new {K : List (Nat × Blk)} {b n : Nat} {t : TypeId} {k : Kd} {x : k.Ty} {cs : Array Value} (H : HR B Fr Z0 w0 K C Z w) (hw : w.heap[b]? = some (.cells cs t (0, 0))) (hr : Rd w Z k x cs.toList)
    (hf : ∀ i, n ≤ i → i < n + ((n, Blk.box t (injC false k x (n + 1)).1) :: (injC false k x (n + 1)).2).length → lk K i = none) (hF : FreeIn B Fr K C Z w [b]) :
    ∃ C', Back B Fr Z0 w0 K C Z w ((n, Blk.box t (injC false k x (n + 1)).1) :: (injC false k x (n + 1)).2) [b] [] n C' ∧ C' n = some (.box b) := by
  obtain ⟨C1, H1, x1, a1, f1⟩ := H.injRo' (n := n + 1) (fun i hi hi' => hf i (by omega) (by simp only [List.length_cons]; omega)) hr
  obtain ⟨g1, g2, g3, g4⟩ := hF b (by simp)
  have hn : lk ((injC false k x (n + 1)).2 ++ K) n = none := by
    rw [lk_append fun p hp => by have := injC_ids false p hp; omega]
    exact hf n (Nat.le_refl _) (by simp)
  have hx := Ext.put_new (c := .box b) (H1.dom n hn)
  have H2 := H1.one (w' := w) n (.box t (injC false k x (n + 1)).1) (.box b) Z hx ⟨cs, hw, a1.imp fun _ _ => CR.ext hx⟩
    (fun _ q hq => by
      simp only [Con.foot, List.mem_singleton] at hq
      subst hq
      exact ⟨g1, g2, .inr (.inr ⟨fun j hj => g4 j (f1 j q hj), g3⟩)⟩) (fun _ h => h) (fun b hb => ⟨H1.zon b hb, .inl hb⟩) (fun b hb _ _ => rfl) (Nat.le_refl _) rfl rfl ⟨rfl, DrLe.refl _⟩
  refine ⟨_, ⟨H2, x1.trans hx, fun p hp => .inr ?_, fun i q hq => ?_⟩, Cons.put_same _ _ _⟩
  · rcases List.mem_cons.1 hp with e | hp
    · subst e; exact ⟨Nat.le_refl _, by simp⟩
    · have := injC_ids false p hp
      exact ⟨by omega, by simp only [List.length_cons]; omega⟩
  · rcases ft_cons (by simp) hq with h | h
    · exact .inl (f1 i q h)
    · exact .inr h

theorem capsA_ok : ∀ {l : List (TypeId × Kd)} {x : CapTy l} {vs : List Value} {F : List Nat} {n : Nat} {K : List (Nat × Blk)} {C : Cons}, HR B Fr Z0 w0 K C Z w → CapR w Z l x vs F →
    (∀ i, n ≤ i → i < n + (capsA l x n).2.length → lk K i = none) → F.Nodup → FreeIn B Fr K C Z w F →
    ∃ C', Back B Fr Z0 w0 K C Z w (capsA l x n).2 F [] n C' ∧ All2 (CR0 C') (capsA l x n).1 vs
  | [], x, vs, F, n, K, C, H, hr, _, _, _ => by
    obtain ⟨rfl, rfl⟩ := hr
    exact ⟨C, Back.none H _ _ n, trivial⟩
  | (t, k) :: l, x, vs, F, n, K, C, H, hr, hf, hn, hF => by
    obtain ⟨b, F', vs', cs, rfl, rfl, hw, hrd, hr'⟩ := hr
    simp only [capsA, List.length_append] at hf
    obtain ⟨m1, m2⟩ := List.nodup_cons.1 hn
    obtain ⟨C1, b1, hb⟩ := box_new (n := n) H hw hrd (fun i hi hi' => hf i hi (by omega)) (fun q hq => hF q (by simp at hq; simp [hq]))
    obtain ⟨C2, b2, a2⟩ := capsA_ok (n := n + ((n, Blk.box t (injC false k x.1 (n + 1)).1) :: (injC false k x.1 (n + 1)).2).length) b1.hr hr'
      (b1.fresh (m := (capsA l x.2 (n + ((n, Blk.box t (injC false k x.1 (n + 1)).1) :: (injC false k x.1 (n + 1)).2).length)).2.length) hf (fun i hi => by cases hi)) m2
      (b1.free (fun q hq => hF q (List.mem_cons_of_mem _ hq)) (fun q hq hq' => by simp at hq; subst hq; exact m1 hq'))
    exact ⟨C2, b1.then b2, ⟨b, b2.ext.box hb, rfl⟩, a2⟩

theorem rb_new {K : List (Nat × Blk)} {n : Nat} {t : TypeId} {k : Kd} {x : k.Ty} {v : Value} (H : HR B Fr Z0 w0 K C Z w) (hr : RbR w Z t k x v) (hf : lk K n = none) :
    ∃ C', Back B Fr Z0 w0 K C Z w [(n, .row k t [x] false)] [] [] n C' ∧ CR0 C' (.ep n 0 0 k.sz) v := by
  obtain ⟨b, off, rfl, hrd⟩ := hr
  have H1 := H.addRo hf hrd
  refine ⟨_, ⟨H1, Ext.put_new (H.dom n hf), fun p hp => .inr ?_, fun i q hq => ?_⟩, ⟨b, off, none⟩, 1, 1, [], Cons.put_same _ _ _, rfl, Int.le_refl _, by omega, by simp⟩
  · simp at hp; subst hp; exact ⟨Nat.le_refl _, by simp⟩
  · left
    by_cases e : i = n
    · subst e; unfold ft at hq; rw [show lk ([(i, Blk.row k t [x] false)] ++ K) i = _ from lk_same _ _ _] at hq; simp [Cons.put_same, Con.foot] at hq
    · unfold ft at hq ⊢; rw [show lk ([(n, Blk.row k t [x] false)] ++ K) i = lk K i from lk_ne _ _ e, Cons.put_ne _ _ e] at hq; exact hq
theorem rbsA_ok : ∀ {l : List (TypeId × Kd)} {x : CapTy l} {vs : List Value} {n : Nat} {K : List (Nat × Blk)} {C : Cons}, HR B Fr Z0 w0 K C Z w → RbsR w Z l x vs →
    (∀ i, n ≤ i → i < n + (rbsA l x n).2.length → lk K i = none) → ∃ C', Back B Fr Z0 w0 K C Z w (rbsA l x n).2 [] [] n C' ∧ All2 (CR0 C') (rbsA l x n).1 vs
  | [], x, vs, n, K, C, H, hr, _ => by
    have hr : vs = [] := hr
    subst hr
    exact ⟨C, Back.none H _ _ n, trivial⟩
  | (t, k) :: l, x, vs, n, K, C, H, hr, hf => by
    obtain ⟨v, vs', rfl, h1, h2⟩ := hr
    simp only [rbsA, List.length_append, List.length_singleton] at hf
    obtain ⟨C1, b1, a1⟩ := rb_new (n := n) H h1 (hf n (Nat.le_refl _) (by omega))
    obtain ⟨C2, b2, a2⟩ := rbsA_ok (n := n + 1) b1.hr h2 (b1.fresh (m := (rbsA l x.2 (n + 1)).2.length) (by simpa [Nat.add_comm, Nat.add_left_comm, Nat.add_assoc] using hf) (fun i hi => by cases hi))
    exact ⟨C2, b1.then b2, CR0.ext b2.ext a1, a2⟩

theorem inA_ok {p : Pk} {x : p.In} {v : Value} {F : List Nat} {n : Nat} {K : List (Nat × Blk)} {C : Cons} (H : HR B Fr Z0 w0 K C Z w) (hp : p.Ok) (hr : PkR w Z p x v F)
    (hf : ∀ i, n ≤ i → i < n + (inA p x n).2.length → lk K i = none) (hn : F.Nodup) (hF : FreeIn B Fr K C Z w F) :
    ∃ C', Back B Fr Z0 w0 K C Z w (inA p x n).2 F [] n C' ∧ VR C' (inA p x n).1 v := by
  cases p with
  | ro k =>
    obtain ⟨rfl, cs, hrd, rfl⟩ := hr
    obtain ⟨C1, H1, x1, a1, f1⟩ := H.injRo' (n := n) hf hrd
    exact ⟨C1, ⟨H1, x1, (fun p hp => .inr (injC_ids false p hp)), fun i b hb => .inl (f1 i b hb)⟩, ofCells_VR hrd.len hp a1⟩
  | wr k =>
    obtain ⟨cs, how, rfl⟩ := hr
    obtain ⟨C1, H1, x1, a1, _, f1⟩ := H.injOw (n := n) hf how hn hF
    exact ⟨C1, ⟨H1, x1, (fun p hp => .inr (injC_ids true p hp)), f1⟩, ofCells_VR how.len hp a1⟩
  | nl =>
    obtain ⟨rfl, rfl⟩ := hr
    exact ⟨C, Back.none H _ _ n, rfl⟩
  | rb t k =>
    obtain ⟨rfl, hr⟩ := hr
    obtain ⟨C1, b1, a1⟩ := rb_new (n := n) H hr (hf n (Nat.le_refl _) (by simp [inA]))
    exact ⟨C1, b1, a1⟩
  | fr f l =>
    obtain ⟨rfl, vs, rfl, hr⟩ := hr
    obtain ⟨C1, b1, a1⟩ := rbsA_ok (n := n) H hr hf
    exact ⟨C1, b1, vs, rfl, a1⟩
  | mv k =>
    obtain ⟨cs, how, rfl⟩ := hr
    obtain ⟨C1, H1, x1, a1, _, f1⟩ := H.injOw (n := n) hf how hn hF
    exact ⟨C1, ⟨H1, x1, (fun p hp => .inr (injC_ids true p hp)), f1⟩, ofCells_VR how.len hp a1⟩
  | ptr t k =>
    obtain ⟨b, cs, rfl, rfl, hw, hrd⟩ := hr
    obtain ⟨C1, b1, hb⟩ := box_new (n := n) H hw hrd hf hF
    exact ⟨C1, b1, b, hb, rfl⟩
  | fn f l =>
    obtain ⟨vs, rfl, hc⟩ := hr
    obtain ⟨C1, b1, ha⟩ := capsA_ok (n := n) H hc hf hn hF
    exact ⟨C1, b1, vs, rfl, ha⟩

theorem insA_ok : ∀ {ps : List Pk} {x : Ins ps} {vs : List Value} {F : List Nat} {n : Nat} {K : List (Nat × Blk)} {C : Cons}, HR B Fr Z0 w0 K C Z w → (∀ p, p ∈ ps → p.Ok) → InR w Z ps x vs F →
    (∀ i, n ≤ i → i < n + (insA ps x n).2.length → lk K i = none) → F.Nodup → FreeIn B Fr K C Z w F →
    ∃ C', Back B Fr Z0 w0 K C Z w (insA ps x n).2 F [] n C' ∧ All2 (VR C') (insA ps x n).1 vs
  | [], x, vs, F, n, K, C, H, _, hr, _, _, _ => by
    obtain ⟨rfl, rfl⟩ := hr
    exact ⟨C, Back.none H _ _ n, trivial⟩
  | p :: ps, x, vs, F, n, K, C, H, hok, hr, hf, hn, hF => by
    obtain ⟨v, vs', F1, F2, rfl, rfl, h1, h2⟩ := hr
    simp only [insA, List.length_append] at hf
    obtain ⟨m1, m2, m3⟩ := List.nodup_append.1 hn
    obtain ⟨C1, b1, a1⟩ := inA_ok (n := n) H (hok p (by simp)) h1 (fun i hi hi' => hf i hi (by omega)) m1 (fun q hq => hF q (List.mem_append_left _ hq))
    obtain ⟨C2, b2, a2⟩ := insA_ok (n := n + (inA p x.1 n).2.length) b1.hr (fun q hq => hok q (List.mem_cons_of_mem _ hq)) h2
      (b1.fresh (m := (insA ps x.2 (n + (inA p x.1 n).2.length)).2.length) hf (fun i hi => by cases hi)) m2 (b1.free (fun q hq => hF q (List.mem_append_right _ hq)) (fun q hq hq' => m3 q hq q hq' rfl))
    exact ⟨C2, b1.then b2, VR.ext b2.ext a1, a2⟩

theorem HR.empty {Fr : Nat → Prop} (hz : ∀ b, Z b → b < w.heap.size) : HR w.heap.size Fr Z w [] (fun _ => none) Z w :=
  ⟨fun _ _ => rfl, (fun _ _ h => by cases h), (fun i j _ b hb => by rw [ft_none rfl] at hb; cases hb), (fun i b hb => by rw [ft_none rfl] at hb; cases hb), hz, fun _ h => h, fun _ h => .inl h,
    ⟨rfl, rfl, ⟨rfl, DrLe.refl _⟩, Nat.le_refl _, fun _ _ _ => rfl⟩⟩

theorem numbered_lk : ∀ {l : List AV} {vs : List Value} {i t : Nat} {av : AV}, All2 (VR C) l vs → lk (numbered i l) t = some av → ∃ j v, t = i + j ∧ vs[j]? = some v ∧ VR C av v
  | [], _, _, _, _, _, h => by cases h
  | x :: l, [], _, _, _, h, _ => h.elim
  | x :: l, v :: vs, i, t, av, ⟨h1, h2⟩, h => by
    simp only [numbered] at h
    by_cases e : t = i
    · subst e; rw [lk_same] at h; cases h
      exact ⟨0, v, rfl, rfl, h1⟩
    · rw [lk_ne _ _ e] at h
      obtain ⟨j, u, g1, g2, g3⟩ := numbered_lk h2 h
      exact ⟨j + 1, u, by omega, by simpa using g2, g3⟩

theorem ghosts_ok : ∀ {ps : List Pk} {as : List AV} {vs : List Value}, as.length = ps.length → All2 (VR C) as vs → All2 (VR C) (ghosts ps as) vs
  | [], [], [], _, _ => trivial
  | p :: ps, a :: as, v :: vs, hl, ⟨h1, h2⟩ => by
    have hl' : as.length = ps.length := by simpa using hl
    cases p <;> exact ⟨by first | trivial | exact h1, ghosts_ok hl' h2⟩
  | [], _ :: _, _, hl, _ => by simp at hl
  | _ :: _, [], _, hl, _ => by simp at hl
  | [], [], _ :: _, _, h => h.elim
  | _ :: _, _ :: _, [], _, h => h.elim
theorem insA_len : ∀ (ps : List Pk) (x : Ins ps) (n : Nat), (insA ps x n).1.length = ps.length
  | [], _, _ => rfl
  | p :: ps, x, n => by simp [insA, insA_len ps]

/-- A function is entered. -/
theorem st0_ok {ps : List Pk} {x : Ins ps} {F : List Nat} (hok : ∀ p, p ∈ ps → p.Ok) (hr : InR w Z ps x args F) (hn : F.Nodup) (hF : ∀ b, b ∈ F → b < w.heap.size ∧ ¬ Z b) (hz : ∀ b, Z b → b < w.heap.size) (nt : Nat) :
    ∃ C, Rel w.heap.size (· ∈ F) Z w nt args (st0 ps x) C Z { tmps := args.toArray ++ Array.replicate (nt - args.toArray.size) undef, defers := [] } w := by
  obtain ⟨C, b, a⟩ := insA_ok (n := 0) (HR.empty (Fr := (· ∈ F)) hz) hok hr (fun _ _ _ => rfl) hn (fun q hq => ⟨(hF q hq).1, (hF q hq).2, .inr hq, fun j hj => by rw [ft_none rfl] at hj; cases hj⟩)
  refine ⟨C, by have := b.hr; rw [List.append_nil] at this; exact this, fun t av ht => ?_, by simp; omega, rfl, fun i hi => ?_, ghosts_ok (insA_len ps x 0) a⟩
  · obtain ⟨j, v, h1, h2, h3⟩ := numbered_lk a ht
    rw [Nat.zero_add] at h1
    subst h1
    have hlt : t < args.length := (List.getElem?_eq_some_iff.1 h2).1
    have : (args.toArray ++ Array.replicate (nt - args.toArray.size) undef).getD t undef = v := by
      rw [Array.getD_eq_getD_getElem?, Array.getElem?_append_left (by simpa using hlt)]
      simp [h2]
    simp only [this]
    exact h3
  · have : lk ((insA ps x 0).2 ++ []) i = none := by
      rw [lk_append fun p hp e => ?_]
      · rfl
      · rcases b.keys p hp with h | h
        · cases h
        · simp only [st0] at hi; omega
    simpa [st0] using this

end
end Go.Ev
