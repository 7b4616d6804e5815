/- Calls: what stands behind them. -/
import Derived.Test.YtmiimfpdlkmjhaaGreatDoorEvCall
set_option linter.unusedVariables false
set_option linter.unusedSectionVars false
set_option linter.unusedSimpArgs false
namespace Go.Ev
open Go
variable [Lax]

section
variable {B : Nat} {Fr Z0 : Nat → Prop} {w0 w : World} {h h1 : List (Nat × Blk)} {C : Cons} {Z : Nat → Prop} {P : Program} {env : Env} {R : Type}

/-- A number that was given up stands for a row again. -/
theorem HR.revRow (H : HR B Fr Z0 w0 h C Z w) {id : Nat} {v : Value} {F0 : List Nat} (hc : C id = some (.row v F0)) {e : TypeId} {k : Kd} {xs : List k.Ty} {F : List Nat} (ho : Ow w (.sl e k) F xs [v]) (hn : F.Nodup)
    (hF : ∀ b, b ∈ F → b < w.heap.size ∧ ¬ Z b ∧ (B ≤ b ∨ Fr b) ∧ ∀ j, b ∉ ft h C j) : HR B Fr Z0 w0 ((id, .row k e xs true) :: h) (C.put id (.row v F)) Z w :=
  H.one id _ _ Z (Ext.put_row hc) ⟨ho, hn⟩ (fun _ q hq => ⟨(hF q hq).1, (hF q hq).2.1, .inr (.inr ⟨(hF q hq).2.2.2, (hF q hq).2.2.1⟩)⟩) (fun _ h => h) (fun b hb => ⟨H.zon b hb, .inl hb⟩) (fun b hb _ _ => rfl) (Nat.le_refl _) rfl rfl ⟨rfl, DrLe.refl _⟩

theorem Cons.put_id {C : Cons} {i : Nat} {c : Con} (h : C i = some c) : C.put i c = C := by
  funext j
  by_cases e : j = i
  · subst e; rw [Cons.put_same, h]
  · rw [Cons.put_ne _ _ e]

/-- A number that was given up stands for a box again. -/
theorem HR.revBox (H : HR B Fr Z0 w0 h C Z w) {id b : Nat} (hc : C id = some (.box b)) {t : TypeId} {cs : List AV} {vs : Array Value} (hw : w.heap[b]? = some (.cells vs t (0, 0))) (hv : All2 (CR C) cs vs.toList)
    (hF : b < w.heap.size ∧ ¬ Z b ∧ (B ≤ b ∨ Fr b) ∧ ∀ j, b ∉ ft h C j) : HR B Fr Z0 w0 ((id, .box t cs) :: h) C Z w := by
  have := H.one (w' := w) id (.box t cs) (.box b) Z (by rw [Cons.put_id hc]; exact Ext.refl C) (by rw [Cons.put_id hc]; exact ⟨vs, hw, hv⟩)
    (fun _ q hq => by
      simp only [Con.foot, List.mem_singleton] at hq
      subst hq
      exact ⟨hF.1, hF.2.1, .inr (.inr ⟨hF.2.2.2, hF.2.2.1⟩)⟩) (fun _ h => h) (fun b hb => ⟨H.zon b hb, .inl hb⟩) (fun b hb _ _ => rfl) (Nat.le_refl _) rfl rfl ⟨rfl, DrLe.refl _⟩
  rwa [Cons.put_id hc] at this

theorem ft_cons {id : Nat} {b : Blk} {c : Con} (hd : b ≠ .dead) {i q : Nat} (hq : q ∈ ft ((id, b) :: h) (C.put id c) i) : q ∈ ft h C i ∨ q ∈ c.foot := by
  by_cases e : i = id
  · subst e; rw [ft_mem (lk_same _ _ _) hd (Cons.put_same _ _ _)] at hq; exact .inr hq
  · have : ft ((id, b) :: h) (C.put id c) i = ft h C i := by unfold ft; rw [lk_ne _ _ e, Cons.put_ne _ _ e]
    rw [this] at hq; exact .inl hq

/-- What the rows and boxes U do to the heap K. -/
structure Back (B : Nat) (Fr Z0 : Nat → Prop) (w0 : World) (K : List (Nat × Blk)) (C : Cons) (Z : Nat → Prop) (w : World) (U : List (Nat × Blk)) (F ids : List Nat) (n : Nat) (C' : Cons) : Prop where
  hr : HR B Fr Z0 w0 (U ++ K) C' Z w
  ext : Ext C C'
  keys : ∀ p, p ∈ U → p.1 ∈ ids ∨ (n ≤ p.1 ∧ p.1 < n + U.length)
  foot : ∀ i b, b ∈ ft (U ++ K) C' i → b ∈ ft K C i ∨ b ∈ F

/-- what may be written is free -/
def FreeIn (B : Nat) (Fr : Nat → Prop) (K : List (Nat × Blk)) (C : Cons) (Z : Nat → Prop) (w : World) (F : List Nat) : Prop := ∀ b, b ∈ F → b < w.heap.size ∧ ¬ Z b ∧ (B ≤ b ∨ Fr b) ∧ ∀ j, b ∉ ft K C j

theorem Back.none {K : List (Nat × Blk)} (H : HR B Fr Z0 w0 K C Z w) (F ids : List Nat) (n : Nat) : Back B Fr Z0 w0 K C Z w [] F ids n C :=
  ⟨H, Ext.refl C, (fun p hp => by cases hp), fun i b hb => .inl hb⟩

/-- two of them, one behind the other -/
theorem Back.then {K : List (Nat × Blk)} {U1 U2 : List (Nat × Blk)} {F1 F2 ids1 ids2 : List Nat} {n : Nat} {C1 C2 : Cons} (b1 : Back B Fr Z0 w0 K C Z w U1 F1 ids1 n C1) (b2 : Back B Fr Z0 w0 (U1 ++ K) C1 Z w U2 F2 ids2 (n + U1.length) C2) :
    Back B Fr Z0 w0 K C Z w (U2 ++ U1) (F1 ++ F2) (ids1 ++ ids2) n C2 := by
  refine ⟨by rw [List.append_assoc]; exact b2.hr, b1.ext.trans b2.ext, fun p hp => ?_, fun i b hb => ?_⟩
  · rw [List.length_append]
    rcases List.mem_append.1 hp with hp | hp
    · rcases b2.keys p hp with h | h
      · exact .inl (List.mem_append_right _ h)
      · exact .inr (by omega)
    · rcases b1.keys p hp with h | h
      · exact .inl (List.mem_append_left _ h)
      · exact .inr (by omega)
  · rw [List.append_assoc] at hb
    rcases b2.foot i b hb with h | h
    · rcases b1.foot i b h with h | h
      · exact .inl h
      · exact .inr (List.mem_append_left _ h)
    · exact .inr (List.mem_append_right _ h)

theorem Back.fresh {K U : List (Nat × Blk)} {F ids : List Nat} {n m : Nat} {C1 : Cons} (b1 : Back B Fr Z0 w0 K C Z w U F ids n C1) (hf : ∀ i, n ≤ i → i < n + (m + U.length) → lk K i = .none) (hd : ∀ i, i ∈ ids → lk K i = some .dead) :
    ∀ i, n + U.length ≤ i → i < n + U.length + m → lk (U ++ K) i = .none := fun i hi hi' => by
  have h0 := hf i (by omega) (by omega)
  rw [lk_append fun p hp e => ?_]
  · exact h0
  · rcases b1.keys p hp with h | h
    · have := hd _ h; rw [e, h0] at this; cases this
    · omega
theorem Back.dead {K U : List (Nat × Blk)} {F ids ids2 : List Nat} {n : Nat} {C1 : Cons} (b1 : Back B Fr Z0 w0 K C Z w U F ids n C1) (hf : ∀ i, n ≤ i → i < n + U.length → lk K i = .none) (hd : ∀ i, i ∈ ids2 → lk K i = some .dead) (ha : ∀ i, i ∈ ids → i ∉ ids2) :
    ∀ i, i ∈ ids2 → lk (U ++ K) i = some .dead := fun i hi => by
  have h0 := hd i hi
  rw [lk_append fun p hp e => ?_]
  · exact h0
  · subst e
    rcases b1.keys p hp with h | h
    · exact ha _ h hi
    · rw [hf _ h.1 h.2] at h0; cases h0
theorem Back.free {K U : List (Nat × Blk)} {F F2 ids : List Nat} {n : Nat} {C1 : Cons} (b1 : Back B Fr Z0 w0 K C Z w U F ids n C1) (hF : FreeIn B Fr K C Z w F2) (ha : ∀ b, b ∈ F → b ∉ F2) : FreeIn B Fr (U ++ K) C1 Z w F2 := fun b hb => by
  obtain ⟨h1, h2, h3, h4⟩ := hF b hb
  refine ⟨h1, h2, h3, fun j hj => ?_⟩
  rcases b1.foot j b hj with h | h
  · exact h4 j h
  · exact ha b h hb

theorem box_back {K : List (Nat × Blk)} {id b n : Nat} {t : TypeId} {k : Kd} {x : k.Ty} {cs : Array Value} (H : HR B Fr Z0 w0 K C Z w) (hc : C id = some (.box b)) (hw : w.heap[b]? = some (.cells cs t (0, 0))) (hr : Rd w Z k x cs.toList)
    (hf : ∀ i, n ≤ i → i < n + ((id, Blk.box t (injC false k x n).1) :: (injC false k x n).2).length → lk K i = none) (hF : FreeIn B Fr K C Z w [b]) :
    ∃ C', Back B Fr Z0 w0 K C Z w ((id, Blk.box t (injC false k x n).1) :: (injC false k x n).2) [b] [id] n C' := by
  obtain ⟨C1, H1, x1, a1, f1⟩ := H.injRo' (n := n) (fun i hi hi' => hf i hi (by simp only [List.length_cons]; omega)) hr
  obtain ⟨g1, g2, g3, g4⟩ := hF b (by simp)
  have hc1 := x1.box hc
  have H2 := H1.revBox (t := t) hc1 hw a1 ⟨g1, g2, g3, fun j hj => g4 j (f1 j b hj)⟩
  refine ⟨C1, H2, x1, fun p hp => ?_, fun i q hq => ?_⟩
  · rcases List.mem_cons.1 hp with e | hp
    · subst e; exact .inl (by simp)
    · have := injC_ids false p hp
      exact .inr ⟨this.1, by simp only [List.length_cons]; omega⟩
  · rw [← Cons.put_id hc1] at hq
    rcases ft_cons (by simp) hq with h | h
    · exact .inl (f1 i q h)
    · exact .inr h

theorem capsU_ok : ∀ {l : List (TypeId × Kd)} {as : List AV} {x : CapTy l} {vs : List Value} {F : List Nat} {n : Nat} {K : List (Nat × Blk)} {C : Cons}, HR B Fr Z0 w0 K C Z w → CapR w Z l x vs F → All2 (CR0 C) as vs →
    (∀ i, n ≤ i → i < n + (capsU l as x n).length → lk K i = none) → (∀ i, i ∈ handed1 (.fn 0 l) (.fn 0 as) → lk K i = some .dead) → (handed1 (.fn 0 l) (.fn 0 as)).Nodup → F.Nodup → FreeIn B Fr K C Z w F →
    ∃ C', Back B Fr Z0 w0 K C Z w (capsU l as x n) F (handed1 (.fn 0 l) (.fn 0 as)) n C'
  | [], as, x, vs, F, n, K, C, H, _, _, _, _, _, _, _ => ⟨C, by simpa [capsU] using Back.none H F _ n⟩
  | (t, k) :: l, [], x, vs, F, n, K, C, H, _, _, _, _, _, _, _ => ⟨C, by simpa [capsU] using Back.none H F _ n⟩
  | (t, k) :: l, .ptr id off :: as, x, vs, F, n, K, C, H, hr, ha, hf, hd, hn, hnF, hF => by
    obtain ⟨b, F', vs', cs, rfl, rfl, hw, hrd, hr'⟩ := hr
    obtain ⟨⟨b', hC, hv⟩, ha'⟩ := ha
    simp only [Value.pointer.injEq, Option.some.injEq, Addr.mk.injEq, and_true] at hv
    obtain ⟨hb, _⟩ := hv
    subst hb
    simp only [capsU, List.length_append] at hf
    simp only [handed1, List.flatMap_cons, List.singleton_append] at hd hn ⊢
    obtain ⟨n1, n2⟩ := List.nodup_cons.1 hn
    obtain ⟨m1, m2⟩ := List.nodup_cons.1 hnF
    obtain ⟨C1, b1⟩ := box_back (n := n) H hC hw hrd (fun i hi hi' => hf i hi (by omega)) (fun q hq => hF q (by simp at hq; simp [hq]))
    obtain ⟨C2, b2⟩ := capsU_ok (as := as) b1.hr hr' (ha'.imp fun _ _ => CR0.ext b1.ext)
      (b1.fresh (m := (capsU l as x.2 (n + ((id, Blk.box t (injC false k x.1 n).1) :: (injC false k x.1 n).2).length)).length) hf (fun i hi => hd i (by simp at hi; simp [hi])))
      (b1.dead (fun i hi hi' => hf i hi (by omega)) (fun i hi => hd i (List.mem_cons_of_mem _ hi)) (fun i hi hi' => by simp at hi; subst hi; exact n1 hi'))
      n2 m2 (b1.free (fun q hq => hF q (List.mem_cons_of_mem _ hq)) (fun q hq hq' => by simp at hq; subst hq; exact m1 hq'))
    exact ⟨C2, b1.then b2⟩
  | (t, k) :: l, .undef :: as, x, vs, F, n, K, C, H, _, _, _, _, _, _, _ | (t, k) :: l, .nil :: as, x, vs, F, n, K, C, H, _, _, _, _, _, _, _ | (t, k) :: l, .nilp :: as, x, vs, F, n, K, C, H, _, _, _, _, _, _, _
  | (t, k) :: l, .int _ _ :: as, x, vs, F, n, K, C, H, _, _, _, _, _, _, _ | (t, k) :: l, .bool _ :: as, x, vs, F, n, K, C, H, _, _, _, _, _, _, _ | (t, k) :: l, .str _ :: as, x, vs, F, n, K, C, H, _, _, _, _, _, _, _
  | (t, k) :: l, .sl _ :: as, x, vs, F, n, K, C, H, _, _, _, _, _, _, _ | (t, k) :: l, .ep _ _ _ _ :: as, x, vs, F, n, K, C, H, _, _, _, _, _, _, _ | (t, k) :: l, .agg _ :: as, x, vs, F, n, K, C, H, _, _, _, _, _, _, _
  | (t, k) :: l, .tup _ :: as, x, vs, F, n, K, C, H, _, _, _, _, _, _, _ | (t, k) :: l, .fn _ _ :: as, x, vs, F, n, K, C, H, _, _, _, _, _, _, _ | (t, k) :: l, .raw _ :: as, x, vs, F, n, K, C, H, _, _, _, _, _, _, _ | (t, k) :: l, .tl _ _ _ :: as, x, vs, F, n, K, C, H, _, _, _, _, _, _, _ | (t, k) :: l, .err _ :: as, x, vs, F, n, K, C, H, _, _, _, _, _, _, _ => ⟨C, by simpa [capsU] using Back.none H F _ n⟩

theorem Back.mono {K U : List (Nat × Blk)} {F F' ids ids' : List Nat} {n : Nat} {C' : Cons} (b : Back B Fr Z0 w0 K C Z w U F ids n C') (hF : ∀ q, q ∈ F → q ∈ F') (hi : ∀ q, q ∈ ids → q ∈ ids') : Back B Fr Z0 w0 K C Z w U F' ids' n C' :=
  ⟨b.hr, b.ext, fun p hp => (b.keys p hp).imp (hi _) id, fun i q hq => (b.foot i q hq).imp id (hF _)⟩

/-- new contents for the rows of cells -/
theorem putO_ok {h0 : List (Nat × Blk)} : ∀ {k : Kd} {l l' : List AV} {x0 : k.Ty} {ids : List Nat}, reO h0 k l = some (x0, l', ids) → ∀ {u : k.Ty} {F : List Nat} {cs vs' : List Value} {n : Nat} {K : List (Nat × Blk)} {C : Cons}, HR B Fr Z0 w0 K C Z w → Ow w k F u cs → All2 (CR C) l (cs ++ vs') →
    F.Nodup → FreeIn B Fr K C Z w F → ∃ C', Back B Fr Z0 w0 K C Z w (putO k l u).1 F ids n C' ∧ (putO k l u).2 = l' ∧ All2 (CR C') l' vs' := by
  intro k
  induction k with
  | int j =>
    intro l l' x0 ids hr u F cs vs' n K C H ho ha hn hF
    obtain ⟨rfl, rfl⟩ := ho
    match l with
    | .int _ m :: l => simp only [reO] at hr; split at hr; (· cases hr; exact ⟨C, Back.none H _ _ n, rfl, ha.2⟩); (· cases hr)
    | [] | .undef :: _ | .nil :: _ | .nilp :: _ | .bool _ :: _ | .str _ :: _ | .sl _ :: _ | .ep _ _ _ _ :: _ | .ptr _ _ :: _ | .agg _ :: _ | .tup _ :: _ | .fn _ _ :: _ | .raw _ :: _ | .tl _ _ _ :: _ | .err _ :: _ => simp [reO] at hr
  | bool =>
    intro l l' x0 ids hr u F cs vs' n K C H ho ha hn hF
    obtain ⟨rfl, rfl⟩ := ho
    match l with
    | .bool m :: l => simp only [reO] at hr; cases hr; exact ⟨C, Back.none H _ _ n, rfl, ha.2⟩
    | [] | .undef :: _ | .nil :: _ | .nilp :: _ | .int _ _ :: _ | .str _ :: _ | .sl _ :: _ | .ep _ _ _ _ :: _ | .ptr _ _ :: _ | .agg _ :: _ | .tup _ :: _ | .fn _ _ :: _ | .raw _ :: _ | .tl _ _ _ :: _ | .err _ :: _ => simp [reO] at hr
  | err =>
    intro l l' x0 ids hr u F cs vs' n K C H ho ha hn hF
    obtain ⟨rfl, v0, rfl, he0⟩ := ho
    match l with
    | .err m :: l => simp only [reO] at hr; cases hr; exact ⟨C, Back.none H _ _ n, rfl, ha.2⟩
    | [] | .undef :: _ | .nil :: _ | .nilp :: _ | .int _ _ :: _ | .str _ :: _ | .sl _ :: _ | .ep _ _ _ _ :: _ | .ptr _ _ :: _ | .agg _ :: _ | .tup _ :: _ | .fn _ _ :: _ | .raw _ :: _ | .tl _ _ _ :: _ | .bool _ :: _ => simp [reO] at hr
  | str =>
    intro l l' x0 ids hr u F cs vs' n K C H ho ha hn hF
    obtain ⟨rfl, rfl⟩ := ho
    match l with
    | .str m :: l => simp only [reO] at hr; cases hr; exact ⟨C, Back.none H _ _ n, rfl, ha.2⟩
    | [] | .undef :: _ | .nil :: _ | .nilp :: _ | .int _ _ :: _ | .bool _ :: _ | .sl _ :: _ | .ep _ _ _ _ :: _ | .ptr _ _ :: _ | .agg _ :: _ | .tup _ :: _ | .fn _ _ :: _ | .raw _ :: _ | .tl _ _ _ :: _ | .err _ :: _ => simp [reO] at hr
  | raw =>
    intro l l' x0 ids hr u F cs vs' n K C H ho ha hn hF
    obtain ⟨rfl, rfl⟩ := ho
    match l with
    | .raw m :: l => simp only [reO] at hr; cases hr; exact ⟨C, Back.none H _ _ n, rfl, ha.2⟩
    | [] | .undef :: _ | .nil :: _ | .nilp :: _ | .int _ _ :: _ | .bool _ :: _ | .sl _ :: _ | .ep _ _ _ _ :: _ | .ptr _ _ :: _ | .agg _ :: _ | .tup _ :: _ | .fn _ _ :: _ | .str _ :: _ | .tl _ _ _ :: _ | .err _ :: _ => simp [reO] at hr
  | sl e k ih =>
    intro l l' x0 ids hr u F cs vs' n K C H ho ha hn hF
    have ho0 := ho
    obtain ⟨v, cells, G, rfl, _⟩ := ho
    match l with
    | .nil :: l => simp only [reO] at hr; cases hr; exact ⟨C, Back.none H _ _ n, rfl, ha.2⟩
    | .sl id :: l =>
      simp only [reO] at hr
      split at hr
      · split at hr
        · split at hr
          · cases hr
            have hcr : CR0 C (.sl id) v := ha.1
            obtain ⟨⟨F0, hC⟩, _⟩ := hcr
            exact ⟨_, ⟨H.revRow hC ho0 hn hF, Ext.put_row hC, (fun p hp => .inl (by simp [putO] at hp; simp [hp])), fun i q hq => ft_cons (by simp) hq⟩, rfl, ha.2.imp fun _ _ => CR.ext (Ext.put_row hC)⟩
          · cases hr
        · cases hr
      · cases hr
    | [] | .undef :: _ | .nilp :: _ | .int _ _ :: _ | .bool _ :: _ | .str _ :: _ | .ep _ _ _ _ :: _ | .ptr _ _ :: _ | .agg _ :: _ | .tup _ :: _ | .fn _ _ :: _ | .raw _ :: _ | .tl _ _ _ :: _ | .err _ :: _ => simp [reO] at hr
  | st k ih => intro l l' x0 ids hr u F cs vs' n K C H ho ha hn hF; exact ih (by simpa [reO] using hr) H ho ha hn hF
  | pair a b iha ihb =>
    intro l l' x0 ids hr u F cs vs' n K C H ho ha hn hF
    obtain ⟨F1, F2, c1, c2, rfl, rfl, h1, h2⟩ := ho
    simp only [reO] at hr
    split at hr
    · rename_i y1 l1 i1 hx1
      split at hr
      · rename_i y2 l2 i2 hx2
        cases hr
        obtain ⟨m1, m2, m3⟩ := List.nodup_append.1 hn
        obtain ⟨C1, b1, e1, a1⟩ := iha hx1 (n := n) (u := u.1) H h1 (vs' := c2 ++ vs') (by simpa using ha) m1 (fun q hq => hF q (List.mem_append_left _ hq))
        obtain ⟨C2, b2, e2, a2⟩ := ihb hx2 (n := n + (putO a l u.1).1.length) (u := u.2) b1.hr h2 (vs' := vs') a1 m2 (b1.free (fun q hq => hF q (List.mem_append_right _ hq)) (fun q hq hq' => m3 q hq q hq' rfl))
        refine ⟨C2, ?_, ?_, ?_⟩
        · simp only [putO, e1]
          exact b1.then b2
        · simp only [putO, e1]; exact e2
        · exact a2
      · cases hr
    · cases hr

theorem argU_ok {p : Pk} {a : AV} {u : p.Up} {v : Value} {F : List Nat} {n : Nat} {K : List (Nat × Blk)} {C : Cons} {h0 h2 : List (Nat × Blk)} {x0 : p.In} (H : HR B Fr Z0 w0 K C Z w) (hp : p.Ok) (hx : argT h0 h2 p a = some x0) (hr : PkU w Z p u v F) (ha : VR C a v)
    (hf : ∀ i, n ≤ i → i < n + (argU p a u n).length → lk K i = none) (hd : ∀ i, i ∈ handed1 p a → lk K i = some .dead) (hn : (handed1 p a).Nodup) (hnF : F.Nodup) (hF : FreeIn B Fr K C Z w F) :
    ∃ C', Back B Fr Z0 w0 K C Z w (argU p a u n) F (handed1 p a) n C' := by
  cases p with
  | ro k => exact ⟨C, by simpa [argU] using Back.none H F _ n⟩
  | mv k => exact ⟨C, by simpa [argU] using Back.none H F _ n⟩
  | nl => exact ⟨C, by simpa [argU] using Back.none H F _ n⟩
  | rb t k => exact ⟨C, by simpa [argU] using Back.none H F _ n⟩
  | fr f l => exact ⟨C, by simpa [argU] using Back.none H F _ n⟩
  | wr k =>
    simp only [argT] at hx
    split at hx
    · rename_i y ids hc hre
      have hids : ids = slIds (cellsOf a) := by have := reO_slIds hre; simpa [slIds] using this.symm
      obtain ⟨p0, hp0, hdef⟩ := reO_def hre
      rw [List.append_nil] at hp0
      subst hp0
      obtain ⟨hcells, _⟩ := ha.cells hdef
      obtain ⟨cs, how, hv⟩ := hr
      have hcs : v.cells.toList = cs := by
        subst hv
        cases k with
        | int j => obtain ⟨_, rfl⟩ := how; rfl
        | bool => obtain ⟨_, rfl⟩ := how; rfl
        | err => obtain ⟨_, v0, rfl, he⟩ := how; rcases he with ⟨_, rfl⟩ | ⟨_, t, p, rfl⟩ <;> rfl
        | str => obtain ⟨_, rfl⟩ := how; rfl
        | raw => obtain ⟨_, rfl⟩ := how; exact cells_one u.2
        | sl e q =>
          obtain ⟨v, cells, G, rfl, hrow, _⟩ := how
          rcases hrow.2 with ⟨rfl, _⟩ | ⟨g, cap, cur, rfl, _⟩ <;> rfl
        | st q => simp [asV, Kd.isSt, Value.cells]
        | pair ka kb =>
          have := hp rfl
          have h1 := ka.sz_pos
          have h2 := kb.sz_pos
          simp only [Kd.sz] at this
          omega
      rw [hcs] at hcells
      obtain ⟨C', b, _⟩ := putO_ok hre (n := n) (vs' := []) H how (by rw [List.append_nil]; exact hcells) hnF hF
      simp only [handed1, ← hids]
      exact ⟨C', b⟩
    · cases hx
  | ptr t k =>
    cases a with
    | ptr id off =>
      obtain ⟨b, cs, rfl, rfl, hw, hrd⟩ := hr
      obtain ⟨b', hC, hv⟩ := ha.ptr
      simp only [Value.pointer.injEq, Option.some.injEq, Addr.mk.injEq, and_true] at hv
      obtain ⟨hb, _⟩ := hv
      subst hb
      exact box_back H hC hw hrd hf hF
    | _ => exact ⟨C, by simpa [argU] using Back.none H F _ n⟩
  | fn f l =>
    cases a with
    | fn f' caps =>
      obtain ⟨vs, rfl, hcap⟩ := hr
      obtain ⟨vs', hv, hall⟩ : ∃ vs' : List Value, Value.func (.func f) #[] vs.toArray = .func (.func f') #[] vs'.toArray ∧ All2 (CR0 C) caps vs' := ha
      simp only [Value.func.injEq] at hv
      have hvs : vs = vs' := by simpa using hv.2
      subst hvs
      exact capsU_ok H hcap hall hf hd hn hnF hF
    | _ => exact ⟨C, by simpa [argU] using Back.none H F _ n⟩

theorem argsU_ok {h0 h2 : List (Nat × Blk)} : ∀ {ps : List Pk} {as : List AV} {x0 : Ins ps} {u : Ups ps} {vs : List Value} {F : List Nat} {n : Nat} {K : List (Nat × Blk)} {C : Cons}, HR B Fr Z0 w0 K C Z w → (∀ p, p ∈ ps → p.Ok) → argsT h0 h2 ps as = some x0 → UpR w Z ps u vs F → All2 (VR C) as vs →
    (∀ i, n ≤ i → i < n + (argsU ps as u n).length → lk K i = none) → (∀ i, i ∈ handed ps as → lk K i = some .dead) → (handed ps as).Nodup → F.Nodup → FreeIn B Fr K C Z w F →
    ∃ C', Back B Fr Z0 w0 K C Z w (argsU ps as u n) F (handed ps as) n C'
  | [], as, x0, u, vs, F, n, K, C, H, _, _, _, _, _, _, _, _, _ => ⟨C, by simpa [argsU] using Back.none H F _ n⟩
  | p :: ps, [], x0, u, vs, F, n, K, C, H, _, _, _, _, _, _, _, _, _ => ⟨C, by simpa [argsU] using Back.none H F _ n⟩
  | p :: ps, a :: as, x0, u, vs, F, n, K, C, H, hok, hx, hr, ha, hf, hd, hn, hnF, hF => by
    simp only [argsT] at hx
    split at hx
    · rename_i x1 hx1
      split at hx
      · rename_i x2 hx2
        obtain ⟨v, vs', F1, F2, rfl, rfl, hp, hr'⟩ := hr
        obtain ⟨ha1, ha2⟩ := ha
        simp only [argsU, List.length_append] at hf
        simp only [handed] at hd hn ⊢
        obtain ⟨n1, n2, n3⟩ := List.nodup_append.1 hn
        obtain ⟨m1, m2, m3⟩ := List.nodup_append.1 hnF
        obtain ⟨C1, b1⟩ := argU_ok (n := n) H (hok p (by simp)) hx1 hp ha1 (fun i hi hi' => hf i hi (by omega)) (fun i hi => hd i (List.mem_append_left _ hi)) n1 m1 (fun q hq => hF q (List.mem_append_left _ hq))
        obtain ⟨C2, b2⟩ := argsU_ok (as := as) b1.hr (fun q hq => hok q (List.mem_cons_of_mem _ hq)) hx2 hr' (ha2.imp fun _ _ => VR.ext b1.ext)
          (b1.fresh (m := (argsU ps as u.2 (n + (argU p a u.1 n).length)).length) hf (fun i hi => hd i (List.mem_append_left _ hi)))
          (b1.dead (fun i hi hi' => hf i hi (by omega)) (fun i hi => hd i (List.mem_append_right _ hi)) (fun i hi hi' => n3 i hi i hi' rfl))
          n2 m2 (b1.free (fun q hq => hF q (List.mem_append_right _ hq)) (fun q hq hq' => m3 q hq q hq' rfl))
        exact ⟨C2, b1.then b2⟩
      · cases hx
    · cases hx

/-- one result's value, no tuple -/
theorem ofCells_VR1 {kd : Kd} {as : List AV} {cs : List Value} (hl : cs.length = kd.sz) (h1 : kd.isSt = false → kd.sz = 1) (ha : All2 (CR C) as cs) : VR1 C (ofCells kd as) (asV kd cs) := by
  have := ofCells_VR hl h1 ha
  unfold ofCells at this ⊢
  cases hs : kd.isSt
  · rw [hs] at this
    have h1 := h1 hs
    match cs, as, hl.trans h1, ha with
    | [c], [a], _, ⟨hr, _⟩ =>
      simp only at this ⊢
      cases a <;> try exact this
      exact absurd hr (by unfold CR; simp [CR0])
  · rw [hs] at this; exact this

theorem outsA_ok : ∀ {l : List (Kd × Bool)} {o : Outs l} {vs : List Value} {F : List Nat} {n : Nat} {K : List (Nat × Blk)} {C : Cons}, HR B Fr Z0 w0 K C Z w → (∀ p, p ∈ l → Shape1 p.1) → OutR w Z l o vs F →
    (∀ i, n ≤ i → i < n + (outsA l o n).2.length → lk K i = none) → F.Nodup → FreeIn B Fr K C Z w F →
    ∃ C', Back B Fr Z0 w0 K C Z w (outsA l o n).2 F [] n C' ∧ All2 (VR1 C') (outsA l o n).1 vs
  | [], o, vs, F, n, K, C, H, _, hr, _, _, _ => by
    obtain ⟨rfl, rfl⟩ := hr
    exact ⟨C, Back.none H _ _ n, trivial⟩
  | (k, own) :: l, o, vs, F, n, K, C, H, hs, hr, hf, hnF, hF => by
    simp only [outsA, List.length_append] at hf
    obtain ⟨cs, vs', F1, F2, rfl, rfl, h1, h2⟩ : ∃ cs vs' F1 F2, vs = asV k cs :: vs' ∧ F = F1 ++ F2 ∧ (∃ C1, Back B Fr Z0 w0 K C Z w (injC own k o.1 n).2 F1 [] n C1 ∧ All2 (CR C1) (injC own k o.1 n).1 cs ∧ cs.length = k.sz) ∧ OutR w Z l o.2 vs' F2 := by
      cases own
      · obtain ⟨cs, vs', rfl, h1, h2⟩ := hr
        obtain ⟨C1, g1, g2, g3, g4⟩ := H.injRo' (n := n) (fun i hi hi' => hf i hi (by simp only at hi' ⊢; omega)) h1
        exact ⟨cs, vs', [], F, rfl, rfl, ⟨C1, ⟨g1, g2, fun p hp => .inr (injC_ids false p hp), fun i b hb => .inl (g4 i b hb)⟩, g3, h1.len⟩, h2⟩
      · obtain ⟨cs, vs', F1, F2, rfl, rfl, h1, h2⟩ := hr
        obtain ⟨m1, m2, m3⟩ := List.nodup_append.1 hnF
        obtain ⟨C1, g1, g2, g3, g4, g5⟩ := H.injOw (n := n) (fun i hi hi' => hf i hi (by simp only at hi' ⊢; omega)) h1 m1 (fun q hq => hF q (List.mem_append_left _ hq))
        exact ⟨cs, vs', F1, F2, rfl, rfl, ⟨C1, ⟨g1, g2, fun p hp => .inr (injC_ids true p hp), g5⟩, g3, h1.len⟩, h2⟩
    obtain ⟨C1, b1, a1, hl⟩ := h1
    obtain ⟨m1, m2, m3⟩ := List.nodup_append.1 hnF
    obtain ⟨C2, b2, a2⟩ := outsA_ok (n := n + (injC own k o.1 n).2.length) b1.hr (fun p hp => hs p (List.mem_cons_of_mem _ hp)) h2
      (b1.fresh (m := (outsA l o.2 (n + (injC own k o.1 n).2.length)).2.length) hf (fun i hi => by cases hi)) m2 (b1.free (fun q hq => hF q (List.mem_append_right _ hq)) (fun q hq hq' => m3 q hq q hq' rfl))
    refine ⟨C2, b1.then b2, ?_, a2⟩
    exact VR1.ext b2.ext (ofCells_VR1 hl (hs (k, own) (by simp)) a1)

theorem retA_VR : ∀ {as : List AV} {vs : List Value}, All2 (VR1 C) as vs → VR C (retA as) (retV vs)
  | [], [], _ => ⟨[], rfl, trivial⟩
  | [a], [v], ⟨h, _⟩ => by
    have h' : VR1 C a v := h
    cases a <;> try exact h'
    exact absurd h' (by unfold VR1 CR; simp [CR0])
  | a :: b :: l, v :: u :: m, h => ⟨_, rfl, h⟩
  | [], _ :: _, h => h.elim
  | _ :: _, [], h => h.elim
  | [_], _ :: _ :: _, ⟨_, h⟩ => h.elim
  | _ :: _ :: _, [_], ⟨_, h⟩ => h.elim

theorem capsT_keys {h2 : List (Nat × Blk)} : ∀ {l : List (TypeId × Kd)} {as : List AV} {x : CapTy l}, capsT h h2 l as = some x → ∀ i, i ∈ handed1 (.fn 0 l) (.fn 0 as) → ∃ b, lk h i = some b
  | [], [], _, _, i, hi => by simp [handed1] at hi
  | (t, k) :: l, .ptr id off :: as, x, hx, i, hi => by
    simp only [capsT] at hx
    split at hx
    · rename_i t' cs hb
      split at hx
      · split at hx
        · rename_i z hz
          simp only [handed1, List.flatMap_cons, List.singleton_append, List.mem_cons] at hi
          rcases hi with e | hi
          · subst e; exact ⟨_, blkOf_lk hb (by simp)⟩
          · exact capsT_keys hz i hi
        · cases hx
      · cases hx
    · cases hx
  | [], _ :: _, _, hx, _, _ => by simp [capsT] at hx
  | _ :: _, [], _, hx, _, _ => by simp [capsT] at hx
  | (_, _) :: _, .undef :: _, _, hx, _, _ | (_, _) :: _, .nil :: _, _, hx, _, _ | (_, _) :: _, .nilp :: _, _, hx, _, _ | (_, _) :: _, .int _ _ :: _, _, hx, _, _ | (_, _) :: _, .bool _ :: _, _, hx, _, _
  | (_, _) :: _, .str _ :: _, _, hx, _, _ | (_, _) :: _, .sl _ :: _, _, hx, _, _ | (_, _) :: _, .ep _ _ _ _ :: _, _, hx, _, _ | (_, _) :: _, .agg _ :: _, _, hx, _, _ | (_, _) :: _, .tup _ :: _, _, hx, _, _ | (_, _) :: _, .fn _ _ :: _, _, hx, _, _ | (_, _) :: _, .raw _ :: _, _, hx, _, _ | (_, _) :: _, .tl _ _ _ :: _, _, hx, _, _ | (_, _) :: _, .err _ :: _, _, hx, _, _ => by simp [capsT] at hx

theorem argT_keys {h2 : List (Nat × Blk)} {p : Pk} {a : AV} {x : p.In} (hx : argT h h2 p a = some x) : ∀ i, i ∈ handed1 p a → ∃ b, lk h i = some b := by
  intro i hi
  cases p with
  | ro k => simp [handed1] at hi
  | wr k =>
    simp only [argT] at hx
    split at hx
    · rename_i y ids hc hre
      have hids : ids = slIds (cellsOf a) := by have := reO_slIds hre; simpa [slIds] using this.symm
      simp only [handed1, ← hids] at hi
      exact reO_keys hre i hi
    · cases hx
  | nl => simp [handed1] at hi
  | rb t k => simp [handed1] at hi
  | fr f l => simp [handed1] at hi
  | mv k =>
    simp only [argT] at hx
    split at hx
    · rename_i y ids hc hre
      have hids : ids = slIds (cellsOf a) := by have := reO_slIds hre; simpa [slIds] using this.symm
      simp only [handed1, ← hids] at hi
      exact reO_keys hre i hi
    · cases hx
  | ptr t k =>
    cases a with
    | ptr id off =>
      simp [handed1] at hi
      subst hi
      simp only [argT] at hx
      split at hx
      · rename_i hb; exact ⟨_, blkOf_lk hb (by simp)⟩
      · cases hx
    | _ => simp [handed1] at hi
  | fn f l =>
    cases a with
    | fn f' caps =>
      simp only [argT] at hx
      split at hx
      · exact capsT_keys hx i hi
      · cases hx
    | _ => simp [handed1] at hi

theorem argsT_keys {h2 : List (Nat × Blk)} : ∀ {ps : List Pk} {as : List AV} {x : Ins ps}, argsT h h2 ps as = some x → ∀ i, i ∈ handed ps as → ∃ b, lk h i = some b
  | [], [], _, _, i, hi => by cases hi
  | p :: ps, a :: as, x, hx, i, hi => by
    simp only [argsT] at hx
    split at hx
    · rename_i x1 hx1
      split at hx
      · rename_i y hy
        simp only [handed, List.mem_append] at hi
        rcases hi with hi | hi
        · exact argT_keys hx1 i hi
        · exact argsT_keys hy i hi
      · cases hx
    · cases hx
  | [], _ :: _, _, hx, _, _ => by simp [argsT] at hx
  | _ :: _, [], _, hx, _, _ => by simp [argsT] at hx

theorem Rd.plain {Z Z' : Nat → Prop} : ∀ {k : Kd} {x : k.Ty} {cs : List Value}, k.plain = true → Rd w Z k x cs → Rd w Z' k x cs := by
  intro k
  induction k with
  | int j => intro x cs _ h; exact h
  | bool => intro x cs _ h; exact h
  | str => intro x cs _ h; exact h
  | raw => intro x cs _ h; exact h
  | err => intro x cs hp; cases hp
  | sl e k ih => intro x cs hp; cases hp
  | st k ih => intro x cs hp h; exact ih hp h
  | pair a b iha ihb =>
    intro x cs hp h
    simp only [Kd.plain, Bool.and_eq_true] at hp
    obtain ⟨c1, c2, h1, h2, h3⟩ := h
    exact ⟨c1, c2, h1, iha hp.1 h2, ihb hp.2 h3⟩
theorem Rd.zoneP {Z Z' : Nat → Prop} {k : Kd} {x : k.Ty} {cs : List Value} (hz : (!k.plain) = true → ∀ b, Z b → Z' b) (h : Rd w Z k x cs) : Rd w Z' k x cs := by
  cases hp : k.plain
  · exact h.mono (fun _ _ => rfl) (hz (by rw [hp]; rfl))
  · exact h.plain hp
theorem CapR.zone {Z Z' : Nat → Prop} : ∀ {l : List (TypeId × Kd)} {x : CapTy l} {vs : List Value} {F : List Nat}, ((l.any fun p => !p.2.plain) = true → ∀ b, Z b → Z' b) → CapR w Z l x vs F → CapR w Z' l x vs F
  | [], _, _, _, _, h => h
  | (t, k) :: l, x, vs, F, hz, ⟨b, F', vs', cs, h1, h2, h3, h4, h5⟩ => ⟨b, F', vs', cs, h1, h2, h3, h4.zoneP (fun h => hz (by simp only [List.any_cons, h, Bool.true_or])), CapR.zone (fun h => hz (by simp only [List.any_cons, h, Bool.or_true])) h5⟩
theorem UpR.zone {Z Z' : Nat → Prop} : ∀ {ps : List Pk} {u : Ups ps} {vs : List Value} {F : List Nat}, (ps.any Pk.shares = true → ∀ b, Z b → Z' b) → UpR w Z ps u vs F → UpR w Z' ps u vs F
  | [], _, _, _, _, h => h
  | p :: ps, u, vs, F, hz, ⟨v, vs', F1, F2, h1, h2, h3, h4⟩ => by
    refine ⟨v, vs', F1, F2, h1, h2, ?_, UpR.zone (fun h => hz (by simp [h])) h4⟩
    cases p with
    | ro k => exact h3
    | wr k => exact h3
    | mv k => exact h3
    | nl => exact h3
    | rb t k => exact h3
    | fr f l => exact h3
    | ptr t k =>
      obtain ⟨b, cs, g1, g2, g3, g4⟩ := h3
      exact ⟨b, cs, g1, g2, g3, g4.zoneP (fun h => hz (by simp only [List.any_cons, Pk.shares, h, Bool.true_or]))⟩
    | fn f l =>
      obtain ⟨vs2, g1, g2⟩ := h3
      exact ⟨vs2, g1, g2.zone (fun h => hz (by simp only [List.any_cons, Pk.shares, h, Bool.true_or]))⟩
theorem OutR.zone {Z Z' : Nat → Prop} : ∀ {l : List (Kd × Bool)} {o : Outs l} {vs : List Value} {F : List Nat}, ((l.any fun p => !p.2) = true → ∀ b, Z b → Z' b) → OutR w Z l o vs F → OutR w Z' l o vs F
  | [], _, _, _, _, h => h
  | (k, true) :: l, o, vs, F, hz, ⟨cs, vs', F1, F2, h1, h2, h3, h4⟩ => ⟨cs, vs', F1, F2, h1, h2, h3, OutR.zone (fun h => hz (by simp only [List.any_cons, h, Bool.or_true])) h4⟩
  | (k, false) :: l, o, vs, F, hz, ⟨cs, vs', h1, h2, h3⟩ => ⟨cs, vs', h1, h2.mono (fun _ _ => rfl) (hz (by simp)), OutR.zone (fun h => hz (by simp only [List.any_cons, h, Bool.or_true])) h3⟩

theorem zoneOf_of {sh : Bool} {K : List (Nat × Blk)} {C1 : Cons} {Z1 : Nat → Prop} {b : Nat} (h : Z1 b) : zoneOf sh K C1 Z1 b := by
  cases sh
  · exact .inl h
  · exact h

theorem zoneOf_cases {sh : Bool} {K : List (Nat × Blk)} {C1 : Cons} {Z1 : Nat → Prop} {b : Nat} (h : zoneOf sh K C1 Z1 b) : Z1 b ∨ ∃ i, b ∈ ft K C1 i := by
  cases sh
  · exact h
  · exact .inl h

theorem evCall_ok (spk : SpOkS P env B Fr Z0 w0) {f : FuncId} {as : List AV} {n : Nat} {K : Eff → Option R} {r : R} (hk : evCall env f as h n K = some r) :
    ∃ e, K e = some r ∧ GoFn P f ∧ ∀ {h1 : List (Nat × Blk)} {C : Cons} {Z : Nat → Prop} {w : World} {vs : List Value}, HR B Fr Z0 w0 h1 C Z w → Sub h h1 → Fresh n e h1 → All2 (VR C) as vs →
      Calls P f vs.toArray w fun en w' => ∃ v, en = .returned v ∧ Does B Fr Z0 w0 h1 C (.ok v w') e := by
  unfold evCall at hk
  split at hk
  · cases hk
  rename_i sp hsp
  obtain ⟨hgo, hP, hins, houts, hpre⟩ := spk.sp f as sp hsp
  split at hk
  · rename_i x hcond hx
    obtain ⟨o, u, hrel, hK⟩ := sp.law _ _ _ hk
    refine ⟨_, hK, hgo, fun {h1 C Z w vs} H hs hfr hv => ?_⟩
    rw [Bool.and_eq_true, Bool.not_eq_true'] at hcond
    obtain ⟨hrb0, hcond⟩ := hcond
    simp only [Bool.and_eq_true, List.all_eq_true, Bool.not_eq_true'] at hcond
    obtain ⟨hnd, hap⟩ := hcond
    have hnd := nodupB_ok hnd
    obtain ⟨C1, Z1, H1, x1, z1, z2, c1, f1⟩ := H.freezes (l := frzIds sp h as) hs
    have apart : ∀ i, i ∈ handed sp.ins as → i ∉ frzIds sp h as := fun i hi hj => by
      have := hap i hi i hj
      rw [Nat.beq_refl] at this
      cases this
    have S : CallSt B Fr Z0 w0 h h1 (frzIds sp h as) (handed sp.ins as) sp.shares C1 Z1 w := ⟨H1, hs, apart⟩
    have keys := argsT_keys hx
    obtain ⟨Hk, f2⟩ := HR.kills (ids := handed sp.ins as) H1 (fun i hi => by
      obtain ⟨b, hb⟩ := keys i hi
      exact ⟨b, by rw [lk_app_none (lk_freezeL_none (apart i hi))]; exact hs _ _ hb⟩)
    have hv1 := hv.imp fun _ _ => VR.ext x1
    obtain ⟨F, hin, hFm, hFn, _⟩ := argsT_ok S Hk (fun e => by rw [e, Bool.true_and] at hrb0; exact hrb0) hins hx hv1 (fun i hi => hi) (fun e i hi => by unfold frzIds; rw [e]; exact hi)
    have hFn := hFn hnd
    have hFk : ∀ b, b ∈ F → b < w.heap.size ∧ ¬ Z1 b ∧ (B ≤ b ∨ Fr b) ∧ ∀ i, b ∉ ft (deads (handed sp.ins as) ++ (freezeL h (frzIds sp h as) ++ h1)) C1 i := fun b hb => by
      obtain ⟨i, hi, hbi⟩ := hFm b hb
      obtain ⟨g1, g2, g3⟩ := H1.own i b hbi
      refine ⟨g1, g2, g3, fun j hj => ?_⟩
      obtain ⟨q1, q2⟩ := f2 j b hj
      exact H1.dis i j (fun e => q2 (e ▸ hi)) b hbi q1
    have hZZ : ∀ b, zoneOf sp.shares (deads (handed sp.ins as) ++ (freezeL h (frzIds sp h as) ++ h1)) C1 Z1 b → b < w.heap.size := fun b hb => by
      rcases zoneOf_cases hb with hb | ⟨i, hb⟩
      · exact H1.zon b hb
      · exact (Hk.own i b hb).1
    have hnz : ∀ b, b ∈ F → ¬ zoneOf sp.shares (deads (handed sp.ins as) ++ (freezeL h (frzIds sp h as) ++ h1)) C1 Z1 b := fun b hb hz => by
      obtain ⟨_, g2, _, g4⟩ := hFk b hb
      rcases zoneOf_cases hz with hz | ⟨i, hz⟩
      · exact g2 hz
      · exact g4 i hz
    refine Calls.mono (hP w _ x vs F (hpre _ _ (spk.st.now H1 (fun b hb => zoneOf_of hb))) hin hFn (fun b hb => ⟨(hFk b hb).1, hnz b hb⟩) hZZ o u hrel) fun en w' hen => ?_
    obtain ⟨vs', Fo, Fu, Z', rfl, hout, hup, A⟩ := hen
    refine ⟨_, rfl, ?_⟩
    have Ha0 := HR.after Hk A hZZ (fun b hb => (hFk b hb).1) (fun b hb => (hFk b hb).2)
    have Ha := Ha0.zoneUp (fun b => Z' b ∧ b ∈ F ∧ b ∉ Fu) (fun b hb => ⟨Nat.lt_of_lt_of_le (hFk b hb.2.1).1 A.size, (hFk b hb.2.1).2.2⟩)
    have hFuF : ∀ b, b ∈ Fu → b ∈ F := fun b hb => A.fu.2 b hb
    have hzr : sp.shares = true → ∀ b, Z' b → (Z1 b ∨ (Z' b ∧ w.heap.size ≤ b)) ∨ (Z' b ∧ b ∈ F ∧ b ∉ Fu) := fun e b hb => by
      rcases A.zone b hb with h | h | h
      · rw [e] at h; exact .inl (.inl h)
      · exact .inl (.inr ⟨hb, h.1⟩)
      · exact .inr ⟨hb, h⟩
    have hup' := hup.zone (fun e => hzr (by unfold FSpec.shares; rw [e]; rfl))
    have hout' := hout.zone (fun e => hzr (by unfold FSpec.shares; rw [e, Bool.or_true]))
    have hfr' : ∀ i, n ≤ i → i < n + ((outsA sp.out o (n + (argsU sp.ins as u n).length)).2 ++ argsU sp.ins as u n).length → lk (deads (handed sp.ins as) ++ (freezeL h (frzIds sp h as) ++ h1)) i = none := fun i hi hi' => by
      have h0 := hfr i hi hi'
      rw [lk_deads fun hm => by obtain ⟨b, hb⟩ := keys i hm; rw [hs _ _ hb] at h0; cases h0]
      rcases hq : lk (freezeL h (frzIds sp h as)) i with _ | b
      · rw [lk_app_none hq]; exact h0
      · obtain ⟨k, e, xs, _, hb⟩ := lk_freezeL hq
        rw [hs _ _ (blkOf_lk hb (by simp))] at h0; cases h0
    have hFfree : FreeIn B Fr (deads (handed sp.ins as) ++ (freezeL h (frzIds sp h as) ++ h1)) C1 (fun b => (Z1 b ∨ (Z' b ∧ w.heap.size ≤ b)) ∨ (Z' b ∧ b ∈ F ∧ b ∉ Fu)) w' Fu := fun b hb => by
      obtain ⟨g1, g2, g3, g4⟩ := hFk b (hFuF b hb)
      refine ⟨Nat.lt_of_lt_of_le g1 A.size, fun hz => ?_, g3, g4⟩
      rcases hz with (hz | ⟨_, hge⟩) | ⟨_, _, hz⟩
      · exact g2 hz
      · omega
      · exact hz hb
    obtain ⟨C2, b1⟩ := argsU_ok (n := n) Ha hins hx hup' hv1 (fun i hi hi' => hfr' i hi (by rw [List.length_append]; omega)) (fun i hi => lk_dead_mem hi) hnd (A.fu.1 hFn) hFfree
    obtain ⟨C3, b2, a2⟩ := outsA_ok (n := n + (argsU sp.ins as u n).length) b1.hr houts hout'
      (b1.fresh (m := (outsA sp.out o (n + (argsU sp.ins as u n).length)).2.length) (fun i hi hi' => hfr' i hi (by rw [List.length_append]; omega)) (fun i hi => lk_dead_mem hi)) A.nd (fun b hb => by
        obtain ⟨g1, g2, g3⟩ := A.new b hb
        refine ⟨g2, fun hz => ?_, ?_, fun j hj => ?_⟩
        · rcases hz with (hz | ⟨hz, _⟩) | ⟨hz, _⟩
          · rcases g1 with g1 | g1
            · exact absurd (H1.zon b hz) (by omega)
            · exact (hFk b g1.1).2.1 hz
          · exact g3 hz
          · exact g3 hz
        · rcases g1 with g1 | g1
          · exact .inl (Nat.le_trans H1.frm.size g1)
          · exact (hFk b g1.1).2.2.1
        · rcases g1 with g1 | g1
          · rcases b1.foot j b hj with hj | hj
            · exact absurd (Hk.own j b hj).1 (by omega)
            · exact absurd (hFk b (hFuF b hj)).1 (by omega)
          · rcases b1.foot j b hj with hj | hj
            · exact (hFk b g1.1).2.2.2 j hj
            · exact g1.2 hj)
    refine ⟨_, w', C3, (fun b => (Z1 b ∨ (Z' b ∧ w.heap.size ≤ b)) ∨ (Z' b ∧ b ∈ F ∧ b ∉ Fu)), rfl, ?_, x1.trans (b1.ext.trans b2.ext), retA_VR a2⟩
    have := b2.hr
    simp only [List.append_assoc] at this ⊢
    exact this
  · cases hk

end
end Go.Ev
