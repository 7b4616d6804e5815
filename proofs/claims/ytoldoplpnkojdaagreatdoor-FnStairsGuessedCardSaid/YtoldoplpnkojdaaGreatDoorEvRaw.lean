/- Rows whose elements are handed on as raw cells: a contract at raw cells gives one at typed elements. -/
import Derived.Test.YtoldoplpnkojdaaGreatDoorEvPure
set_option linter.unusedVariables false
set_option linter.unusedSectionVars false
set_option linter.unusedSimpArgs false
namespace Go.Ev
open Go
variable [Lax]

/-- the kind with every slice as a raw cell -/
def Kd.rawOf : Kd → Kd
  | .err => .raw
  | .sl _ _ => .raw
  | .st k => .st k.rawOf
  | .pair a b => .pair a.rawOf b.rawOf
  | k => k
def rawCells : (k : Kd) → k.Ty → List Value
  | .int j, n => [.int j n]
  | .bool, b => [.bool b]
  | .err, _ => []
  | .str, s => [.string s]
  | .raw, r => [r.1]
  | .sl _ _, _ => []
  | .st k, x => rawCells k x
  | .pair a b, x => rawCells a x.1 ++ rawCells b x.2
theorem rawOf_sz : ∀ k : Kd, k.rawOf.sz = k.sz
  | .int _ | .bool | .str | .raw | .err | .sl _ _ => rfl
  | .st k => rawOf_sz k
  | .pair a b => by simp [Kd.rawOf, Kd.sz, rawOf_sz a, rawOf_sz b]
theorem rawOf_plain : ∀ k : Kd, k.rawOf.plain = true
  | .int _ | .bool | .str | .raw | .err | .sl _ _ => rfl
  | .st k => rawOf_plain k
  | .pair a b => by simp [Kd.rawOf, Kd.plain, rawOf_plain a, rawOf_plain b]
theorem rawOf_isSt : ∀ k : Kd, k.rawOf.isSt = k.isSt
  | .int _ | .bool | .str | .raw | .err | .sl _ _ | .st _ | .pair _ _ => rfl
theorem Rd.rawCells {w : World} {Z : Nat → Prop} : ∀ {k : Kd} {x : k.Ty} {cs : List Value}, k.plain = true → Rd w Z k x cs → cs = Go.Ev.rawCells k x := by
  intro k
  induction k with
  | int j => intro x cs _ h; exact h
  | bool => intro x cs _ h; exact h
  | err => intro x cs hp; cases hp
  | str => intro x cs _ h; exact h
  | raw => intro x cs _ h; exact h
  | sl e k ih => intro x cs hp; cases hp
  | st k ih => intro x cs hp h; exact ih hp h
  | pair a b iha ihb =>
    intro x cs hp h
    simp only [Kd.plain, Bool.and_eq_true] at hp
    obtain ⟨c1, c2, rfl, h2, h3⟩ := h
    rw [iha hp.1 h2, ihb hp.2 h3]; rfl
theorem rawCells_Ow (w : World) : ∀ {k : Kd} (x : k.Ty), k.plain = true → Ow w k [] x (Go.Ev.rawCells k x) := by
  intro k
  induction k with
  | int j => intro x _; exact ⟨rfl, rfl⟩
  | bool => intro x _; exact ⟨rfl, rfl⟩
  | err => intro x hp; cases hp
  | str => intro x _; exact ⟨rfl, rfl⟩
  | raw => intro x _; exact ⟨rfl, rfl⟩
  | sl e k ih => intro x hp; cases hp
  | st k ih => intro x hp; exact ih x hp
  | pair a b iha ihb =>
    intro x hp
    simp only [Kd.plain, Bool.and_eq_true] at hp
    exact ⟨[], [], _, _, rfl, rfl, iha x.1 hp.1, ihb x.2 hp.2⟩
/-- the raw value of typed cells -/
theorem Ow.toRaw {w : World} : ∀ {k : Kd} {F : List Nat} {x : k.Ty} {cs : List Value}, Ow w k F x cs → ∃ r : k.rawOf.Ty, Go.Ev.rawCells k.rawOf r = cs := by
  intro k
  induction k with
  | int j => intro F x cs h; obtain ⟨_, rfl⟩ := h; exact ⟨x, rfl⟩
  | bool => intro F x cs h; obtain ⟨_, rfl⟩ := h; exact ⟨x, rfl⟩
  | err => intro F x cs h; obtain ⟨_, v, rfl, he⟩ := h; exact ⟨⟨v, by rcases he with ⟨_, rfl⟩ | ⟨_, t, p, rfl⟩ <;> rfl⟩, rfl⟩
  | str => intro F x cs h; obtain ⟨_, rfl⟩ := h; exact ⟨x, rfl⟩
  | raw => intro F x cs h; obtain ⟨_, rfl⟩ := h; exact ⟨x, rfl⟩
  | sl e k ih =>
    intro F x cs h
    obtain ⟨v, cells, G, rfl, hr, _⟩ := h
    have : v.oneCell' = true := by rcases hr.2 with ⟨rfl, _⟩ | ⟨g, cap, cur, rfl, _⟩ <;> rfl
    exact ⟨⟨v, this⟩, rfl⟩
  | st k ih => intro F x cs h; exact ih h
  | pair a b iha ihb =>
    intro F x cs h
    obtain ⟨F1, F2, c1, c2, _, rfl, h1, h2⟩ := h
    obtain ⟨r1, e1⟩ := iha h1
    obtain ⟨r2, e2⟩ := ihb h2
    exact ⟨(r1, r2), by show Go.Ev.rawCells a.rawOf r1 ++ Go.Ev.rawCells b.rawOf r2 = _; rw [e1, e2]⟩

/-- what is read is told by the cells -/
theorem Rd.det {w : World} {Z Z' : Nat → Prop} : ∀ {k : Kd} {x x' : k.Ty} {cs : List Value}, Rd w Z k x cs → Rd w Z' k x' cs → x = x' := by
  intro k
  induction k with
  | int j => intro x x' cs h h'; have h : cs = [.int j x] := h; have h' : cs = [.int j x'] := h'; rw [h] at h'; simpa using h'
  | bool => intro x x' cs h h'; have h : cs = [.bool x] := h; have h' : cs = [.bool x'] := h'; rw [h] at h'; simpa using h'
  | err =>
    intro x x' cs h h'
    obtain ⟨v, rfl, e1⟩ := h
    obtain ⟨v', e, e2⟩ := h'
    cases e
    rcases e1 with ⟨rfl, rfl⟩ | ⟨rfl, t, p, rfl⟩ <;> rcases e2 with ⟨rfl, h⟩ | ⟨rfl, t', p', h⟩ <;> first | rfl | cases h
  | str => intro x x' cs h h'; have h : cs = [.string x] := h; have h' : cs = [.string x'] := h'; rw [h] at h'; simpa using h'
  | raw => intro x x' cs h h'; have h : cs = [x.1] := h; have h' : cs = [x'.1] := h'; rw [h] at h'; exact Subtype.ext (by simpa using h')
  | sl e k ih =>
    intro x x' cs h h'
    obtain ⟨A, c, rfl, _, _, hr⟩ := h
    obtain ⟨A', c', he, _, _, hr'⟩ := h'
    simp only [List.cons.injEq, Value.slice.injEq, and_true] at he
    obtain ⟨rfl, hl, rfl⟩ := he
    rcases hr with hr | ⟨ad, hA, hs, hZ, hel⟩
    · subst hr
      exact (List.eq_nil_of_length_eq_zero (by simpa using hl.symm)).symm
    · rcases hr' with hr' | ⟨ad', hA', hs', hZ', hel'⟩
      · subst hr'
        exact List.eq_nil_of_length_eq_zero (by simpa using hl)
      · rw [hA] at hA'; cases hA'
        apply List.ext_getElem? ; intro i
        by_cases hi : i < x.length
        · have hi' : i < x'.length := by omega
          obtain ⟨cs, g1, g2, g3⟩ := hel i x[i] (List.getElem?_eq_getElem hi)
          obtain ⟨cs', g1', g2', g3'⟩ := hel' i x'[i] (List.getElem?_eq_getElem hi')
          have : cs = cs' := by
            apply List.ext_getElem (by omega)
            intro j h1 h2
            have e1 := g3 j _ (List.getElem?_eq_getElem h1)
            have e2 := g3' j _ (List.getElem?_eq_getElem h2)
            rw [e1] at e2
            exact Option.some.inj e2
          subst this
          rw [List.getElem?_eq_getElem hi, List.getElem?_eq_getElem hi', ih g2 g2']
        · rw [List.getElem?_eq_none (by omega), List.getElem?_eq_none (by omega)]
  | st k ih => intro x x' cs h h'; exact ih h h'
  | pair a b iha ihb =>
    intro x x' cs h h'
    obtain ⟨c1, c2, rfl, h1, h2⟩ := h
    obtain ⟨c1', c2', he, h1', h2'⟩ := h'
    have hl : c1.length = c1'.length := by rw [h1.len, h1'.len]
    obtain ⟨rfl, rfl⟩ := List.append_inj he hl
    exact Prod.ext (iha h1 h1') (ihb h2 h2')

/-- an owned row, its elements as raw cells -/
theorem Reps.toRaw {w : World} {k : Kd} : ∀ {xs : List k.Ty} {G : List Nat} {cs : List Value}, Reps (Ow w k) k.sz G xs cs →
    ∃ l : List k.rawOf.Ty, l.length = xs.length ∧ Reps (Ow w k.rawOf) k.rawOf.sz [] l cs ∧ Reps (fun F (p : k.rawOf.Ty × k.Ty) c => Ow w k F p.2 c ∧ c = Go.Ev.rawCells k.rawOf p.1) k.sz G (l.zip xs) cs
  | [], G, cs, ⟨h1, h2⟩ => ⟨[], rfl, ⟨rfl, h2⟩, ⟨h1, h2⟩⟩
  | x :: xs, G, cs, ⟨F1, F2, c1, c2, hF, hc, hl, hp, hr⟩ => by
    obtain ⟨r, hr1⟩ := hp.toRaw
    obtain ⟨l, g1, g2, g3⟩ := Reps.toRaw hr
    refine ⟨r :: l, by simp [g1], ⟨[], [], c1, c2, rfl, hc, by rw [rawOf_sz]; exact hl, ?_, g2⟩, ⟨F1, F2, c1, c2, hF, hc, hl, ⟨hp, hr1.symm⟩, g3⟩⟩
    rw [← hr1]; exact rawCells_Ow w r (rawOf_plain k)

theorem Reps.filter {α : Type} {p : List Nat → α → List Value → Prop} {sz : Nat} (f : α → Bool) : ∀ {xs : List α} {F : List Nat} {cs : List Value}, Reps p sz F xs cs → ∃ F' cs', F'.Sublist F ∧ Reps p sz F' (xs.filter f) cs'
  | [], F, cs, _ => ⟨[], [], List.nil_sublist _, rfl, rfl⟩
  | x :: xs, F, cs, ⟨F1, F2, c1, c2, hF, hc, hl, hp, hr⟩ => by
    obtain ⟨F', cs', s, r⟩ := Reps.filter f hr
    cases hx : f x
    · rw [List.filter_cons_of_neg (by rw [hx]; simp)]
      exact ⟨F', cs', by rw [hF]; exact s.trans (List.sublist_append_right _ _), r⟩
    · rw [List.filter_cons_of_pos hx]
      exact ⟨F1 ++ F', c1 ++ cs', by rw [hF]; exact List.Sublist.append (List.Sublist.refl _) s, F1, F', c1, cs', rfl, rfl, hl, hp, r⟩
theorem Reps.mem {α : Type} {p : List Nat → α → List Value → Prop} {sz : Nat} : ∀ {xs : List α} {F : List Nat} {cs : List Value}, Reps p sz F xs cs → ∀ x, x ∈ xs → ∃ F' c, (∀ b, b ∈ F' → b ∈ F) ∧ p F' x c
  | [], _, _, _, x, hx => by cases hx
  | y :: xs, F, cs, ⟨F1, F2, c1, c2, hF, hc, hl, hp, hr⟩, x, hx => by
    rcases List.mem_cons.1 hx with e | hx
    · subst e; exact ⟨F1, c1, fun b hb => by rw [hF]; exact List.mem_append_left _ hb, hp⟩
    · obtain ⟨F', c, h1, h2⟩ := Reps.mem hr x hx
      exact ⟨F', c, fun b hb => by rw [hF]; exact List.mem_append_right _ (h1 b hb), h2⟩
/-- pairs: the cells are those of the raw values -/
theorem Reps.pairs {w w' : World} {k : Kd} {sz : Nat} : ∀ {ps : List (k.rawOf.Ty × k.Ty)} {G : List Nat} {cs : List Value}, Reps (fun F (p : k.rawOf.Ty × k.Ty) c => Ow w k F p.2 c ∧ c = Go.Ev.rawCells k.rawOf p.1) sz G ps cs →
    (∀ b, b ∈ G → w'.heap[b]? = w.heap[b]?) → cs = (ps.map (·.1)).flatMap (Go.Ev.rawCells k.rawOf) ∧ Reps (Ow w' k) sz G (ps.map (·.2)) cs
  | [], G, cs, ⟨h1, h2⟩, _ => ⟨h2, h1, h2⟩
  | p :: ps, G, cs, ⟨F1, F2, c1, c2, hF, hc, hl, ⟨hp, hp'⟩, hr⟩, hw => by
    obtain ⟨e1, e2⟩ := Reps.pairs hr (fun b hb => hw b (by rw [hF]; exact List.mem_append_right _ hb))
    exact ⟨by rw [hc, hp', e1]; rfl, F1, F2, c1, c2, hF, hc, hl, Ow.mono (fun b hb => hw b (by rw [hF]; exact List.mem_append_left _ hb)) hp, e2⟩
theorem Reps.plainCells {w : World} {k : Kd} (hp : k.plain = true) {sz : Nat} : ∀ {xs : List k.Ty} {G : List Nat} {cs : List Value}, Reps (Ow w k) sz G xs cs → cs = xs.flatMap (Go.Ev.rawCells k) ∧ G = []
  | [], _, _, ⟨h1, h2⟩ => ⟨h2, h1⟩
  | x :: xs, _, _, ⟨F1, F2, c1, c2, hF, hc, hl, h, hr⟩ => by
    obtain ⟨e1, e2⟩ := Reps.plainCells hp hr
    have h0 := plain_F hp h
    have := (Ow.rd (Z := fun _ => True) (fun _ _ => trivial) h).rawCells hp
    exact ⟨by rw [hc, this, e1]; rfl, by rw [hF, h0, e2]; rfl⟩

/-- what the raw cells of a row lead to -/
def PreD (pre0 : WPre) (kD : Kd) (D : kD.rawOf.Ty → Option kD.Ty) : WPre where
  p w Z := pre0.p w Z ∧ ∀ r y, D r = some y → Rd w Z kD y (rawCells kD.rawOf r)
  st h hw hz := ⟨pre0.st h.1 hw hz, fun r y e => (h.2 r y e).mono hw hz⟩

theorem RbsR.mono {w : World} {Z Z' : Nat → Prop} (hz : ∀ b, Z b → Z' b) : ∀ {l : List (TypeId × Kd)} {x : CapTy l} {vs : List Value}, RbsR w Z l x vs → RbsR w Z' l x vs
  | [], _, _, h => h
  | (t, k) :: l, x, vs, ⟨v, vs', h0, ⟨b, off, h1, h2⟩, h3⟩ => ⟨v, vs', h0, ⟨b, off, h1, h2.mono (fun _ _ => rfl) hz⟩, RbsR.mono hz h3⟩

/-- ELEMENTS LEFT OUT OF A ROW: the contract at raw cells gives the contract at typed elements. -/
theorem filter_deep {P : Program} {f g : FuncId} {e : TypeId} {kD : Kd} {caps : List (TypeId × Kd)} {pre0 : WPre} (p : kD.Ty → CapTy caps → Option Bool)
    (Fr : (kD.rawOf.Ty → Option kD.Ty) → Ins [.mv (.sl e kD.rawOf), .fr g caps] → Option (List kD.rawOf.Ty))
    (hr : ∀ D, Cert P f (mkF (PreD pre0 kD D) [.mv (.sl e kD.rawOf), .fr g caps] [(.sl e kD.rawOf, true)] (fun t => ((t, ()), ((), (), ()))) (Fr D)))
    (hF : ∀ D (ps : List (kD.rawOf.Ty × kD.Ty)) c, (∀ q, q ∈ ps → D q.1 = some q.2) → (∀ q, q ∈ ps → (p q.2 c).isSome = true) → ps.length ≤ maxLen →
      Fr D (ps.map (·.1), c, ()) = some ((ps.filter fun q => !(p q.2 c).getD false).map (·.1))) :
    Cert P f (mkF pre0 [.mv (.sl e kD), .fr g caps] [(.sl e kD, true)] (fun t => ((t, ()), ((), (), ()))) (fun x => bif x.1.all (fun y => (p y x.2.1).isSome) then some (x.1.filter fun y => !(p y x.2.1).getD false) else none)) := by
  refine ⟨(hr fun _ => none).go, ?_, fun q hq => ?_, fun q hq => ?_⟩
  · intro w Z x args F hpre hin hn hF0 hz o u hrel
    obtain ⟨ys, c, _⟩ := x
    obtain ⟨v, vs1, F1, F2', rfl, rfl, h1, vg, vs2, F2, F3, rfl, rfl, hq, h3⟩ := hin
    obtain ⟨rfl, rfl⟩ := h3
    obtain ⟨cs, ⟨v0, cells, G, rfl, hrow, hreps, rfl⟩, hv⟩ := h1
    have hv : v = v0 := hv
    subst hv
    obtain ⟨rfl, vs, rfl, hcap⟩ := hq
    obtain ⟨t, ht, hinj⟩ := hrel
    simp only at ht
    cases hall : ys.all (fun y => (p y c).isSome)
    · rw [hall] at ht; cases ht
    rw [hall, cond_true] at ht
    cases ht
    cases hinj
    simp only [List.append_nil] at hn hF0 ⊢
    obtain ⟨l, hl, hraw, hpair⟩ := hreps.toRaw
    have hl : l.length = ys.length := hl
    have hzip1 : (l.zip ys).map (·.1) = l := List.map_fst_zip (by omega)
    have hzip2 : (l.zip ys).map (·.2) = ys := List.map_snd_zip (by omega)
    obtain ⟨n1, n2, n3⟩ := List.nodup_append.1 hn
    have hGZ : ∀ b, b ∈ G → b < w.heap.size ∧ ¬ Z b := fun b hb => hF0 b (List.mem_append_right _ hb)
    let Z1 : Nat → Prop := fun b => Z b ∨ b ∈ G
    let D : kD.rawOf.Ty → Option kD.Ty := open Classical in fun r => if h : ∃ y, Rd w Z1 kD y (Go.Ev.rawCells kD.rawOf r) then some (Classical.choose h) else none
    have hDr : ∀ r y, D r = some y → Rd w Z1 kD y (Go.Ev.rawCells kD.rawOf r) := fun r y h => by
      simp only [D] at h
      split at h
      · rename_i hex; cases h; exact Classical.choose_spec hex
      · cases h
    have hDp : ∀ q, q ∈ l.zip ys → D q.1 = some q.2 := fun q hq => by
      obtain ⟨F', cs', g1, g2, g3⟩ := hpair.mem q hq
      subst g3
      have hrd : Rd w Z1 kD q.2 (Go.Ev.rawCells kD.rawOf q.1) := g2.rd (fun b hb => .inr (g1 b hb))
      have hex : ∃ y, Rd w Z1 kD y (Go.Ev.rawCells kD.rawOf q.1) := ⟨_, hrd⟩
      simp only [D]
      rw [dif_pos hex]
      exact congrArg some (Rd.det (Classical.choose_spec hex) hrd)
    have hys : ys.length ≤ maxLen := by
      rcases hrow.2 with ⟨_, h0⟩ | ⟨_, _, _, _, _, _, h1, h2, _⟩
      · rw [h0]; exact Nat.zero_le _
      · exact Nat.le_trans h1 h2
    have hFr := hF D (l.zip ys) c hDp (fun q hq => by
      have : q.2 ∈ ys := by rw [← hzip2]; exact List.mem_map_of_mem hq
      exact List.all_eq_true.1 hall _ this) (by rw [List.length_zip]; omega)
    rw [hzip1] at hFr
    refine Calls.mono ((hr D).holds w Z1 (l, c, ()) [v, .func (.func g) #[] vs.toArray] (v.ownBlock.toList ++ ([] ++ [])) ⟨pre0.st hpre (fun _ _ => rfl) (fun b hb => .inl hb), hDr⟩
      ⟨v, _, v.ownBlock.toList, [] ++ [], rfl, rfl, ⟨[v], ⟨v, cells, [], rfl, by rw [rawOf_sz, hl]; exact hrow, hraw, by simp⟩, rfl⟩, _, _, [], [], rfl, rfl, ⟨rfl, vs, rfl, hcap.mono (fun b hb => .inl hb)⟩, rfl, rfl⟩
      (by simpa using n1) (fun b hb => ?_) (fun b hb => ?_) _ _ ⟨_, hFr, rfl⟩) fun en w' hen => ?_
    · have hb : b ∈ v.ownBlock.toList := by simpa using hb
      refine ⟨(hF0 b (List.mem_append_left _ hb)).1, fun hz1 => ?_⟩
      rcases hz1 with hz1 | hz1
      · exact (hF0 b (List.mem_append_left _ hb)).2 hz1
      · exact n3 b hb b hz1 rfl
    · rcases hb with hb | hb
      · exact hz b hb
      · exact (hGZ b hb).1
    · obtain ⟨vs', Fo, Fu, Z', rfl, hout, hup, A⟩ := hen
      simp only [List.append_nil] at A
      obtain ⟨cs', vs'', Fo1, Fo2, rfl, rfl, ⟨v1, cells1, G1, rfl, hrow1, hreps1, rfl⟩, rfl, rfl⟩ := hout
      obtain ⟨e1, rfl⟩ := hreps1.plainCells (rawOf_plain kD)
      obtain ⟨_, _, U1, U2', hu0, rfl, hU1, _, _, U2, U3, hu1, rfl, hU2, hu3⟩ := hup
      have hU1 : U1 = [] := hU1
      have hU2 : U2 = [] := hU2
      obtain ⟨_, hU3⟩ := hu3
      subst hU1; subst hU2; subst hU3
      simp only [List.append_nil] at A
      obtain ⟨G', cs2, hsub, hsel⟩ := hpair.filter (fun q => !(p q.2 c).getD false)
      have hGw : ∀ b, b ∈ G → w'.heap[b]? = w.heap[b]? := fun b hb => A.blk b (hGZ b hb).1 (fun hb' => n3 b hb' b hb rfl)
      obtain ⟨e2, hsel2⟩ := hsel.pairs (w' := w') (fun b hb => hGw b (hsub.subset hb))
      have hsnd : ((l.zip ys).filter fun q => !(p q.2 c).getD false).map (·.2) = ys.filter fun y => !(p y c).getD false := by
        rw [← hzip2, List.filter_map]
        simp only [hzip2]
        rfl
      have hlen : (((l.zip ys).filter fun q => !(p q.2 c).getD false).map (·.1)).length = (ys.filter fun y => !(p y c).getD false).length := by
        rw [← hsnd, List.length_map, List.length_map]
      rw [hsnd, e2] at hsel2
      rw [hlen, rawOf_sz, e1] at hrow1
      refine ⟨[v1], v1.ownBlock.toList ++ G', [], fun b => Z' b ∧ b ∉ G, rfl, ?_, ?_, ?_⟩
      · exact ⟨[v1], [], v1.ownBlock.toList ++ G', [], rfl, by simp, ⟨v1, _, G', rfl, hrow1, hsel2, rfl⟩, rfl, rfl⟩
      · exact ⟨v, _, [], [], rfl, rfl, rfl, _, _, [], [], rfl, rfl, rfl, rfl, rfl⟩
      · have hv1 : ∀ b, b ∈ v1.ownBlock.toList → b ∉ G := fun b hb hg => by
          rcases (A.new b (by simpa using hb)).1 with h | h
          · have := (hGZ b hg).1; omega
          · exact n3 b h.1 b hg rfl
        exact {
          os := A.os, tape := A.tape, out := A.out, size := A.size
          blk := fun b hb hnf => A.blk b hb (fun hb' => hnf (List.mem_append_left _ hb'))
          nd := List.nodup_append.2 ⟨by simpa using A.nd, hsub.nodup n2, fun a ha b hb e => hv1 a ha (e ▸ hsub.subset hb)⟩
          fu := ⟨fun _ => List.nodup_nil, fun _ hb => by cases hb⟩
          new := fun b hb => by
            rcases List.mem_append.1 hb with hb | hb
            · obtain ⟨g1, g2, g3⟩ := A.new b (by simpa using hb)
              refine ⟨?_, g2, fun h => g3 h.1⟩
              rcases g1 with g1 | g1
              · exact .inl g1
              · exact .inr ⟨List.mem_append_left _ g1.1, fun h => by cases h⟩
            · have hb := hsub.subset hb
              exact ⟨.inr ⟨List.mem_append_right _ hb, fun h => by cases h⟩, Nat.lt_of_lt_of_le (hGZ b hb).1 A.size, fun h => h.2 hb⟩
          zmono := fun b hb => ⟨A.zmono b (.inl hb), fun hg => (hGZ b hg).2 hb⟩
          zone := fun b hb => by
            rcases A.zone b hb.1 with h | h | h
            · rcases h with h | h
              · exact .inl h
              · exact absurd h hb.2
            · exact .inr (.inl h)
            · exact .inr (.inr ⟨List.mem_append_left _ h.1, fun h => by cases h⟩) }
  · simp only [mkF, List.mem_cons, List.not_mem_nil, or_false] at hq
    rcases hq with rfl | rfl
    · exact fun _ => rfl
    · trivial
  · simp only [mkF, List.mem_cons, List.not_mem_nil, or_false] at hq
    subst hq
    exact fun _ => rfl

theorem asV_rawOf (k : Kd) (cs : List Value) : asV k.rawOf cs = asV k cs := by
  unfold asV
  rw [rawOf_isSt]

/-- A FUNCTION OF AN ELEMENT, CALLED WITH THE ELEMENT'S RAW CELLS. -/
theorem raw_arg {P : Program} {g : FuncId} {kD : Kd} {qs : List Pk} {out : List (Kd × Bool)} {pre0 : WPre} {T : Type} {inj : T → Outs out × (Unit × Ups qs)} {F : kD.Ty × Ins qs → Option T}
    (h : Cert P g (mkF (T := T) pre0 (.ro kD :: qs) out inj F)) (D : kD.rawOf.Ty → Option kD.Ty) :
    Cert P g (mkF (T := T) (PreD pre0 kD D) (.ro kD.rawOf :: qs) out inj (fun x : kD.rawOf.Ty × Ins qs => (D x.1).bind fun y => F (y, x.2))) := by
  refine ⟨h.go, ?_, fun q hq => ?_, h.out⟩
  · intro w Z x args Fo hpre hin hn hF0 hz o u hrel
    obtain ⟨r, x2⟩ := x
    obtain ⟨v, vs', F1, F2, rfl, rfl, ⟨rfl, cs, hrd, hv⟩, hqs⟩ := hin
    obtain ⟨t, ht, hinj⟩ := hrel
    have hcs := hrd.rawCells (rawOf_plain kD)
    subst hcs
    cases hD : D r with
    | none => simp only [hD] at ht; cases ht
    | some y =>
      simp only [hD, Option.bind_some] at ht
      rw [asV_rawOf] at hv
      exact h.holds w Z (y, x2) (v :: vs') ([] ++ F2) hpre.1 ⟨v, vs', [], F2, rfl, rfl, ⟨rfl, _, hpre.2 r y hD, hv⟩, hqs⟩ hn hF0 hz o u ⟨t, ht, hinj⟩
  · simp only [mkF, List.mem_cons] at hq
    rcases hq with rfl | hq
    · have h1 : Shape1 kD := h.ins (.ro kD) (List.mem_cons_self)
      intro he
      rw [rawOf_isSt] at he
      rw [rawOf_sz]
      exact h1 he
    · exact h.ins q (List.mem_cons_of_mem _ hq)
theorem mkF_of_T {P : Program} {g : FuncId} {ins : List Pk} {out : List (Kd × Bool)} {pre0 : WPre} {T : Type} {inj : T → Outs out × Ups ins} {F : Ins ins → T} (h : Cert P g (mkT (T := T) pre0 ins out inj F)) :
    Cert P g (mkF (T := T) pre0 ins out inj (fun x => some (F x))) :=
  ⟨h.go, fun w Z x args Fo hpre hin hn hF0 hz o u ⟨t, ht, hinj⟩ => h.holds w Z x args Fo hpre hin hn hF0 hz o u (by cases ht; exact hinj), h.ins, h.out⟩

end Go.Ev
