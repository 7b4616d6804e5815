/- Slices and elements that take over what they are cut out of; rows of elements that are only read. -/
import Derived.Test.YtmiimfpdlkmjhaaGreatDoorEvOps3
import Derived.Laws.CopyRow
set_option linter.unusedVariables false
set_option linter.unusedSectionVars false
set_option linter.unusedSimpArgs false
namespace Go.Ev
open Go
variable [Lax]

section
variable {B : Nat} {Fr Z0 : Nat → Prop} {w0 w : World} {h h1 : List (Nat × Blk)} {C : Cons} {Z : Nat → Prop} {P : Program} {env : Env} {R : Type}

theorem Reps.cut {α : Type} {p : List Nat → α → List Value → Prop} {sz : Nat} : ∀ {xs : List α} {F : List Nat} {cs : List Value} (n : Nat), Reps p sz F xs cs → ∃ F', F'.Sublist F ∧ Reps p sz F' (xs.take n) (cs.take (n * sz))
  | [], F, cs, n, ⟨h1, h2⟩ => ⟨[], List.nil_sublist _, by subst h2; simp [Reps]⟩
  | x :: xs, F, cs, 0, _ => ⟨[], List.nil_sublist _, by simp [Reps]⟩
  | x :: xs, F, cs, n + 1, ⟨F1, F2, c1, c2, hF, hc, hl, hp, hr⟩ => by
    obtain ⟨F', s, r⟩ := Reps.cut n hr
    refine ⟨F1 ++ F', ?_, F1, F', c1, c2.take (n * sz), rfl, ?_, hl, hp, r⟩
    · rw [hF]; exact List.Sublist.append (List.Sublist.refl _) s
    · rw [hc, List.take_append, hl, Nat.add_mul, Nat.one_mul, List.take_of_length_le (by omega)]
      congr 2
      omega
theorem Reps.elem {α : Type} {p : List Nat → α → List Value → Prop} {sz : Nat} : ∀ {xs : List α} {F : List Nat} {cs : List Value}, Reps p sz F xs cs → ∀ (i : Nat) (x : α), xs[i]? = some x →
    ∃ G c, G.Sublist F ∧ c.length = sz ∧ p G x c ∧ ∀ (j : Nat) (v : Value), c[j]? = some v → cs[i * sz + j]? = some v
  | [], _, _, _, i, x, hi => by simp at hi
  | y :: ys, F, cs, ⟨F1, F2, c1, c2, h1, h2, h3, h4, h5⟩, 0, x, hi => by
    simp at hi; subst hi
    refine ⟨F1, c1, by rw [h1]; exact List.sublist_append_left _ _, h3, h4, fun j v hj => ?_⟩
    subst h2
    rw [Nat.zero_mul, Nat.zero_add, List.getElem?_append_left (by have := (List.getElem?_eq_some_iff.1 hj).1; exact this)]
    exact hj
  | y :: ys, F, cs, ⟨F1, F2, c1, c2, h1, h2, h3, h4, h5⟩, i + 1, x, hi => by
    obtain ⟨G, c, g1, g2, g3, g4⟩ := Reps.elem h5 i x (by simpa using hi)
    refine ⟨G, c, by rw [h1]; exact g1.trans (List.sublist_append_right _ _), g2, g3, fun j v hj => ?_⟩
    subst h2
    rw [List.getElem?_append_right (by rw [h3, Nat.add_mul]; omega), h3]
    have := g4 j v hj
    rw [← this]
    congr 1
    rw [Nat.add_mul]
    omega

/-- the beginning of a row of one's own -/
theorem Ow.cut {k : Kd} {e : TypeId} {xs : List k.Ty} {F : List Nat} {A : Option Addr} {m c : Nat} (ho : Ow w (.sl e k) F xs [.slice A m c]) {b : Nat} (hb : b ≤ xs.length) :
    m = xs.length ∧ m ≤ c ∧ ∃ F', F'.Sublist F ∧ Ow w (.sl e k) F' (xs.take b) [.slice (if c = 0 then A else A.map (·.add (0 * k.sz))) b c] := by
  obtain ⟨v, cells, G, hv, hrow, hreps, hF⟩ := ho
  simp only [List.cons.injEq, and_true] at hv
  subst hv
  obtain ⟨hl, hrow⟩ := hrow
  obtain ⟨G', gs, gr⟩ := Reps.cut b hreps
  have hlen : (xs.take b).length = b := by simp; omega
  rcases hrow with ⟨hv, hn⟩ | ⟨g, cap, cur, hv, hg, hh, r1, r2, r3, r4⟩
  · simp only [Value.slice.injEq] at hv
    obtain ⟨rfl, rfl, rfl⟩ := hv
    have hb0 : b = 0 := by omega
    subst hb0
    refine ⟨by omega, Nat.le_refl _, G', by rw [hF]; exact gs.trans (List.sublist_append_right _ _), .slice none 0 0, _, G', by simp, ⟨by simp, .inl ⟨rfl, by simp⟩⟩, gr, by simp [Value.ownBlock]⟩
  · simp only [Value.slice.injEq] at hv
    obtain ⟨rfl, rfl, rfl⟩ := hv
    refine ⟨rfl, r1, g :: G', by rw [hF]; exact List.Sublist.cons_cons _ gs, .slice (some ⟨g, 0, none⟩) b c, _, G', ?_, ⟨?_, .inr ⟨g, c, cur, by rw [hlen], hg, hh, by rw [hlen]; omega, r2, r3, ?_⟩⟩, gr, by simp [Value.ownBlock]⟩
    · split <;> simp [Addr.add]
    · rw [List.length_take, hl, hlen, Nat.min_eq_left (Nat.mul_le_mul_right _ hb)]
    · rw [hlen, ← r4, List.take_take, Nat.min_eq_left (Nat.mul_le_mul_right _ hb)]

theorem run_sliceAt2 (ok : TyOk P env) {t e : TypeId} {q : Kd} (ht : env.ty t = some (.sl e q)) {A : Option Addr} {m c a b : Nat} {lo hi : Option Value} (w : World) (hbd : (Instr.sliceBounds true m c lo hi none).run P w = .ok (a, b, c) w) :
    (Instr.sliceAt t (.slice A m c) lo hi none).run P w = .ok (.slice (if c = a then A else A.map (·.add (a * q.sz))) (b - a) (c - a)) w := by
  obtain ⟨_, hu, ie, hie, his, _⟩ := (ok.ty t _ ht).2
  rw [run_sliceAt_slice' ok ht w]
  simp only [Instr.slice, underlying, Sem.run_bind, run_program, Result.andThen_ok, hu, Sem.run_pure]
  rw [hbd]
  simp [sizeOf, typeInfo, hie, his]

theorem evSliceMv_ok (ok : TyOk P env) {t : TypeId} {x : AV} {lo hi : Option AV} {n : Nat} {K : Eff → Option R} {r : R} (hk : evSliceMv env t x lo hi h n K = some r) :
    ∃ e, K e = some r ∧ ∀ {h1 : List (Nat × Blk)} {C : Cons} {Z : Nat → Prop} {w : World} {vx : Value} {vl vh : Option Value}, HR B Fr Z0 w0 h1 C Z w → Sub h h1 → (e.new ≠ [] → lk h1 n = none) → VR C x vx → optV lo vl C → optV hi vh C →
      Does B Fr Z0 w0 h1 C ((Instr.sliceAt t vx vl vh none).run P w) e := by
  unfold evSliceMv at hk
  split at hk
  · rename_i e q id hty
    split at hk
    · rename_i rk e' xs hb
      split at hk
      · rename_i hsz
        have hsz := Nat.eq_of_beq_eq_true hsz
        obtain ⟨a, b, hK, h0, h1', h2, hbd⟩ := cutB_ok (P := P) hk
        refine ⟨_, hK, fun {h1 C Z w vx vl vh} H hs hn0 hx hl hh => ?_⟩
        have hn : lk h1 n = none := hn0 (by simp)
        obtain ⟨⟨F, hC⟩, A, m, c, rfl⟩ := hx.sl
        have hlk := hs _ _ (blkOf_lk hb (by simp))
        obtain ⟨c0, hc, hbr⟩ := H.blk id _ hlk
        rw [hC] at hc; cases hc
        obtain ⟨hm, hmc, F', hsub, hcut⟩ := Ow.cut hbr.1 (b := b.toNat) (by omega)
        have hvl : vl = none := by cases vl with | none => rfl | some _ => exact hl.elim
        subst hvl
        have hbr2 := hbd (cap := c) (C := C) (vl := none) true w (by omega) trivial hh
        have ha : a.toNat = 0 := by
          have h3 := hbd (cap := c) (C := C) (vl := none) true w (by omega) trivial hh
          have : ∀ {v : Option Value} {r : Nat × Nat × Nat}, (Instr.sliceBounds true xs.length c none v none).run P w = .ok r w → r.1 = 0 := fun {v r} hr => by
            unfold Instr.sliceBounds at hr
            cases v with
            | none => simp at hr; rw [← hr]
            | some v =>
              simp only [Sem.run_bind, Sem.run_pure, Result.andThen_ok] at hr
              generalize Sem.run P (Instr.sliceBound v c _) w = z at hr
              cases z <;> simp [Result.andThen] at hr
              rw [← hr.1]
          exact this h3
        rw [hm, run_sliceAt2 ok hty w hbr2, ha, hsz]
        have Hk := H.kill hC
        have hft : ∀ j q, q ∈ ft ((id, Blk.dead) :: h1) C j → q ∈ ft h1 C j ∧ j ≠ id := fun j q hq => by
          by_cases e : j = id
          · subst e; rw [ft_dead (lk_same _ _ _)] at hq; cases hq
          · unfold ft at hq ⊢; rw [lk_ne _ _ e] at hq; exact ⟨hq, e⟩
        have hfid : ft h1 C id = F := ft_mem hlk (by simp) hC
        have Hn := Hk.addFree (id := n) (e := e') (k := rk) (xs := xs.take b.toNat) (F := F') (v := .slice (if c = 0 then A else A.map (·.add (0 * rk.sz))) b.toNat c) (by rw [lk_ne _ _ (fun e => by subst e; rw [hlk] at hn; cases hn)]; exact hn) hcut (hsub.nodup hbr.2) (fun q hq => by
          obtain ⟨g1, g2, g3⟩ := H.own id q (by rw [hfid]; exact hsub.subset hq)
          refine ⟨g1, g2, g3, fun j hj => ?_⟩
          obtain ⟨h3, h4⟩ := hft j q hj
          exact H.dis id j (Ne.symm h4) q (by rw [hfid]; exact hsub.subset hq) h3)
        refine ⟨_, w, _, Z, rfl, Hn, Ext.put_new (Hk.dom n (by rw [lk_ne _ _ (fun e => by subst e; rw [hlk] at hn; cases hn)]; exact hn)), ⟨⟨F', ?_⟩, _, _, _, rfl⟩⟩
        rw [Cons.put_same]
        simp
      · cases hk
    · cases hk
  · rename_i e q id l hty
    split at hk
    · rename_i rk e' xs hb
      split at hk
      · rename_i hsz
        have hsz := Nat.eq_of_beq_eq_true hsz
        obtain ⟨a, b, hK, h0, h1', h2, hbd⟩ := cutB_ok (P := P) hk
        refine ⟨_, hK, fun {h1 C Z w vx vl vh} H hs _ hx hl hh => ?_⟩
        obtain ⟨⟨F, hC⟩, A, m, c, rfl⟩ := hx.sl
        have hlk := hs _ _ (blkOf_lk hb (by simp))
        obtain ⟨c0, hc, hbr⟩ := H.blk id _ hlk
        rw [hC] at hc; cases hc
        obtain ⟨hm, hmc, F', hsub, hcut⟩ := Ow.cut hbr.1 (b := b.toNat) (by omega)
        subst hm
        have hbr2 := hbd (cap := c) true w hmc hl hh
        rw [run_sliceAt2 ok hty w hbr2]
        refine Does.pure H ?_
        have hvh : vh = none := by cases vh with | none => rfl | some _ => exact hh.elim
        subst hvh
        have hbx : b.toNat = xs.length := by
          unfold Instr.sliceBounds at hbr2
          cases vl with
          | none => simp at hbr2; omega
          | some v =>
            simp only [Sem.run_bind, Sem.run_pure, Result.andThen_ok] at hbr2
            generalize Sem.run P (Instr.sliceBound v _ _) w = z at hbr2
            cases z <;> simp [Result.andThen] at hbr2
            exact hbr2.1.2.symm
        show ∃ A' n' c' F', C id = some (.row (.slice A' n' c') F') ∧ 0 ≤ a ∧ a ≤ (n' : Int) ∧ n' ≤ c' ∧ _ = Value.slice (if c' = a.toNat then A' else A'.map (·.add (a.toNat * rk.sz))) (n' - a.toNat) (c' - a.toNat)
        refine ⟨A, xs.length, c, F, hC, h0, by omega, hmc, ?_⟩
        rw [hbx, hsz]
      · cases hk
    · cases hk
  · rename_i e q hty
    obtain ⟨a, b, hK, h0, h1', h2, hbd⟩ := cutB_ok (P := P) (len := 0) hk
    refine ⟨_, hK, fun {h1 C Z w vx vl vh} H hs _ hx hl hh => ?_⟩
    have hx := hx.nil; subst hx
    have ha : a.toNat = 0 := by omega
    have hb0 : b.toNat = 0 := by omega
    have hbr := hbd (cap := 0) true w (Nat.le_refl _) hl hh
    rw [ha, hb0] at hbr
    rw [run_sliceAt2 ok hty w hbr]
    exact Does.pure H (by show _ = _; simp)
  · cases hk

theorem evLoadMv_ok (ok : TyOk P env) {t : TypeId} {a : AV} {n : Nat} {K : Eff → Option R} {r : R} (hk : evLoadMv env t a h n K = some r) :
    ∃ e, K e = some r ∧ ∀ {h1 : List (Nat × Blk)} {C : Cons} {Z : Nat → Prop} {w : World} {v : Value}, HR B Fr Z0 w0 h1 C Z w → Sub h h1 → Fresh n e h1 → VR C a v → Does B Fr Z0 w0 h1 C ((Instr.loadAt t v).run P w) e := by
  unfold evLoadMv at hk
  split at hk
  · rename_i id i sz
    split at hk
    · rename_i rk e xs kd hb hty
      split at hk
      · rename_i hsz
        have hsz := Nat.eq_of_beq_eq_true hsz
        subst hsz
        split at hk
        · rename_i hk'
          subst hk'
          refine ⟨_, hk, fun {h1 C Z w v} H hs hf hv => ?_⟩
          obtain ⟨A, m, c, F, hC, hA, h0, hi, rfl⟩ := hv.ep
          have hl := hs _ _ (blkOf_lk hb (by simp))
          obtain ⟨c0, hc, hbr⟩ := H.blk id _ hl
          rw [hC] at hc; cases hc
          obtain ⟨v', cells, G, hv', hrow, hreps, hF⟩ := hbr.1
          simp only [List.cons.injEq, and_true] at hv'
          subst hv'
          obtain ⟨hlen, hrow⟩ := hrow
          rcases hrow with ⟨hv', _⟩ | ⟨g, cap, cur, hv', hg, hh, r1, r2, r3, r4⟩
          · cases hv'
          simp only [Value.slice.injEq, Option.some.injEq] at hv'
          obtain ⟨rfl, rfl, rfl⟩ := hv'
          have hix : i.toNat < xs.length := by omega
          obtain ⟨G', cs, gs, gl, go, gc⟩ := Reps.elem hreps i.toNat xs[i.toNat] (List.getElem?_eq_getElem hix)
          have hrd : rdk rk xs i = xs[i.toNat] := by
            unfold rdk
            rw [List.getD_eq_getElem?_getD, List.getElem?_eq_getElem hix]; rfl
          have hcell : ∀ (j : Nat) (v : Value), cs[j]? = some v → w.cell? ((⟨g, 0 + (i.toNat * rk.sz + 0), none⟩ : Addr).add j) = some v := fun j v hj => by
            have := gc j v hj
            rw [add_off, cell_of_row w g _ cur e (0, 0) hh]
            rw [← r4, List.getElem?_take] at this
            split at this
            · simpa using this
            · cases this
          have hrun : (Instr.loadAt t (.pointer (some ⟨g, 0 + (i.toNat * rk.sz + 0), none⟩))).run P w = .ok (asV rk cs) w := by
            rw [show (Instr.loadAt t (.pointer (some ⟨g, 0 + (i.toNat * rk.sz + 0), none⟩))).run P w = (loadVar t ⟨g, 0 + (i.toNat * rk.sz + 0), none⟩).run P w from by simp [Instr.loadAt, Instr.sureAddr]]
            exact run_loadVar (ok.ty t rk hty) gl hcell
          rw [hrun]
          have h1s := (ok.ty t rk hty).one
          have Hk := H.kill hC
          have hfid : ft h1 C id = F := ft_mem hl (by simp) hC
          have hGF : G'.Sublist F := by rw [hF]; exact gs.trans (List.sublist_append_right _ _)
          have hft : ∀ j q, q ∈ ft ((id, Blk.dead) :: h1) C j → q ∈ ft h1 C j ∧ j ≠ id := fun j q hq => by
            by_cases e : j = id
            · subst e; rw [ft_dead (lk_same _ _ _)] at hq; cases hq
            · unfold ft at hq ⊢; rw [lk_ne _ _ e] at hq; exact ⟨hq, e⟩
          simp only [hrd] at hf ⊢
          obtain ⟨C1, H1, x1, a1, _, _⟩ := Hk.injOw (n := n) (k := rk) (x := xs[i.toNat]) (F := G') (cs := cs) (fun j hj hj' => by
            have h3 := hf j hj (by simpa using hj')
            rw [lk_ne _ _ (fun e => by subst e; rw [hl] at h3; cases h3)]
            exact h3) go (hGF.nodup hbr.2) (fun q hq => by
            obtain ⟨g1, g2, g3⟩ := H.own id q (by rw [hfid]; exact hGF.subset hq)
            refine ⟨g1, g2, g3, fun j hj => ?_⟩
            obtain ⟨h3, h4⟩ := hft j q hj
            exact H.dis id j (Ne.symm h4) q (by rw [hfid]; exact hGF.subset hq) h3)
          exact ⟨_, w, C1, Z, rfl, H1, x1, ofCells_VR gl h1s a1⟩
        · cases hk
      · cases hk
    · cases hk
  · cases hk

theorem roOnly_mem : ∀ {l : List AV} {i : Nat}, roOnly h l = true → AV.sl i ∈ l → ∃ k e xs, blkOf h i = .row k e xs false
  | [], _, _, hm => by cases hm
  | a :: l, i, hr, hm => by
    rcases List.mem_cons.1 hm with e | hm2
    · subst e
      simp only [roOnly] at hr
      split at hr
      · rename_i k e xs hb; exact ⟨k, e, xs, hb⟩
      · cases hr
    · clear hm
      cases a with
      | sl id =>
        simp only [roOnly] at hr
        split at hr
        · exact roOnly_mem hr hm2
        · cases hr
      | _ => exact roOnly_mem (by simpa [roOnly] using hr) hm2

theorem litRo_ok (H : HR B Fr Z0 w0 h1 C Z w) (hs : Sub h h1) {k : Kd} : ∀ {j : Nat} {l : List (Nat × AV)} {vl : List (Nat × Value)} {xs : List k.Ty}, litRo h k j l = some xs →
    All2 (fun (p : Nat × AV) (q : Nat × Value) => q.1 = p.1 ∧ VR C p.2 q.2) l vl →
    Reps (fun F x cs => F = [] ∧ Rd w Z k x cs) k.sz [] xs (vl.map fun p => p.2.cells.toList).flatten ∧ xs.length = vl.length ∧ (∀ (i : Nat) (p : Nat × Value), vl[i]? = some p → p.1 = j + i ∧ p.2.cells.size = k.sz)
  | j, [], [], xs, hl, _ => by
    simp only [litRo] at hl; cases hl
    exact ⟨⟨rfl, rfl⟩, rfl, (fun i p h => by simp at h)⟩
  | j, (f, a) :: l, (g, v) :: vl, xs, hl, ⟨⟨hfg, hv⟩, hr⟩ => by
    simp only at hfg
    subst hfg
    simp only [litRo] at hl
    split at hl
    · rename_i x hbeq hre
      split at hl
      · rename_i xs' hrest
        cases hl
        simp only [Bool.and_eq_true] at hbeq
        have hj := Nat.eq_of_beq_eq_true hbeq.1
        subst hj
        obtain ⟨r1, r2, r3⟩ := litRo_ok H hs hrest hr
        have hdef : (cellsOf a).all AV.isDef = true := by
          obtain ⟨p, hp, hd⟩ := reC_def hre
          rw [hp]; simpa using hd
        obtain ⟨hc, _⟩ := hv.cells hdef
        obtain ⟨cs, vs', hcs, hrd, hrest'⟩ := reC_gen (w := w) (Zt := Z) hre hc (fun i k' e' xs' own hm hb' => by
          obtain ⟨k2, e2, xs2, hb2⟩ := roOnly_mem hbeq.2 hm
          rw [hb'] at hb2
          cases hb2
          obtain ⟨c0, hc0, hbr⟩ := H.blk i _ (hs _ _ (blkOf_lk hb' (by simp)))
          cases c0 with
          | row v' F' => exact ⟨v', F', hc0, hbr.2⟩
          | box b => exact hbr.elim)
        have hvs' : vs' = [] := by cases vs' with | nil => rfl | cons _ _ => exact hrest'.elim
        subst hvs'
        rw [List.append_nil] at hcs
        refine ⟨⟨[], [], cs, _, rfl, by simp [hcs], hrd.len, ⟨rfl, hrd⟩, r1⟩, by simp [r2], ?_⟩
        intro i p hi
        cases i with
        | zero =>
          simp at hi; subst hi
          have := hrd.len
          rw [← hcs] at this
          exact ⟨by simp, by simpa using this⟩
        | succ i => have := r3 i p (by simpa using hi); exact ⟨by omega, this.2⟩
      · cases hl
    · cases hl
  | _, [], _ :: _, _, _, h => h.elim
  | _, _ :: _, [], _, _, h => h.elim

theorem evBuildRo_ok (ok : TyOk P env) {t : TypeId} {len n : Nat} {parts : List (Nat × AV)} {K : Eff → Option R} {r : R} (hk : evBuildRo env t len parts h n K = some r) :
    ∃ e, K e = some r ∧ (∃ p, e.new = [p]) ∧ ∀ {h1 : List (Nat × Blk)} {C : Cons} {Z : Nat → Prop} {w : World} {vps : Array (Nat × Value)}, HR B Fr Z0 w0 h1 C Z w → Sub h h1 → lk h1 n = none →
      All2 (fun (p : Nat × AV) (q : Nat × Value) => q.1 = p.1 ∧ VR C p.2 q.2) parts vps.toList → Does B Fr Z0 w0 h1 C ((Instr.buildSlice t len vps).run P w) e := by
  unfold evBuildRo at hk
  split at hk
  · rename_i e kd hty
    split at hk
    · rename_i xs hlit
      split at hk
      · rename_i hc
        simp only [Bool.and_eq_true] at hc
        obtain ⟨hlen, hle⟩ := hc
        have hlen := Nat.eq_of_beq_eq_true hlen
        have hle := Nat.le_of_ble_eq_true hle
        refine ⟨_, hk, ⟨_, rfl⟩, fun {h1 C Z w vps} H hs hn hv => ?_⟩
        obtain ⟨hnp, hu, ie, hie, his, hiz, hib, hmax⟩ := (ok.ty t _ hty).2
        obtain ⟨r1, r2, r3⟩ := litRo_ok H hs hlit hv
        have hvl := hv.length
        have hlen2 : len = xs.length := by rw [hlen, hvl, r2]
        have hzs : (zeroV kd).cells.size = kd.sz := by
          have := zeroV_cells kd (Kd.ne_pair hnp)
          rw [← zeroVs_len, ← this]; simp
        have hkd := kd.sz_pos
        have hvps : vps.toList.length = len := by rw [← hvl, ← hlen]
        have hrun : (Instr.buildSlice t len vps).run P w = .ok (.slice (some ⟨w.heap.size, 0, none⟩) len len) (w.alloc (.cells (vps.toList.map fun p => p.2.cells.toList).flatten.toArray e)) := by
          have hfill : ∀ cur : Array Value, cur.size = len * kd.sz → Instr.fill (fun i => some (i * kd.sz, kd.sz)) cur vps.toList = some (vps.toList.map fun p => p.2.cells.toList).flatten.toArray := fun cur hcur => by
            have := fill_seq (sz := kd.sz) (vl := vps.toList) (j := 0) (cur := cur) (fun i p hi => by simpa using r3 i p hi) (by rw [hcur, hvps]; simp)
            simpa using this
          by_cases h0 : len * kd.sz = 0
          · have hl0 : len = 0 := by
              rcases Nat.mul_eq_zero.1 h0 with h | h
              · exact h
              · omega
            have hvn : vps.toList = [] := List.eq_nil_of_length_eq_zero (by omega)
            have hvn' : vps = #[] := by cases vps; simp at hvn; subst hvn; rfl
            subst hvn'; subst hl0
            simp [Instr.buildSlice, underlying, hu, sizeOf, typeInfo, hie, his, Instr.fill, newRow, Array.range_zero']
          · have hf := hfill ((Array.range (len * kd.sz)).map ((zeroV kd).cells[· % (zeroV kd).cells.size]!)) (by simp)
            have hno : ¬ (2 ^ 24 < len * kd.sz) := by omega
            simp [Instr.buildSlice, underlying, hu, sizeOf, typeInfo, hie, his, hiz, zeroValue, h0, hf, newRow]
            omega
        rw [hrun]
        generalize hflat : (vps.toList.map fun p => p.2.cells.toList).flatten = flat at r1
        have Hg := H.grow (World.grownBy_alloc w (.cells flat.toArray e) none) (DrLe.refl _)
        have Hz := Hg.zoneUp (fun b => b = w.heap.size) (fun b hb => by
          subst hb
          exact ⟨by simp, .inl H.frm.size, fun i hi => by have := (H.own i _ hi).1; omega⟩)
        have hrd : Rd (w.alloc (.cells flat.toArray e)) (fun b => Z b ∨ b = w.heap.size) (.sl e kd) xs [.slice (some ⟨w.heap.size, 0, none⟩) len len] := by
          refine ⟨_, len, by rw [hlen2], by omega, by simp only [maxLen]; have := Nat.le_mul_of_pos_right len hkd; omega, .inr ⟨_, rfl, rfl, .inr rfl, fun i x hi => ?_⟩⟩
          obtain ⟨G, c, g1, g2, _, g4⟩ := Reps.get r1 i x hi
          refine ⟨c, g1, g2.2.mono (fun b hb => heap_alloc_old w _ b (H.zon b hb)) (fun b hb => .inl hb), fun j v hj => ?_⟩
          rw [cell_of_row _ w.heap.size _ flat.toArray e (0, 0) (heap_alloc_new w _)]
          have := g4 j v hj
          simpa using this
        have Ha := Hz.addRo hn hrd
        exact ⟨_, _, _, _, rfl, Ha, Ext.put_new (H.dom n hn), ⟨⟨[], Cons.put_same _ _ _⟩, _, _, _, rfl⟩⟩
      · cases hk
    · cases hk
  · cases hk

theorem wrap64' {n : Int} (h1 : -9223372036854775808 ≤ n) (h2 : n ≤ 9223372036854775807) : IntKind.wrap .i64 n = n := by
  simp only [IntKind.wrap, IntKind.signed, IntKind.bits]
  simp
  omega
theorem wrap64_zero : IntKind.wrap .i64 0 = 0 := rfl
theorem run_append_zeros (t t' ty e : TypeId) (j j' : IntKind) (i : TypeInfo) (z : Value) (ht : P.underlying t = some (.slice e)) (ht' : P.underlying t' = some (.int j)) (hi : P.info? e = some i) (hz : i.zero = some z)
    (n : Nat) (h0 : 0 < n) (h63 : (n : Int) ≤ 9223372036854775807) (h48 : n * i.bytes ≤ 281474976710656) (hsz : 0 < i.size) (w : World) :
    (Builtin.append_ #[t, t'] ty #[.slice none 0 0, .int j' (n : Int)]).run P w =
      .ok (.slice (some ⟨w.heap.size, 0, none⟩) n (grownCap w n 0 e)) (w.drew.alloc (.cells (Builtin.zeroCells z.cells n ++ Builtin.zeroCells z.cells (grownCap w n 0 e - n)) e)) := by
  have hn : n ≠ 0 := by omega
  have hns : ¬ (n = 0 ∨ i.size = 0) := by omega
  have h63' : ¬ (9223372036854775807 < (n : Int)) := by omega
  have h48' : ¬ (281474976710656 < Builtin.nextslicecap n 0 * i.bytes) := by rw [nextslicecap_zero h0]; omega
  have hw : IntKind.i64.wrap (n : Int) = n := by rw [wrap64' (by omega) (by omega)]
  have hneg : ¬ ((n : Int) < 0) := by omega
  have h48'' : ¬ (281474976710656 < (n : Int) * (i.bytes : Int)) := by
    have : ((n * i.bytes : Nat) : Int) ≤ 281474976710656 := by omega
    rw [Int.natCast_mul] at this
    omega
  simp [Builtin.append_, underlying, ht, ht', sizeOf, typeInfo, zeroValue, hi, hz, asInt, asIntOf, hw, hneg, h48'', hn, hns, h63', h48', Question.forced, run_firstCells_none, newRow, grownCap]
  intro h
  exact absurd (Nat.mul_eq_zero.1 h) hns

theorem evGrow_ok (ok : TyOk P env) {t t' ty : TypeId} {s x : AV} {n : Nat} {K : Eff → Option R} {r : R} (hk : evGrow env t t' s x n K = some r) :
    ∃ e, K e = some r ∧ (∃ p, e.new = [p]) ∧ ∀ {h1 : List (Nat × Blk)} {C : Cons} {Z : Nat → Prop} {w : World} {vs vx : Value}, HR B Fr Z0 w0 h1 C Z w → lk h1 n = none → VR C s vs → VR C x vx → Does B Fr Z0 w0 h1 C ((Builtin.append_ #[t, t'] ty #[vs, vx]).run P w) e := by
  unfold evGrow at hk
  split at hk
  · rename_i e kd j j' a hty hty'
    rcases h1' : decide (0 ≤ a) with _ | _ <;> rw [h1'] at hk
    · cases hk
    rcases h2 : decide (a ≤ (env.lim e : Int)) with _ | _ <;> rw [h2] at hk
    · cases hk
    have h1' := of_decide_eq_true h1'
    have h2 := of_decide_eq_true h2
    refine ⟨_, hk, ⟨_, rfl⟩, fun {h1 C Z w vs vx} H hn hl hc => ?_⟩
    have hl := hl.nil; have hc := hc.int; subst hl; subst hc
    obtain ⟨hnp, hu, ie, hie, his, hiz, hib, hmax⟩ := (ok.ty t _ hty).2
    have hu' : P.underlying t' = some (.int j) := (ok.ty t' _ hty').2
    have hzs : (zeroV kd).cells.toList = zeroVs kd := zeroV_cells kd (Kd.ne_pair hnp)
    have hzl : (zeroV kd).cells.size = kd.sz := by rw [← zeroVs_len, ← hzs]; simp
    obtain ⟨m, rfl⟩ : ∃ m : Nat, a = m := ⟨a.toNat, (Int.toNat_of_nonneg h1').symm⟩
    have hm : m ≤ env.lim e := by omega
    have hby : m * ie.bytes ≤ 140737488355328 := by
      have h1 : m * ie.bytes ≤ env.lim e * ie.bytes := Nat.mul_le_mul_right _ hm
      rw [Nat.mul_comm (env.lim e)] at h1
      omega
    have hmm : m ≤ maxLen := Nat.le_trans hm hmax
    have hm63 : (m : Int) ≤ 9223372036854775807 := by simp only [maxLen] at hmm; omega
    rw [Int.toNat_natCast]
    rcases Nat.eq_zero_or_pos m with h0 | h0
    · subst h0
      refine ⟨.slice none 0 0, w, C.put n (.row (.slice none 0 0) []), Z, ?_, ?_, Ext.put_new (H.dom n hn), ⟨⟨_, Cons.put_same _ _ _⟩, _, _, _, rfl⟩⟩
      · simp [Builtin.append_, underlying, hu, hu', sizeOf, typeInfo, hie, asInt, asIntOf, wrap64_zero]
      · exact H.addOwn hn (e := e) (k := kd) ⟨_, [], [], rfl, World.ownsRow_nil w 0 e kd.sz, ⟨rfl, rfl⟩, rfl⟩ List.nodup_nil (fun b hb => by cases hb) ⟨rfl, rfl, rfl, Nat.le_refl _, fun _ _ _ => rfl⟩ (DrLe.refl _)
    · have hr := run_append_zeros (P := P) t t' ty e j j' ie (zeroV kd) hu hu' hie hiz m h0 hm63 (by omega) (by rw [his]; exact kd.sz_pos) w
      have hge := grownCap_ge w m 0 e
      have hcm : grownCap w m 0 e ≤ maxLen := grownCap_le_maxLen w m 0 e hmm
      refine ⟨_, _, C.put n (.row (.slice (some ⟨w.heap.size, 0, none⟩) m (grownCap w m 0 e)) [w.heap.size]), Z, hr, ?_, Ext.put_new (H.dom n hn), ⟨⟨_, Cons.put_same _ _ _⟩, _, _, _, rfl⟩⟩
      have hfirst : (Builtin.zeroCells (zeroV kd).cells m).toList = (List.replicate m (zeroVs kd)).flatten := by
        have := madeCells_list (zeroV kd).cells m
        rw [hzs] at this
        exact this
      refine H.addOwn hn (e := e) (k := kd) ⟨_, (List.replicate m (zeroVs kd)).flatten, [], rfl, ⟨?_, .inr ⟨w.heap.size, _, _, by simp, Nat.zero_le _, heap_alloc_new w.drew _, ?_, hcm, ?_, ?_⟩⟩, Reps_replicate (zeroVs_len kd) (zero_Ow _ kd) _, rfl⟩ (by simp) (fun b hb => ?_) ⟨rfl, rfl, rfl, by simp, fun k hk _ => heap_alloc_old w.drew _ k hk⟩ (DrLe.of (Nat.le_succ _))
      · simp [zeroVs_len]
      · rw [List.length_replicate]; exact hge
      · rw [Array.size_append, size_zeroCells, size_zeroCells, hzl, ← Nat.add_mul]
        congr 1
        omega
      · rw [Array.toList_append, hfirst, List.length_replicate]
        exact List.take_left' (by simp [zeroVs_len])
      · simp at hb; subst hb; simp
  · cases hk

theorem Reps_plain0 {k : Kd} (hp : k.plain = true) {sz : Nat} : ∀ {xs : List k.Ty} {F : List Nat} {cs : List Value}, Reps (Ow w k) sz F xs cs → F = []
  | [], _, _, ⟨h, _⟩ => h
  | x :: xs, _, _, ⟨F1, F2, c1, c2, h1, _, _, h4, h5⟩ => by rw [h1, plain_F hp h4, Reps_plain0 hp h5]; rfl
theorem plain_Ow2 {k : Kd} (hp : k.plain = true) {w' : World} {x : k.Ty} {F : List Nat} {cs : List Value} (h : Ow w k F x cs) : Ow w' k F x cs := by
  have hF := plain_F hp h
  exact Ow.mono (fun b hb => by rw [hF] at hb; cases hb) h

theorem run_clear_zero (ok : TyOk P env) {t ty e : TypeId} {q : Kd} (ht : env.ty t = some (.sl e q)) (A : Option Addr) (c : Nat) : (Builtin.clear_ #[t] ty #[.slice A 0 c]).run P w = .ok (.tuple #[]) w := by
  have hu := (ok.ty t _ ht).2.2.1
  cases A <;> simp [Builtin.clear_, underlying, hu] <;> rfl

theorem evClear_ok (ok : TyOk P env) {t ty : TypeId} {x : AV} {K : Eff → Option R} {r : R} (hk : evClear env t x h K = some r) :
    ∃ e, K e = some r ∧ e.new = [] ∧ ∀ {h1 : List (Nat × Blk)} {C : Cons} {Z : Nat → Prop} {w : World} {vx : Value}, HR B Fr Z0 w0 h1 C Z w → Sub h h1 → VR C x vx → Does B Fr Z0 w0 h1 C ((Builtin.clear_ #[t] ty #[vx]).run P w) e := by
  unfold evClear at hk
  split at hk
  · rename_i e q id i sz hty
    split at hk
    · rename_i rk e' xs hb
      split at hk
      · rename_i hcond
        simp only [Bool.and_eq_true, decide_eq_true_eq] at hcond
        obtain ⟨hsz, hp, rfl⟩ := hcond
        have hsz := Nat.eq_of_beq_eq_true hsz
        subst hsz
        refine ⟨_, hk, rfl, fun {h1 C Z w vx} H hs hx => ?_⟩
        obtain ⟨A, m, c, F, hC, h0, hi, hmc, rfl⟩ : ∃ A n c F, C id = some (.row (.slice A n c) F) ∧ 0 ≤ i ∧ i ≤ (n : Int) ∧ n ≤ c ∧ vx = .slice (if c = i.toNat then A else A.map (·.add (i.toNat * q.sz))) (n - i.toNat) (c - i.toNat) := hx
        obtain ⟨hnp, hu, ie, hie, his, hiz, hib, hmax⟩ := (ok.ty t _ hty).2
        have hzs : (zeroV q).cells.toList = zeroVs q := zeroV_cells q (Kd.ne_pair hnp)
        have hl := hs _ _ (blkOf_lk hb (by simp))
        obtain ⟨c0, hc, hbr⟩ := H.blk id _ hl
        rw [hC] at hc; cases hc
        obtain ⟨how, hnd⟩ := hbr
        obtain ⟨v', cells, G, hv', hrow, hreps, hF⟩ := how
        simp only [List.cons.injEq, and_true] at hv'
        subst hv'
        have hG := Reps_plain0 hp hreps
        subst hG
        obtain ⟨hcl, hrow⟩ := hrow
        generalize hn : i.toNat = n at *
        have hnm : n ≤ m := by omega
        -- the new cells
        have hnew : ∀ w' : World, Reps (Ow w' q) q.sz [] (xs.take n ++ List.replicate (xs.length - n) q.zero) (cells.take (n * q.sz) ++ (List.replicate (xs.length - n) (zeroVs q)).flatten) := fun w' => by
          obtain ⟨F', hs', hr'⟩ := Reps.cut n hreps
          have hF' := List.sublist_nil.1 hs'
          subst hF'
          have := Reps.app (Reps.imp (fun G' x cs _ h => plain_Ow2 (w' := w') hp h) hr') (Reps_replicate (zeroVs_len q) (zero_Ow w' q) (xs.length - n))
          exact this
        rcases hrow with ⟨hv, hx0⟩ | ⟨g, c', cur, hv, hbg, hg, hnc, hcm, hcs, htake⟩
        · -- nothing is there
          simp only [Value.slice.injEq] at hv
          obtain ⟨rfl, rfl, rfl⟩ := hv
          have hn0 : n = 0 := by omega
          subst hn0
          have hxs : xs = [] := List.eq_nil_of_length_eq_zero hx0
          subst hxs
          refine ⟨_, w, C, Z, run_clear_zero ok hty _ _, ?_, Ext.refl C, ⟨[], rfl, trivial⟩⟩
          exact H.setRow hl hC ⟨_, cells, [], rfl, ⟨hcl, .inl ⟨rfl, rfl⟩⟩, hreps, hF⟩ (fun q hq => rfl) rfl rfl rfl ⟨rfl, DrLe.refl _⟩
        · simp only [Value.slice.injEq] at hv
          obtain ⟨rfl, rfl, rfl⟩ := hv
          by_cases hz : xs.length - n = 0
          · have hxt : xs.take n ++ List.replicate (xs.length - n) q.zero = xs := by rw [hz, List.take_of_length_le (by omega), List.replicate_zero, List.append_nil]
            refine ⟨_, w, C, Z, by rw [hz]; exact run_clear_zero ok hty _ _, ?_, Ext.refl C, ⟨[], rfl, trivial⟩⟩
            show HR B Fr Z0 w0 ((id, .row q e' (xs.take n ++ List.replicate (xs.length - n) q.zero) true) :: h1) C Z w
            rw [hxt]
            exact H.setRow hl hC ⟨_, cells, [], rfl, ⟨hcl, .inr ⟨g, c, cur, rfl, hbg, hg, hnc, hcm, hcs, htake⟩⟩, hreps, hF⟩ (fun q hq => rfl) rfl rfl rfl ⟨rfl, DrLe.refl _⟩
          · have hcn : ¬ c = n := by omega
            have hzc : (Builtin.zeroCells (zeroV q).cells (xs.length - n)).toList = (List.replicate (xs.length - n) (zeroVs q)).flatten := by
              have := madeCells_list (zeroV q).cells (xs.length - n)
              rw [hzs] at this
              exact this
            have hzlen : ((List.replicate (xs.length - n) (zeroVs q)).flatten).length = (xs.length - n) * q.sz := by simp [zeroVs_len]
            have hone : ∀ v ∈ (List.replicate (xs.length - n) (zeroVs q)).flatten, v.oneCell' = true := fun v hv => by
              obtain ⟨l, hl, hv⟩ := List.mem_flatten.1 hv
              have := List.eq_of_mem_replicate hl
              subst this
              exact (zero_Ow w q).oneCell v hv
            have hmul : n * q.sz + (xs.length - n) * q.sz = xs.length * q.sz := by rw [← Nat.add_mul]; congr 1; omega
            have hc : xs.length * q.sz ≤ c * q.sz := Nat.mul_le_mul_right _ hnc
            have hst := run_storeCells_at (P := P) g (n * q.sz) e' ((List.replicate (xs.length - n) (zeroVs q)).flatten) 0 cur w hg (by rw [hzlen, hcs]; omega) hone
            have hrun : (Builtin.clear_ #[t] ty #[.slice (if c = n then some ⟨g, 0, none⟩ else (some (⟨g, 0, none⟩ : Addr)).map (·.add (n * q.sz))) (xs.length - n) (c - n)]).run P w =
                .ok (.tuple #[]) (w.setRow g (cur.toList.take (n * q.sz + 0) ++ (List.replicate (xs.length - n) (zeroVs q)).flatten ++ cur.toList.drop (n * q.sz + 0 + ((List.replicate (xs.length - n) (zeroVs q)).flatten).length)).toArray) := by
              obtain ⟨k, hk⟩ : ∃ k, xs.length - n = k + 1 := ⟨xs.length - n - 1, by omega⟩
              rw [hk] at hzc hst ⊢
              simp [Builtin.clear_, underlying, hu, zeroValue, typeInfo, hie, hiz, hcn, add_off, hzc]
              simp at hst
              rw [hst]
              rfl
            rw [hrun]
            refine ⟨_, _, C, Z, rfl, ?_, Ext.refl C, ⟨[], rfl, trivial⟩⟩
            have hcl2 : cells.length = xs.length * q.sz := hcl
            have ht1 : cur.toList.take (n * q.sz) = cells.take (n * q.sz) := by
              rw [← htake, List.take_take, Nat.min_eq_left (by omega)]
            refine H.setRow hl hC ⟨_, _, [], rfl, ⟨?_, .inr ⟨g, c, _, ?_, hbg, setRow_heap w g cur _ e' (0, 0) hg, ?_, hcm, ?_, ?_⟩⟩, hnew _, hF⟩ (fun q hq => setRow_other w g q _ (fun e => hq (by rw [hF, e]; simp [Value.ownBlock]))) (by simp) rfl rfl ⟨rfl, DrLe.refl _⟩
            · simp [zeroVs_len, hcl2]
              rw [Nat.min_eq_left (by omega), hmul]
              congr 1; omega
            · simp; omega
            · simp; omega
            · simp [zeroVs_len, hcs]
              rw [Nat.min_eq_left (by omega), hmul]; omega
            · simp only [Nat.add_zero, ht1, hzlen]
              have hlen : (cells.take (n * q.sz) ++ (List.replicate (xs.length - n) (zeroVs q)).flatten).length = (xs.take n ++ List.replicate (xs.length - n) q.zero).length * q.sz := by
                simp [zeroVs_len, hcl2]
                rw [Nat.min_eq_left (by omega), hmul]
                congr 1; omega
              rw [← hlen]
              exact List.take_left
      · cases hk
    · cases hk
  · cases hk

end
end Go.Ev
