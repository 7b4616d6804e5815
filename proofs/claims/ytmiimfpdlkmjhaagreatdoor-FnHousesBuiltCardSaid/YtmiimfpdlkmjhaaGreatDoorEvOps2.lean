/- More single operations. -/
import Derived.Test.YtmiimfpdlkmjhaaGreatDoorEvOps
import Derived.Laws.Small
import Derived.ChangeKeysEq
import Derived.Laws.BytesString
set_option linter.unusedVariables false
set_option linter.unusedSectionVars false
set_option linter.unusedSimpArgs false
namespace Go.Ev
open Go
variable [Lax]

section
variable {B : Nat} {Fr Z0 : Nat → Prop} {w0 w : World} {h h1 : List (Nat × Blk)} {C : Cons} {Z : Nat → Prop} {P : Program} {env : Env} {R : Type}

theorem beq_kind {a j : IntKind} (h : Nat.beq a.ctorIdx j.ctorIdx = true) : a = j := by cases a <;> cases j <;> first | rfl | cases h
theorem eqAV_int {j : IntKind} {xs ys : List AV} {b : Bool} (h : eqAV (.int j) xs ys = some b) : ∃ x y, xs = [.int j x] ∧ ys = [.int j y] ∧ b = (x == y) := by
  unfold eqAV at h
  split at h
  · rename_i j' a x c y e1
    cases e1
    split at h
    · rename_i hk
      rw [Bool.and_eq_true] at hk
      have h1 := beq_kind hk.1
      have h2 := beq_kind hk.2
      subst h1; subst h2
      cases h
      exact ⟨x, y, rfl, rfl, rfl⟩
    · cases h
  · rename_i e1; cases e1
  · cases h
theorem eqAV_pair {a q : Kd} {xs ys : List AV} {b : Bool} (h : eqAV (.pair a q) xs ys = some b) : ∃ j x y xs' ys' r, a = .int j ∧ xs = .int j x :: xs' ∧ ys = .int j y :: ys' ∧ eqAV q xs' ys' = some r ∧ b = ((x == y) && r) := by
  unfold eqAV at h
  split at h
  · rename_i e1; cases e1
  · rename_i j' q' a' x xs' c y ys' e1
    cases e1
    split at h
    · rename_i r hk hr
      rw [Bool.and_eq_true] at hk
      have h1 := beq_kind hk.1
      have h2 := beq_kind hk.2
      subst h1; subst h2
      cases h
      exact ⟨_, x, y, xs', ys', r, rfl, rfl, rfl, hr, rfl⟩
    · cases h
  · cases h
theorem run_eqInts {q : Kd} : ∀ {xs ys : List AV} {b : Bool} {vx vy : List Value} {fs : List Field} {off d : Nat} {C : Cons} {ax ay : Array Value} (w : World), eqAV q xs ys = some b → IntFs P q fs off → All2 (CR C) xs vx → All2 (CR C) ys vy →
    (∀ (i : Nat) (v : Value), vx[i]? = some v → ax[off + i]? = some v) → (∀ (i : Nat) (v : Value), vy[i]? = some v → ay[off + i]? = some v) → (Op.eqFields (d + 1) ax ay fs).run P w = .ok b w := by
  have plain : ∀ {t : TypeId} {j : IntKind}, P.underlying t = some (.int j) → P.plainKey t = true := fun h => by unfold Program.plainKey; rw [h]
  induction q with
  | int j =>
    intro xs ys b vx vy fs off d C ax ay w hq hf hx hy gx gy
    obtain ⟨x, y, rfl, rfl, rfl⟩ := eqAV_int hq
    match vx, vy, hx, hy with
    | [u], [u'], ⟨h1, _⟩, ⟨h2, _⟩ =>
      simp only [CR, CR0] at h1 h2
      subst h1; subst h2
      match fs, hf with
      | [f], ⟨f1, f2, f3⟩ =>
        have p1 := run_part_plain w (plain f3) (xs := ax) (off := f.offset) (v := .int j x) (by rw [f2]; exact gx 0 _ rfl)
        have p2 := run_part_plain w (plain f3) (xs := ay) (off := f.offset) (v := .int j y) (by rw [f2]; exact gy 0 _ rfl)
        simp only [Op.eqFields, f1, ne_eq, not_false_eq_true, if_true, Sem.run_bind, p1, p2, Result.andThen_ok, run_equalIn_int w d f.type j j x y f3]
        cases (x == y) <;> simp
  | pair a q iha ih =>
    intro xs ys b vx vy fs off d C ax ay w hq hf hx hy gx gy
    obtain ⟨j, x, y, xs, ys, r, rfl, rfl, rfl, hr, rfl⟩ := eqAV_pair hq
    match vx, vy, hx, hy with
    | u :: vx, u' :: vy, ⟨h1, hx⟩, ⟨h2, hy⟩ =>
      simp only [CR, CR0] at h1 h2
      subst h1; subst h2
      match fs, hf with
      | f :: fs, ⟨f1, f2, f3, f4⟩ =>
        have p1 := run_part_plain w (plain f3) (xs := ax) (off := f.offset) (v := .int j x) (by rw [f2]; exact gx 0 _ rfl)
        have p2 := run_part_plain w (plain f3) (xs := ay) (off := f.offset) (v := .int j y) (by rw [f2]; exact gy 0 _ rfl)
        have := ih (d := d) (ax := ax) (ay := ay) w hr f4 hx hy (fun i v hi => by have := gx (i + 1) v (by simpa using hi); rwa [show off + (i + 1) = off + 1 + i by omega] at this) (fun i v hi => by have := gy (i + 1) v (by simpa using hi); rwa [show off + (i + 1) = off + 1 + i by omega] at this)
        simp only [Op.eqFields, f1, ne_eq, not_false_eq_true, if_true, Sem.run_bind, p1, p2, Result.andThen_ok, run_equalIn_int w d f.type j j x y f3]
        cases (x == y) <;> simp [this]
  | _ => intro xs ys b vx vy fs off d C ax ay w hq; simp [eqAV] at hq
theorem run_equal_ints (ok : TyOk P env) {t : TypeId} {q : Kd} (ht : env.ty t = some (.st q)) (hi : q.ints = true) {xs ys : List AV} {b : Bool} {C : Cons} {vx vy : Value} (w : World) (hq : eqAV q xs ys = some b) (hx : VR C (.agg xs) vx) (hy : VR C (.agg ys) vy) (op : BinOp) (ox oy : Operand) :
    ∃ ax ay, vx = .agg ax ∧ vy = .agg ay ∧ (eqGuard op t ox oy vx vy).run P w = .ok () w ∧ (Op.equal t vx vy).run P w = .ok b w := by
  obtain ⟨e1, e2, fs, e3, e4⟩ := ok.eqs t _ ht hi
  obtain ⟨vx', rfl, hx⟩ := hx
  obtain ⟨vy', rfl, hy⟩ := hy
  refine ⟨_, _, rfl, rfl, ?_, ?_⟩
  · unfold eqGuard
    split <;> simp [e2]
  · have hfs : P.fieldsOf t = fs := by unfold Program.fieldsOf; rw [e3]
    have := run_equalIn_struct (P := P) w 9999 t vx'.toArray vy'.toArray (by rw [hfs]; exact e3) e1
    show (Op.equalIn (9999 + 1) t (.agg vx'.toArray) (.agg vy'.toArray)).run P w = _
    rw [this, hfs]
    exact run_eqInts (d := 9998) w hq e4 hx hy (fun i v h => by simpa using h) (fun i v h => by simpa using h)

/-- An operation without memory: what it does hangs on no world. -/
theorem evBin_ok (ok : TyOk P env) {op : BinOp} {t : TypeId} {ox oy : Operand} {x y : AV} {K : Eff → Option R} {r : R} (hk : evBin env t op x y K = some r) :
    ∃ a : AV, K (.val a) = some r ∧ ∀ {C : Cons} {vx vy : Value} (w : World), VR C x vx → VR C y vy →
      ∃ v, (do eqGuard op t ox oy vx vy; binOp op t vx vy : Sem Value).run P w = .ok v w ∧ VR C a v := by
  unfold evBin at hk
  split at hk
  · rename_i j a i b
    have base : ∀ (g : Value), True := fun _ => trivial
    split at hk
    · rename_i e; subst e
      split at hk
      all_goals first
        | (refine ⟨_, hk, fun {C vx vy} w hx hy => ?_⟩
           have hx := hx.int; have hy := hy.int; subst hx; subst hy
           refine ⟨_, ?_, rfl⟩
           simp [eqGuard, binOp, Op.intArith, Op.intCmp, Op.intBits]; done)
        | (rcases hb : (b == 0) with _ | _ <;> rw [hb] at hk
           · have hb' : b ≠ 0 := by simpa using hb
             refine ⟨_, hk, fun {C vx vy} w hx hy => ?_⟩
             have hx := hx.int; have hy := hy.int; subst hx; subst hy
             refine ⟨_, ?_, rfl⟩
             simp [eqGuard, binOp, Op.intDiv, hb']
           · cases hk)
        | (rcases hb : (decide (b < 0)) with _ | _ <;> rw [hb] at hk
           · have hb' : ¬ b < 0 := by simpa using hb
             refine ⟨_, hk, fun {C vx vy} w hx hy => ?_⟩
             have hx := hx.int; have hy := hy.int; subst hx; subst hy
             refine ⟨_, ?_, rfl⟩
             simp [eqGuard, binOp, Op.shift, hb']
           · cases hk)
        | (cases hk)
    · split at hk
      all_goals first
        | (rcases hb : (decide (b < 0)) with _ | _ <;> rw [hb] at hk
           · have hb' : ¬ b < 0 := by simpa using hb
             refine ⟨_, hk, fun {C vx vy} w hx hy => ?_⟩
             have hx := hx.int; have hy := hy.int; subst hx; subst hy
             refine ⟨_, ?_, rfl⟩
             simp [eqGuard, binOp, Op.shift, hb']
           · cases hk)
        | (cases hk)
  · split at hk
    · rename_i ht
      have hT := (ok.ty t _ ht).2
      refine ⟨_, hk, fun {C vx vy} w hx hy => ?_⟩
      have hx := hx.bool; have hy := hy.bool; subst hx; subst hy
      refine ⟨_, ?_, rfl⟩
      simp [eqGuard, run_eql_bool w t _ _ hT]
    · rename_i ht
      have hT := (ok.ty t _ ht).2
      refine ⟨_, hk, fun {C vx vy} w hx hy => ?_⟩
      have hx := hx.bool; have hy := hy.bool; subst hx; subst hy
      refine ⟨_, ?_, rfl⟩
      simp [eqGuard, binOp, run_equal_bool w t _ _ hT]
    · cases hk
  · rename_i a b
    split at hk
    · rcases hb : (Nat.ble (a.size + b.size) 9223372036854775807) with _ | _ <;> rw [hb] at hk
      · cases hk
      · have hb' := Nat.le_of_ble_eq_true hb
        refine ⟨_, hk, fun {C vx vy} w hx hy => ?_⟩
        have hx := hx.str; have hy := hy.str; subst hx; subst hy
        refine ⟨_, ?_, rfl⟩
        have hm : ¬ IntKind.i64.max < ((a.size + b.size : Nat) : Int) := by
          have : IntKind.i64.max = 9223372036854775807 := by decide
          rw [this]; omega
        simp only [Int.natCast_add] at hm
        have hm2 : (a.size : Int) + (b.size : Int) ≤ 9223372036854775807 := by omega
        simp [eqGuard, binOp, Op.stringOp, hm, hm2]
    all_goals first
      | (refine ⟨_, hk, fun {C vx vy} w hx hy => ?_⟩
         have hx := hx.str; have hy := hy.str; subst hx; subst hy
         refine ⟨_, ?_, rfl⟩
         simp [eqGuard, binOp, Op.stringOp]; done)
      | (cases hk)
  · split at hk
    · rename_i q ht
      split at hk
      · rename_i r hi hq
        refine ⟨_, hk, fun {C vx vy} w hx hy => ?_⟩
        obtain ⟨ax, ay, rfl, rfl, g1, g2⟩ := run_equal_ints ok ht hi w hq hx hy .eql ox oy
        exact ⟨.bool r, by simp [g1, g2, binOp], rfl⟩
      · rename_i r hi hq
        refine ⟨_, hk, fun {C vx vy} w hx hy => ?_⟩
        obtain ⟨ax, ay, rfl, rfl, g1, g2⟩ := run_equal_ints ok ht hi w hq hx hy .neq ox oy
        exact ⟨.bool (!r), by simp [g1, g2, binOp], rfl⟩
      · cases hk
    · cases hk
  · cases hk

theorem fieldIn_fit {q : Kd} : ∀ {k : Kd} {f : Nat} {fs : List Field} {off : Nat}, FsFit P k fs off → fieldKd.fieldIn k f = some q → ∃ fl, fs[f]? = some fl ∧ fl.offset = off + fieldOff k f ∧ ∃ i, P.info? fl.type = some i ∧ i.size = q.sz := by
  intro k
  have leaf : ∀ {k : Kd} {f : Nat} {fs : List Field} {off : Nat}, (∀ a b, k ≠ .pair a b) → FsFit P k fs off → fieldKd.fieldIn k f = some q → fieldOff k f = 0 → ∃ fl, fs[f]? = some fl ∧ fl.offset = off + fieldOff k f ∧ ∃ i, P.info? fl.type = some i ∧ i.size = q.sz := by
    intro k f fs off hp hf hq h0
    cases k with
    | pair a b => exact absurd rfl (hp a b)
    | _ =>
      cases f with
      | succ f => simp [fieldKd.fieldIn] at hq
      | zero =>
        simp only [fieldKd.fieldIn, Option.some.injEq] at hq
        subst hq
        match fs, hf with
        | [fl], hf => simp only [FsFit] at hf; exact ⟨fl, rfl, by rw [h0]; exact hf.1, hf.2⟩
        | [], hf => simp [FsFit] at hf
        | _ :: _ :: _, hf => simp [FsFit] at hf
  induction k with
  | int j => intro f fs off hf hq; exact leaf (by simp) hf hq (by simp [fieldOff])
  | bool => intro f fs off hf hq; exact leaf (by simp) hf hq (by simp [fieldOff])
  | str => intro f fs off hf hq; exact leaf (by simp) hf hq (by simp [fieldOff])
  | raw => intro f fs off hf hq; exact leaf (by simp) hf hq (by simp [fieldOff])
  | err => intro f fs off hf hq; exact leaf (by simp) hf hq (by simp [fieldOff])
  | sl e k ih => intro f fs off hf hq; exact leaf (by simp) hf hq (by simp [fieldOff])
  | st k ih =>
    intro f fs off hf hq
    cases f with
    | succ f => simp [fieldKd.fieldIn] at hq
    | zero =>
      have hf0 : fieldOff (.st k) 0 = 0 := by
        simp only [fieldOff]
        clear ih leaf hf hq
        induction k with
        | st k ih => simpa [fieldOff] using ih
        | _ => simp [fieldOff]
      exact leaf (by simp) hf hq hf0
  | pair a b iha ihb =>
    intro f fs off hf hq
    match fs, hf with
    | fl :: fs, hf =>
      simp only [FsFit] at hf
      obtain ⟨h1, h2, h3⟩ := hf
      cases f with
      | zero =>
        simp only [fieldKd.fieldIn, Option.some.injEq] at hq
        subst hq
        exact ⟨fl, rfl, by simpa [fieldOff] using h1, h2⟩
      | succ f =>
        simp only [fieldKd.fieldIn] at hq
        obtain ⟨g, g1, g2, g3⟩ := ihb h3 hq
        exact ⟨g, by simpa using g1, by simp only [fieldOff]; omega, g3⟩
    | [], hf => simp [FsFit] at hf

theorem field_fit {t : TypeId} {lim : TypeId → Nat} {kd q : Kd} {f : Nat} (hT : TyFit P lim t kd) (hq : fieldKd kd f = some q) :
    ∃ fs : Array Field, P.underlying t = some (.struct fs) ∧ ∃ fl, fs[f]? = some fl ∧ fl.offset = fieldOff kd f ∧ ∃ i, P.info? fl.type = some i ∧ i.size = q.sz := by
  cases kd with
  | st k =>
    obtain ⟨_, fs, hu, hf⟩ := hT
    refine ⟨fs, hu, ?_⟩
    have hin : fieldKd.fieldIn k f = some q := by
      cases k with
      | pair a b => cases f <;> simpa [fieldKd, fieldKd.fieldIn] using hq
      | _ => cases f <;> first | (simp [fieldKd] at hq; done) | simpa [fieldKd, fieldKd.fieldIn] using hq
    obtain ⟨fl, h1, h2, h3⟩ := fieldIn_fit hf hin
    exact ⟨fl, by simpa using h1, by simpa [fieldOff] using h2, h3⟩
  | _ => simp [fieldKd] at hq

theorem evField_ok (ok : TyOk P env) {s : TypeId} {kd q : Kd} {f : Nat} (ht : env.ty s = some kd) (hq : fieldKd kd f = some q) {a : Addr} (ha : a.spot = none) (w : World) :
    (Instr.fieldAt s (.pointer (some a)) f).run P w = .ok (.pointer (some ⟨a.block, a.off + fieldOff kd f, none⟩)) w := by
  obtain ⟨fs, hu, fl, h1, h2, i, hi, hs⟩ := field_fit (ok.ty s kd ht) hq
  have hz : q.sz ≠ 0 := Nat.pos_iff_ne_zero.1 q.sz_pos
  have had := add_spot ha (fieldOff kd f)
  simp [Instr.fieldAt, Instr.sureAddr, underlying, hu, h1, fieldPlace, sizeOf, typeInfo, hi, hs, hz, h2, had]

theorem evIndexAddr_ok (ok : TyOk P env) {t : TypeId} {x ix : AV} {K : Eff → Option R} {r : R} (hk : evIndexAddr env t x ix h K = some r) :
    ∃ a, K (.val a) = some r ∧ ∀ {h1 : List (Nat × Blk)} {C : Cons} {Z : Nat → Prop} {w : World} {vx vi : Value}, HR B Fr Z0 w0 h1 C Z w → Sub h h1 → VR C x vx → VR C ix vi →
      ∃ v, (Instr.indexAt t vx vi).run P w = .ok v w ∧ VR C a v := by
  unfold evIndexAddr at hk
  split at hk
  · rename_i id ik i
    split at hk
    · rename_i rk e xs own e' q hb hty
      split at hk
      · rename_i hsz
        have hsz := Nat.eq_of_beq_eq_true hsz
        rcases h0 : decide (0 ≤ i) with _ | _ <;> rw [h0] at hk
        · cases hk
        rcases h1' : decide (i < (xs.length : Int)) with _ | _ <;> rw [h1'] at hk
        · cases hk
        have h0 := of_decide_eq_true h0
        have h1' := of_decide_eq_true h1'
        refine ⟨_, hk, fun {h1 C Z w vx vi} H hs hx hi => ?_⟩
        have hi := hi.int; subst hi
        obtain ⟨⟨F, hC⟩, A, n, c, rfl⟩ := hx.sl
        have hl := hs _ _ (blkOf_lk hb (by simp))
        obtain ⟨v', F', hC', hrd⟩ := H.rowRd hl
        rw [hC] at hC'; cases hC'
        obtain ⟨A', c', hv, _, _, hrow⟩ := hrd
        simp only [List.cons.injEq, Value.slice.injEq, and_true] at hv
        obtain ⟨hA', hn, _⟩ := hv
        rcases hrow with hx0 | ⟨ad, g1, g2, g3, g4⟩
        · subst hx0; simp at h1'; omega
        · rw [g1] at hA'; subst hA'
          have hT := (ok.ty t _ hty).2
          obtain ⟨_, hu, ie, hie, hies, _⟩ := hT
          refine ⟨.pointer (some (ad.add (i.toNat * q.sz))), ?_, ⟨ad, n, c, F, hC, g2, h0, by rw [hn]; exact h1', ?_⟩⟩
          · have hn' : i < (n : Int) := by rw [hn]; exact h1'
            simp [Instr.indexAt, asIntOf, underlying, hu, h0, hn', sizeOf, typeInfo, hie, hies]
          · rw [add_spot g2, hsz]; simp
      · cases hk
    · cases hk
  · cases hk

theorem evLen_ok (ok : TyOk P env) {t ty : TypeId} {x : AV} {K : Eff → Option R} {r : R} (hk : evLen env t x h K = some r) :
    ∃ a, K (.val a) = some r ∧ ∀ {h1 : List (Nat × Blk)} {C : Cons} {Z : Nat → Prop} {w : World} {vx : Value}, HR B Fr Z0 w0 h1 C Z w → Sub h h1 → VR C x vx →
      ∃ v, (Builtin.len_ #[t] ty #[vx]).run P w = .ok v w ∧ VR C a v := by
  unfold evLen at hk
  split at hk
  · rename_i s hty
    refine ⟨_, hk, fun {h1 C Z w vx} H hs hx => ?_⟩
    have hx := hx.str; subst hx
    exact ⟨.int .i64 s.size, by simp [Builtin.len_, underlying, (ok.ty t _ hty).2, goInt], rfl⟩
  · rename_i e q hty
    refine ⟨_, hk, fun {h1 C Z w vx} H hs hx => ?_⟩
    have hx := hx.nil; subst hx
    exact ⟨.int .i64 0, by simp [Builtin.len_, underlying, (ok.ty t _ hty).2.2.1, goInt], rfl⟩
  · rename_i e q id hty
    split at hk
    · rename_i rk e' xs own hb
      refine ⟨_, hk, fun {h1 C Z w vx} H hs hx => ?_⟩
      obtain ⟨⟨F, hC⟩, A, n, c, rfl⟩ := hx.sl
      obtain ⟨v', F', hC', hrd⟩ := H.rowRd (hs _ _ (blkOf_lk hb (by simp)))
      rw [hC] at hC'; cases hC'
      obtain ⟨A', c', hv, _, _, hrow⟩ := hrd
      simp only [List.cons.injEq, Value.slice.injEq, and_true] at hv
      exact ⟨.int .i64 n, by simp [Builtin.len_, underlying, (ok.ty t _ hty).2.2.1, goInt], by rw [hv.2.1]; rfl⟩
    · cases hk
  · cases hk


theorem Ow.oneCell {w : World} : ∀ {k : Kd} {F : List Nat} {x : k.Ty} {cs : List Value}, Ow w k F x cs → ∀ u, u ∈ cs → u.oneCell' = true := by
  intro k
  induction k with
  | int j => intro F x cs h u hu; obtain ⟨_, rfl⟩ := h; simp at hu; subst hu; rfl
  | bool => intro F x cs h u hu; obtain ⟨_, rfl⟩ := h; simp at hu; subst hu; rfl
  | str => intro F x cs h u hu; obtain ⟨_, rfl⟩ := h; simp at hu; subst hu; rfl
  | raw => intro F x cs h u hu; obtain ⟨_, rfl⟩ := h; simp at hu; subst hu; exact x.2
  | err => intro F x cs h u hu; obtain ⟨_, v, rfl, he⟩ := h; simp at hu; subst hu; rcases he with ⟨_, rfl⟩ | ⟨_, t, p, rfl⟩ <;> rfl
  | sl e k ih =>
    intro F x cs h u hu
    obtain ⟨v, cells, G, rfl, how, _⟩ := h
    simp at hu; subst hu
    rcases how.2 with ⟨rfl, _⟩ | ⟨g, cap, cur, rfl, _⟩ <;> rfl
  | st k ih => intro F x cs h u hu; exact ih h u hu
  | pair a b iha ihb =>
    intro F x cs h u hu
    obtain ⟨F1, F2, c1, c2, _, rfl, h1, h2⟩ := h
    rcases List.mem_append.1 hu with hu | hu
    · exact iha h1 u hu
    · exact ihb h2 u hu
theorem Reps.oneCell {w : World} {k : Kd} {sz : Nat} : ∀ {xs : List k.Ty} {F : List Nat} {cs : List Value}, Reps (Ow w k) sz F xs cs → ∀ u, u ∈ cs → u.oneCell' = true
  | [], _, _, ⟨_, h⟩, u, hu => by subst h; cases hu
  | x :: xs, _, _, ⟨F1, F2, c1, c2, _, h2, _, h4, h5⟩, u, hu => by
    subst h2
    rcases List.mem_append.1 hu with hu | hu
    · exact h4.oneCell u hu
    · exact Reps.oneCell h5 u hu
theorem Reps.app {α : Type} {p : List Nat → α → List Value → Prop} {sz : Nat} : ∀ {xs ys : List α} {F G : List Nat} {cs ds : List Value}, Reps p sz F xs cs → Reps p sz G ys ds → Reps p sz (F ++ G) (xs ++ ys) (cs ++ ds)
  | [], ys, F, G, cs, ds, ⟨h1, h2⟩, h => by subst h1; subst h2; exact h
  | x :: xs, ys, F, G, cs, ds, ⟨F1, F2, c1, c2, h1, h2, h3, h4, h5⟩, h => ⟨F1, F2 ++ G, c1, c2 ++ ds, by simp [h1], by simp [h2], h3, h4, Reps.app h5 h⟩

/-- the cells of elements that are read, in one list -/
theorem RdRow_flat {k : Kd} {w : World} {Z : Nat → Prop} {b : Nat} : ∀ {xs : List k.Ty} {off : Nat}, (∀ (i : Nat) (x : k.Ty), xs[i]? = some x → ∃ cs : List Value, cs.length = k.sz ∧ Rd w Z k x cs ∧ ∀ (j : Nat) (v : Value), cs[j]? = some v → w.cell? ⟨b, off + (i * k.sz + j), none⟩ = some v) →
    k.plain = true → ∃ cells, Reps (Ow w k) k.sz [] xs cells ∧ ∀ (j : Nat) (v : Value), cells[j]? = some v → w.cell? ⟨b, off + j, none⟩ = some v
  | [], off, _, _ => ⟨[], ⟨rfl, rfl⟩, fun j v hj => by simp at hj⟩
  | x :: xs, off, h, hp => by
    obtain ⟨cs, h1, h2, h3⟩ := h 0 x rfl
    obtain ⟨cells, g1, g2⟩ := RdRow_flat (xs := xs) (off := off + k.sz) (fun i y hy => by
      obtain ⟨ds, k1, k2, k3⟩ := h (i + 1) y (by simpa using hy)
      refine ⟨ds, k1, k2, fun j v hj => ?_⟩
      rw [← k3 j v hj, Nat.add_mul]
      congr 2
      omega) hp
    refine ⟨cs ++ cells, ⟨[], [], cs, cells, rfl, rfl, h1, plain_Ow hp h2, g1⟩, fun j v hj => ?_⟩
    by_cases hlt : j < cs.length
    · rw [List.getElem?_append_left hlt] at hj
      have := h3 j v hj
      rw [← this]; congr 2; omega
    · rw [List.getElem?_append_right (by omega)] at hj
      have := g2 (j - cs.length) v hj
      rw [← this]; congr 2; omega

/-- what is appended, in the world -/
theorem appSrc_ok {e : TypeId} {k : Kd} {x : AV} {ys : List k.Ty} {u : List (Nat × Blk)} (hk : appSrc h e k x = some (ys, u)) (H : HR B Fr Z0 w0 h1 C Z w) (hs : Sub h h1) {vx : Value} (hx : VR C x vx) :
    ∃ A m c cells G, vx = .slice A m c ∧ m = ys.length ∧ (A = none → m = 0) ∧ Reps (Ow w k) k.sz G ys cells ∧ G.Nodup ∧
      (∀ ad, A = some ad → ∀ (j : Nat) (v : Value), cells[j]? = some v → w.cell? (ad.add j) = some v) ∧
      ((u = [] ∧ G = []) ∨ ∃ id, x = .sl id ∧ u = [id].map (fun i => (i, Blk.dead)) ∧ (∃ b, lk h1 id = some b ∧ b ≠ .dead) ∧ ∃ F, C id = some (.row vx F) ∧ (∀ b, b ∈ G → b ∈ F) ∧ F.Nodup ∧ (∀ b, some b = vx.ownBlock → b ∉ G)) := by
  unfold appSrc at hk
  split at hk
  · cases hk
    have := hx.nil; subst this
    exact ⟨none, 0, 0, [], [], rfl, rfl, fun _ => rfl, ⟨rfl, rfl⟩, List.nodup_nil, fun ad h => (by cases h), .inl ⟨rfl, rfl⟩⟩
  · rename_i id
    split at hk
    · rename_i k' e' ys' own hb
      split at hk
      · rename_i hkk; subst hkk
        split at hk
        · rename_i hee; subst hee
          obtain ⟨⟨F, hC⟩, A, m, c, rfl⟩ := hx.sl
          have hl := hs _ _ (blkOf_lk hb (by simp))
          have flat : k'.plain = true → ∃ cells, Reps (Ow w k') k'.sz [] ys' cells ∧ m = ys'.length ∧ (A = none → m = 0) ∧ ∀ ad, A = some ad → ∀ (j : Nat) (v : Value), cells[j]? = some v → w.cell? (ad.add j) = some v := by
            intro hp
            obtain ⟨v', F', hC', hrd⟩ := H.rowRd hl
            rw [hC] at hC'; cases hC'
            obtain ⟨A', c', hv, _, _, hrow⟩ := hrd
            simp only [List.cons.injEq, Value.slice.injEq, and_true] at hv
            obtain ⟨hA', hn, _⟩ := hv
            rcases hrow with hx0 | ⟨ad, g1, g2, g3, g4⟩
            · subst hx0
              exact ⟨[], ⟨rfl, rfl⟩, hn, (fun _ => by simpa using hn), fun ad _ j v hj => by simp at hj⟩
            · rw [g1] at hA'
              obtain ⟨cells, f1, f2⟩ := RdRow_flat (off := ad.off) g4 hp
              refine ⟨cells, f1, hn, (fun h => by rw [hA'] at h; cases h), fun ad' h j v hj => ?_⟩
              rw [hA'] at h; cases h
              rw [add_spot g2]; exact f2 j v hj
          split at hk
          · rename_i hp
            simp only [Option.some.injEq, Prod.mk.injEq] at hk
            obtain ⟨hy, hu⟩ := hk
            subst hy; subst hu
            obtain ⟨cells, f1, f2, f3, f4⟩ := flat hp
            exact ⟨A, m, c, cells, [], rfl, f2, f3, f1, List.nodup_nil, f4, .inl ⟨rfl, rfl⟩⟩
          · rename_i hnp
            simp only [Option.some.injEq, Prod.mk.injEq] at hk
            obtain ⟨hy, hu⟩ := hk
            subst hy; subst hu
            obtain ⟨c0, hc, hbr⟩ := H.blk id _ hl
            rw [hC] at hc; cases hc
            obtain ⟨⟨v', cells, G, hv', hown, hreps, hF⟩, hnd⟩ := hbr
            simp only [List.cons.injEq, and_true] at hv'
            subst hv'
            rw [hF] at hnd
            obtain ⟨n1, n2, n3⟩ := List.nodup_append.1 hnd
            refine ⟨A, m, c, cells, G, rfl, ?_, ?_, hreps, n2, ?_, .inr ⟨id, rfl, rfl, ⟨_, hl, by simp⟩, F, hC, fun b hb => by rw [hF]; exact List.mem_append_right _ hb, by rw [hF]; exact hnd, fun b hb hG => ?_⟩⟩
            · rcases hown.2 with ⟨hv, hn⟩ | ⟨g, cap, cur, hv, _⟩
              · simp only [Value.slice.injEq] at hv; rw [hv.2.1, hn]
              · simp only [Value.slice.injEq] at hv; exact hv.2.1
            · intro hA
              rcases hown.2 with ⟨hv, hn⟩ | ⟨g, cap, cur, hv, _⟩
              · simp only [Value.slice.injEq] at hv; exact hv.2.1
              · simp only [Value.slice.injEq] at hv; rw [hA] at hv; cases hv.1
            · intro ad hA j v hj
              rcases hown.2 with ⟨hv, hn⟩ | ⟨g, cap, cur, hv, _⟩
              · simp only [Value.slice.injEq] at hv; rw [hA] at hv; cases hv.1
              · simp only [Value.slice.injEq] at hv
                rw [hA] at hv; cases hv.1
                exact hown.cells (by rw [hA]; rfl) j v hj
            · exact n3 b (by rw [← hb]; simp) b hG rfl
          · cases hk
        · cases hk
      · cases hk
    · cases hk
  · cases hk


theorem run_append_nilsrc (ok : TyOk P env) {t ty e : TypeId} {q : Kd} (ht : env.ty t = some (.sl e q)) (A : Option Addr) (n c c' : Nat) (hn : n ≤ c) :
    (Builtin.append_ #[t, t] ty #[.slice A n c, .slice none 0 c']).run P w = .ok (.slice A n c) w := by
  obtain ⟨_, hu, ie, hie, his, _⟩ := (ok.ty t _ ht).2
  cases A <;> simp [Builtin.append_, underlying, hu, sizeOf, typeInfo, hie, Builtin.lenOf, hn, Builtin.firstCells, storeCells]

theorem run_append_own2 (t ty e : TypeId) (i : TypeInfo) (z : Value) (size bytes : Nat) (ht : P.underlying t = some (.slice e)) (hi : P.info? e = some i) (hz : i.zero = some z)
    (hsize : i.size = size) (hby : i.bytes = bytes) (hzs : z.cells.size = size) (hsz : 0 < size)
    (v : Value) (n : Nat) (xs : List Value) (hown : w.ownsRow 0 e size v n xs)
    (a : Addr) (m c : Nat) (news : List Value) (hl : news.length = m * size) (hnews : ∀ j u, news[j]? = some u → w.cell? (a.add j) = some u) (h1 : ∀ u ∈ news, u.oneCell' = true)
    (h63 : n + m ≤ maxLen) (hbytes : (n + m) * bytes ≤ 140737488355328) :
    ∃ v' w', (Builtin.append_ #[t, t] ty #[v, .slice (some a) m c]).run P w = .ok v' w' ∧ w'.ownsRow 0 e size v' (n + m) (xs ++ news) ∧ w.grownBy w' v.ownBlock ∧
      (v'.ownBlock = v.ownBlock ∨ v'.ownBlock = some w.heap.size) ∧ w.drawn ≤ w'.drawn := by
  obtain ⟨v', w', hr, h2, h3, h4⟩ := run_append_own (P := P) w 0 t ty e i z size bytes ht hi hz hsize hby hzs hsz v n xs hown a m c news hl hnews h1 h63 hbytes (Nat.zero_le _)
  refine ⟨v', w', hr, h2, h3, ?_⟩
  subst hsize; subst hby
  have h63' : n + m ≤ 9223372036854775807 := by simp only [maxLen] at h63; omega
  rcases hown.2 with ⟨rfl, hn⟩ | ⟨g, cap, cur, rfl, hbg, hg, hnc, hcm, hcs, htake⟩
  · subst hn
    by_cases hm : m = 0
    · refine ⟨.inl (by rw [h4.2 ⟨rfl, hm⟩]), ?_⟩
      subst hm
      have hn : news = [] := List.eq_nil_of_length_eq_zero (by simpa using hl)
      subst hn
      have hr2 : (Builtin.append_ #[t, t] ty #[.slice none 0 0, .slice (some a) 0 c]).run P w = .ok (.slice none 0 0) w := by
        simp [Builtin.append_, run_underlying ht, sizeOf, typeInfo, hi, Builtin.lenOf, Builtin.firstCells, loadCells, loadCellsFrom]
      rw [hr] at hr2
      cases hr2; exact Nat.le_refl _
    · refine ⟨.inr ?_, ?_⟩ <;>
      have hr2 := run_append_nil (P := P) w t ty e i z ht hi hz a m c news hl hnews (by omega) (by omega) (by have hb := hbytes; simp only [Nat.zero_add] at hb; omega) <;>
      rw [hr] at hr2 <;>
      cases hr2
      · rfl
      · exact Nat.le_succ _
  · by_cases hroom : n + m ≤ cap
    · have hfit : n * i.size + news.length ≤ cur.size := by rw [hl, hcs, ← Nat.add_mul]; exact Nat.mul_le_mul_right _ hroom
      have hr2 := run_append_room (P := P) w t ty e i ht hi g n cap cur hg a m c news hl hnews h1 hroom hfit
      rw [hr] at hr2
      cases hr2
      exact ⟨.inl rfl, Nat.le_refl _⟩
    · 
      have holds : ∀ j u, xs[j]? = some u → w.cell? ((⟨g, 0, none⟩ : Addr).add j) = some u := hown.cells (g := g) rfl
      have hr2 := run_append_grow (P := P) w t ty e i z ht hi hz ⟨g, 0, none⟩ n cap xs hown.1 holds a m c news hl hnews (by omega) (by omega) (growslice_fits (by omega) hbytes)
      rw [hr] at hr2
      cases hr2
      exact ⟨.inr rfl, Nat.le_succ _⟩

/-- what is appended to, in the world -/
theorem appDst_ok {e : TypeId} {k : Kd} {s : AV} {xs : List k.Ty} {u : List (Nat × Blk)} (hk : appDst h e k s = some (xs, u)) (H : HR B Fr Z0 w0 h1 C Z w) (hs : Sub h h1) {vs : Value} (hx : VR C s vs) :
    ∃ cells G, w.ownsRow 0 e k.sz vs xs.length cells ∧ Reps (Ow w k) k.sz G xs cells ∧ (vs.ownBlock.toList ++ G).Nodup ∧
      ((u = [] ∧ vs = .slice none 0 0 ∧ G = []) ∨ ∃ id, s = .sl id ∧ u = [id].map (fun i => (i, Blk.dead)) ∧ (∃ b, lk h1 id = some b ∧ b ≠ .dead) ∧ C id = some (.row vs (vs.ownBlock.toList ++ G))) := by
  unfold appDst at hk
  split at hk
  · cases hk
    have := hx.nil; subst this
    exact ⟨[], [], World.ownsRow_nil w 0 e k.sz, ⟨rfl, rfl⟩, List.nodup_nil, .inl ⟨rfl, rfl, rfl⟩⟩
  · rename_i id
    split at hk
    · rename_i k' e' xs' hb
      split at hk
      · rename_i hkk; subst hkk
        split at hk
        · rename_i hee; subst hee
          cases hk
          obtain ⟨⟨F, hC⟩, A, m, c, rfl⟩ := hx.sl
          have hl := hs _ _ (blkOf_lk hb (by simp))
          obtain ⟨c0, hc, hbr⟩ := H.blk id _ hl
          rw [hC] at hc; cases hc
          obtain ⟨⟨v', cells, G, hv', hown, hreps, hF⟩, hnd⟩ := hbr
          simp only [List.cons.injEq, and_true] at hv'
          subst hv'
          subst hF
          exact ⟨cells, G, hown, hreps, hnd, .inr ⟨id, rfl, rfl, ⟨_, hl, by simp⟩, hC⟩⟩
        · cases hk
      · cases hk
    · cases hk
  · cases hk

theorem evAppend_ok (ok : TyOk P env) {t ty : TypeId} {s x : AV} {n : Nat} {K : Eff → Option R} {r : R} (hk : evAppend env t s x h n K = some r) :
    ∃ e, K e = some r ∧ (∃ p, e.new = [p]) ∧ ∀ {h1 : List (Nat × Blk)} {C : Cons} {Z : Nat → Prop} {w : World} {vs vx : Value}, HR B Fr Z0 w0 h1 C Z w → Sub h h1 → lk h1 n = none → VR C s vs → VR C x vx → Does B Fr Z0 w0 h1 C ((Builtin.append_ #[t, t] ty #[vs, vx]).run P w) e := by
  unfold evAppend at hk
  split at hk
  · rename_i e kd hty
    split at hk
    · rename_i xs u1 ys u2 hd hsrc hsame
      rcases hlim : Nat.ble (xs.length + ys.length) (env.lim e) with _ | _ <;> rw [hlim] at hk
      · cases hk
      have hlim := Nat.le_of_ble_eq_true hlim
      refine ⟨_, hk, ⟨_, rfl⟩, fun {h1 C Z w vs vx} H hs hn hvs hvx => ?_⟩
      obtain ⟨cells, G, hown, hreps, hnd, hu1⟩ := appDst_ok hd H hs hvs
      obtain ⟨A, m, c, news, G2, rfl, hm, hA0, hreps2, hnd2, hcell, hu2⟩ := appSrc_ok hsrc H hs hvx
      obtain ⟨hnp, hu, ie, hie, his, hiz, hib, hmax⟩ := (ok.ty t _ hty).2
      have hzs : (zeroV kd).cells.size = kd.sz := by
        have := zeroV_cells kd (Kd.ne_pair hnp)
        rw [← zeroVs_len, ← this]; simp
      -- what is given up
      obtain ⟨ids, hids, hal, hroot, hGs⟩ : ∃ ids : List Nat, u1 ++ u2 = ids.map (fun i => (i, Blk.dead)) ∧ (∀ i, i ∈ ids → ∃ b, lk h1 i = some b) ∧
          (∀ b, b ∈ vs.ownBlock.toList ++ (G ++ G2) → ∃ i, i ∈ ids ∧ b ∈ ft h1 C i) ∧ (vs.ownBlock.toList ++ (G ++ G2)).Nodup := by
        rcases hu1 with ⟨rfl, rfl, rfl⟩ | ⟨i1, rfl, rfl, ⟨b1, hl1, hd1⟩, hC1⟩
        · rcases hu2 with ⟨rfl, rfl⟩ | ⟨i2, rfl, rfl, ⟨b2, hl2, hd2⟩, F2, hC2, hG2, _⟩
          · exact ⟨[], rfl, (fun i hi => by cases hi), (fun b hb => by simp [Value.ownBlock] at hb), by simp [Value.ownBlock]⟩
          · exact ⟨[i2], rfl, fun i hi => by simp at hi; subst hi; exact ⟨b2, hl2⟩, fun b hb => ⟨i2, by simp, by rw [ft_mem hl2 hd2 hC2]; exact hG2 b (by simpa [Value.ownBlock] using hb)⟩, by simpa [Value.ownBlock] using hnd2⟩
        · have hf1 := ft_mem hl1 hd1 hC1
          rcases hu2 with ⟨rfl, rfl⟩ | ⟨i2, rfl, rfl, ⟨b2, hl2, hd2⟩, F2, hC2, hG2, _⟩
          · exact ⟨[i1], rfl, fun i hi => by simp at hi; subst hi; exact ⟨b1, hl1⟩, fun b hb => ⟨i1, by simp, by rw [hf1]; simpa [Con.foot] using hb⟩, by simpa using hnd⟩
          · have hne : i1 ≠ i2 := fun e => by subst e; simp [sameId] at hsame
            have hf2 := ft_mem hl2 hd2 hC2
            refine ⟨[i1, i2], rfl, fun i hi => ?_, fun b hb => ?_, ?_⟩
            · simp at hi; rcases hi with rfl | rfl
              · exact ⟨b1, hl1⟩
              · exact ⟨b2, hl2⟩
            · rw [← List.append_assoc] at hb
              rcases List.mem_append.1 hb with hb | hb
              · exact ⟨i1, by simp, by rw [hf1]; exact hb⟩
              · exact ⟨i2, by simp, by rw [hf2]; exact hG2 b hb⟩
            · rw [← List.append_assoc]
              refine List.nodup_append.2 ⟨hnd, hnd2, fun a ha b hb e => ?_⟩
              subst e
              exact H.dis i1 i2 hne a (by rw [hf1]; exact ha) (by rw [hf2]; exact hG2 a hb)
      obtain ⟨Hk, hft⟩ := H.kills hal
      have hnk : lk (ids.map (fun i => (i, Blk.dead)) ++ h1) n = none := by
        rw [lk_kills (fun hm => by obtain ⟨b, hb⟩ := hal n hm; rw [hn] at hb; cases hb)]; exact hn
      have free : ∀ b, b ∈ vs.ownBlock.toList ++ (G ++ G2) → b < w.heap.size ∧ ¬ Z b ∧ (B ≤ b ∨ Fr b) ∧ ∀ j, b ∉ ft (ids.map (fun i => (i, Blk.dead)) ++ h1) C j := fun b hb => by
        obtain ⟨i, hi, hbi⟩ := hroot b hb
        obtain ⟨a1, a2, a3⟩ := H.own i b hbi
        refine ⟨a1, a2, a3, fun j hj => ?_⟩
        obtain ⟨hj1, hj2⟩ := hft j b hj
        exact H.dis i j (fun e => hj2 (e ▸ hi)) b hbi hj1
      have hkd : 0 < kd.sz := kd.sz_pos
      have hx : Ext C (C.put n (.row (.slice none 0 0) [])) := Ext.put_new (H.dom n hn)
      rcases hA : A with _ | ad
      · -- nothing is appended
        have hm0 := hA0 hA
        have hy : ys = [] := List.eq_nil_of_length_eq_zero (by omega)
        subst hy
        obtain ⟨hg1, hn1⟩ := hreps2
        subst hg1
        obtain ⟨As, ns, cs, hvsf, hnc, hns⟩ : ∃ A n c, vs = .slice A n c ∧ n ≤ c ∧ n = xs.length := by
          rcases hown.2 with ⟨hv, h0⟩ | ⟨g, cap, cur, hv, _, _, hc, _⟩
          · exact ⟨_, _, _, hv, Nat.le_refl _, h0.symm⟩
          · exact ⟨_, _, _, hv, hc, rfl⟩
        have hrun := run_append_nilsrc (P := P) (w := w) (ty := ty) ok hty As ns cs c hnc
        subst hA hm0
        refine ⟨vs, w, C.put n (.row vs (vs.ownBlock.toList ++ G)), Z, by rw [hvsf]; exact hrun, ?_, Ext.put_new (H.dom n hn), ⟨⟨_, Cons.put_same _ _ _⟩, _, _, _, hvsf⟩⟩
        have := Hk.addFree (id := n) hnk (e := e) (k := kd) (xs := xs) (v := vs) (F := vs.ownBlock.toList ++ G) ⟨vs, cells, G, rfl, hown, hreps, rfl⟩ hnd (fun b hb => free b (by simpa using hb))
        simp only [List.append_nil, List.singleton_append, hids]
        exact this
      · subst hA
        have hnews : news.length = m * kd.sz := by rw [hreps2.length, hm]
        have hbytes : (xs.length + m) * ie.bytes ≤ 140737488355328 := by
          have h1 : (xs.length + m) * ie.bytes ≤ env.lim e * ie.bytes := Nat.mul_le_mul_right _ (by omega)
          rw [Nat.mul_comm (env.lim e)] at h1
          omega
        obtain ⟨v', w', hr, hown', hgr, hblk, hdr⟩ := run_append_own2 (P := P) (w := w) t ty e ie (zeroV kd) kd.sz ie.bytes hu hie hiz his rfl hzs hkd vs xs.length cells hown ad m c news hnews (hcell ad rfl) (hreps2.oneCell) (by omega) hbytes
        have hnotroot : ∀ b, b ∈ G ++ G2 → some b ≠ vs.ownBlock := fun b hb e => by
          obtain ⟨_, _, n3⟩ := List.nodup_append.1 hGs
          exact n3 b (by rw [← e]; simp) b hb rfl
        have hsame' : ∀ b, b ∈ G ++ G2 → w'.heap[b]? = w.heap[b]? := fun b hb => hgr.block b (free b (List.mem_append_right _ hb)).1 (hnotroot b hb)
        have hreps' : Reps (Ow w' kd) kd.sz (G ++ G2) (xs ++ ys) (cells ++ news) :=
          Reps.app (Reps.imp (fun G' x cs hG' h => Ow.mono (fun b hb => hsame' b (List.mem_append_left _ (hG' b hb))) h) hreps) (Reps.imp (fun G' x cs hG' h => Ow.mono (fun b hb => hsame' b (List.mem_append_right _ (hG' b hb))) h) hreps2)
        have hvf : ∃ A n c, v' = .slice A n c := by
          rcases hown'.2 with ⟨hv, _⟩ | ⟨g, cap, cur, hv, _⟩
          · exact ⟨_, _, _, hv⟩
          · exact ⟨_, _, _, hv⟩
        have hlt' : ∀ k, v'.ownBlock = some k → k < w'.heap.size := fun k hk => (hown'.lt k hk).2
        refine ⟨v', w', C.put n (.row v' (v'.ownBlock.toList ++ (G ++ G2))), Z, hr, ?_, Ext.put_new (H.dom n hn), ⟨⟨_, Cons.put_same _ _ _⟩, hvf⟩⟩
        have := Hk.addTurned (w' := w') (id := n) hnk (e := e) (k := kd) (xs := xs ++ ys) (v := v') (F := v'.ownBlock.toList ++ (G ++ G2))
          ⟨v', cells ++ news, G ++ G2, rfl, by rw [List.length_append, ← hm]; exact hown', hreps', rfl⟩ ?_ ?_ ?_ hgr.size hgr.os hgr.tape ⟨hgr.output, DrLe.of hdr⟩
        · simp only [List.singleton_append, hids]; exact this
        · rcases hblk with hb | hb
          · rw [hb]; exact hGs
          · rw [hb]
            obtain ⟨_, n2, _⟩ := List.nodup_append.1 hGs
            refine List.nodup_append.2 ⟨by simp, n2, fun a ha b hb' e => ?_⟩
            simp at ha
            subst ha; subst e
            exact absurd (free _ (List.mem_append_right _ hb')).1 (by omega)
        · intro b hb
          rcases List.mem_append.1 hb with hb | hb
          · have hb1 : v'.ownBlock = some b := by simpa using hb
            refine ⟨hlt' b hb1, ?_⟩
            rcases hblk with h2 | h2
            · exact .inr (free b (List.mem_append_left _ (by rw [← h2, hb1]; simp))).2
            · rw [h2] at hb1; cases hb1; exact .inl (Nat.le_refl _)
          · exact ⟨Nat.lt_of_lt_of_le (free b (List.mem_append_right _ hb)).1 hgr.size, .inr (free b (List.mem_append_right _ hb)).2⟩
        · intro b hb hz
          refine hgr.block b hb fun e => ?_
          have hbr := free b (List.mem_append_left _ (by rw [← e]; simp))
          rcases hz with hz | ⟨i, hi⟩ | ⟨h1, h2⟩
          · exact hbr.2.1 hz
          · exact hbr.2.2.2 i hi
          · rcases hbr.2.2.1 with h3 | h3
            · omega
            · exact h2 h3
    · cases hk
  · cases hk

end
end Go.Ev
