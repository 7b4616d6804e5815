/- More single operations: new rows, values of structs, cuts. -/
import Derived.Test.YtmiimfpdlkmjhaaGreatDoorEvOps2
import Derived.Laws.Slices
import Derived.Laws.Strings2
import Derived.Laws.Tables
set_option linter.unusedVariables false
set_option linter.unusedSectionVars false
set_option linter.unusedSimpArgs false
namespace Go.Ev
open Go
variable [Lax]

section
variable {B : Nat} {Fr Z0 : Nat → Prop} {w0 w : World} {h h1 : List (Nat × Blk)} {C : Cons} {Z : Nat → Prop} {P : Program} {env : Env} {R : Type}

theorem Reps_replicate {α : Type} {p : List Nat → α → List Value → Prop} {sz : Nat} {x : α} {cs : List Value} (hc : cs.length = sz) (hp : p [] x cs) : ∀ n : Nat, Reps p sz [] (List.replicate n x) (List.replicate n cs).flatten
  | 0 => ⟨rfl, rfl⟩
  | n + 1 => ⟨[], [], cs, _, rfl, by simp [List.replicate_succ], hc, hp, Reps_replicate hc hp n⟩

theorem map_rep {α : Type} (l : List α) (d : α) : ∀ n : Nat, (List.range (n * l.length)).map (fun i => l.getD (i % l.length) d) = (List.replicate n l).flatten
  | 0 => by simp
  | n + 1 => by
    rw [Nat.add_mul, Nat.one_mul, List.range_add, List.map_append, map_rep l d n, List.replicate_succ', List.flatten_append]
    congr 1
    rw [List.map_map]
    simp only [List.flatten_cons, List.flatten_nil, List.append_nil]
    apply List.ext_getElem
    · simp
    · intro i h1 h2
      simp only [List.getElem_map, List.getElem_range, Function.comp]
      rw [Nat.mul_comm, Nat.mul_add_mod, Nat.mod_eq_of_lt (by simpa using h1)]
      simp at h1
      simp [List.getD_eq_getElem?_getD, h1]
theorem madeCells_list (z : Array Value) (n : Nat) : (madeCells z (n * z.size)).toList = (List.replicate n z.toList).flatten := by
  have := map_rep z.toList (default : Value) n
  rw [← this]
  simp only [madeCells, Array.toList_map, Array.toList_range, Array.length_toList]
  apply List.map_congr_left
  intro i _
  simp [List.getD_eq_getElem?_getD, Array.getElem!_eq_getD, Array.getD_eq_getD_getElem?]

theorem evMake_ok (ok : TyOk P env) {t : TypeId} {l c : AV} {n : Nat} {K : Eff → Option R} {r : R} (hk : evMake env t l c n K = some r) :
    ∃ e, K e = some r ∧ (∃ p, e.new = [p]) ∧ ∀ {h1 : List (Nat × Blk)} {C : Cons} {Z : Nat → Prop} {w : World} {vl vc : Value}, HR B Fr Z0 w0 h1 C Z w → lk h1 n = none → VR C l vl → VR C c vc → Does B Fr Z0 w0 h1 C ((Instr.makeSlice t vl vc).run P w) e := by
  unfold evMake at hk
  split at hk
  · rename_i e kd ka a kb b hty
    rcases h0 : (a == b) with _ | _ <;> rw [h0] at hk
    · cases hk
    rcases h1' : decide (0 ≤ a) with _ | _ <;> rw [h1'] at hk
    · cases hk
    rcases h2 : decide (a ≤ (env.lim e : Int)) with _ | _ <;> rw [h2] at hk
    · cases hk
    have h0 : a = b := by simpa using h0
    subst h0
    have h1' := of_decide_eq_true h1'
    have h2 := of_decide_eq_true h2
    refine ⟨_, hk, ⟨_, rfl⟩, fun {h1 C Z w vl vc} H hn hl hc => ?_⟩
    have hl := hl.int; have hc := hc.int; subst hl; subst hc
    obtain ⟨hnp, hu, ie, hie, his, hiz, hib, hmax⟩ := (ok.ty t _ hty).2
    have hzs : (zeroV kd).cells.toList = zeroVs kd := zeroV_cells kd (Kd.ne_pair hnp)
    have hzl : (zeroV kd).cells.size = kd.sz := by rw [← zeroVs_len, ← hzs]; simp
    have hmax' : a ≤ 9223372036854775807 := by simp only [maxLen] at hmax; omega
    have hby : (ie.bytes : Int) * a ≤ 281474976710656 := by
      have h3 : ie.bytes * a.toNat ≤ ie.bytes * env.lim e := Nat.mul_le_mul_left _ (by omega)
      have h4 : ((ie.bytes * a.toNat : Nat) : Int) ≤ 281474976710656 := by omega
      rw [Int.natCast_mul, Int.toNat_of_nonneg h1'] at h4
      exact h4
    have hr := run_make (P := P) w t e ie (zeroV kd) hu hie hiz ka kb a a h1' (Int.le_refl _) hby hmax'
    refine ⟨_, _, C.put n (.row (.slice (some ⟨w.heap.size, 0, none⟩) a.toNat a.toNat) [w.heap.size]), Z, hr, ?_, Ext.put_new (H.dom n hn), ⟨⟨_, Cons.put_same _ _ _⟩, _, _, _, rfl⟩⟩
    refine H.addOwn hn (e := e) (k := kd) ⟨_, (List.replicate a.toNat (zeroVs kd)).flatten, [], rfl, ⟨?_, .inr ⟨w.heap.size, a.toNat, _, by simp, Nat.zero_le _, heap_alloc_new w _, by simp, ?_, ?_, ?_⟩⟩, Reps_replicate (zeroVs_len kd) (zero_Ow _ kd) _, rfl⟩ (by simp) (fun b hb => ?_) (World.grownBy_alloc w _ none) (DrLe.refl _)
    · simp [zeroVs_len]
    · simp only [maxLen]; omega
    · rw [size_madeCells, his]
    · rw [← hzs, List.length_replicate, his, ← hzl]
      rw [List.take_of_length_le (by rw [Array.length_toList, size_madeCells]; exact Nat.le_refl _)]
      exact madeCells_list _ _
    · simp at hb; subst hb; simp
  · cases hk


/-! ### values of structs, rows of literals -/

theorem foldl_put : ∀ (vs : List Value) (j off : Nat) (cur : Array Value), off + j + vs.length ≤ cur.size →
    (vs.zipIdx j).foldl (fun cs (p : Value × Nat) => cs.setIfInBounds (off + p.2) p.1) cur = (cur.toList.take (off + j) ++ vs ++ cur.toList.drop (off + j + vs.length)).toArray
  | [], j, off, cur, _ => by simp
  | v :: vs, j, off, cur, h => by
    simp only [List.zipIdx_cons, List.foldl_cons]
    rw [foldl_put vs (j + 1) off (cur.setIfInBounds (off + j) v) (by simp at h ⊢; omega)]
    congr 1
    have := list_seg_step cur.toList (off + j) v vs (by simp at h ⊢; omega)
    simpa [Array.toList_setIfInBounds, Nat.add_assoc] using this

theorem fill_put {v : Value} {off : Nat} {cur : Array Value} (h : off + v.cells.size ≤ cur.size) :
    v.cells.zipIdx.foldl (fun cs (p : Value × Nat) => cs.setIfInBounds (off + p.2) p.1) cur = (cur.toList.take off ++ v.cells.toList ++ cur.toList.drop (off + v.cells.toList.length)).toArray := by
  have := foldl_put v.cells.toList 0 off cur (by simpa using h)
  rw [← Array.foldl_toList]
  simpa [Array.toList_zipIdx] using this

theorem fill_build {place : Nat → Option (Nat × Nat)} {kd : Kd} (hp : ∀ f q, fieldKd kd f = some q → place f = some (fieldOff kd f, q.sz)) : ∀ {l : List (Nat × AV)} {vl : List (Nat × Value)} {cs cs' : List AV} {cur : Array Value},
    buildCells kd l cs = some cs' → All2 (fun (p : Nat × AV) (q : Nat × Value) => q.1 = p.1 ∧ VR C p.2 q.2) l vl → All2 (CR C) cs cur.toList → ∃ arr, Instr.fill place cur vl = some arr ∧ All2 (CR C) cs' arr.toList
  | [], [], cs, cs', cur, hb, _, ha => by simp only [buildCells] at hb; cases hb; exact ⟨cur, rfl, ha⟩
  | (f, a) :: l, (g, v) :: vl, cs, cs', cur, hb, ⟨⟨hfg, hv⟩, hl⟩, ha => by
    simp only at hfg
    subst hfg
    simp only [buildCells] at hb
    split at hb
    · rename_i q hq
      split at hb
      · rename_i hc
        simp only [Bool.and_eq_true] at hc
        obtain ⟨h1, h2, h3⟩ := hc
        have h1 := Nat.eq_of_beq_eq_true h1
        have h3 := Nat.le_of_ble_eq_true h3
        obtain ⟨hcv, _⟩ := hv.cells h2
        have hlen := hcv.length
        have hlen2 := ha.length
        have hsz : v.cells.size = q.sz := by simp at hlen; omega
        have hle : fieldOff kd g + v.cells.size ≤ cur.size := by simp at hlen2; omega
        obtain ⟨arr, g1, g2⟩ := fill_build hp (cur := (cur.toList.take (fieldOff kd g) ++ v.cells.toList ++ cur.toList.drop (fieldOff kd g + v.cells.toList.length)).toArray) hb hl (by simpa using over_All2 (off := fieldOff kd g) ha hcv)
        refine ⟨arr, ?_, g2⟩
        rw [Instr.fill, hp g q hq]
        simp only
        rw [if_neg (by simp; omega)]
        rw [fill_put hle]
        exact g1
      · cases hb
    · cases hb
  | [], _ :: _, _, _, _, _, h, _ => h.elim
  | _ :: _, [], _, _, _, _, h, _ => h.elim

theorem fs_info : ∀ {k : Kd} {fs : List Field} {off : Nat}, FsFit P k fs off → ∀ f, f ∈ fs → ∃ i, P.info? f.type = some i := by
  intro k
  induction k with
  | pair a b iha ihb =>
    intro fs off hf
    match fs, hf with
    | fl :: fs, hf =>
      simp only [FsFit] at hf
      obtain ⟨_, ⟨i, hi, _⟩, h3⟩ := hf
      intro f hm
      rcases List.mem_cons.1 hm with e | hm
      · subst e; exact ⟨i, hi⟩
      · exact ihb h3 f hm
    | [], hf => simp [FsFit] at hf
  | _ =>
    intro fs off hf
    match fs, hf with
    | [fl], hf => simp only [FsFit] at hf; obtain ⟨_, i, hi, _⟩ := hf; intro f hm; simp at hm; subst hm; exact ⟨i, hi⟩
    | [], hf => simp [FsFit] at hf
    | _ :: _ :: _, hf => simp [FsFit] at hf
theorem places_fit : ∀ {k : Kd} {fs : List Field} {off : Nat}, FsFit P k fs off → ∃ places, fs.mapM (fun f => (P.info? f.type).map fun i => (f.offset, i.size)) = some places ∧ ∀ f q, fieldKd.fieldIn k f = some q → places[f]? = some (off + fieldOff k f, q.sz) := by
  intro k fs off hf
  have key : ∃ places, fs.mapM (fun f => (P.info? f.type).map fun i => (f.offset, i.size)) = some places := by
    have all := fs_info hf
    clear hf
    induction fs with
    | nil => exact ⟨[], rfl⟩
    | cons f fs ih =>
      obtain ⟨i, hi⟩ := all f (by simp)
      obtain ⟨pl, hpl⟩ := ih fun g hg => all g (List.mem_cons_of_mem _ hg)
      exact ⟨(f.offset, i.size) :: pl, by simp [List.mapM_cons, hi, hpl]⟩
  obtain ⟨places, hpl⟩ := key
  refine ⟨places, hpl, fun f q hq => ?_⟩
  obtain ⟨fl, h1, h2, i, h3, h4⟩ := fieldIn_fit hf hq
  have get : ∀ {fs : List Field} {places : List (Nat × Nat)} {f : Nat}, fs.mapM (fun f => (P.info? f.type).map fun i => (f.offset, i.size)) = some places → fs[f]? = some fl → places[f]? = some (fl.offset, i.size) := by
    intro fs
    induction fs with
    | nil => intro places f _ h; simp at h
    | cons g fs ih =>
      intro places f hm hg
      simp only [List.mapM_cons, Option.bind_eq_bind, Option.pure_def, Option.bind_eq_some_iff, Option.some.injEq] at hm
      obtain ⟨p, hp, rest, hrest, rfl⟩ := hm
      cases f with
      | zero => simp at hg; subst hg; simp [h3] at hp; subst hp; rfl
      | succ f => simpa using ih hrest (by simpa using hg)
  rw [get hpl h1, h2, h4]

theorem evBuild_ok (ok : TyOk P env) {t : TypeId} {parts : List (Nat × AV)} {K : Eff → Option R} {r : R} (hk : evBuild env t parts K = some r) :
    ∃ a, K (.val a) = some r ∧ ∀ {C : Cons} {vps : Array (Nat × Value)} (w : World), All2 (fun (p : Nat × AV) (q : Nat × Value) => q.1 = p.1 ∧ VR C p.2 q.2) parts vps.toList → ∃ v, (Instr.build t vps).run P w = .ok v w ∧ VR C a v := by
  unfold evBuild at hk
  split at hk
  · rename_i q hty
    split at hk
    · rename_i cs hb
      refine ⟨_, hk, fun {C vps} w hv => ?_⟩
      obtain ⟨⟨i, hi, his, hiz⟩, fs, hu, hf⟩ := ok.ty t _ hty
      obtain ⟨places, hpl, hpf⟩ := places_fit hf
      have hin : ∀ f q', fieldKd (.st q) f = some q' → (fun j => places.toArray[j]?) f = some (fieldOff (.st q) f, q'.sz) := by
        intro f q' hq
        have hin : fieldKd.fieldIn q f = some q' := by
          cases q with
          | pair a b => cases f <;> simpa [fieldKd, fieldKd.fieldIn] using hq
          | _ => cases f <;> first | (simp [fieldKd] at hq; done) | simpa [fieldKd, fieldKd.fieldIn] using hq
        have := hpf f q' hin
        simpa [fieldOff] using this
      have hz0 : (zeroV (.st q)).cells.toList = zeroVs (.st q) := zeroV_cells _ (by simp)
      obtain ⟨arr, g1, g2⟩ := fill_build (C := C) hin hb hv (cur := (zeroV (.st q)).cells) (by rw [hz0]; exact zero_CR C _)
      refine ⟨.agg arr, run_build w t vps arr ?_, ⟨arr.toList, by simp, g2⟩⟩
      simp only [Program.built, hi, hu, hiz, hpl]
      exact g1
    · cases hk
  · cases hk


theorem fill_seq {sz : Nat} : ∀ {vl : List (Nat × Value)} {j : Nat} {cur : Array Value}, (∀ (i : Nat) (p : Nat × Value), vl[i]? = some p → p.1 = j + i ∧ p.2.cells.size = sz) → cur.size = (j + vl.length) * sz →
    Instr.fill (fun i => some (i * sz, sz)) cur vl = some (cur.toList.take (j * sz) ++ (vl.map fun p => p.2.cells.toList).flatten).toArray
  | [], j, cur, _, hs => by
    simp only [Instr.fill, List.map_nil, List.flatten_nil, List.append_nil]
    rw [List.take_of_length_le (by simp at hs ⊢; omega)]
  | (f, v) :: vl, j, cur, hp, hs => by
    obtain ⟨hf, hv⟩ := hp 0 (f, v) rfl
    simp only [Nat.add_zero] at hf hv
    subst hf
    have hle : f * sz + v.cells.size ≤ cur.size := by rw [hv, hs]; simp only [List.length_cons]; rw [Nat.add_mul, Nat.add_mul]; omega
    have hs2 : (cur.toList.take (f * sz) ++ v.cells.toList ++ cur.toList.drop (f * sz + v.cells.toList.length)).toArray.size = (f + 1 + vl.length) * sz := by
      simp only [List.size_toArray, List.length_append, List.length_take, List.length_drop, Array.length_toList]
      simp only [List.length_cons] at hs
      rw [show f + 1 + vl.length = f + (vl.length + 1) from by omega, ← hs]
      omega
    have ih := fill_seq (vl := vl) (j := f + 1) (fun i p hi => by
      have := hp (i + 1) p (by simpa using hi)
      exact ⟨by omega, this.2⟩) hs2
    rw [Instr.fill]
    simp only
    rw [if_neg (by simp; omega), fill_put hle, ih]
    congr 2
    have e1 : (f + 1) * sz = (cur.toList.take (f * sz) ++ v.cells.toList).length := by
      simp only [List.length_append, List.length_take, Array.length_toList]
      rw [Nat.add_mul]; omega
    simp only [List.map_cons, List.flatten_cons]
    rw [e1, List.take_left, List.append_assoc]

theorem litRow_ok (H : HR B Fr Z0 w0 h1 C Z w) (hs : Sub h h1) {k : Kd} (hnp : k.noPair = true) : ∀ {j : Nat} {l : List (Nat × AV)} {vl : List (Nat × Value)} {xs : List k.Ty} {ids : List Nat}, litRow h k j l = some (xs, ids) →
    All2 (fun (p : Nat × AV) (q : Nat × Value) => q.1 = p.1 ∧ VR C p.2 q.2) l vl →
    ∃ F, Reps (Ow w k) k.sz F xs (vl.map fun p => p.2.cells.toList).flatten ∧ xs.length = vl.length ∧ (∀ (i : Nat) (p : Nat × Value), vl[i]? = some p → p.1 = j + i ∧ p.2.cells.size = k.sz) ∧
      (∀ b, b ∈ F → ∃ i, i ∈ ids ∧ b ∈ ft h1 C i) ∧ (ids.Nodup → F.Nodup) ∧ (∀ i, i ∈ ids → ∃ b, lk h1 i = some b)
  | j, [], [], xs, ids, hl, _ => by
    simp only [litRow] at hl; cases hl
    exact ⟨[], ⟨rfl, rfl⟩, rfl, (fun i p h => by simp at h), (fun b hb => by cases hb), (fun _ => List.nodup_nil), (fun i hi => by cases hi)⟩
  | j, (f, a) :: l, (g, v) :: vl, xs, ids, hl, ⟨⟨hfg, hv⟩, hr⟩ => by
    simp only at hfg
    subst hfg
    simp only [litRow] at hl
    split at hl
    · rename_i x i1 hbeq hre
      split at hl
      · rename_i xs' i2 hrest
        cases hl
        have hj := Nat.eq_of_beq_eq_true hbeq
        subst hj
        obtain ⟨F2, r1, r2, r3, r4, r5, r6⟩ := litRow_ok H hs hnp hrest hr
        have hdef : (cellsOf a).all AV.isDef = true := by
          obtain ⟨p, hp, hd⟩ := reO_def hre
          rw [hp]; simpa using hd
        obtain ⟨hc, _⟩ := hv.cells hdef
        obtain ⟨cs, vs', F1, hcs, o1, o2, o3, o4, o5⟩ := reO_ow H hs hre hc
        have hvs' : vs' = [] := by cases vs' with | nil => rfl | cons _ _ => exact o5.elim
        subst hvs'
        rw [List.append_nil] at hcs
        refine ⟨F1 ++ F2, ⟨F1, F2, cs, _, rfl, by simp [hcs], o1.len, o1, r1⟩, by simp [r2], ?_, ?_, ?_, ?_⟩
        · intro i p hi
          cases i with
          | zero =>
            simp at hi; subst hi
            have := o1.len
            rw [← hcs] at this
            exact ⟨by simp, by simpa using this⟩
          | succ i => have := r3 i p (by simpa using hi); exact ⟨by omega, this.2⟩
        · intro b hb
          rcases List.mem_append.1 hb with hb | hb
          · obtain ⟨i, hi, hbi⟩ := o2 b hb; exact ⟨i, List.mem_append_left _ hi, hbi⟩
          · obtain ⟨i, hi, hbi⟩ := r4 b hb; exact ⟨i, List.mem_append_right _ hi, hbi⟩
        · intro hn
          obtain ⟨m1, m2, m3⟩ := List.nodup_append.1 hn
          refine List.nodup_append.2 ⟨o3 m1, r5 m2, fun q hq q' hq' e => ?_⟩
          subst e
          obtain ⟨i, hi, hb⟩ := o2 q hq
          obtain ⟨i', hi', hb'⟩ := r4 q hq'
          exact H.dis i i' (m3 i hi i' hi') q hb hb'
        · intro i hi
          rcases List.mem_append.1 hi with hi | hi
          · obtain ⟨_, _, _, h⟩ := o4 i hi; exact ⟨_, h⟩
          · exact r6 i hi
      · cases hl
    · cases hl
  | _, [], _ :: _, _, _, _, h => h.elim
  | _, _ :: _, [], _, _, _, h => h.elim

theorem nodupB_ok : ∀ {l : List Nat}, nodupB l = true → l.Nodup
  | [], _ => List.nodup_nil
  | a :: l, h => by
    simp only [nodupB, Bool.and_eq_true, List.all_eq_true] at h
    refine List.nodup_cons.2 ⟨fun hm => ?_, nodupB_ok h.2⟩
    have := h.1 a hm
    simp at this

theorem evBuildSlice_ok (ok : TyOk P env) {t : TypeId} {len n : Nat} {parts : List (Nat × AV)} {K : Eff → Option R} {r : R} (hk : evBuildSlice env t len parts h n K = some r) :
    ∃ e, K e = some r ∧ (∃ p, e.new = [p]) ∧ ∀ {h1 : List (Nat × Blk)} {C : Cons} {Z : Nat → Prop} {w : World} {vps : Array (Nat × Value)}, HR B Fr Z0 w0 h1 C Z w → Sub h h1 → lk h1 n = none →
      All2 (fun (p : Nat × AV) (q : Nat × Value) => q.1 = p.1 ∧ VR C p.2 q.2) parts vps.toList → Does B Fr Z0 w0 h1 C ((Instr.buildSlice t len vps).run P w) e := by
  unfold evBuildSlice at hk
  split at hk
  · rename_i e kd hty
    split at hk
    · rename_i xs ids hlit
      split at hk
      · rename_i hc
        simp only [Bool.and_eq_true] at hc
        obtain ⟨hlen, hnd, hle⟩ := hc
        have hlen := Nat.eq_of_beq_eq_true hlen
        have hle := Nat.le_of_ble_eq_true hle
        have hnd := nodupB_ok hnd
        refine ⟨_, hk, ⟨_, rfl⟩, fun {h1 C Z w vps} H hs hn hv => ?_⟩
        obtain ⟨hnp, hu, ie, hie, his, hiz, hib, hmax⟩ := (ok.ty t _ hty).2
        obtain ⟨F, r1, r2, r3, r4, r5, r6⟩ := litRow_ok H hs hnp hlit hv
        have hvl := hv.length
        have hlen2 : len = xs.length := by rw [hlen, hvl, r2]
        obtain ⟨Hk, hft⟩ := H.kills r6
        have hnk : lk (ids.map (fun i => (i, Blk.dead)) ++ h1) n = none := by
          rw [lk_kills (fun hm => by obtain ⟨b, hb⟩ := r6 n hm; rw [hn] at hb; cases hb)]; exact hn
        have free : ∀ b, b ∈ F → b < w.heap.size ∧ ¬ Z b ∧ (B ≤ b ∨ Fr b) ∧ ∀ j, b ∉ ft (ids.map (fun i => (i, Blk.dead)) ++ h1) C j := fun b hb => by
          obtain ⟨i, hi, hbi⟩ := r4 b hb
          obtain ⟨a1, a2, a3⟩ := H.own i b hbi
          refine ⟨a1, a2, a3, fun j hj => ?_⟩
          obtain ⟨hj1, hj2⟩ := hft j b hj
          exact H.dis i j (fun e => hj2 (e ▸ hi)) b hbi hj1
        have hzs : (zeroV kd).cells.size = kd.sz := by
          have := zeroV_cells kd (Kd.ne_pair hnp)
          rw [← zeroVs_len, ← this]; simp
        have hkd := kd.sz_pos
        have hvps : vps.toList.length = len := by rw [← hvl, ← hlen]
        -- the run
        have hrun : (Instr.buildSlice t len vps).run P w = .ok (.slice (some ⟨w.heap.size, 0, none⟩) len len) (w.alloc (.cells (vps.toList.map fun p => p.2.cells.toList).flatten.toArray e)) := by
          have hfill : ∀ cur : Array Value, cur.size = len * kd.sz → Instr.fill (fun i => some (i * kd.sz, kd.sz)) cur vps.toList = some (vps.toList.map fun p => p.2.cells.toList).flatten.toArray := fun cur hcur => by
            have := fill_seq (sz := kd.sz) (vl := vps.toList) (j := 0) (cur := cur) (fun i p hi => by simpa using r3 i p hi) (by rw [hcur, hvps]; simp)
            simpa using this
          by_cases h0 : len * kd.sz = 0
          · have hl0 : len = 0 := by
              rcases Nat.mul_eq_zero.1 h0 with h | h
              · exact h
              · omega
            have hvn : vps.toList = [] := List.eq_nil_of_length_eq_zero (by omega)
            have hvn' : vps = #[] := by cases vps; simp at hvn; subst hvn; rfl
            subst hvn'; subst hl0
            simp [Instr.buildSlice, underlying, hu, sizeOf, typeInfo, hie, his, Instr.fill, newRow, Array.range_zero']
          · have hf := hfill ((Array.range (len * kd.sz)).map ((zeroV kd).cells[· % (zeroV kd).cells.size]!)) (by simp)
            have hno : ¬ (2 ^ 24 < len * kd.sz) := by omega
            simp [Instr.buildSlice, underlying, hu, sizeOf, typeInfo, hie, his, hiz, zeroValue, h0, hf, newRow]
            omega
        rw [hrun]
        have hfr : ∀ b, b ∈ F → b ≠ w.heap.size := fun b hb e => by have := (free b hb).1; omega
        refine ⟨_, _, C.put n (.row (.slice (some ⟨w.heap.size, 0, none⟩) len len) (w.heap.size :: F)), Z, rfl, ?_, Ext.put_new (H.dom n hn), ⟨⟨_, Cons.put_same _ _ _⟩, _, _, _, rfl⟩⟩
        have := Hk.addTurned (w' := w.alloc (.cells (vps.toList.map fun p => p.2.cells.toList).flatten.toArray e)) (id := n) hnk (e := e) (k := kd) (xs := xs) (v := .slice (some ⟨w.heap.size, 0, none⟩) len len) (F := w.heap.size :: F)
          ⟨_, (vps.toList.map fun p => p.2.cells.toList).flatten, F, rfl, ⟨by rw [r1.length], .inr ⟨w.heap.size, len, _, by rw [hlen2], Nat.zero_le _, heap_alloc_new w _, by omega, ?_, ?_, ?_⟩⟩,
            Reps.imp (fun G' x cs hG' ho => Ow.mono (fun b hb => heap_alloc_old w _ b (free b (hG' b hb)).1) ho) r1, rfl⟩ ?_ ?_ (fun b hb _ => heap_alloc_old w _ b hb) (by simp) rfl rfl ⟨rfl, DrLe.refl _⟩
        · exact this
        · simp only [maxLen]; have := Nat.le_mul_of_pos_right len hkd; omega
        · rw [List.size_toArray, r1.length, hlen2]
        · rw [List.take_of_length_le (by rw [r1.length]; exact Nat.le_refl _)]
        · exact List.nodup_cons.2 ⟨fun hm => hfr _ hm rfl, r5 hnd⟩
        · intro b hb
          rcases List.mem_cons.1 hb with e | hb
          · subst e; exact ⟨by simp, .inl (Nat.le_refl _)⟩
          · have := free b hb; exact ⟨by simp; omega, .inr this.2⟩
      · cases hk
    · cases hk
  · cases hk


/-! ### cuts -/

def optV (o : Option AV) (v : Option Value) (C : Cons) : Prop := match o, v with | none, none => True | some a, some u => VR C a u | _, _ => False

/-- the bounds of a cut, as the run finds them -/
theorem cutB_ok {lo hi : Option AV} {len : Nat} {K : Int → Int → Option R} {r : R} (hk : cutB lo hi (len : Int) K = some r) :
    ∃ a b : Int, K a b = some r ∧ 0 ≤ a ∧ a ≤ b ∧ b ≤ len ∧ ∀ {cap : Nat} (isS : Bool) {C : Cons} {vl vh : Option Value} (w : World), len ≤ cap → optV lo vl C → optV hi vh C →
      (Instr.sliceBounds isS len cap vl vh none).run P w = .ok (a.toNat, b.toNat, cap) w := by
  unfold cutB at hk
  split at hk
  · refine ⟨0, len, hk, Int.le_refl _, by omega, Int.le_refl _, fun {cap} isS {C vl vh} w hc h1 h2 => ?_⟩
    match vl, vh, h1, h2 with
    | none, none, _, _ => simp [Instr.sliceBounds]
  · rename_i k a
    rcases h0 : decide (0 ≤ a) with _ | _ <;> rw [h0] at hk
    · cases hk
    rcases h1 : decide (a ≤ (len : Int)) with _ | _ <;> rw [h1] at hk
    · cases hk
    have h0 := of_decide_eq_true h0
    have h1 := of_decide_eq_true h1
    refine ⟨a, len, hk, h0, h1, Int.le_refl _, fun {cap} isS {C vl vh} w hc g1 g2 => ?_⟩
    match vl, vh, g1, g2 with
    | some u, none, g1, _ =>
      have hu : u = .int k a := VR.int (C := C) g1
      subst hu
      simp [Instr.sliceBounds, Instr.sliceBound, asIntOf, h0, h1]
  · rename_i k b
    rcases h0 : decide (0 ≤ b) with _ | _ <;> rw [h0] at hk
    · cases hk
    rcases h1 : decide (b ≤ (len : Int)) with _ | _ <;> rw [h1] at hk
    · cases hk
    have h0 := of_decide_eq_true h0
    have h1 := of_decide_eq_true h1
    refine ⟨0, b, hk, Int.le_refl _, h0, h1, fun {cap} isS {C vl vh} w hc g1 g2 => ?_⟩
    have h2 : b ≤ (cap : Int) := by omega
    match vl, vh, g1, g2 with
    | none, some u, _, g2 =>
      have hu : u = .int k b := VR.int (C := C) g2
      subst hu
      simp [Instr.sliceBounds, Instr.sliceBound, asIntOf, h0, h2]
  · rename_i k a k' b
    rcases h0 : decide (0 ≤ b) with _ | _ <;> rw [h0] at hk
    · cases hk
    rcases h1 : decide (b ≤ (len : Int)) with _ | _ <;> rw [h1] at hk
    · cases hk
    rcases h2 : decide (0 ≤ a) with _ | _ <;> rw [h2] at hk
    · cases hk
    rcases h3 : decide (a ≤ b) with _ | _ <;> rw [h3] at hk
    · cases hk
    have h0 := of_decide_eq_true h0
    have h1 := of_decide_eq_true h1
    have h2 := of_decide_eq_true h2
    have h3 := of_decide_eq_true h3
    refine ⟨a, b, hk, h2, h3, h1, fun {cap} isS {C vl vh} w hc g1 g2 => ?_⟩
    have h4 : b ≤ (cap : Int) := by omega
    match vl, vh, g1, g2 with
    | some u, some u', g1, g2 =>
      have hu : u = .int k a := VR.int (C := C) g1
      have hu' : u' = .int k' b := VR.int (C := C) g2
      subst hu; subst hu'
      have eh : max b 0 = b := by omega
      have h5 : a ≤ max b 0 := by omega
      simp [Instr.sliceBounds, Instr.sliceBound, asIntOf, h0, h4, h2, h5]
  · cases hk

/-- a cut of a row that is read -/
theorem Rd.cut {k : Kd} {e : TypeId} {xs : List k.Ty} {A : Option Addr} {n c : Nat} (hr : Rd w Z (.sl e k) xs [.slice A n c]) {a b : Nat} (hab : a ≤ b) (hb : b ≤ n) :
    n = xs.length ∧ n ≤ c ∧ Rd w Z (.sl e k) ((xs.drop a).take (b - a)) [.slice (if c = a then A else A.map (·.add (a * k.sz))) (b - a) (c - a)] := by
  obtain ⟨A', c', hv, h1, h2, hrow⟩ := hr
  simp only [List.cons.injEq, Value.slice.injEq, and_true] at hv
  obtain ⟨hA', hn, hc⟩ := hv
  subst hA'; subst hc
  have hl : ((xs.drop a).take (b - a)).length = b - a := by simp; omega
  refine ⟨hn, by omega, _, c - a, by rw [hl], by rw [hl]; omega, by rw [hl]; omega, ?_⟩
  by_cases h0 : b - a = 0
  · left; exact List.eq_nil_of_length_eq_zero (by rw [hl, h0])
  · rcases hrow with hx | ⟨ad, g1, g2, g3, g4⟩
    · subst hx; simp at hn; omega
    · right
      subst g1
      refine ⟨⟨ad.block, ad.off + a * k.sz, none⟩, ?_, rfl, g3, fun i x hi => ?_⟩
      · rw [if_neg (by omega)]; simp [add_spot g2]
      · rw [List.getElem?_take] at hi
        split at hi
        · rw [List.getElem?_drop] at hi
          obtain ⟨cs, k1, k2, k3⟩ := g4 (a + i) x hi
          refine ⟨cs, k1, k2, fun j v hj => ?_⟩
          rw [← k3 j v hj, Nat.add_mul]
          congr 2
          simp only
          omega
        · cases hi

theorem run_sliceAt_slice' (ok : TyOk P env) {t e : TypeId} {q : Kd} (ht : env.ty t = some (.sl e q)) {x : Value} {lo hi : Option Value} (w : World) :
    (Instr.sliceAt t x lo hi none).run P w = (Instr.slice t x lo hi none).run P w := by
  obtain ⟨_, hu, _⟩ := (ok.ty t _ ht).2
  simp [Instr.sliceAt, underlying, hu]

theorem evSlice_ok (ok : TyOk P env) {t : TypeId} {x : AV} {lo hi : Option AV} {n : Nat} {K : Eff → Option R} {r : R} (hk : evSlice env t x lo hi h n K = some r) :
    ∃ e, K e = some r ∧ ∀ {h1 : List (Nat × Blk)} {C : Cons} {Z : Nat → Prop} {w : World} {vx : Value} {vl vh : Option Value}, HR B Fr Z0 w0 h1 C Z w → Sub h h1 → (e.new ≠ [] → lk h1 n = none) → VR C x vx → optV lo vl C → optV hi vh C →
      Does B Fr Z0 w0 h1 C ((Instr.sliceAt t vx vl vh none).run P w) e := by
  unfold evSlice at hk
  split at hk
  · rename_i s hty
    obtain ⟨a, b, hK, h0, h1, h2, hb⟩ := cutB_ok (P := P) hk
    refine ⟨_, hK, fun {h1 C Z w vx vl vh} H hs _ hx hl hh => ?_⟩
    have hx := hx.str; subst hx
    have hu := (ok.ty t _ hty).2
    refine ⟨.string (s.extract a.toNat b.toNat), w, C, Z, ?_, H, Ext.refl C, rfl⟩
    simp [Instr.sliceAt, Instr.slice, underlying, hu, hb false w (Nat.le_refl _) hl hh]
  · rename_i e q id hty
    split at hk
    · rename_i rk e' xs own hb
      split at hk
      · rename_i hsz
        have hsz := Nat.eq_of_beq_eq_true hsz
        obtain ⟨a, b, hK, h0, h1', h2, hbd⟩ := cutB_ok (P := P) hk
        refine ⟨_, hK, fun {h1 C Z w vx vl vh} H hs hn0 hx hl hh => ?_⟩
        have hn : lk h1 n = none := hn0 (by simp)
        obtain ⟨⟨F, hC⟩, A, m, c, rfl⟩ := hx.sl
        have hlk := hs _ _ (blkOf_lk hb (by simp))
        obtain ⟨_, hu, ie, hie, his, _⟩ := (ok.ty t _ hty).2
        obtain ⟨c0, hc, hbr⟩ := H.blk id _ hlk
        rw [hC] at hc; cases hc
        have fin : ∀ {Z1 : Nat → Prop}, Rd w Z1 (.sl e' rk) xs [.slice A m c] → ∃ v, (Instr.sliceAt t (.slice A m c) vl vh none).run P w = .ok v w ∧ (∃ A n c, v = .slice A n c) ∧ Rd w Z1 (.sl e' rk) ((xs.drop a.toNat).take (b.toNat - a.toNat)) [v] := fun {Z1} hrd => by
          obtain ⟨hmn, hmc, hcut⟩ := Rd.cut hrd (a := a.toNat) (b := b.toNat) (by omega) (by rw [(Rd.cut hrd (a := 0) (b := 0) (Nat.le_refl _) (Nat.zero_le _)).1]; omega)
          have hbr := hbd (cap := c) true w (by rw [← hmn]; exact hmc) hl hh
          refine ⟨_, ?_, ⟨_, _, _, rfl⟩, hcut⟩
          rw [run_sliceAt_slice' ok hty w]
          simp only [Instr.slice, underlying, Sem.run_bind, run_program, Result.andThen_ok, hu, Sem.run_pure]
          rw [hmn, hbr]
          simp [sizeOf, typeInfo, hie, his, hsz]
        cases own
        · obtain ⟨hF, hrd⟩ := hbr
          obtain ⟨v, hrun, hvf, hrd'⟩ := fin hrd
          rw [hrun]
          exact ⟨v, w, _, Z, rfl, H.addRo hn hrd', Ext.put_new (H.dom n hn), ⟨⟨[], Cons.put_same _ _ _⟩, hvf⟩⟩
        · obtain ⟨v, hrun, hvf, hrd'⟩ := fin (hbr.1.rd (Z := fun b => Z b ∨ b ∈ F) (fun b hb => .inr hb))
          rw [hrun]
          have H1 := H.freeze hlk hC
          have hn1 : lk ((id, Blk.row rk e' xs false) :: h1) n = none := by
            rw [lk_ne _ _ (fun e => by subst e; rw [hlk] at hn; cases hn)]; exact hn
          exact ⟨v, w, _, fun b => Z b ∨ b ∈ F, rfl, H1.addRo hn1 hrd', (Ext.put_row hC).trans (Ext.put_new (H1.dom n hn1)), ⟨⟨[], Cons.put_same _ _ _⟩, hvf⟩⟩
      · cases hk
    · cases hk
  · cases hk

end
end Go.Ev
