/- slices.SortFunc at rows that own what is in them: its contract. -/
import Derived.Test.YtddiigejhjfhdaaGreatDoorEvLim
import Derived.Test.YtddiigejhjfhdaaGreatDoorEvOp
import Derived.Shelf.SlSortCmp.NoneTotal
set_option linter.unusedVariables false
set_option linter.unusedSectionVars false
set_option linter.unusedSimpArgs false
namespace Go.Ev
open Go Go.Sort Go.Proofs
variable [Lax]

section
variable {α : Type}
theorem Reps.toParts {p : List Nat → α → List Value → Prop} {sz : Nat} : ∀ {xs : List α} {F : List Nat} {cs : List Value}, Reps p sz F xs cs →
    ∃ L : List (List Nat × α × List Value), L.map (·.2.1) = xs ∧ F = L.flatMap (·.1) ∧ cs = L.flatMap (·.2.2) ∧ ∀ t, t ∈ L → t.2.2.length = sz ∧ p t.1 t.2.1 t.2.2
  | [], F, cs, ⟨h1, h2⟩ => ⟨[], rfl, by rw [h1]; rfl, by rw [h2]; rfl, fun t ht => by cases ht⟩
  | x :: xs, F, cs, ⟨F1, F2, c1, c2, h1, h2, h3, h4, h5⟩ => by
    obtain ⟨L, a, b, c, d⟩ := Reps.toParts h5
    refine ⟨(F1, x, c1) :: L, by simp [a], by rw [h1, b]; rfl, by rw [h2, c]; rfl, fun t ht => ?_⟩
    rcases List.mem_cons.1 ht with e | e
    · subst e; exact ⟨h3, h4⟩
    · exact d t e
theorem Reps.ofParts {p : List Nat → α → List Value → Prop} {sz : Nat} : ∀ (L : List (List Nat × α × List Value)), (∀ t, t ∈ L → t.2.2.length = sz ∧ p t.1 t.2.1 t.2.2) → Reps p sz (L.flatMap (·.1)) (L.map (·.2.1)) (L.flatMap (·.2.2))
  | [], _ => ⟨rfl, rfl⟩
  | t :: L, h => ⟨t.1, _, t.2.2, _, rfl, rfl, (h t (by simp)).1, (h t (by simp)).2, Reps.ofParts L fun u hu => h u (List.mem_cons_of_mem _ hu)⟩
theorem flatMap_get {enc : α → List Value} {k : Nat} : ∀ (l : List α) (t : Nat), (∀ x, x ∈ l → (enc x).length = k) → t < l.length * k → ∃ x, l[t / k]? = some x ∧ (l.flatMap enc)[t]? = (enc x)[t % k]?
  | [], t, _, h => by simp at h
  | x :: l, t, hk, h => by
    have hx := hk x (by simp)
    rw [List.flatMap_cons]
    have hmm : t ≥ k → t % k = (t - k) % k := fun h => Nat.mod_eq_sub_mod h
    by_cases c : t < k
    · refine ⟨x, by rw [Nat.div_eq_of_lt c]; rfl, ?_⟩
      rw [List.getElem?_append_left (by omega), Nat.mod_eq_of_lt c]
    · have h' : t - k < l.length * k := by rw [List.length_cons, Nat.add_mul, Nat.one_mul] at h; omega
      obtain ⟨y, h1, h2⟩ := flatMap_get l (t - k) (fun z hz => hk z (List.mem_cons_of_mem _ hz)) h'
      have hkp : 0 < k := by
        rcases Nat.eq_zero_or_pos k with e | e
        · subst e; simp at h'
        · exact e
      refine ⟨y, ?_, ?_⟩
      · rw [Nat.div_eq_sub_div hkp (by omega), List.getElem?_cons_succ]; exact h1
      · rw [List.getElem?_append_right (by omega), hx, h2, hmm (by omega)]
theorem flatK_list [Inhabited α] {enc : α → List Value} {k : Nat} (hk : ∀ x, (enc x).length = k) (d : Array α) : (flatK enc k d).toList = d.toList.flatMap enc := by
  have hlen : ∀ l : List α, (l.flatMap enc).length = l.length * k := by
    intro l
    induction l with
    | nil => simp
    | cons x l ih => rw [List.flatMap_cons, List.length_append, ih, hk, List.length_cons, Nat.add_mul, Nat.one_mul, Nat.add_comm]
  apply List.ext_getElem?
  intro t
  by_cases h : t < d.size * k
  · obtain ⟨x, h1, h2⟩ := flatMap_get (enc := enc) d.toList t (fun x _ => hk x) (by simpa using h)
    have hkp : 0 < k := by
      rcases Nat.eq_zero_or_pos k with e | e
      · subst e; simp at h
      · exact e
    have hm := Nat.mod_lt t hkp
    have hd : t / k < d.size := by
      rw [Nat.div_lt_iff_lt_mul hkp]; exact h
    have hx : d[t / k]! = x := by
      rw [getElem!_pos d (t / k) hd]
      rw [Array.getElem?_toList, Array.getElem?_eq_getElem hd] at h1
      exact Option.some.inj h1
    have hs : t < (flatK enc k d).size := by rw [size_flatK]; exact h
    have g := get_flatK enc k d t h
    rw [getElem!_pos _ t hs, hx, getElem!_pos (enc x) (t % k) (by rw [hk]; exact hm)] at g
    rw [h2, Array.getElem?_toList, Array.getElem?_eq_getElem hs, g, List.getElem?_eq_getElem (by rw [hk]; exact hm)]
  · rw [List.getElem?_eq_none (by rw [Array.length_toList, size_flatK]; omega), List.getElem?_eq_none (by rw [hlen, Array.length_toList]; omega)]
end

/-- a call that writes nothing: draws and new blocks alone -/
theorem after_growS (hst : Lax.strict = true) {W w' : World} {Z Z' : Nat → Prop} {Fu Fo : List Nat} (A : After W w' Z Z' [] Fu Fo) : ∃ q os, w' = grow (W.drewN q) os := by
  refine ⟨w'.drawn - W.drawn, w'.heap.extract W.heap.size w'.heap.size, ?_⟩
  have hd := A.out.2 hst
  have hh : w'.heap = W.heap ++ w'.heap.extract W.heap.size w'.heap.size := by
    apply Array.ext_getElem?
    intro i
    rw [Array.getElem?_append]
    by_cases hi : i < W.heap.size
    · rw [if_pos hi]; exact A.blk i hi (by simp)
    · rw [if_neg hi, Array.getElem?_extract]
      by_cases h2 : i < w'.heap.size
      · rw [if_pos (by omega), show W.heap.size + (i - W.heap.size) = i from by omega]
      · rw [if_neg (by omega), Array.getElem?_eq_none (by omega)]
  have e1 := A.os
  have e2 := A.tape
  have e3 := A.out.1
  cases w'
  cases W
  simp only at hd hh e1 e2 e3 ⊢
  unfold grow World.drewN
  simp only [World.mk.injEq]
  exact ⟨hh, e2, by omega, e1, e3⟩

section
variable {k : Kd}
/-- what is asked of the numbers that 'cmp' gives -/
structure CmpOk (xs : List k.Ty) (cf : k.Ty → k.Ty → Int) : Prop where
  swo : SWO (ltOf fun i j : Fin xs.length => cf xs[i] xs[j])
  parts : ∀ i j : Fin xs.length, (ltOf fun i j : Fin xs.length => cf xs[i] xs[j]) i j = false → (ltOf fun i j : Fin xs.length => cf xs[i] xs[j]) j i = false → i = j
end

theorem sort_calls {P : Program} {ρ : Go.Shelf.Ren} (L : SlLaysF0.n6 P ρ) {q : Kd} {e : TypeId} (aE : ∀ w, (isAgg (ρ.t 24)).run P w = .ok true w) (zE : ∀ w, (Go.sizeOf (ρ.t 24)).run P w = .ok q.sz w) {g : FuncId}
    {G : Ins [.ro (.st q), .ro (.st q)] → Option Int} {pre0 : WPre} (hg : @Cert ⟨true⟩ P g (mkF (T := Int) pre0 [.ro (.st q), .ro (.st q)] [(.int .i64, true)] (fun t => ((t, ()), ((), (), ()))) G))
    {xs : List q.Ty} {cf : q.Ty → q.Ty → Int} (hG : ∀ x, x ∈ xs → ∀ y, y ∈ xs → G (x, y, ()) = some (cf x y)) (hO : CmpOk (k := q) xs cf) (hn : xs.length ≤ 4294967296)
    {w : World} {Z : Nat → Prop} {args : List Value} {F : List Nat} (hin : InR w Z [.wr (.sl e (.st q)), .fn g []] (xs, (), ()) args F) (hF : F.Nodup) (hFZ : ∀ b, b ∈ F → b < w.heap.size ∧ ¬ Z b) (hZ : ∀ b, Z b → b < w.heap.size) (hpre : pre0.p w Z) :
    Calls P (ρ.f 6) args.toArray w fun en w' => ∃ vs Fo Fu Z', en = .returned (retV vs) ∧ OutR w' Z' [] () vs Fo ∧ UpR w' Z' [.wr (.sl e (.st q)), .fn g []] (xs.mergeSort (fun x y => !(decide (cf y x < 0))), (), ()) args Fu ∧ After w w' Z Z' F Fu Fo := by
  obtain ⟨v, vs', F1, F2, rfl, rfl, ⟨cs, hOw, rfl⟩, ⟨v2, vs2, F3, F4, rfl, rfl, ⟨cps, rfl, hc⟩, ⟨rfl, rfl⟩⟩⟩ := hin
  obtain ⟨rfl, rfl⟩ := hc
  obtain ⟨v, cells, Gf, rfl, hrow, hreps, rfl⟩ := hOw
  obtain ⟨PL, hPx, hPF, hPc, hPp⟩ := Reps.toParts hreps
  replace hPx : PL.map (·.2.1) = xs := hPx
  have hlen : PL.length = xs.length := by rw [← hPx, List.length_map]
  replace hrow : w.ownsRow 0 e q.sz v xs.length cells := hrow
  have hgo : ∀ args w, (callFunc g args).run P w = .ok (.enter g args) w := fun args w => run_enter (@Cert.go ⟨true⟩ _ _ _ hg) args w
  rcases hrow.2 with ⟨rfl, h0⟩ | ⟨gb, cap, cur, rfl, _, hgb, hnc, hcm, hcs, htake⟩
  · obtain rfl : xs = [] := List.eq_nil_of_length_eq_zero h0
    refine (AnyF.slices_SortFunc_none L none 0 (.func (.func g) #[] #[]) w).mono ?_
    rintro en w' ⟨rfl, rfl⟩
    rw [List.mergeSort_nil]
    refine ⟨[], [], _, Z, rfl, ⟨rfl, rfl⟩, ⟨_, _, _, _, rfl, rfl, ⟨[.slice none 0 0], ?_, rfl⟩, ⟨_, _, [], [], rfl, rfl, ⟨[], rfl, rfl, rfl⟩, rfl, rfl⟩⟩, ⟨rfl, rfl, ⟨rfl, DrLe.refl _⟩, Nat.le_refl _, fun _ _ _ => rfl, List.nodup_nil, ⟨fun h => h, fun b hb => hb⟩, (fun b hb => by cases hb), fun _ h => h, fun b h => .inl h⟩⟩
    exact ⟨.slice none 0 0, cells, Gf, rfl, hrow, hreps, by simp⟩
  · by_cases h0 : xs.length = 0
    · obtain rfl : xs = [] := List.eq_nil_of_length_eq_zero h0
      refine (AnyF.slices_SortFunc_none L (some ⟨gb, 0, none⟩) cap (.func (.func g) #[] #[]) w).mono ?_
      rintro en w' ⟨rfl, rfl⟩
      rw [List.mergeSort_nil]
      refine ⟨[], [], _, Z, rfl, ⟨rfl, rfl⟩, ⟨_, _, _, _, rfl, rfl, ⟨[.slice (some ⟨gb, 0, none⟩) 0 cap], ?_, rfl⟩, ⟨_, _, [], [], rfl, rfl, ⟨[], rfl, rfl, rfl⟩, rfl, rfl⟩⟩, ⟨rfl, rfl, ⟨rfl, DrLe.refl _⟩, Nat.le_refl _, fun _ _ _ => rfl, List.nodup_nil, ⟨fun h => h, fun b hb => hb⟩, (fun b hb => by cases hb), fun _ h => h, fun b h => .inl h⟩⟩
      exact ⟨_, cells, Gf, rfl, hrow, hreps, rfl⟩
    · have hpos : 0 < xs.length := by omega
      haveI : Inhabited (Fin xs.length) := ⟨⟨0, hpos⟩⟩
      have hF0 : ([] ++ [] : List Nat) = [] := rfl
      rw [hF0, List.append_nil] at hF hFZ
      have hroot : (Value.slice (some ⟨gb, 0, none⟩) xs.length cap).ownBlock.toList = [gb] := rfl
      rw [hroot] at hF hFZ
      obtain ⟨hgG, hGn⟩ := List.nodup_cons.1 hF
      let part : Fin xs.length → List Nat × q.Ty × List Value := fun i => PL[i.1]'(by rw [hlen]; exact i.2)
      let enc : Fin xs.length → List Value := fun i => (part i).2.2
      let d0 : Array (Fin xs.length) := Array.ofFn fun i => i
      have pmem : ∀ i, part i ∈ PL := fun i => List.getElem_mem _
      have hk : ∀ x, (enc x).length = q.sz := fun x => (hPp _ (pmem x)).1
      have hpx : ∀ i : Fin xs.length, (part i).2.1 = xs[i] := fun i => by
        show (PL[i.1]'_).2.1 = xs[i.1]'_
        have h2 : i.1 < (PL.map (·.2.1)).length := by rw [hPx]; exact i.2
        have := List.getElem_map (·.2.1) (l := PL) (h := h2)
        rw [← this]
        congr 1
      have hsz0 : d0.size = xs.length := Array.size_ofFn
      have hd0 : d0.toList.map part = PL := by
        rw [Array.toList_ofFn, List.map_ofFn]
        apply List.ext_getElem
        · rw [List.length_ofFn, hlen]
        · intro i h1 h2
          rw [List.getElem_ofFn]; rfl
      have fl : ∀ d : Array (Fin xs.length), (flatK enc q.sz d).toList = (d.toList.map part).flatMap (·.2.2) := fun d => by
        rw [flatK_list hk, List.flatMap_map]
      have hcl : cells.length = xs.length * q.sz := hreps.length
      have hfl0 : (flatK enc q.sz d0).toList = cells := by rw [fl, hd0, hPc]
      have hcur : ∀ j, j < xs.length * q.sz → cur[j]? = cells[j]? := fun j hj => by
        rw [← htake, ← Array.getElem?_toList, List.getElem?_take, if_pos hj]
      have hH : HoldsK enc q.sz w gb 0 d0 := fun j hj => by
        rw [size_flatK, hsz0] at hj
        have hj2 : j < (flatK enc q.sz d0).size := by rw [size_flatK, hsz0]; exact hj
        constructor
        · have e1 : (flatK enc q.sz d0)[j]? = cells[j]? := by rw [← Array.getElem?_toList, hfl0]
          rw [getElem!_pos _ j hj2]
          rw [Array.getElem?_eq_getElem hj2] at e1
          show w.cell? ⟨gb, 0 + j, none⟩ = _
          rw [Nat.zero_add]
          unfold World.cell?
          simp only [hgb, Option.isSome_none]
          rw [hcur j hj, ← e1]
          rfl
        · unfold World.frozen?
          simp only [hgb]
          simp
      have hgsz : gb < w.heap.size := (hFZ gb (by simp)).1
      have hcmp : CmpLays P g #[] enc q.sz (fun i j => cf xs[i] xs[j]) gb 0 d0.size w := fun m os dk hdk x y => by
        have hsame : ∀ b, b ∈ Gf → (sortWorldK enc q.sz w gb 0 m dk os).heap[b]? = w.heap[b]? := fun b hb => by
          have hne : gb ≠ b := fun e => hgG (e ▸ hb)
          have hlt := (hFZ b (List.mem_cons_of_mem _ hb)).1
          show (grow (putRowK enc q.sz (Sort.ahead w m) gb 0 dk) os).heap[b]? = _
          unfold grow putRowK putRow mapBlock Sort.ahead
          simp only
          rw [Array.getElem?_append_left (by simpa using hlt), Array.getElem?_modify, if_neg hne]
        have hsameZ : ∀ b, Z b → (sortWorldK enc q.sz w gb 0 m dk os).heap[b]? = w.heap[b]? := fun b hb => by
          have hne : gb ≠ b := fun e => (hFZ gb (by simp)).2 (e ▸ hb)
          have hlt := hZ b hb
          show (grow (putRowK enc q.sz (Sort.ahead w m) gb 0 dk) os).heap[b]? = _
          unfold grow putRowK putRow mapBlock Sort.ahead
          simp only
          rw [Array.getElem?_append_left (by simpa using hlt), Array.getElem?_modify, if_neg hne]
        have hge : w.heap.size ≤ (sortWorldK enc q.sz w gb 0 m dk os).heap.size := by
          show _ ≤ (grow (putRowK enc q.sz (Sort.ahead w m) gb 0 dk) os).heap.size
          unfold grow putRowK putRow mapBlock Sort.ahead
          simp
        generalize sortWorldK enc q.sz w gb 0 m dk os = W at *
        have hrd : ∀ i : Fin xs.length, Rd W (fun b => Z b ∨ b ∈ Gf) (.st q) (part i).2.1 (enc i) := fun i => by
          have ho := (hPp _ (pmem i)).2
          have hsub : ∀ b, b ∈ (part i).1 → b ∈ Gf := fun b hb => by rw [hPF]; exact List.mem_flatMap.2 ⟨_, pmem i, hb⟩
          exact (Ow.mono (fun b hb => hsame b (hsub b hb)) ho).rd (fun b hb => Or.inr (hsub b hb))
        have hgv := hG _ (List.getElem_mem x.2) _ (List.getElem_mem y.2)
        have hc := @Cert.holds ⟨true⟩ _ _ _ hg W (fun b => Z b ∨ b ∈ Gf) ((part x).2.1, (part y).2.1, ()) [.agg (enc x).toArray, .agg (enc y).toArray] [] (pre0.st hpre hsameZ (fun b hb => Or.inl hb))
          ⟨_, _, [], [], rfl, rfl, ⟨rfl, _, hrd x, rfl⟩, _, _, [], [], rfl, rfl, ⟨rfl, _, hrd y, rfl⟩, rfl, rfl⟩ List.nodup_nil (fun b hb => by cases hb) (fun b hb => by
            rcases hb with hb | hb
            · exact Nat.lt_of_lt_of_le (hZ b hb) hge
            · exact Nat.lt_of_lt_of_le (hFZ b (List.mem_cons_of_mem _ hb)).1 hge)
          (cf xs[x] xs[y], ()) ((), (), ()) ⟨cf xs[x] xs[y], by rw [hpx, hpx]; exact hgv, rfl⟩
        refine Calls.mono hc ?_
        rintro en w' ⟨vs, Fo, Fu, Z', rfl, ⟨cs, vs', G1, G2, rfl, _, ⟨_, rfl⟩, ⟨rfl, _⟩⟩, _, A⟩
        exact ⟨rfl, @after_growS ⟨true⟩ rfl _ _ _ _ _ _ A⟩
      have hs := AnyQ.slices_SortFunc_total L q.sz aE zE enc hk (fun x v hv => (hPp _ (pmem x)).2.oneCell v hv) (fun i j => cf xs[i] xs[j]) hO.swo g #[] gb 0 cap d0 w hgo hcmp hH hgsz (by rw [hsz0]; omega) hO.parts
      rw [hsz0] at hs
      refine Calls.mono hs ?_
      rintro en w' ⟨rfl, n, os, rfl⟩
      generalize hd1 : (d0.toList.mergeSort fun x y => !(ltOf fun i j => cf xs[i] xs[j]) y x) = ds
      have hperm : ds.Perm d0.toList := by rw [← hd1]; exact List.mergeSort_perm _ _
      have hlp : (ds.map part).Perm PL := by rw [← hd0]; exact hperm.map part
      have hdl : ds.length = xs.length := by rw [hperm.length_eq, Array.length_toList, hsz0]
      have hxs : (ds.map part).map (·.2.1) = xs.mergeSort (fun x y => !(decide (cf y x < 0))) := by
        rw [List.map_map, ← hd1]
        have e0 : d0.toList.map ((fun x : List Nat × q.Ty × List Value => x.2.1) ∘ part) = xs := by rw [← List.map_map, hd0, hPx]
        refine (List.map_mergeSort (s := fun x y => !(decide (cf y x < 0))) (fun a _ b _ => ?_)).trans (by rw [e0])
        show (!(ltOf fun i j : Fin xs.length => cf xs[i] xs[j]) b a) = !(decide (cf (part b).2.1 (part a).2.1 < 0))
        rw [hpx, hpx]; rfl
      have hheap : ∀ b, b < w.heap.size → b ≠ gb → (sortWorldK enc q.sz w gb 0 n ds.toArray os).heap[b]? = w.heap[b]? := fun b hb hne => by
        show (grow (putRowK enc q.sz (Sort.ahead w n) gb 0 ds.toArray) os).heap[b]? = _
        unfold grow putRowK putRow mapBlock Sort.ahead
        simp only
        rw [Array.getElem?_append_left (by simpa using hb), Array.getElem?_modify, if_neg (Ne.symm hne)]
      have hgb' : (sortWorldK enc q.sz w gb 0 n ds.toArray os).heap[gb]? = some (.cells (putCells id 0 (flatK enc q.sz ds.toArray) cur) e (0, 0)) := by
        show (grow (putRowK enc q.sz (Sort.ahead w n) gb 0 ds.toArray) os).heap[gb]? = _
        unfold grow putRowK putRow mapBlock Sort.ahead
        simp only
        rw [Array.getElem?_append_left (by simpa using hgsz), Array.getElem?_modify, if_pos rfl, hgb]
        rfl
      have hfsz : (flatK enc q.sz ds.toArray).size = xs.length * q.sz := by rw [size_flatK, List.size_toArray, hdl]
      have hpsz : (putCells id 0 (flatK enc q.sz ds.toArray) cur).size = cur.size := by unfold putCells; rw [Array.size_mapIdx]
      have hflat : (flatK enc q.sz ds.toArray).toList = (ds.map part).flatMap (·.2.2) := fl _
      have htk : (putCells id 0 (flatK enc q.sz ds.toArray) cur).toList.take (xs.length * q.sz) = (ds.map part).flatMap (·.2.2) := by
        rw [← hflat]
        have hcz : xs.length * q.sz ≤ cur.size := by rw [hcs]; exact Nat.mul_le_mul_right _ hnc
        apply List.ext_getElem?
        intro t
        by_cases ht : t < xs.length * q.sz
        · rw [List.getElem?_take, if_pos ht, Array.getElem?_toList, Array.getElem?_toList]
          unfold putCells
          rw [Array.getElem?_mapIdx, Array.getElem?_eq_getElem (show t < cur.size by omega), Option.map_some, if_pos ⟨Nat.zero_le _, by omega⟩, Nat.sub_zero, getElem!_pos _ t (by omega), Array.getElem?_eq_getElem (by omega)]
          rfl
        · rw [List.getElem?_take, if_neg ht, List.getElem?_eq_none (by rw [Array.length_toList, hfsz]; omega)]
      have hos : (sortWorldK enc q.sz w gb 0 n ds.toArray os).os = w.os := rfl
      have htape : (sortWorldK enc q.sz w gb 0 n ds.toArray os).tape = w.tape := rfl
      have hout : (sortWorldK enc q.sz w gb 0 n ds.toArray os).output = w.output := rfl
      have hdr : w.drawn ≤ (sortWorldK enc q.sz w gb 0 n ds.toArray os).drawn := Nat.le_add_right _ _
      have hge : w.heap.size ≤ (sortWorldK enc q.sz w gb 0 n ds.toArray os).heap.size := by
        show _ ≤ (grow (putRowK enc q.sz (Sort.ahead w n) gb 0 ds.toArray) os).heap.size
        unfold grow putRowK putRow mapBlock Sort.ahead
        simp
      generalize sortWorldK enc q.sz w gb 0 n ds.toArray os = W at *
      have hG2 : ((ds.map part).flatMap (·.1)).Perm Gf := by rw [hPF]; exact hlp.flatMap_right _
      have hOw : ∀ t, t ∈ ds.map part → t.2.2.length = q.sz ∧ Ow W (.st q) t.1 t.2.1 t.2.2 := fun t ht => by
        have hp := hlp.mem_iff.1 ht
        refine ⟨(hPp t hp).1, Ow.mono (fun b hb => ?_) (hPp t hp).2⟩
        have hbG : b ∈ Gf := by rw [hPF]; exact List.mem_flatMap.2 ⟨t, hp, hb⟩
        exact hheap b (hFZ b (List.mem_cons_of_mem _ hbG)).1 (fun e => hgG (e ▸ hbG))
      have hrp := Reps.ofParts (p := Ow W (.st q)) (sz := q.sz) (ds.map part) hOw
      rw [hxs] at hrp
      have hml : (xs.mergeSort (fun x y => !(decide (cf y x < 0)))).length = xs.length := List.length_mergeSort _
      refine ⟨[], [], gb :: (ds.map part).flatMap (·.1), Z, rfl, ⟨rfl, rfl⟩, ⟨_, _, gb :: (ds.map part).flatMap (·.1), [], rfl, by simp, ⟨[.slice (some ⟨gb, 0, none⟩) xs.length cap], ?_, rfl⟩, ⟨_, _, [], [], rfl, rfl, ⟨[], rfl, rfl, rfl⟩, rfl, rfl⟩⟩,
        ⟨hos, htape, ⟨hout, DrLe.of hdr⟩, hge, fun b hb hnF => hheap b hb (fun e => hnF (by rw [e]; exact List.mem_append_left _ (List.mem_append_left _ (by rw [hroot]; simp)))), List.nodup_nil, ⟨fun _ => List.nodup_cons.2 ⟨fun h => hgG (hG2.mem_iff.1 h), hG2.nodup_iff.2 hGn⟩, fun b hb => ?_⟩, (fun b hb => by cases hb), fun _ h => h, fun b h => .inl h⟩⟩
      · refine ⟨.slice (some ⟨gb, 0, none⟩) xs.length cap, (ds.map part).flatMap (fun t : List Nat × q.Ty × List Value => t.2.2), (ds.map part).flatMap (fun t : List Nat × q.Ty × List Value => t.1), rfl, ?_, hrp, rfl⟩
        refine ⟨?_, .inr ⟨gb, cap, _, by rw [hml], Nat.zero_le _, hgb', by rw [hml]; exact hnc, hcm, by rw [hpsz]; exact hcs, by rw [hml]; exact htk⟩⟩
        rw [hrp.length]; rfl
      · refine List.mem_append_left _ ?_
        rw [hroot]
        rcases List.mem_cons.1 hb with e | e
        · subst e; simp
        · exact List.mem_append_right _ (hG2.mem_iff.1 e)

/-- what slices.SortFunc tells: where 'cmp' is a total order of what the row holds -/
noncomputable def sortF {q : Kd} {e : TypeId} {g : FuncId} (G : Ins [.ro (.st q), .ro (.st q)] → Option Int) : Ins [.wr (.sl e (.st q)), .fn g []] → Option (List q.Ty) := fun x =>
  open Classical in if x.1.length ≤ 4294967296 ∧ (∀ a, a ∈ x.1 → ∀ b, b ∈ x.1 → G (a, b, ()) = some ((G (a, b, ())).getD 0)) ∧ CmpOk (k := q) x.1 (fun a b => (G (a, b, ())).getD 0) then some (x.1.mergeSort fun a b => !(decide ((G (b, a, ())).getD 0 < 0))) else none
theorem sortF_some {q : Kd} {e : TypeId} {g : FuncId} {G : Ins [.ro (.st q), .ro (.st q)] → Option Int} {xs : List q.Ty} {cf : q.Ty → q.Ty → Int} (h1 : xs.length ≤ 4294967296) (h2 : ∀ a, a ∈ xs → ∀ b, b ∈ xs → G (a, b, ()) = some (cf a b)) (h3 : CmpOk (k := q) xs cf) :
    sortF (e := e) (g := g) G (xs, (), ()) = some (xs.mergeSort fun a b => !(decide (cf b a < 0))) := by
  unfold sortF
  have e1 : ∀ a, a ∈ xs → ∀ b, b ∈ xs → (G (a, b, ())).getD 0 = cf a b := fun a ha b hb => by rw [h2 a ha b hb]; rfl
  have e2 : (fun i j : Fin xs.length => (G (xs[i], xs[j], ())).getD 0) = fun i j : Fin xs.length => cf xs[i] xs[j] := by
    funext i j
    exact e1 _ (List.getElem_mem _) _ (List.getElem_mem _)
  rw [if_pos]
  · congr 1
    have := List.map_mergeSort (r := fun a b => !(decide ((G (b, a, ())).getD 0 < 0))) (s := fun a b => !(decide (cf b a < 0))) (f := id) (l := xs) (fun a ha b hb => by rw [e1 b hb a ha]; rfl)
    simpa using this
  · refine ⟨h1, fun a ha b hb => by rw [h2 a ha b hb]; rfl, ?_, ?_⟩
    · have := h3.swo
      rw [← e2] at this
      exact this
    · have := h3.parts
      rw [← e2] at this
      exact this
theorem certF_of_T {P : Program} {g : FuncId} {ins : List Pk} {out : List (Kd × Bool)} {pre0 : WPre} {T : Type} {inj : T → Outs out × Ups ins} {F : Ins ins → T} (h : Cert P g (mkT (T := T) pre0 ins out inj F)) :
    Cert P g (mkF (T := T) pre0 ins out inj (fun x => some (F x))) :=
  ⟨h.go, fun w Z x args Fo hpre hin hn hF0 hz o u ⟨t, ht, hinj⟩ => h.holds w Z x args Fo hpre hin hn hF0 hz o u (by cases ht; exact hinj), h.ins, h.out⟩
theorem sort_cert {P : Program} {ρ : Go.Shelf.Ren} (L : SlLaysF0.n6 P ρ) {f : FuncId} (hf : ρ.f 6 = f) (hgo : GoFn P f) {q : Kd} {e : TypeId} (aE : ∀ w, (isAgg (ρ.t 24)).run P w = .ok true w) (zE : ∀ w, (Go.sizeOf (ρ.t 24)).run P w = .ok q.sz w) {g : FuncId}
    {G : Ins [.ro (.st q), .ro (.st q)] → Option Int} {pre0 : WPre} (hg : @Cert ⟨true⟩ P g (mkF (T := Int) pre0 [.ro (.st q), .ro (.st q)] [(.int .i64, true)] (fun t => ((t, ()), ((), (), ()))) G)) :
    Cert P f (mkF (T := List q.Ty) pre0 [.wr (.sl e (.st q)), .fn g []] [] (fun t => ((), (t, (), ()))) (sortF G)) := by
  refine ⟨hgo, ?_, fun p hp => ?_, fun p hp => by cases hp⟩
  · rintro w Z ⟨xs, _, _⟩ args F hpre hin hF hFZ hZ o u ⟨t, h1, h2⟩
    subst hf
    unfold sortF at h1
    split at h1
    · rename_i hc
      cases h1
      cases h2
      exact sort_calls L aE zE hg (cf := fun a b => (G (a, b, ())).getD 0) hc.2.1 hc.2.2 hc.1 hin hF hFZ hZ hpre
    · cases h1
  · have hp : p ∈ [Pk.wr (.sl e (.st q)), Pk.fn g []] := hp
    simp only [List.mem_cons, List.not_mem_nil, or_false] at hp
    rcases hp with rfl | rfl
    · intro h; rfl
    · trivial
end Go.Ev
