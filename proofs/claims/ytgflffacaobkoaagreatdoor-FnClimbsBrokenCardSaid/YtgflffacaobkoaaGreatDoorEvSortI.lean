/- slices.Sort at rows of whole numbers: its contract. -/
import Derived.Test.YtgflffacaobkoaaGreatDoorEvLim
import Derived.Test.YtgflffacaobkoaaGreatDoorEvOp
import Derived.Shelf.Sort.Plain
set_option linter.unusedVariables false
set_option linter.unusedSectionVars false
set_option linter.unusedSimpArgs false
namespace Go.Ev
open Go Go.Sort Go.Proofs
variable [Lax]

theorem Reps.ints {w : World} {ik : IntKind} : ∀ {xs : List Int} {F : List Nat} {cs : List Value}, Reps (Ow w (.int ik)) 1 F xs cs → F = [] ∧ cs = xs.map (Value.int ik)
  | [], F, cs, ⟨h1, h2⟩ => ⟨h1, h2⟩
  | x :: xs, F, cs, ⟨F1, F2, c1, c2, h1, h2, h3, h4, h5⟩ => by
    obtain ⟨a, b⟩ := Reps.ints h5
    obtain ⟨c, d⟩ := h4
    exact ⟨by rw [h1, a, c]; rfl, by rw [h2, b, d]; rfl⟩
theorem Reps.ofInts {w : World} {ik : IntKind} : ∀ xs : List Int, Reps (Ow w (.int ik)) 1 [] xs (xs.map (Value.int ik))
  | [] => ⟨rfl, rfl⟩
  | x :: xs => ⟨[], [], [.int ik x], _, rfl, rfl, rfl, ⟨rfl, rfl⟩, Reps.ofInts xs⟩

theorem sortI_calls {P : Program} {ρ : Go.Shelf.Ren} (L : Lays.n189 P ρ) {e : TypeId} {xs : List Int} (hn : xs.length ≤ 4294967296) (hne : xs ≠ [])
    {w : World} {Z : Nat → Prop} {args : List Value} {F : List Nat} (hin : InR w Z [.wr (.sl e (.int .i64))] (xs, ()) args F) (hF : F.Nodup) (hFZ : ∀ b, b ∈ F → b < w.heap.size ∧ ¬ Z b) :
    Calls P (ρ.f 189) args.toArray w fun en w' => ∃ vs Fo Fu Z', en = .returned (retV vs) ∧ OutR w' Z' [] () vs Fo ∧ UpR w' Z' [.wr (.sl e (.int .i64))] (xs.mergeSort (fun x y => decide (x ≤ y)), ()) args Fu ∧ After w w' Z Z' F Fu Fo := by
  obtain ⟨v, vs', F1, F2, rfl, rfl, ⟨cs, hOw, rfl⟩, ⟨rfl, rfl⟩⟩ := hin
  obtain ⟨v, cells, Gf, rfl, hrow, hreps, rfl⟩ := hOw
  obtain ⟨rfl, hcells⟩ := Reps.ints hreps
  replace hrow : w.ownsRow 0 e 1 v xs.length cells := hrow
  have hpos : 0 < xs.length := List.length_pos_iff.2 hne
  rcases hrow.2 with ⟨rfl, h0⟩ | ⟨gb, cap, cur, rfl, _, hgb, hnc, hcm, hcs, htake⟩
  · omega
  · have hroot : (Value.slice (some ⟨gb, 0, none⟩) xs.length cap).ownBlock.toList = [gb] := rfl
    rw [hroot] at hF hFZ
    have hgsz : gb < w.heap.size := (hFZ gb (by simp)).1
    have hcur : ∀ j, j < xs.length → cur[j]? = cells[j]? := fun j hj => by
      rw [← htake, ← Array.getElem?_toList, List.getElem?_take, if_pos (by omega)]
    have hH : Go.Sort.Holds (Value.int .i64) w gb 0 xs.toArray := fun j hj => by
      have hj' : j < xs.length := by simpa using hj
      constructor
      · show w.cell? ⟨gb, 0 + j, none⟩ = _
        rw [Nat.zero_add, getElem!_pos _ j hj]
        unfold World.cell?
        simp only [hgb, Option.isSome_none]
        rw [hcur j hj', hcells, List.getElem?_map, List.getElem?_eq_getElem hj']
        rfl
      · unfold World.frozen?
        simp only [hgb]
        simp
    have hs := Any.slices_Sort_int L gb 0 cap xs w hH hgsz (by omega)
    refine Calls.mono hs ?_
    rintro en w' ⟨rfl, n, os, rfl⟩
    generalize hys : (xs.mergeSort fun x y => decide (x ≤ y)) = ys
    have hyl : ys.length = xs.length := by rw [← hys]; exact List.length_mergeSort _
    have hheap : ∀ b, b < w.heap.size → b ≠ gb → (grow (putRow (Value.int .i64) (Sort.ahead w n) gb 0 ys.toArray) os).heap[b]? = w.heap[b]? := fun b hb hne => by
      unfold grow putRow mapBlock Sort.ahead
      simp only
      rw [Array.getElem?_append_left (by simpa using hb), Array.getElem?_modify, if_neg (Ne.symm hne)]
    have hgb' : (grow (putRow (Value.int .i64) (Sort.ahead w n) gb 0 ys.toArray) os).heap[gb]? = some (.cells (putCells (Value.int .i64) 0 ys.toArray cur) e (0, 0)) := by
      unfold grow putRow mapBlock Sort.ahead
      simp only
      rw [Array.getElem?_append_left (by simpa using hgsz), Array.getElem?_modify, if_pos rfl, hgb]
      rfl
    have hpsz : (putCells (Value.int .i64) 0 ys.toArray cur).size = cur.size := by unfold putCells; rw [Array.size_mapIdx]
    have htk : (putCells (Value.int .i64) 0 ys.toArray cur).toList.take (xs.length * 1) = ys.map (Value.int .i64) := by
      have hcz : xs.length ≤ cur.size := by omega
      apply List.ext_getElem?
      intro t
      by_cases ht : t < xs.length
      · rw [List.getElem?_take, if_pos (by omega), Array.getElem?_toList]
        unfold putCells
        have hty : t < ys.toArray.size := by simp; omega
        rw [Array.getElem?_mapIdx, Array.getElem?_eq_getElem (show t < cur.size by omega), Option.map_some, if_pos ⟨Nat.zero_le _, by omega⟩, Nat.sub_zero, getElem!_pos _ t hty, List.getElem?_map, List.getElem?_eq_getElem (show t < ys.length by omega)]
        rfl
      · rw [List.getElem?_take, if_neg (by omega), List.getElem?_eq_none (by rw [List.length_map]; omega)]
    have hos : (grow (putRow (Value.int .i64) (Sort.ahead w n) gb 0 ys.toArray) os).os = w.os := rfl
    have htape : (grow (putRow (Value.int .i64) (Sort.ahead w n) gb 0 ys.toArray) os).tape = w.tape := rfl
    have hout : (grow (putRow (Value.int .i64) (Sort.ahead w n) gb 0 ys.toArray) os).output = w.output := rfl
    have hdr : w.drawn ≤ (grow (putRow (Value.int .i64) (Sort.ahead w n) gb 0 ys.toArray) os).drawn := Nat.le_add_right _ _
    have hge : w.heap.size ≤ (grow (putRow (Value.int .i64) (Sort.ahead w n) gb 0 ys.toArray) os).heap.size := by
      unfold grow putRow mapBlock Sort.ahead
      simp
    generalize grow (putRow (Value.int .i64) (Sort.ahead w n) gb 0 ys.toArray) os = W at *
    refine ⟨[], [], [gb], Z, rfl, ⟨rfl, rfl⟩, ⟨_, _, [gb], [], rfl, by simp, ⟨[.slice (some ⟨gb, 0, none⟩) xs.length cap], ?_, rfl⟩, rfl, rfl⟩,
      ⟨hos, htape, ⟨hout, DrLe.of hdr⟩, hge, fun b hb hnF => hheap b hb (fun e => hnF (by rw [e, hroot]; simp)), List.nodup_nil, ⟨fun h => by simp, fun b hb => ?_⟩, (fun b hb => by cases hb), fun _ h => h, fun b h => .inl h⟩⟩
    · refine ⟨.slice (some ⟨gb, 0, none⟩) xs.length cap, ys.map (Value.int .i64), [], rfl, ?_, Reps.ofInts ys, rfl⟩
      refine ⟨?_, .inr ⟨gb, cap, _, by rw [hyl], Nat.zero_le _, hgb', by rw [hyl]; exact hnc, hcm, by rw [hpsz]; exact hcs, by rw [hyl]; exact htk⟩⟩
      rw [List.length_map]
      show ys.length = ys.length * 1
      omega
    · rw [hroot]; simpa using hb

/-- what slices.Sort tells -/
def sortIF (l : List Int) : Option (List Int) := if l.length ≤ 4294967296 ∧ l ≠ [] then some (l.mergeSort fun x y => decide (x ≤ y)) else none
theorem sortI_cert {P : Program} {ρ : Go.Shelf.Ren} (L : Lays.n189 P ρ) {f : FuncId} (hf : ρ.f 189 = f) (hgo : GoFn P f) {e : TypeId} {pre0 : WPre} :
    Cert P f (mkF (T := List Int) pre0 [.wr (.sl e (.int .i64))] [] (fun t => ((), (t, ()))) (fun x => sortIF x.1)) := by
  refine ⟨hgo, ?_, fun p hp => ?_, fun p hp => by cases hp⟩
  · rintro w Z ⟨xs, _⟩ args F _ hin hF hFZ hZ o u ⟨t, h1, h2⟩
    subst hf
    have h1 : sortIF xs = some t := h1
    unfold sortIF at h1
    split at h1
    · rename_i hc
      cases h1
      cases h2
      exact sortI_calls L hc.1 hc.2 hin hF hFZ
    · cases h1
  · have hp : p ∈ [Pk.wr (.sl e (.int .i64))] := hp
    simp only [List.mem_cons, List.not_mem_nil, or_false] at hp
    subst hp
    intro h; rfl
end Go.Ev
