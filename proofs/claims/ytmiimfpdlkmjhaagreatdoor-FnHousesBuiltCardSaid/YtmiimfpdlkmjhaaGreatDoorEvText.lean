/- Texts: numbers to texts and back, texts cut, split and joined: the library's contracts, in the evaluator's form. -/
import Derived.Test.YtmiimfpdlkmjhaaGreatDoorEvLim
import Derived.Test.YtmiimfpdlkmjhaaGreatDoorEvOp
import Derived.Test.YtmiimfpdlkmjhaaGreatDoorEvStr
import Derived.Shelf.Strconv.Itoa3
import Derived.Shelf.Strconv.AtoiAll
import Derived.Shelf.Strings.Split
import Derived.Shelf.Strings.Cut
import Derived.Shelf.Strings.OnBuilder
import Derived.Lib.LaidTab
import Derived.Lib.AtoiTie
set_option linter.unusedVariables false
set_option linter.unusedSectionVars false
set_option linter.unusedSimpArgs false
namespace Go.Ev
open Go Go.Proofs Go.RowKit Go.Sort
variable [Lax]

/-! ### what package-level variables hold -/
def varPre (P : Program) (l : List (String × (Array Value → Prop))) : WPre where
  p w Z := ∀ x, x ∈ l → ∃ g cs, P.globalNamed x.1 = some g ∧ Z g ∧ w.var? P x.1 = some cs ∧ x.2 cs
  st := fun {w w' Z Z'} h hw hz x hx => by
    obtain ⟨g, cs, h1, h2, h3, h4⟩ := h x hx
    refine ⟨g, cs, h1, hz g h2, ?_, h4⟩
    unfold World.var? at h3 ⊢
    rw [h1] at h3 ⊢
    simp only [Option.bind_some] at h3 ⊢
    rw [hw g h2]; exact h3
/-- one variable's cells -/
theorem varPre.get {P : Program} {l : List (String × (Array Value → Prop))} {w : World} {Z : Nat → Prop} (h : (varPre P l).p w Z) {n : String} {q : Array Value → Prop} (hm : (n, q) ∈ l) :
    ∃ g cs, P.globalNamed n = some g ∧ w.var? P n = some cs ∧ q cs := by
  obtain ⟨g, cs, h1, _, h3, h4⟩ := h _ hm
  exact ⟨g, cs, h1, h3, h4⟩
/-- the variables that texts ask for -/
def isTab (k : IntKind) (zs : List Int) (cs : Array Value) : Prop := cs = (zs.map fun z => Value.int k z).toArray
def isInt (cs : Array Value) : Prop := ∃ m, cs = #[.int .i64 m]
def isErr (cs : Array Value) : Prop := ∃ ev, cs = #[ev] ∧ (ev = .nilIface ∨ ∃ te pe, ev = .iface te pe)

theorem after_below (hl : Lax.strict = false) {w w' : World} (Z : Nat → Prop) (hz : ∀ b, Z b → b < w.heap.size) (h : Below w.heap.size w w') : After w w' Z Z [] [] [] :=
  ⟨h.os, h.tape, ⟨h.output, fun s => by rw [hl] at s; cases s⟩, h.size, fun b hb _ => h.block b hb, List.nodup_nil, ⟨fun h => h, fun _ h => h⟩, (fun b hb => by cases hb), fun _ h => h, fun b h => .inl h⟩
theorem after_grow (w : World) (Z : Nat → Prop) (k : Nat) (os : Array Obj) : After w (grow (w.drewN k) os) Z Z [] [] [] :=
  ⟨rfl, rfl, ⟨rfl, DrLe.of (Nat.le_add_right _ _)⟩, by show w.heap.size ≤ (w.heap ++ os).size; simp, fun b hb _ => by
    show (w.heap ++ os)[b]? = _
    rw [Array.getElem?_append_left hb], List.nodup_nil, ⟨fun h => h, fun _ h => h⟩, (fun b hb => by cases hb), fun _ h => h, fun b h => .inl h⟩
theorem after_drew (w : World) (Z : Nat → Prop) (k : Nat) : After w (w.drewN k) Z Z [] [] [] :=
  ⟨rfl, rfl, ⟨rfl, DrLe.of (Nat.le_add_right _ _)⟩, Nat.le_refl _, fun b hb _ => rfl, List.nodup_nil, ⟨fun h => h, fun _ h => h⟩, (fun b hb => by cases hb), fun _ h => h, fun b h => .inl h⟩

/-! ### strconv.Itoa -/
def itoaF (n : Int) : Option ByteArray := if -9223372036854775808 ≤ n ∧ n ≤ 9223372036854775807 then some ⟨(Lib.itoa n).toArray⟩ else none
theorem itoa_cert {P : Program} {ρ : Go.Shelf.Ren} (L : LaysM.n171 P ρ) {f : FuncId} (hf : ρ.f 171 = f) (hgo : GoFn P f) {l : List (String × (Array Value → Prop))} (hm : ("internal/strconv.uint64pow10", isTab .u64 Lib.pow10Tab) ∈ l) :
    Cert P f (mkF (T := ByteArray) (varPre P l) [.ro (.int .i64)] [(.str, true)] (fun t => ((t, ()), ((), ()))) (fun x => itoaF x.1)) := by
  refine ⟨hgo, ?_, fun p hp => ?_, fun p hp => ?_⟩
  · rintro w Z ⟨n, _⟩ args F hpre hin hF hFZ hZ o u ⟨t, h1, h2⟩
    subst hf
    obtain ⟨v, vs', F1, F2, rfl, rfl, ⟨rfl, c1, hr1, rfl⟩, ⟨rfl, rfl⟩⟩ := hin
    have hr1 : c1 = [.int .i64 n] := hr1
    subst hr1
    have h1 : itoaF n = some t := h1
    unfold itoaF at h1
    split at h1
    · rename_i hc
      cases h1
      cases h2
      obtain ⟨g, cs, _, hv, hq⟩ := varPre.get hpre hm
      have htab : Lib.TabIs P w "internal/strconv.uint64pow10" .u64 Lib.pow10Tab := by unfold Lib.TabIs; rw [hv, hq]
      refine Calls.mono (Any.strconv_Itoa L n hc.1 hc.2 w htab) ?_
      rintro en w' ⟨rfl, k, os, rfl⟩
      exact ⟨[.string _], [], [], Z, rfl, ⟨[.string _], [], [], [], rfl, rfl, ⟨rfl, rfl⟩, ⟨rfl, rfl⟩⟩, ⟨_, _, [], [], rfl, rfl, rfl, rfl, rfl⟩, after_grow _ _ _ _⟩
    · cases h1
  · have hp : p ∈ [Pk.ro (.int .i64)] := hp
    simp only [List.mem_cons, List.not_mem_nil, or_false] at hp
    subst hp
    first | trivial | (intro h; rfl) | rfl
  · have hp : p ∈ [((.str : Kd), true)] := hp
    simp only [List.mem_cons, List.not_mem_nil, or_false] at hp
    subst hp
    first | trivial | (intro h; rfl) | rfl

/-! ### strings.Cut -/
def cutF (s sep : ByteArray) : Option (ByteArray × ByteArray × Bool) := if s.size < 4294967281 then some (⟨(Lib.cut s.data.toList sep.data.toList).1.toArray⟩, ⟨(Lib.cut s.data.toList sep.data.toList).2.1.toArray⟩, (Lib.cut s.data.toList sep.data.toList).2.2) else none
theorem maxLen_cell {P : Program} {l : List (String × (Array Value → Prop))} {w : World} {Z : Nat → Prop} {g : Nat} (hpre : (varPre P l).p w Z) (hm : ("internal/bytealg.MaxLen", isInt) ∈ l) (hg : P.globalNamed "internal/bytealg.MaxLen" = some g) :
    ∃ m, w.cell? ⟨g, 0, none⟩ = some (.int .i64 m) := by
  obtain ⟨g', cs, h1, hv, m, rfl⟩ := varPre.get hpre hm
  have := World.var?_cell hg hv 0
  exact ⟨m, by simpa using this⟩
theorem cut_cert {P : Program} {ρ : Go.Shelf.Ren} (L : Lays.n145 P ρ) {f : FuncId} (hf : ρ.f 145 = f) (hgo : GoFn P f) {l : List (String × (Array Value → Prop))} (hm : ("internal/bytealg.MaxLen", isInt) ∈ l) (hg : P.globalNamed "internal/bytealg.MaxLen" = some (ρ.g 1)) :
    Cert P f (mkF (T := ByteArray × ByteArray × Bool) (varPre P l) [.ro .str, .ro .str] [(.str, true), (.str, true), (.bool, true)] (fun t => ((t.1, t.2.1, t.2.2, ()), ((), (), ()))) (fun x => cutF x.1 x.2.1)) := by
  refine ⟨hgo, ?_, fun p hp => ?_, fun p hp => ?_⟩
  · rintro w Z ⟨s, sub, _⟩ args F hpre hin hF hFZ hZ o u ⟨t, h1, h2⟩
    subst hf
    obtain ⟨v, vs', F1, F2, rfl, rfl, ⟨rfl, c1, hr1, rfl⟩, ⟨v2, vs2, F3, F4, rfl, rfl, ⟨rfl, c2, hr2, rfl⟩, ⟨rfl, rfl⟩⟩⟩ := hin
    have hr1 : c1 = [.string s] := hr1
    have hr2 : c2 = [.string sub] := hr2
    subst hr1
    subst hr2
    have h1 : cutF s sub = some t := h1
    unfold cutF at h1
    split at h1
    · rename_i hc
      cases h1
      cases h2
      obtain ⟨m, hcell⟩ := maxLen_cell hpre hm hg
      refine Calls.mono (Any.strings_Cut L s sub m w hc hcell) ?_
      rintro en w' ⟨rfl, k, rfl⟩
      exact ⟨[.string _, .string _, .bool _], [], [], Z, rfl, ⟨[.string _], _, [], [], rfl, rfl, ⟨rfl, rfl⟩, ⟨[.string _], _, [], [], rfl, rfl, ⟨rfl, rfl⟩, ⟨[.bool _], _, [], [], rfl, rfl, ⟨rfl, rfl⟩, ⟨rfl, rfl⟩⟩⟩⟩, ⟨_, _, [], [], rfl, rfl, rfl, _, _, [], [], rfl, rfl, rfl, rfl, rfl⟩, after_drew _ _ _⟩
    · cases h1
  · have hp : p ∈ [Pk.ro .str, Pk.ro .str] := hp
    simp only [List.mem_cons, List.not_mem_nil, or_false] at hp
    rcases hp with rfl | rfl <;> first | trivial | (intro h; rfl) | rfl
  · have hp : p ∈ [((.str : Kd), true), (.str, true), (.bool, true)] := hp
    simp only [List.mem_cons, List.not_mem_nil, or_false] at hp
    rcases hp with rfl | rfl | rfl <;> first | trivial | (intro h; rfl) | rfl

/-! ### strings.Split -/
theorem Reps.strs {w : World} : ∀ xs : List ByteArray, Reps (Ow w .str) 1 [] xs (xs.map Value.string)
  | [] => ⟨rfl, rfl⟩
  | x :: xs => ⟨[], [], [.string x], _, rfl, rfl, rfl, ⟨rfl, rfl⟩, Reps.strs xs⟩
def splitF (s sep : ByteArray) : Option (List ByteArray) := if s.size < 4294967281 ∧ 1 ≤ sep.size then some (Lib.splitB sep 0 (Lib.countB s sep) s) else none
theorem split_cert {P : Program} {ρ : Go.Shelf.Ren} (L : Lays.n146 P ρ) (hi9 : (P.info? (ρ.t 9)).map (fun i => (i.zero, i.size, i.bytes)) = some (some (.string ByteArray.empty), 1, 16)) {f : FuncId} (hf : ρ.f 146 = f) {e : TypeId} (he : ρ.t 9 = e) (hgo : GoFn P f)
    {l : List (String × (Array Value → Prop))} (hm : ("internal/bytealg.MaxLen", isInt) ∈ l) (hg : P.globalNamed "internal/bytealg.MaxLen" = some (ρ.g 1)) :
    Cert P f (mkF (T := List ByteArray) (varPre P l) [.ro .str, .ro .str] [(.sl e .str, true)] (fun t => ((t, ()), ((), (), ()))) (fun x => splitF x.1 x.2.1)) := by
  refine ⟨hgo, ?_, fun p hp => ?_, fun p hp => ?_⟩
  · rintro w Z ⟨s, sub, _⟩ args F hpre hin hF hFZ hZ o u ⟨t, h1, h2⟩
    subst hf
    subst he
    obtain ⟨v, vs', F1, F2, rfl, rfl, ⟨rfl, c1, hr1, rfl⟩, ⟨v2, vs2, F3, F4, rfl, rfl, ⟨rfl, c2, hr2, rfl⟩, ⟨rfl, rfl⟩⟩⟩ := hin
    have hr1 : c1 = [.string s] := hr1
    have hr2 : c2 = [.string sub] := hr2
    subst hr1
    subst hr2
    have h1 : splitF s sub = some t := h1
    unfold splitF at h1
    split at h1
    · rename_i hc
      cases h1
      cases h2
      obtain ⟨m, hcell⟩ := maxLen_cell hpre hm hg
      refine Calls.mono (Any.strings_Split L hi9 s sub m w hc.1 hcell hc.2) ?_
      rintro en w' ⟨rfl, rfl⟩
      have hle := Lib.countB_le sub hc.2 s.size s (Nat.le_refl _)
      have hlen := Lib.splitB_all sub hc.2 0 _ s rfl
      have hsz : (w.alloc (.cells ((Lib.splitB sub 0 (Lib.countB s sub) s).map Value.string).toArray (ρ.t 9))).heap.size = w.heap.size + 1 := by rw [World.size_alloc]
      refine ⟨[.slice (some ⟨w.heap.size, 0, none⟩) (Lib.countB s sub + 1) (Lib.countB s sub + 1)], [w.heap.size], [], Z, rfl, ⟨[.slice (some ⟨w.heap.size, 0, none⟩) (Lib.countB s sub + 1) (Lib.countB s sub + 1)], [], [w.heap.size], [], rfl, rfl, ?_, ⟨rfl, rfl⟩⟩, ⟨_, _, [], [], rfl, rfl, rfl, _, _, [], [], rfl, rfl, rfl, rfl, rfl⟩,
        ⟨rfl, rfl, ⟨rfl, DrLe.refl _⟩, by omega, fun b hb _ => heap_alloc_old w _ hb, by simp, ⟨fun h => h, fun _ h => h⟩, fun b hb => ?_, fun _ h => h, fun b h => .inl h⟩⟩
      · refine ⟨_, (Lib.splitB sub 0 (Lib.countB s sub) s).map Value.string, [], rfl, ⟨?_, .inr ⟨w.heap.size, Lib.countB s sub + 1, _, by rw [hlen], Nat.zero_le _, heap_alloc_new w _, by rw [hlen]; exact Nat.le_refl _, ?_, ?_, ?_⟩⟩, Reps.strs _, rfl⟩
        · rw [List.length_map]; exact (Nat.mul_one _).symm
        · have e : maxLen = 9223372036854775807 := rfl
          rw [e]; omega
        · simp [hlen, Kd.sz]
        · rw [List.take_of_length_le]
          simp [Kd.sz]
      · simp at hb; subst hb
        exact ⟨.inl (Nat.le_refl _), by omega, fun h => by have := hZ _ h; omega⟩
    · cases h1
  · have hp : p ∈ [Pk.ro .str, Pk.ro .str] := hp
    simp only [List.mem_cons, List.not_mem_nil, or_false] at hp
    rcases hp with rfl | rfl <;> first | trivial | (intro h; rfl) | rfl
  · have hp : p ∈ [((.sl e .str : Kd), true)] := hp
    simp only [List.mem_cons, List.not_mem_nil, or_false] at hp
    subst hp
    first | trivial | (intro h; rfl) | rfl

/-! ### strings.Join -/
def joinF (xs : List ByteArray) (sep : ByteArray) : Option ByteArray := if xs.length ≤ 140737488355328 ∧ (Lib.join (xs.map (·.data.toList)) sep.data.toList).length ≤ 140737488355328 then some ⟨(Lib.join (xs.map (·.data.toList)) sep.data.toList).toArray⟩ else none
theorem join_cert (hl : Lax.strict = false) {P : Program} {ρ : Go.Shelf.Ren} (L : Lays.n156 P ρ) (X : Builder.Extra P ρ) {f : FuncId} (hf : ρ.f 156 = f) {e : TypeId} (hgo : GoFn P f) {pre : WPre} :
    Cert P f (mkF (T := ByteArray) pre [.ro (.sl e .str), .ro .str] [(.str, true)] (fun t => ((t, ()), ((), (), ()))) (fun x => joinF x.1 x.2.1)) := by
  refine ⟨hgo, ?_, fun p hp => ?_, fun p hp => ?_⟩
  · rintro w Z ⟨xs, sub, _⟩ args F hpre hin hF hFZ hZ o u ⟨t, h1, h2⟩
    subst hf
    obtain ⟨v, vs', F1, F2, rfl, rfl, ⟨rfl, c1, hr1, rfl⟩, ⟨v2, vs2, F3, F4, rfl, rfl, ⟨rfl, c2, hr2, rfl⟩, ⟨rfl, rfl⟩⟩⟩ := hin
    obtain ⟨A, c, rfl, hc1, hc2, hrow⟩ := hr1
    have hr2 : c2 = [.string sub] := hr2
    subst hr2
    have h1 : joinF xs sub = some t := h1
    unfold joinF at h1
    split at h1
    · rename_i hc
      cases h1
      cases h2
      have fin : ∀ w', Below w.heap.size w w' → ∃ vs Fo Fu Z', Ending.returned (.string ⟨(Lib.join (xs.map (·.data.toList)) sub.data.toList).toArray⟩) = .returned (retV vs) ∧ OutR w' Z' [(.str, true)] ((⟨(Lib.join (xs.map (·.data.toList)) sub.data.toList).toArray⟩ : ByteArray), ()) vs Fo ∧ UpR w' Z' [.ro (.sl e .str), .ro .str] ((), (), ()) [.slice A xs.length c, .string sub] Fu ∧ After w w' Z Z' ([] ++ ([] ++ [])) Fu Fo := fun w' hb =>
        ⟨[.string _], [], [], Z, rfl, ⟨[.string _], [], [], [], rfl, rfl, ⟨rfl, rfl⟩, ⟨rfl, rfl⟩⟩, ⟨_, _, [], [], rfl, rfl, rfl, _, _, [], [], rfl, rfl, rfl, rfl, rfl⟩, after_below hl Z hZ hb⟩
      by_cases hx : xs = []
      · subst hx
        refine Calls.mono (Any.strings_Join_none L X A c sub w) ?_
        rintro en w' ⟨rfl, rfl⟩
        exact fin _ (Below.refl _ _)
      · rcases hrow with hrow | ⟨ad, rfl, hs, hZad, hel⟩
        · exact absurd hrow hx
        · obtain ⟨bk, off, sp⟩ := ad
          have hs : sp = none := hs
          subst hs
          refine Calls.mono (Any.strings_Join L X bk off c xs sub w (fun j x hj => ?_) (hZ _ hZad) hc.1 hc1 hc.2) ?_
          · obtain ⟨cs, _, hrd, hcell⟩ := hel j x hj
            have hrd : cs = [.string x] := hrd
            subst hrd
            have := hcell 0 _ rfl
            simpa [Kd.sz] using this
          · rintro en w' ⟨rfl, hb⟩
            exact fin _ hb
    · cases h1
  · have hp : p ∈ [Pk.ro (.sl e .str), Pk.ro .str] := hp
    simp only [List.mem_cons, List.not_mem_nil, or_false] at hp
    rcases hp with rfl | rfl <;> first | trivial | (intro h; rfl) | rfl
  · have hp : p ∈ [((.str : Kd), true)] := hp
    simp only [List.mem_cons, List.not_mem_nil, or_false] at hp
    subst hp
    first | trivial | (intro h; rfl) | rfl

/-! ### strconv.Atoi -/
def atoiV (s : ByteArray) : Int × Bool := match Lib.atoiAll s.data.toList with | .ok v => (v, true) | .range => (Lib.atoiSat s.data.toList, false) | _ => (0, false)
def atoiF (s : ByteArray) : Option (Int × Bool) := if s.size ≤ 281474976710656 then some (atoiV s) else none
theorem err_cell {P : Program} {l : List (String × (Array Value → Prop))} {w : World} {Z : Nat → Prop} {g : Nat} {n : String} (hpre : (varPre P l).p w Z) (hm : (n, isErr) ∈ l) (hg : P.globalNamed n = some g) :
    ∃ ev, w.cell? ⟨g, 0, none⟩ = some ev ∧ (ev = .nilIface ∨ ∃ te pe, ev = .iface te pe) := by
  obtain ⟨g', cs, h1, hv, ev, rfl, hq⟩ := varPre.get hpre hm
  have := World.var?_cell hg hv 0
  exact ⟨ev, by simpa using this, hq⟩
theorem atoi_cert (hl : Lax.strict = false) {P : Program} {ρ : Go.Shelf.Ren} (L : LaysC.n172 P ρ) {f : FuncId} (hf : ρ.f 172 = f) (hgo : GoFn P f) {l : List (String × (Array Value → Prop))}
    (hm1 : ("strconv.ErrSyntax", isErr) ∈ l) (hg1 : P.globalNamed "strconv.ErrSyntax" = some (ρ.g 15)) (hm2 : ("strconv.ErrRange", isErr) ∈ l) (hg2 : P.globalNamed "strconv.ErrRange" = some (ρ.g 16)) :
    Cert P f (mkF (T := Int × Bool) (varPre P l) [.ro .str] [(.int .i64, true), (.err, true)] (fun t => ((t.1, t.2, ()), ((), ()))) (fun x => atoiF x.1)) := by
  refine ⟨hgo, ?_, fun p hp => ?_, fun p hp => ?_⟩
  · rintro w Z ⟨s, _⟩ args F hpre hin hF hFZ hZ o u ⟨t, h1, h2⟩
    subst hf
    obtain ⟨v, vs', F1, F2, rfl, rfl, ⟨rfl, c1, hr1, rfl⟩, ⟨rfl, rfl⟩⟩ := hin
    have hr1 : c1 = [.string s] := hr1
    subst hr1
    have h1 : atoiF s = some t := h1
    unfold atoiF at h1
    split at h1
    · rename_i hc
      cases h1
      cases h2
      have fin : ∀ w' n b ev, ErrV b ev → Below w.heap.size w w' → ∃ vs Fo Fu Z', Ending.returned (.tuple #[.int .i64 n, ev]) = .returned (retV vs) ∧ OutR w' Z' [(.int .i64, true), (.err, true)] ((n, b, ()) : Int × Bool × Unit) vs Fo ∧ UpR w' Z' [.ro .str] ((), ()) [.string s] Fu ∧ After w w' Z Z' ([] ++ []) Fu Fo := fun w' n b ev he hb =>
        ⟨[.int .i64 n, ev], [], [], Z, rfl, ⟨[.int .i64 n], _, [], [], rfl, rfl, ⟨rfl, rfl⟩, ⟨[ev], _, [], [], rfl, rfl, ⟨rfl, ev, rfl, he⟩, ⟨rfl, rfl⟩⟩⟩, ⟨_, _, [], [], rfl, rfl, rfl, rfl, rfl⟩, after_below hl Z hZ hb⟩
      unfold atoiV
      obtain ⟨e1, hv1, hq1⟩ := err_cell hpre hm1 hg1
      obtain ⟨e2, hv2, hq2⟩ := err_cell hpre hm2 hg2
      rcases ha : Lib.atoiAll s.data.toList with v | _ | _
      · refine Calls.mono (Any.strconv_Atoi_ok L s (by omega) v ha w) ?_
        rintro en w' ⟨rfl, hw⟩
        refine fin w' v true .nilIface (.inl ⟨rfl, rfl⟩) ?_
        rcases hw with rfl | ⟨t, rfl⟩
        · exact Below.refl _ _
        · exact Lib.bytesWorld_below _ _ _
      · refine Calls.mono (Any.strconv_Atoi_syntax L s hc ha e1 w hv1 hq1) ?_
        rintro en w' ⟨N, rfl, _, _, hb⟩
        exact fin w' 0 false _ (.inr ⟨rfl, _, _, rfl⟩) hb
      · refine Calls.mono (Any.strconv_Atoi_range L s hc ha e2 w hv2 hq2) ?_
        rintro en w' ⟨N, rfl, _, _, hb⟩
        exact fin w' _ false _ (.inr ⟨rfl, _, _, rfl⟩) hb
    · cases h1
  · have hp : p ∈ [Pk.ro .str] := hp
    simp only [List.mem_cons, List.not_mem_nil, or_false] at hp
    subst hp
    first | trivial | (intro h; rfl) | rfl
  · have hp : p ∈ [((.int .i64 : Kd), true), (.err, true)] := hp
    simp only [List.mem_cons, List.not_mem_nil, or_false] at hp
    rcases hp with rfl | rfl <;> first | trivial | (intro h; rfl) | rfl
end Go.Ev
