/- strings.Index and strings.Contains where what is sought is one byte: their contracts. -/
import Derived.Test.YtmiimfpdlkmjhaaGreatDoorEvLim
import Derived.Test.YtmiimfpdlkmjhaaGreatDoorEvOp
import Derived.Shelf.Strings.Search3
set_option linter.unusedVariables false
set_option linter.unusedSectionVars false
set_option linter.unusedSimpArgs false
namespace Go.Ev
open Go Go.Proofs
variable [Lax]

theorem bytes_one {s : ByteArray} (h : s.size = 1) : s = ⟨#[s.data[0]!]⟩ := by
  cases s with
  | mk d =>
    have h : d.size = 1 := h
    congr 1
    apply Array.ext
    · rw [h]; rfl
    · intro i h1 h2
      have : i = 0 := by omega
      subst this
      rw [getElem!_pos d 0 (by omega)]
      rfl
/-- a call that leaves the world as it was -/
theorem after_same (w : World) (Z : Nat → Prop) (F : List Nat) : After w w Z Z F F [] :=
  ⟨rfl, rfl, ⟨rfl, DrLe.refl _⟩, Nat.le_refl _, fun _ _ _ => rfl, List.nodup_nil, ⟨fun h => h, fun _ h => h⟩, (fun b hb => by cases hb), fun _ h => h, fun b h => .inl h⟩
/-- where one byte is in a text -/
def idx1 (s sub : ByteArray) : Option Int := if sub.size = 1 then some (Lib.indexByte s.data.toList sub.data[0]!) else none
def has1 (s sub : ByteArray) : Option Bool := (idx1 s sub).map fun n => decide (0 ≤ n)
theorem idx1_cert {P : Program} {ρ : Go.Shelf.Ren} (L : Lays.n143 P ρ) {f : FuncId} (hf : ρ.f 143 = f) (hgo : GoFn P f) :
    Cert P f (mkF (T := Int) WPre.none [.ro .str, .ro .str] [(.int .i64, true)] (fun t => ((t, ()), ((), (), ()))) (fun x => idx1 x.1 x.2.1)) := by
  refine ⟨hgo, ?_, fun p hp => ?_, fun p hp => ?_⟩
  · rintro w Z ⟨s, sub, _⟩ args F _ hin hF hFZ hZ o u ⟨t, h1, h2⟩
    subst hf
    obtain ⟨v, vs', F1, F2, rfl, rfl, ⟨rfl, c1, hr1, rfl⟩, ⟨v2, vs2, F3, F4, rfl, rfl, ⟨rfl, c2, hr2, rfl⟩, ⟨rfl, rfl⟩⟩⟩ := hin
    have hr1 : c1 = [.string s] := hr1
    have hr2 : c2 = [.string sub] := hr2
    subst hr1
    subst hr2
    have h1 : idx1 s sub = some t := h1
    unfold idx1 at h1
    split at h1
    · rename_i hc
      cases h1
      cases h2
      have := Any.strings_Index_one L s sub.data[0]! w
      rw [← bytes_one hc] at this
      refine Calls.mono this ?_
      rintro en w' ⟨rfl, rfl⟩
      exact ⟨[.int .i64 (Lib.indexByte s.data.toList sub.data[0]!)], [], [], Z, rfl, ⟨[.int .i64 _], [], [], [], rfl, rfl, ⟨rfl, rfl⟩, ⟨rfl, rfl⟩⟩, ⟨_, _, [], [], rfl, rfl, rfl, _, _, [], [], rfl, rfl, rfl, rfl, rfl⟩, after_same _ _ _⟩
    · cases h1
  · have hp : p ∈ [Pk.ro .str, Pk.ro .str] := hp
    simp only [List.mem_cons, List.not_mem_nil, or_false] at hp
    rcases hp with rfl | rfl <;> first | trivial | (intro h; rfl) | rfl
  · have hp : p ∈ [((.int .i64 : Kd), true)] := hp
    simp only [List.mem_cons, List.not_mem_nil, or_false] at hp
    subst hp
    first | trivial | (intro h; rfl) | rfl
theorem has1_cert {P : Program} {ρ : Go.Shelf.Ren} (L : Lays.n144 P ρ) {f : FuncId} (hf : ρ.f 144 = f) (hgo : GoFn P f) :
    Cert P f (mkF (T := Bool) WPre.none [.ro .str, .ro .str] [(.bool, true)] (fun t => ((t, ()), ((), (), ()))) (fun x => has1 x.1 x.2.1)) := by
  refine ⟨hgo, ?_, fun p hp => ?_, fun p hp => ?_⟩
  · rintro w Z ⟨s, sub, _⟩ args F _ hin hF hFZ hZ o u ⟨t, h1, h2⟩
    subst hf
    obtain ⟨v, vs', F1, F2, rfl, rfl, ⟨rfl, c1, hr1, rfl⟩, ⟨v2, vs2, F3, F4, rfl, rfl, ⟨rfl, c2, hr2, rfl⟩, ⟨rfl, rfl⟩⟩⟩ := hin
    have hr1 : c1 = [.string s] := hr1
    have hr2 : c2 = [.string sub] := hr2
    subst hr1
    subst hr2
    have h1 : has1 s sub = some t := h1
    unfold has1 idx1 at h1
    split at h1
    · rename_i hc
      cases h1
      cases h2
      have := Any.strings_Contains_one L s sub.data[0]! w
      rw [← bytes_one hc] at this
      refine Calls.mono this ?_
      rintro en w' ⟨rfl, rfl⟩
      exact ⟨[.bool _], [], [], Z, rfl, ⟨[.bool _], [], [], [], rfl, rfl, ⟨rfl, rfl⟩, ⟨rfl, rfl⟩⟩, ⟨_, _, [], [], rfl, rfl, rfl, _, _, [], [], rfl, rfl, rfl, rfl, rfl⟩, after_same _ _ _⟩
    · cases h1
  · have hp : p ∈ [Pk.ro .str, Pk.ro .str] := hp
    simp only [List.mem_cons, List.not_mem_nil, or_false] at hp
    rcases hp with rfl | rfl <;> first | trivial | (intro h; rfl) | rfl
  · have hp : p ∈ [((.bool : Kd), true)] := hp
    simp only [List.mem_cons, List.not_mem_nil, or_false] at hp
    subst hp
    first | trivial | (intro h; rfl) | rfl
end Go.Ev
