import Derived.Test.YtlffgllmjjkfdaaDoorProg
import Derived.Test.YtlffgllmjjkfdaaDoorEvPure
import Derived.Test.YtlffgllmjjkfdaaDoorEvText
import Derived.Test.YtlffgllmjjkfdaaDoorLaysItoa
import Derived.Test.YtlffgllmjjkfdaaDoorLaysSplit
import Derived.Test.YtlffgllmjjkfdaaDoorLaysAtoi
/- The kinds of the types that these texts use. -/
set_option linter.unusedVariables false
set_option linter.unusedSimpArgs false
set_option maxRecDepth 100000
namespace Go.Proofs.YtlffgllmjjkfdaaDoor.V
open Go Go.Ev Go.Proofs

instance laxI : Lax := ⟨false⟩
def textL : List (String × (Array Value → Prop)) := [("internal/strconv.uint64pow10", isTab .u64 Lib.pow10Tab), ("internal/bytealg.MaxLen", isInt), ("strconv.ErrSyntax", isErr), ("strconv.ErrRange", isErr)]
noncomputable def textPre : WPre := varPre Tryd.prog textL
abbrev kstring : Kd := .str
abbrev kbool : Kd := .bool
abbrev kint : Kd := .int .i64
abbrev kSint : Kd := .sl 3 kint
abbrev kuint8 : Kd := .int .u8
abbrev kSstring : Kd := .sl 9 kstring
abbrev kSuint8 : Kd := .sl 5 kuint8
abbrev kerror : Kd := .err
abbrev kClue : Kd := .st (.pair kint (.pair kint kint))
abbrev kSClue : Kd := .sl 54 kClue
abbrev kPuzzle : Kd := .st kSClue
abbrev kwClue : Kd := .st (.pair kint (.pair kint kint))
abbrev kSwClue : Kd := .sl 69 kwClue
abbrev kwPuzzle : Kd := .st kSwClue
noncomputable def tyL : List (Nat × Kd) := [(9, kstring), (4, kbool), (3, kint), (22, kSint), (5, kuint8), (52, kSstring), (72, kSuint8), (77, kerror), (54, kClue), (33, kSClue), (35, kPuzzle), (69, kwClue), (28, kSwClue), (30, kwPuzzle)]
theorem fit9 : TyFit Tryd.prog lim0 9 kstring := ⟨⟨_, Tryd.type9, rfl, rfl⟩, Tryd.underlying9⟩
theorem fit4 : TyFit Tryd.prog lim0 4 kbool := ⟨⟨_, Tryd.type4, rfl, rfl⟩, Tryd.underlying4⟩
theorem fit3 : TyFit Tryd.prog lim0 3 kint := ⟨⟨_, Tryd.type3, rfl, rfl⟩, Tryd.underlying3⟩
theorem fit22 : TyFit Tryd.prog lim0 22 kSint := ⟨⟨_, Tryd.type22, rfl, rfl⟩, rfl, Tryd.underlying22, _, Tryd.type3, rfl, rfl, of_decide_eq_true (by kernel_rfl), of_decide_eq_true (by kernel_rfl)⟩
theorem fit5 : TyFit Tryd.prog lim0 5 kuint8 := ⟨⟨_, Tryd.type5, rfl, rfl⟩, Tryd.underlying5⟩
theorem fit52 : TyFit Tryd.prog lim0 52 kSstring := ⟨⟨_, Tryd.type52, rfl, rfl⟩, rfl, Tryd.underlying52, _, Tryd.type9, rfl, rfl, of_decide_eq_true (by kernel_rfl), of_decide_eq_true (by kernel_rfl)⟩
theorem fit72 : TyFit Tryd.prog lim0 72 kSuint8 := ⟨⟨_, Tryd.type72, rfl, rfl⟩, rfl, Tryd.underlying72, _, Tryd.type5, rfl, rfl, of_decide_eq_true (by kernel_rfl), of_decide_eq_true (by kernel_rfl)⟩
theorem fit77 : TyFit Tryd.prog lim0 77 kerror := ⟨⟨_, Tryd.type77, rfl, rfl⟩, _, Tryd.underlying77⟩
theorem fit54 : TyFit Tryd.prog lim0 54 kClue := ⟨⟨_, Tryd.type54, rfl, rfl⟩, _, Tryd.underlying54, rfl, ⟨_, Tryd.type3, rfl⟩, rfl, ⟨_, Tryd.type3, rfl⟩, rfl, ⟨_, Tryd.type3, rfl⟩⟩
theorem fit33 : TyFit Tryd.prog lim0 33 kSClue := ⟨⟨_, Tryd.type33, rfl, rfl⟩, rfl, Tryd.underlying33, _, Tryd.type54, rfl, rfl, of_decide_eq_true (by kernel_rfl), of_decide_eq_true (by kernel_rfl)⟩
theorem fit35 : TyFit Tryd.prog lim0 35 kPuzzle := ⟨⟨_, Tryd.type35, rfl, rfl⟩, _, Tryd.underlying35, rfl, ⟨_, Tryd.type33, rfl⟩⟩
theorem fit69 : TyFit Tryd.prog lim0 69 kwClue := ⟨⟨_, Tryd.type69, rfl, rfl⟩, _, Tryd.underlying69, rfl, ⟨_, Tryd.type3, rfl⟩, rfl, ⟨_, Tryd.type3, rfl⟩, rfl, ⟨_, Tryd.type3, rfl⟩⟩
theorem fit28 : TyFit Tryd.prog lim0 28 kSwClue := ⟨⟨_, Tryd.type28, rfl, rfl⟩, rfl, Tryd.underlying28, _, Tryd.type69, rfl, rfl, of_decide_eq_true (by kernel_rfl), of_decide_eq_true (by kernel_rfl)⟩
theorem fit30 : TyFit Tryd.prog lim0 30 kwPuzzle := ⟨⟨_, Tryd.type30, rfl, rfl⟩, _, Tryd.underlying30, rfl, ⟨_, Tryd.type28, rfl⟩⟩
theorem tyFits : ∀ p, p ∈ tyL → TyFit Tryd.prog lim0 p.1 p.2 := by
  intro p hp
  simp only [tyL, List.mem_cons, List.not_mem_nil, or_false] at hp
  rcases hp with rfl | rfl | rfl | rfl | rfl | rfl | rfl | rfl | rfl | rfl | rfl | rfl | rfl | rfl
  · exact fit9
  · exact fit4
  · exact fit3
  · exact fit22
  · exact fit5
  · exact fit52
  · exact fit72
  · exact fit77
  · exact fit54
  · exact fit33
  · exact fit35
  · exact fit69
  · exact fit28
  · exact fit30
theorem tyEqs : ∀ p, p ∈ tyL → EqOk Tryd.prog p.1 p.2 := by
  intro p hp
  simp only [tyL, List.mem_cons, List.not_mem_nil, or_false] at hp
  rcases hp with rfl | rfl | rfl | rfl | rfl | rfl | rfl | rfl | rfl | rfl | rfl | rfl | rfl | rfl
  · exact trivial
  · exact trivial
  · exact trivial
  · exact trivial
  · exact trivial
  · exact trivial
  · exact trivial
  · exact trivial
  · exact fun _ => ⟨by kernel_rfl, by kernel_rfl, _, Tryd.underlying54, of_decide_eq_true (by kernel_rfl), rfl, Tryd.underlying3, of_decide_eq_true (by kernel_rfl), rfl, Tryd.underlying3, of_decide_eq_true (by kernel_rfl), rfl, Tryd.underlying3⟩
  · exact trivial
  · exact fun h => by cases h
  · exact fun _ => ⟨by kernel_rfl, by kernel_rfl, _, Tryd.underlying69, of_decide_eq_true (by kernel_rfl), rfl, Tryd.underlying3, of_decide_eq_true (by kernel_rfl), rfl, Tryd.underlying3, of_decide_eq_true (by kernel_rfl), rfl, Tryd.underlying3⟩
  · exact trivial
  · exact fun h => by cases h
noncomputable def env (nt : Nat) (l : List (Nat × FSpec)) (mv : List Nat) : Env := ⟨nt, fun t => lk tyL t, fun t => ([] : List Nat).any fun u => Nat.beq u t, lim0, spLk l, textPre, fun t => mv.any fun u => Nat.beq u t⟩
theorem tyOk (nt : Nat) (l : List (Nat × FSpec)) (mv : List Nat) : TyOk Tryd.prog (env nt l mv) := tyOk_of tyFits (fun t ht => by
  cases ht) tyEqs nt (spLk l) _ _
theorem spOk {nt : Nat} {l : List (Nat × FSpec)} {mv : List Nat} (h : AllCert Tryd.prog textPre l) : SpOk Tryd.prog (env nt l mv) := spOk_of h
theorem follows : Tryd.prog.follows .mixedOrders = true := by kernel_rfl
noncomputable def bodyOf (f : Func) : Code := match f.body with | some c => c | none => .skip
end Go.Proofs.YtlffgllmjjkfdaaDoor.V
