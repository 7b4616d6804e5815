import Derived.Test.YtddiigejhjfhdaaGreatDoorProg
import Derived.Test.YtddiigejhjfhdaaGreatDoorEvPure
import Derived.Test.YtddiigejhjfhdaaGreatDoorEvText
import Derived.Test.YtddiigejhjfhdaaGreatDoorEvSort
import Derived.Test.YtddiigejhjfhdaaGreatDoorLaysItoa
import Derived.Test.YtddiigejhjfhdaaGreatDoorLaysSplit
import Derived.Test.YtddiigejhjfhdaaGreatDoorLaysAtoi
import Derived.Test.YtddiigejhjfhdaaGreatDoorLaysJoin
import Derived.Test.YtddiigejhjfhdaaGreatDoorLaysort
/- The kinds of the types that these texts use. -/
set_option linter.unusedVariables false
set_option linter.unusedSimpArgs false
set_option maxRecDepth 100000
namespace Go.Proofs.YtddiigejhjfhdaaGreatDoor.V
open Go Go.Ev Go.Proofs

set_option linter.unusedSectionVars false
section
variable [Lax]
def textL : List (String × (Array Value → Prop)) := [("internal/strconv.uint64pow10", isTab .u64 Lib.pow10Tab), ("internal/bytealg.MaxLen", isInt), ("strconv.ErrSyntax", isErr), ("strconv.ErrRange", isErr)]
noncomputable def textPre : WPre := varPre Tryz.prog textL
abbrev kint : Kd := .int .i64
abbrev kSint : Kd := .sl 3 kint
abbrev kbool : Kd := .bool
abbrev kchoice : Kd := .st (.pair kSint kint)
abbrev kSchoice : Kd := .sl 50 kchoice
abbrev kuint : Kd := .int .u64
abbrev kstring : Kd := .str
abbrev kSstring : Kd := .sl 9 kstring
abbrev kerror : Kd := .err
abbrev kuint8 : Kd := .int .u8
abbrev kSuint8 : Kd := .sl 5 kuint8
abbrev kuint64 : Kd := .int .u64
abbrev ksl1Cur : Kd := .st (.pair kSuint8 (.pair kint kuint64))
noncomputable def tyL : List (Nat × Kd) := [(3, kint), (22, kSint), (4, kbool), (50, kchoice), (75, kSchoice), (99, kuint), (9, kstring), (61, kSstring), (91, kerror), (5, kuint8), (39, kSuint8), (67, kuint64), (69, ksl1Cur)]
theorem fit3 : TyFit Tryz.prog lim0 3 kint := ⟨⟨_, Tryz.type3, rfl, rfl⟩, Tryz.underlying3⟩
theorem fit22 : TyFit Tryz.prog lim0 22 kSint := ⟨⟨_, Tryz.type22, rfl, rfl⟩, rfl, Tryz.underlying22, _, Tryz.type3, rfl, rfl, of_decide_eq_true (by kernel_rfl), of_decide_eq_true (by kernel_rfl)⟩
theorem fit4 : TyFit Tryz.prog lim0 4 kbool := ⟨⟨_, Tryz.type4, rfl, rfl⟩, Tryz.underlying4⟩
theorem fit50 : TyFit Tryz.prog lim0 50 kchoice := ⟨⟨_, Tryz.type50, rfl, rfl⟩, _, Tryz.underlying50, rfl, ⟨_, Tryz.type22, rfl⟩, rfl, ⟨_, Tryz.type3, rfl⟩⟩
theorem fit75 : TyFit Tryz.prog lim0 75 kSchoice := ⟨⟨_, Tryz.type75, rfl, rfl⟩, rfl, Tryz.underlying75, _, Tryz.type50, rfl, rfl, of_decide_eq_true (by kernel_rfl), of_decide_eq_true (by kernel_rfl)⟩
theorem fit99 : TyFit Tryz.prog lim0 99 kuint := ⟨⟨_, Tryz.type99, rfl, rfl⟩, Tryz.underlying99⟩
theorem fit9 : TyFit Tryz.prog lim0 9 kstring := ⟨⟨_, Tryz.type9, rfl, rfl⟩, Tryz.underlying9⟩
theorem fit61 : TyFit Tryz.prog lim0 61 kSstring := ⟨⟨_, Tryz.type61, rfl, rfl⟩, rfl, Tryz.underlying61, _, Tryz.type9, rfl, rfl, of_decide_eq_true (by kernel_rfl), of_decide_eq_true (by kernel_rfl)⟩
theorem fit91 : TyFit Tryz.prog lim0 91 kerror := ⟨⟨_, Tryz.type91, rfl, rfl⟩, _, Tryz.underlying91⟩
theorem fit5 : TyFit Tryz.prog lim0 5 kuint8 := ⟨⟨_, Tryz.type5, rfl, rfl⟩, Tryz.underlying5⟩
theorem fit39 : TyFit Tryz.prog lim0 39 kSuint8 := ⟨⟨_, Tryz.type39, rfl, rfl⟩, rfl, Tryz.underlying39, _, Tryz.type5, rfl, rfl, of_decide_eq_true (by kernel_rfl), of_decide_eq_true (by kernel_rfl)⟩
theorem fit67 : TyFit Tryz.prog lim0 67 kuint64 := ⟨⟨_, Tryz.type67, rfl, rfl⟩, Tryz.underlying67⟩
theorem fit69 : TyFit Tryz.prog lim0 69 ksl1Cur := ⟨⟨_, Tryz.type69, rfl, rfl⟩, _, Tryz.underlying69, rfl, ⟨_, Tryz.type39, rfl⟩, rfl, ⟨_, Tryz.type3, rfl⟩, rfl, ⟨_, Tryz.type67, rfl⟩⟩
theorem tyFits : ∀ p, p ∈ tyL → TyFit Tryz.prog lim0 p.1 p.2 := by
  intro p hp
  simp only [tyL, List.mem_cons, List.not_mem_nil, or_false] at hp
  rcases hp with rfl | rfl | rfl | rfl | rfl | rfl | rfl | rfl | rfl | rfl | rfl | rfl | rfl
  · exact fit3
  · exact fit22
  · exact fit4
  · exact fit50
  · exact fit75
  · exact fit99
  · exact fit9
  · exact fit61
  · exact fit91
  · exact fit5
  · exact fit39
  · exact fit67
  · exact fit69
theorem tyEqs : ∀ p, p ∈ tyL → EqOk Tryz.prog p.1 p.2 := by
  intro p hp
  simp only [tyL, List.mem_cons, List.not_mem_nil, or_false] at hp
  rcases hp with rfl | rfl | rfl | rfl | rfl | rfl | rfl | rfl | rfl | rfl | rfl | rfl | rfl
  · exact trivial
  · exact trivial
  · exact trivial
  · exact fun h => by cases h
  · exact trivial
  · exact trivial
  · exact trivial
  · exact trivial
  · exact trivial
  · exact trivial
  · exact trivial
  · exact trivial
  · exact fun h => by cases h
noncomputable def env (nt : Nat) (l : List (Nat × FSpec)) (mv : List Nat) : Env := ⟨nt, fun t => lk tyL t, fun t => ([] : List Nat).any fun u => Nat.beq u t, lim0, spLk l, textPre, fun t => mv.any fun u => Nat.beq u t⟩
theorem tyOk (nt : Nat) (l : List (Nat × FSpec)) (mv : List Nat) : TyOk Tryz.prog (env nt l mv) := tyOk_of tyFits (fun t ht => by
  cases ht) tyEqs nt (spLk l) _ _
theorem spOk {nt : Nat} {l : List (Nat × FSpec)} {mv : List Nat} (h : AllCert Tryz.prog textPre l) : SpOk Tryz.prog (env nt l mv) := spOk_of h
end
instance laxI : Lax := ⟨false⟩
theorem follows : Tryz.prog.follows .mixedOrders = true := by kernel_rfl
noncomputable def bodyOf (f : Func) : Code := match f.body with | some c => c | none => .skip
end Go.Proofs.YtddiigejhjfhdaaGreatDoor.V
