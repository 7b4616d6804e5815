import Derived.Test.YtmiimfpdlkmjhaaGreatDoorProg
import Derived.Test.YtmiimfpdlkmjhaaGreatDoorEvPure
import Derived.Test.YtmiimfpdlkmjhaaGreatDoorEvText
import Derived.Test.YtmiimfpdlkmjhaaGreatDoorLaysItoa
import Derived.Test.YtmiimfpdlkmjhaaGreatDoorLaysCut
import Derived.Test.YtmiimfpdlkmjhaaGreatDoorLaysAtoi
import Derived.Test.YtmiimfpdlkmjhaaGreatDoorLaysSplit
/- The kinds of the types that these texts use. -/
set_option linter.unusedVariables false
set_option linter.unusedSimpArgs false
set_option maxRecDepth 100000
namespace Go.Proofs.YtmiimfpdlkmjhaaGreatDoor.V
open Go Go.Ev Go.Proofs

instance laxI : Lax := ⟨false⟩
def textL : List (String × (Array Value → Prop)) := [("internal/strconv.uint64pow10", isTab .u64 Lib.pow10Tab), ("internal/bytealg.MaxLen", isInt), ("strconv.ErrSyntax", isErr), ("strconv.ErrRange", isErr)]
noncomputable def textPre : WPre := varPre Tryz.prog textL
abbrev kint : Kd := .int .i64
abbrev kSint : Kd := .sl 3 kint
abbrev kHouse : Kd := .st (.pair kSint kSint)
abbrev kbool : Kd := .bool
abbrev kstring : Kd := .str
abbrev kuint8 : Kd := .int .u8
abbrev kSuint8 : Kd := .sl 5 kuint8
abbrev kSstring : Kd := .sl 9 kstring
abbrev kerror : Kd := .err
abbrev kuint64 : Kd := .int .u64
abbrev ksl1Cur : Kd := .st (.pair kSuint8 (.pair kint kuint64))
noncomputable def tyL : List (Nat × Kd) := [(3, kint), (24, kSint), (26, kHouse), (4, kbool), (9, kstring), (5, kuint8), (22, kSuint8), (60, kSstring), (77, kerror), (66, kuint64), (68, ksl1Cur)]
theorem fit3 : TyFit Tryz.prog lim0 3 kint := ⟨⟨_, Tryz.type3, rfl, rfl⟩, Tryz.underlying3⟩
theorem fit24 : TyFit Tryz.prog lim0 24 kSint := ⟨⟨_, Tryz.type24, rfl, rfl⟩, rfl, Tryz.underlying24, _, Tryz.type3, rfl, rfl, of_decide_eq_true (by kernel_rfl), of_decide_eq_true (by kernel_rfl)⟩
theorem fit26 : TyFit Tryz.prog lim0 26 kHouse := ⟨⟨_, Tryz.type26, rfl, rfl⟩, _, Tryz.underlying26, rfl, ⟨_, Tryz.type24, rfl⟩, rfl, ⟨_, Tryz.type24, rfl⟩⟩
theorem fit4 : TyFit Tryz.prog lim0 4 kbool := ⟨⟨_, Tryz.type4, rfl, rfl⟩, Tryz.underlying4⟩
theorem fit9 : TyFit Tryz.prog lim0 9 kstring := ⟨⟨_, Tryz.type9, rfl, rfl⟩, Tryz.underlying9⟩
theorem fit5 : TyFit Tryz.prog lim0 5 kuint8 := ⟨⟨_, Tryz.type5, rfl, rfl⟩, Tryz.underlying5⟩
theorem fit22 : TyFit Tryz.prog lim0 22 kSuint8 := ⟨⟨_, Tryz.type22, rfl, rfl⟩, rfl, Tryz.underlying22, _, Tryz.type5, rfl, rfl, of_decide_eq_true (by kernel_rfl), of_decide_eq_true (by kernel_rfl)⟩
theorem fit60 : TyFit Tryz.prog lim0 60 kSstring := ⟨⟨_, Tryz.type60, rfl, rfl⟩, rfl, Tryz.underlying60, _, Tryz.type9, rfl, rfl, of_decide_eq_true (by kernel_rfl), of_decide_eq_true (by kernel_rfl)⟩
theorem fit77 : TyFit Tryz.prog lim0 77 kerror := ⟨⟨_, Tryz.type77, rfl, rfl⟩, _, Tryz.underlying77⟩
theorem fit66 : TyFit Tryz.prog lim0 66 kuint64 := ⟨⟨_, Tryz.type66, rfl, rfl⟩, Tryz.underlying66⟩
theorem fit68 : TyFit Tryz.prog lim0 68 ksl1Cur := ⟨⟨_, Tryz.type68, rfl, rfl⟩, _, Tryz.underlying68, rfl, ⟨_, Tryz.type22, rfl⟩, rfl, ⟨_, Tryz.type3, rfl⟩, rfl, ⟨_, Tryz.type66, rfl⟩⟩
theorem tyFits : ∀ p, p ∈ tyL → TyFit Tryz.prog lim0 p.1 p.2 := by
  intro p hp
  simp only [tyL, List.mem_cons, List.not_mem_nil, or_false] at hp
  rcases hp with rfl | rfl | rfl | rfl | rfl | rfl | rfl | rfl | rfl | rfl | rfl
  · exact fit3
  · exact fit24
  · exact fit26
  · exact fit4
  · exact fit9
  · exact fit5
  · exact fit22
  · exact fit60
  · exact fit77
  · exact fit66
  · exact fit68
theorem tyEqs : ∀ p, p ∈ tyL → EqOk Tryz.prog p.1 p.2 := by
  intro p hp
  simp only [tyL, List.mem_cons, List.not_mem_nil, or_false] at hp
  rcases hp with rfl | rfl | rfl | rfl | rfl | rfl | rfl | rfl | rfl | rfl | rfl
  · exact trivial
  · exact trivial
  · exact fun h => by cases h
  · exact trivial
  · exact trivial
  · exact trivial
  · exact trivial
  · exact trivial
  · exact trivial
  · exact trivial
  · exact fun h => by cases h
noncomputable def env (nt : Nat) (l : List (Nat × FSpec)) (mv : List Nat) : Env := ⟨nt, fun t => lk tyL t, fun t => ([] : List Nat).any fun u => Nat.beq u t, lim0, spLk l, textPre, fun t => mv.any fun u => Nat.beq u t⟩
theorem tyOk (nt : Nat) (l : List (Nat × FSpec)) (mv : List Nat) : TyOk Tryz.prog (env nt l mv) := tyOk_of tyFits (fun t ht => by
  cases ht) tyEqs nt (spLk l) _ _
theorem spOk {nt : Nat} {l : List (Nat × FSpec)} {mv : List Nat} (h : AllCert Tryz.prog textPre l) : SpOk Tryz.prog (env nt l mv) := spOk_of h
theorem follows : Tryz.prog.follows .mixedOrders = true := by kernel_rfl
noncomputable def bodyOf (f : Func) : Code := match f.body with | some c => c | none => .skip
end Go.Proofs.YtmiimfpdlkmjhaaGreatDoor.V
