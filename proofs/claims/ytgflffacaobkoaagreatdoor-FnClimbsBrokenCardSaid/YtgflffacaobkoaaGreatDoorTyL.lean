import Derived.Test.YtgflffacaobkoaaGreatDoorProg
import Derived.Test.YtgflffacaobkoaaGreatDoorEvPure
import Derived.Test.YtgflffacaobkoaaGreatDoorEvText
import Derived.Test.YtgflffacaobkoaaGreatDoorEvSortI
import Derived.Test.YtgflffacaobkoaaGreatDoorLaysItoa
import Derived.Test.YtgflffacaobkoaaGreatDoorLaysSplit
import Derived.Test.YtgflffacaobkoaaGreatDoorLaysCut
import Derived.Test.YtgflffacaobkoaaGreatDoorLaysAtoi
import Derived.Test.YtgflffacaobkoaaGreatDoorLaysJoin
import Derived.Test.YtgflffacaobkoaaGreatDoorLaysortI
/- The kinds of the types that these texts use. -/
set_option linter.unusedVariables false
set_option linter.unusedSimpArgs false
set_option maxRecDepth 100000
namespace Go.Proofs.YtgflffacaobkoaaGreatDoor.V
open Go Go.Ev Go.Proofs

instance laxI : Lax := ⟨false⟩
def textL : List (String × (Array Value → Prop)) := [("internal/strconv.uint64pow10", isTab .u64 Lib.pow10Tab), ("internal/bytealg.MaxLen", isInt), ("strconv.ErrSyntax", isErr), ("strconv.ErrRange", isErr)]
noncomputable def textPre : WPre := varPre Tryz.prog textL
abbrev kint : Kd := .int .i64
abbrev kSint : Kd := .sl 3 kint
abbrev kStairs : Kd := .st (.pair kint (.pair kSint kSint))
abbrev kbool : Kd := .bool
abbrev kSbool : Kd := .sl 4 kbool
abbrev kuint : Kd := .int .u64
abbrev kstring : Kd := .str
abbrev kSstring : Kd := .sl 9 kstring
abbrev kuint8 : Kd := .int .u8
abbrev kSuint8 : Kd := .sl 5 kuint8
abbrev kerror : Kd := .err
abbrev kuint64 : Kd := .int .u64
abbrev ksl1Cur : Kd := .st (.pair kSuint8 (.pair kint kuint64))
abbrev kSSint : Kd := .sl 22 kSint
noncomputable def tyL : List (Nat × Kd) := [(3, kint), (22, kSint), (24, kStairs), (4, kbool), (56, kSbool), (92, kuint), (9, kstring), (82, kSstring), (5, kuint8), (44, kSuint8), (86, kerror), (73, kuint64), (75, ksl1Cur), (96, kSSint)]
theorem fit3 : TyFit Tryz.prog lim0 3 kint := ⟨⟨_, Tryz.type3, rfl, rfl⟩, Tryz.underlying3⟩
theorem fit22 : TyFit Tryz.prog lim0 22 kSint := ⟨⟨_, Tryz.type22, rfl, rfl⟩, rfl, Tryz.underlying22, _, Tryz.type3, rfl, rfl, of_decide_eq_true (by kernel_rfl), of_decide_eq_true (by kernel_rfl)⟩
theorem fit24 : TyFit Tryz.prog lim0 24 kStairs := ⟨⟨_, Tryz.type24, rfl, rfl⟩, _, Tryz.underlying24, rfl, ⟨_, Tryz.type3, rfl⟩, rfl, ⟨_, Tryz.type22, rfl⟩, rfl, ⟨_, Tryz.type22, rfl⟩⟩
theorem fit4 : TyFit Tryz.prog lim0 4 kbool := ⟨⟨_, Tryz.type4, rfl, rfl⟩, Tryz.underlying4⟩
theorem fit56 : TyFit Tryz.prog lim0 56 kSbool := ⟨⟨_, Tryz.type56, rfl, rfl⟩, rfl, Tryz.underlying56, _, Tryz.type4, rfl, rfl, of_decide_eq_true (by kernel_rfl), of_decide_eq_true (by kernel_rfl)⟩
theorem fit92 : TyFit Tryz.prog lim0 92 kuint := ⟨⟨_, Tryz.type92, rfl, rfl⟩, Tryz.underlying92⟩
theorem fit9 : TyFit Tryz.prog lim0 9 kstring := ⟨⟨_, Tryz.type9, rfl, rfl⟩, Tryz.underlying9⟩
theorem fit82 : TyFit Tryz.prog lim0 82 kSstring := ⟨⟨_, Tryz.type82, rfl, rfl⟩, rfl, Tryz.underlying82, _, Tryz.type9, rfl, rfl, of_decide_eq_true (by kernel_rfl), of_decide_eq_true (by kernel_rfl)⟩
theorem fit5 : TyFit Tryz.prog lim0 5 kuint8 := ⟨⟨_, Tryz.type5, rfl, rfl⟩, Tryz.underlying5⟩
theorem fit44 : TyFit Tryz.prog lim0 44 kSuint8 := ⟨⟨_, Tryz.type44, rfl, rfl⟩, rfl, Tryz.underlying44, _, Tryz.type5, rfl, rfl, of_decide_eq_true (by kernel_rfl), of_decide_eq_true (by kernel_rfl)⟩
theorem fit86 : TyFit Tryz.prog lim0 86 kerror := ⟨⟨_, Tryz.type86, rfl, rfl⟩, _, Tryz.underlying86⟩
theorem fit73 : TyFit Tryz.prog lim0 73 kuint64 := ⟨⟨_, Tryz.type73, rfl, rfl⟩, Tryz.underlying73⟩
theorem fit75 : TyFit Tryz.prog lim0 75 ksl1Cur := ⟨⟨_, Tryz.type75, rfl, rfl⟩, _, Tryz.underlying75, rfl, ⟨_, Tryz.type44, rfl⟩, rfl, ⟨_, Tryz.type3, rfl⟩, rfl, ⟨_, Tryz.type73, rfl⟩⟩
theorem fit96 : TyFit Tryz.prog lim0 96 kSSint := ⟨⟨_, Tryz.type96, rfl, rfl⟩, rfl, Tryz.underlying96, _, Tryz.type22, rfl, rfl, of_decide_eq_true (by kernel_rfl), of_decide_eq_true (by kernel_rfl)⟩
theorem tyFits : ∀ p, p ∈ tyL → TyFit Tryz.prog lim0 p.1 p.2 := by
  intro p hp
  simp only [tyL, List.mem_cons, List.not_mem_nil, or_false] at hp
  rcases hp with rfl | rfl | rfl | rfl | rfl | rfl | rfl | rfl | rfl | rfl | rfl | rfl | rfl | rfl
  · exact fit3
  · exact fit22
  · exact fit24
  · exact fit4
  · exact fit56
  · exact fit92
  · exact fit9
  · exact fit82
  · exact fit5
  · exact fit44
  · exact fit86
  · exact fit73
  · exact fit75
  · exact fit96
theorem tyEqs : ∀ p, p ∈ tyL → EqOk Tryz.prog p.1 p.2 := by
  intro p hp
  simp only [tyL, List.mem_cons, List.not_mem_nil, or_false] at hp
  rcases hp with rfl | rfl | rfl | rfl | rfl | rfl | rfl | rfl | rfl | rfl | rfl | rfl | rfl | rfl
  · exact trivial
  · exact trivial
  · exact fun h => by cases h
  · exact trivial
  · exact trivial
  · exact trivial
  · exact trivial
  · exact trivial
  · exact trivial
  · exact trivial
  · exact trivial
  · exact trivial
  · exact fun h => by cases h
  · exact trivial
noncomputable def env (nt : Nat) (l : List (Nat × FSpec)) (mv : List Nat) : Env := ⟨nt, fun t => lk tyL t, fun t => ([] : List Nat).any fun u => Nat.beq u t, lim0, spLk l, textPre, fun t => mv.any fun u => Nat.beq u t⟩
theorem tyOk (nt : Nat) (l : List (Nat × FSpec)) (mv : List Nat) : TyOk Tryz.prog (env nt l mv) := tyOk_of tyFits (fun t ht => by
  cases ht) tyEqs nt (spLk l) _ _
theorem spOk {nt : Nat} {l : List (Nat × FSpec)} {mv : List Nat} (h : AllCert Tryz.prog textPre l) : SpOk Tryz.prog (env nt l mv) := spOk_of h
theorem follows : Tryz.prog.follows .mixedOrders = true := by kernel_rfl
noncomputable def bodyOf (f : Func) : Code := match f.body with | some c => c | none => .skip
end Go.Proofs.YtgflffacaobkoaaGreatDoor.V
