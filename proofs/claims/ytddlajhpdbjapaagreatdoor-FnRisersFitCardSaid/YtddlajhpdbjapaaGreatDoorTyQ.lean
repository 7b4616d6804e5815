import Derived.Test.YtddlajhpdbjapaaGreatDoorProg
import Derived.Test.YtddlajhpdbjapaaGreatDoorEvPure
import Derived.Test.YtddlajhpdbjapaaGreatDoorEvText
import Derived.Test.YtddlajhpdbjapaaGreatDoorLaysItoa
import Derived.Test.YtddlajhpdbjapaaGreatDoorLaysCut
import Derived.Test.YtddlajhpdbjapaaGreatDoorLaysAtoi
/- The kinds of the types that these texts use. -/
set_option linter.unusedVariables false
set_option linter.unusedSimpArgs false
set_option maxRecDepth 100000
namespace Go.Proofs.YtddlajhpdbjapaaGreatDoor.V
open Go Go.Ev Go.Proofs

instance laxI : Lax := ⟨false⟩
def textL : List (String × (Array Value → Prop)) := [("internal/strconv.uint64pow10", isTab .u64 Lib.pow10Tab), ("internal/bytealg.MaxLen", isInt), ("strconv.ErrSyntax", isErr), ("strconv.ErrRange", isErr)]
noncomputable def textPre : WPre := varPre Tryz.prog textL
abbrev kint : Kd := .int .i64
abbrev kFlight : Kd := .st (.pair kint (.pair kint kint))
abbrev kbool : Kd := .bool
abbrev kstring : Kd := .str
abbrev kuint8 : Kd := .int .u8
abbrev kSuint8 : Kd := .sl 5 kuint8
abbrev kerror : Kd := .err
abbrev kSstring : Kd := .sl 9 kstring
abbrev kSint : Kd := .sl 3 kint
abbrev kSFlight : Kd := .sl 52 kFlight
abbrev kuint64 : Kd := .int .u64
abbrev ksl1Cur : Kd := .st (.pair kSuint8 (.pair kint kuint64))
noncomputable def tyL : List (Nat × Kd) := [(3, kint), (52, kFlight), (4, kbool), (9, kstring), (5, kuint8), (22, kSuint8), (100, kerror), (103, kSstring), (28, kSint), (68, kSFlight), (75, kuint64), (77, ksl1Cur)]
theorem fit3 : TyFit Tryz.prog lim0 3 kint := ⟨⟨_, Tryz.type3, rfl, rfl⟩, Tryz.underlying3⟩
theorem fit52 : TyFit Tryz.prog lim0 52 kFlight := ⟨⟨_, Tryz.type52, rfl, rfl⟩, _, Tryz.underlying52, rfl, ⟨_, Tryz.type3, rfl⟩, rfl, ⟨_, Tryz.type3, rfl⟩, rfl, ⟨_, Tryz.type3, rfl⟩⟩
theorem fit4 : TyFit Tryz.prog lim0 4 kbool := ⟨⟨_, Tryz.type4, rfl, rfl⟩, Tryz.underlying4⟩
theorem fit9 : TyFit Tryz.prog lim0 9 kstring := ⟨⟨_, Tryz.type9, rfl, rfl⟩, Tryz.underlying9⟩
theorem fit5 : TyFit Tryz.prog lim0 5 kuint8 := ⟨⟨_, Tryz.type5, rfl, rfl⟩, Tryz.underlying5⟩
theorem fit22 : TyFit Tryz.prog lim0 22 kSuint8 := ⟨⟨_, Tryz.type22, rfl, rfl⟩, rfl, Tryz.underlying22, _, Tryz.type5, rfl, rfl, of_decide_eq_true (by kernel_rfl), of_decide_eq_true (by kernel_rfl)⟩
theorem fit100 : TyFit Tryz.prog lim0 100 kerror := ⟨⟨_, Tryz.type100, rfl, rfl⟩, _, Tryz.underlying100⟩
theorem fit103 : TyFit Tryz.prog lim0 103 kSstring := ⟨⟨_, Tryz.type103, rfl, rfl⟩, rfl, Tryz.underlying103, _, Tryz.type9, rfl, rfl, of_decide_eq_true (by kernel_rfl), of_decide_eq_true (by kernel_rfl)⟩
theorem fit28 : TyFit Tryz.prog lim0 28 kSint := ⟨⟨_, Tryz.type28, rfl, rfl⟩, rfl, Tryz.underlying28, _, Tryz.type3, rfl, rfl, of_decide_eq_true (by kernel_rfl), of_decide_eq_true (by kernel_rfl)⟩
theorem fit68 : TyFit Tryz.prog lim0 68 kSFlight := ⟨⟨_, Tryz.type68, rfl, rfl⟩, rfl, Tryz.underlying68, _, Tryz.type52, rfl, rfl, of_decide_eq_true (by kernel_rfl), of_decide_eq_true (by kernel_rfl)⟩
theorem fit75 : TyFit Tryz.prog lim0 75 kuint64 := ⟨⟨_, Tryz.type75, rfl, rfl⟩, Tryz.underlying75⟩
theorem fit77 : TyFit Tryz.prog lim0 77 ksl1Cur := ⟨⟨_, Tryz.type77, rfl, rfl⟩, _, Tryz.underlying77, rfl, ⟨_, Tryz.type22, rfl⟩, rfl, ⟨_, Tryz.type3, rfl⟩, rfl, ⟨_, Tryz.type75, rfl⟩⟩
theorem tyFits : ∀ p, p ∈ tyL → TyFit Tryz.prog lim0 p.1 p.2 := by
  intro p hp
  simp only [tyL, List.mem_cons, List.not_mem_nil, or_false] at hp
  rcases hp with rfl | rfl | rfl | rfl | rfl | rfl | rfl | rfl | rfl | rfl | rfl | rfl
  · exact fit3
  · exact fit52
  · exact fit4
  · exact fit9
  · exact fit5
  · exact fit22
  · exact fit100
  · exact fit103
  · exact fit28
  · exact fit68
  · exact fit75
  · exact fit77
theorem tyEqs : ∀ p, p ∈ tyL → EqOk Tryz.prog p.1 p.2 := by
  intro p hp
  simp only [tyL, List.mem_cons, List.not_mem_nil, or_false] at hp
  rcases hp with rfl | rfl | rfl | rfl | rfl | rfl | rfl | rfl | rfl | rfl | rfl | rfl
  · exact trivial
  · exact fun _ => ⟨by kernel_rfl, by kernel_rfl, _, Tryz.underlying52, of_decide_eq_true (by kernel_rfl), rfl, Tryz.underlying3, of_decide_eq_true (by kernel_rfl), rfl, Tryz.underlying3, of_decide_eq_true (by kernel_rfl), rfl, Tryz.underlying3⟩
  · exact trivial
  · exact trivial
  · exact trivial
  · exact trivial
  · exact trivial
  · exact trivial
  · exact trivial
  · exact trivial
  · exact trivial
  · exact fun h => by cases h
noncomputable def env (nt : Nat) (l : List (Nat × FSpec)) (mv : List Nat) : Env := ⟨nt, fun t => lk tyL t, fun t => ([] : List Nat).any fun u => Nat.beq u t, lim0, spLk l, textPre, fun t => mv.any fun u => Nat.beq u t⟩
theorem tyOk (nt : Nat) (l : List (Nat × FSpec)) (mv : List Nat) : TyOk Tryz.prog (env nt l mv) := tyOk_of tyFits (fun t ht => by
  cases ht) tyEqs nt (spLk l) _ _
theorem spOk {nt : Nat} {l : List (Nat × FSpec)} {mv : List Nat} (h : AllCert Tryz.prog textPre l) : SpOk Tryz.prog (env nt l mv) := spOk_of h
theorem follows : Tryz.prog.follows .mixedOrders = true := by kernel_rfl
noncomputable def bodyOf (f : Func) : Code := match f.body with | some c => c | none => .skip
end Go.Proofs.YtddlajhpdbjapaaGreatDoor.V
