import Derived.Test.YtadcmhdjoglagaaDoorProg
import Derived.Test.YtadcmhdjoglagaaDoorEvPure
import Derived.Test.YtadcmhdjoglagaaDoorEvText
import Derived.Test.YtadcmhdjoglagaaDoorLaysItoa
import Derived.Test.YtadcmhdjoglagaaDoorLaysCut
import Derived.Test.YtadcmhdjoglagaaDoorLaysAtoi
/- The kinds of the types that these texts use. -/
set_option linter.unusedVariables false
set_option linter.unusedSimpArgs false
set_option maxRecDepth 100000
namespace Go.Proofs.YtadcmhdjoglagaaDoor.V
open Go Go.Ev Go.Proofs

instance laxI : Lax := ⟨false⟩
def textL : List (String × (Array Value → Prop)) := [("internal/strconv.uint64pow10", isTab .u64 Lib.pow10Tab), ("internal/bytealg.MaxLen", isInt), ("strconv.ErrSyntax", isErr), ("strconv.ErrRange", isErr)]
noncomputable def textPre : WPre := varPre Tryd.prog textL
abbrev kint : Kd := .int .i64
abbrev kMoving : Kd := .st (.pair kint kint)
abbrev kbool : Kd := .bool
abbrev kstring : Kd := .str
abbrev kuint8 : Kd := .int .u8
abbrev kSuint8 : Kd := .sl 5 kuint8
abbrev kerror : Kd := .err
abbrev kSstring : Kd := .sl 9 kstring
abbrev kuint64 : Kd := .int .u64
abbrev ksl1Cur : Kd := .st (.pair kSuint8 (.pair kint kuint64))
abbrev kSint : Kd := .sl 3 kint
noncomputable def tyL : List (Nat × Kd) := [(3, kint), (25, kMoving), (4, kbool), (9, kstring), (5, kuint8), (22, kSuint8), (69, kerror), (72, kSstring), (46, kuint64), (48, ksl1Cur), (60, kSint)]
theorem fit3 : TyFit Tryd.prog lim0 3 kint := ⟨⟨_, Tryd.type3, rfl, rfl⟩, Tryd.underlying3⟩
theorem fit25 : TyFit Tryd.prog lim0 25 kMoving := ⟨⟨_, Tryd.type25, rfl, rfl⟩, _, Tryd.underlying25, rfl, ⟨_, Tryd.type3, rfl⟩, rfl, ⟨_, Tryd.type3, rfl⟩⟩
theorem fit4 : TyFit Tryd.prog lim0 4 kbool := ⟨⟨_, Tryd.type4, rfl, rfl⟩, Tryd.underlying4⟩
theorem fit9 : TyFit Tryd.prog lim0 9 kstring := ⟨⟨_, Tryd.type9, rfl, rfl⟩, Tryd.underlying9⟩
theorem fit5 : TyFit Tryd.prog lim0 5 kuint8 := ⟨⟨_, Tryd.type5, rfl, rfl⟩, Tryd.underlying5⟩
theorem fit22 : TyFit Tryd.prog lim0 22 kSuint8 := ⟨⟨_, Tryd.type22, rfl, rfl⟩, rfl, Tryd.underlying22, _, Tryd.type5, rfl, rfl, of_decide_eq_true (by kernel_rfl), of_decide_eq_true (by kernel_rfl)⟩
theorem fit69 : TyFit Tryd.prog lim0 69 kerror := ⟨⟨_, Tryd.type69, rfl, rfl⟩, _, Tryd.underlying69⟩
theorem fit72 : TyFit Tryd.prog lim0 72 kSstring := ⟨⟨_, Tryd.type72, rfl, rfl⟩, rfl, Tryd.underlying72, _, Tryd.type9, rfl, rfl, of_decide_eq_true (by kernel_rfl), of_decide_eq_true (by kernel_rfl)⟩
theorem fit46 : TyFit Tryd.prog lim0 46 kuint64 := ⟨⟨_, Tryd.type46, rfl, rfl⟩, Tryd.underlying46⟩
theorem fit48 : TyFit Tryd.prog lim0 48 ksl1Cur := ⟨⟨_, Tryd.type48, rfl, rfl⟩, _, Tryd.underlying48, rfl, ⟨_, Tryd.type22, rfl⟩, rfl, ⟨_, Tryd.type3, rfl⟩, rfl, ⟨_, Tryd.type46, rfl⟩⟩
theorem fit60 : TyFit Tryd.prog lim0 60 kSint := ⟨⟨_, Tryd.type60, rfl, rfl⟩, rfl, Tryd.underlying60, _, Tryd.type3, rfl, rfl, of_decide_eq_true (by kernel_rfl), of_decide_eq_true (by kernel_rfl)⟩
theorem tyFits : ∀ p, p ∈ tyL → TyFit Tryd.prog lim0 p.1 p.2 := by
  intro p hp
  simp only [tyL, List.mem_cons, List.not_mem_nil, or_false] at hp
  rcases hp with rfl | rfl | rfl | rfl | rfl | rfl | rfl | rfl | rfl | rfl | rfl
  · exact fit3
  · exact fit25
  · exact fit4
  · exact fit9
  · exact fit5
  · exact fit22
  · exact fit69
  · exact fit72
  · exact fit46
  · exact fit48
  · exact fit60
theorem tyEqs : ∀ p, p ∈ tyL → EqOk Tryd.prog p.1 p.2 := by
  intro p hp
  simp only [tyL, List.mem_cons, List.not_mem_nil, or_false] at hp
  rcases hp with rfl | rfl | rfl | rfl | rfl | rfl | rfl | rfl | rfl | rfl | rfl
  · exact trivial
  · exact fun _ => ⟨by kernel_rfl, by kernel_rfl, _, Tryd.underlying25, of_decide_eq_true (by kernel_rfl), rfl, Tryd.underlying3, of_decide_eq_true (by kernel_rfl), rfl, Tryd.underlying3⟩
  · exact trivial
  · exact trivial
  · exact trivial
  · exact trivial
  · exact trivial
  · exact trivial
  · exact trivial
  · exact fun h => by cases h
  · exact trivial
noncomputable def env (nt : Nat) (l : List (Nat × FSpec)) (mv : List Nat) : Env := ⟨nt, fun t => lk tyL t, fun t => ([] : List Nat).any fun u => Nat.beq u t, lim0, spLk l, textPre, fun t => mv.any fun u => Nat.beq u t⟩
theorem tyOk (nt : Nat) (l : List (Nat × FSpec)) (mv : List Nat) : TyOk Tryd.prog (env nt l mv) := tyOk_of tyFits (fun t ht => by
  cases ht) tyEqs nt (spLk l) _ _
theorem spOk {nt : Nat} {l : List (Nat × FSpec)} {mv : List Nat} (h : AllCert Tryd.prog textPre l) : SpOk Tryd.prog (env nt l mv) := spOk_of h
theorem follows : Tryd.prog.follows .mixedOrders = true := by kernel_rfl
noncomputable def bodyOf (f : Func) : Code := match f.body with | some c => c | none => .skip
end Go.Proofs.YtadcmhdjoglagaaDoor.V
