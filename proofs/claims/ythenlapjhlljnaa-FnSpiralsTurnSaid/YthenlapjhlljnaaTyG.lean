import Derived.Test.YthenlapjhlljnaaProg
import Derived.Test.YthenlapjhlljnaaEvPure
import Derived.Test.YthenlapjhlljnaaLaysIdx
import Derived.Test.YthenlapjhlljnaaLaysHas
/- The kinds of the types that these texts use. -/
set_option linter.unusedVariables false
set_option linter.unusedSimpArgs false
set_option maxRecDepth 100000
namespace Go.Proofs.Ythenlapjhlljnaa.V
open Go Go.Ev Go.Proofs

abbrev kint : Kd := .int .i64
abbrev kSpiral : Kd := .st (.pair kint (.pair kint kint))
abbrev kbool : Kd := .bool
abbrev kSint : Kd := .sl 3 kint
abbrev kstring : Kd := .str
abbrev kuint8 : Kd := .int .u8
abbrev kSuint8 : Kd := .sl 5 kuint8
abbrev kuint64 : Kd := .int .u64
abbrev ksl1Cur : Kd := .st (.pair kSuint8 (.pair kint kuint64))
abbrev kSstring : Kd := .sl 9 kstring
noncomputable def tyL : List (Nat × Kd) := [(3, kint), (71, kSpiral), (4, kbool), (22, kSint), (9, kstring), (5, kuint8), (38, kSuint8), (126, kuint64), (128, ksl1Cur), (151, kSstring)]
theorem fit3 : TyFit Try.prog lim0 3 kint := ⟨⟨_, Try.type3, rfl, rfl⟩, Try.underlying3⟩
theorem fit71 : TyFit Try.prog lim0 71 kSpiral := ⟨⟨_, Try.type71, rfl, rfl⟩, _, Try.underlying71, rfl, ⟨_, Try.type3, rfl⟩, rfl, ⟨_, Try.type3, rfl⟩, rfl, ⟨_, Try.type3, rfl⟩⟩
theorem fit4 : TyFit Try.prog lim0 4 kbool := ⟨⟨_, Try.type4, rfl, rfl⟩, Try.underlying4⟩
theorem fit22 : TyFit Try.prog lim0 22 kSint := ⟨⟨_, Try.type22, rfl, rfl⟩, rfl, Try.underlying22, _, Try.type3, rfl, rfl, of_decide_eq_true (by kernel_rfl), of_decide_eq_true (by kernel_rfl)⟩
theorem fit9 : TyFit Try.prog lim0 9 kstring := ⟨⟨_, Try.type9, rfl, rfl⟩, Try.underlying9⟩
theorem fit5 : TyFit Try.prog lim0 5 kuint8 := ⟨⟨_, Try.type5, rfl, rfl⟩, Try.underlying5⟩
theorem fit38 : TyFit Try.prog lim0 38 kSuint8 := ⟨⟨_, Try.type38, rfl, rfl⟩, rfl, Try.underlying38, _, Try.type5, rfl, rfl, of_decide_eq_true (by kernel_rfl), of_decide_eq_true (by kernel_rfl)⟩
theorem fit126 : TyFit Try.prog lim0 126 kuint64 := ⟨⟨_, Try.type126, rfl, rfl⟩, Try.underlying126⟩
theorem fit128 : TyFit Try.prog lim0 128 ksl1Cur := ⟨⟨_, Try.type128, rfl, rfl⟩, _, Try.underlying128, rfl, ⟨_, Try.type38, rfl⟩, rfl, ⟨_, Try.type3, rfl⟩, rfl, ⟨_, Try.type126, rfl⟩⟩
theorem fit151 : TyFit Try.prog lim0 151 kSstring := ⟨⟨_, Try.type151, rfl, rfl⟩, rfl, Try.underlying151, _, Try.type9, rfl, rfl, of_decide_eq_true (by kernel_rfl), of_decide_eq_true (by kernel_rfl)⟩
theorem tyFits : ∀ p, p ∈ tyL → TyFit Try.prog lim0 p.1 p.2 := by
  intro p hp
  simp only [tyL, List.mem_cons, List.not_mem_nil, or_false] at hp
  rcases hp with rfl | rfl | rfl | rfl | rfl | rfl | rfl | rfl | rfl | rfl
  · exact fit3
  · exact fit71
  · exact fit4
  · exact fit22
  · exact fit9
  · exact fit5
  · exact fit38
  · exact fit126
  · exact fit128
  · exact fit151
theorem tyEqs : ∀ p, p ∈ tyL → EqOk Try.prog p.1 p.2 := by
  intro p hp
  simp only [tyL, List.mem_cons, List.not_mem_nil, or_false] at hp
  rcases hp with rfl | rfl | rfl | rfl | rfl | rfl | rfl | rfl | rfl | rfl
  · exact trivial
  · exact fun _ => ⟨by kernel_rfl, by kernel_rfl, _, Try.underlying71, of_decide_eq_true (by kernel_rfl), rfl, Try.underlying3, of_decide_eq_true (by kernel_rfl), rfl, Try.underlying3, of_decide_eq_true (by kernel_rfl), rfl, Try.underlying3⟩
  · exact trivial
  · exact trivial
  · exact trivial
  · exact trivial
  · exact trivial
  · exact trivial
  · exact fun h => by cases h
  · exact trivial
noncomputable def env (nt : Nat) (l : List (Nat × FSpec)) (mv : List Nat) : Env := ⟨nt, fun t => lk tyL t, fun t => ([] : List Nat).any fun u => Nat.beq u t, lim0, spLk l, WPre.none, fun t => mv.any fun u => Nat.beq u t⟩
theorem tyOk (nt : Nat) (l : List (Nat × FSpec)) (mv : List Nat) : TyOk Try.prog (env nt l mv) := tyOk_of tyFits (fun t ht => by
  cases ht) tyEqs nt (spLk l) _ _
theorem spOk {nt : Nat} {l : List (Nat × FSpec)} {mv : List Nat} (h : AllCert Try.prog WPre.none l) : SpOk Try.prog (env nt l mv) := spOk_of h
theorem follows : Try.prog.follows .mixedOrders = true := by kernel_rfl
noncomputable def bodyOf (f : Func) : Code := match f.body with | some c => c | none => .skip
end Go.Proofs.Ythenlapjhlljnaa.V
