import Derived.Test.YthenlapjhlljnaaProg
import Derived.Test.YthenlapjhlljnaaEvPure
import Derived.Test.YthenlapjhlljnaaLaysortI
/- The kinds of the types that these texts use. -/
set_option linter.unusedVariables false
set_option linter.unusedSimpArgs false
set_option maxRecDepth 100000
namespace Go.Proofs.Ythenlapjhlljnaa.V
open Go Go.Ev Go.Proofs

abbrev kint : Kd := .int .i64
abbrev kSint : Kd := .sl 3 kint
abbrev kwStairs : Kd := .st (.pair kint (.pair kSint kSint))
abbrev kbool : Kd := .bool
abbrev kStairs : Kd := .st (.pair kint (.pair kSint kSint))
abbrev kuint : Kd := .int .u64
noncomputable def tyL : List (Nat × Kd) := [(3, kint), (22, kSint), (111, kwStairs), (4, kbool), (96, kStairs), (181, kuint)]
theorem fit3 : TyFit Try.prog lim0 3 kint := ⟨⟨_, Try.type3, rfl, rfl⟩, Try.underlying3⟩
theorem fit22 : TyFit Try.prog lim0 22 kSint := ⟨⟨_, Try.type22, rfl, rfl⟩, rfl, Try.underlying22, _, Try.type3, rfl, rfl, of_decide_eq_true (by kernel_rfl), of_decide_eq_true (by kernel_rfl)⟩
theorem fit111 : TyFit Try.prog lim0 111 kwStairs := ⟨⟨_, Try.type111, rfl, rfl⟩, _, Try.underlying111, rfl, ⟨_, Try.type3, rfl⟩, rfl, ⟨_, Try.type22, rfl⟩, rfl, ⟨_, Try.type22, rfl⟩⟩
theorem fit4 : TyFit Try.prog lim0 4 kbool := ⟨⟨_, Try.type4, rfl, rfl⟩, Try.underlying4⟩
theorem fit96 : TyFit Try.prog lim0 96 kStairs := ⟨⟨_, Try.type96, rfl, rfl⟩, _, Try.underlying96, rfl, ⟨_, Try.type3, rfl⟩, rfl, ⟨_, Try.type22, rfl⟩, rfl, ⟨_, Try.type22, rfl⟩⟩
theorem fit181 : TyFit Try.prog lim0 181 kuint := ⟨⟨_, Try.type181, rfl, rfl⟩, Try.underlying181⟩
theorem tyFits : ∀ p, p ∈ tyL → TyFit Try.prog lim0 p.1 p.2 := by
  intro p hp
  simp only [tyL, List.mem_cons, List.not_mem_nil, or_false] at hp
  rcases hp with rfl | rfl | rfl | rfl | rfl | rfl
  · exact fit3
  · exact fit22
  · exact fit111
  · exact fit4
  · exact fit96
  · exact fit181
theorem tyEqs : ∀ p, p ∈ tyL → EqOk Try.prog p.1 p.2 := by
  intro p hp
  simp only [tyL, List.mem_cons, List.not_mem_nil, or_false] at hp
  rcases hp with rfl | rfl | rfl | rfl | rfl | rfl
  · exact trivial
  · exact trivial
  · exact fun h => by cases h
  · exact trivial
  · exact fun h => by cases h
  · exact trivial
noncomputable def env (nt : Nat) (l : List (Nat × FSpec)) (mv : List Nat) : Env := ⟨nt, fun t => lk tyL t, fun t => ([] : List Nat).any fun u => Nat.beq u t, lim0, spLk l, WPre.none, fun t => mv.any fun u => Nat.beq u t⟩
theorem tyOk (nt : Nat) (l : List (Nat × FSpec)) (mv : List Nat) : TyOk Try.prog (env nt l mv) := tyOk_of tyFits (fun t ht => by
  cases ht) tyEqs nt (spLk l) _ _
theorem spOk {nt : Nat} {l : List (Nat × FSpec)} {mv : List Nat} (h : AllCert Try.prog WPre.none l) : SpOk Try.prog (env nt l mv) := spOk_of h
theorem follows : Try.prog.follows .mixedOrders = true := by kernel_rfl
noncomputable def bodyOf (f : Func) : Code := match f.body with | some c => c | none => .skip
end Go.Proofs.Ythenlapjhlljnaa.V
