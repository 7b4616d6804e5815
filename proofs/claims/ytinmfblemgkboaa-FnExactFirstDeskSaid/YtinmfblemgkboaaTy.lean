import Derived.Test.YtinmfblemgkboaaProg
import Derived.Test.YtinmfblemgkboaaEvPlain
/- The kinds of the types that these texts use. -/
set_option linter.unusedVariables false
set_option linter.unusedSimpArgs false
set_option maxRecDepth 100000
namespace Go.Proofs.Ytinmfblemgkboaa.V
open Go Go.Ev Go.Proofs

abbrev k3 : Kd := .int .i64
abbrev k28 : Kd := .sl 3 k3
abbrev k30 : Kd := .st (.pair k3 (.pair k28 k28))
abbrev k32 : Kd := .st (.pair k3 k3)
abbrev k34 : Kd := .st (.pair k3 (.pair k3 k3))
abbrev k36 : Kd := .st (.pair k30 (.pair k32 (.pair k34 k28)))
abbrev k4 : Kd := .bool
noncomputable def tyL : List (Nat × Kd) := [(3, k3), (28, k28), (30, k30), (32, k32), (34, k34), (36, k36), (4, k4)]
theorem fit3 : TyFit Try.prog lim0 3 k3 := ⟨⟨_, Try.type3, rfl, rfl⟩, Try.underlying3⟩
theorem fit28 : TyFit Try.prog lim0 28 k28 := ⟨⟨_, Try.type28, rfl, rfl⟩, rfl, Try.underlying28, _, Try.type3, rfl, rfl, of_decide_eq_true (by kernel_rfl), of_decide_eq_true (by kernel_rfl)⟩
theorem fit30 : TyFit Try.prog lim0 30 k30 := ⟨⟨_, Try.type30, rfl, rfl⟩, _, Try.underlying30, rfl, ⟨_, Try.type3, rfl⟩, rfl, ⟨_, Try.type28, rfl⟩, rfl, ⟨_, Try.type28, rfl⟩⟩
theorem fit32 : TyFit Try.prog lim0 32 k32 := ⟨⟨_, Try.type32, rfl, rfl⟩, _, Try.underlying32, rfl, ⟨_, Try.type3, rfl⟩, rfl, ⟨_, Try.type3, rfl⟩⟩
theorem fit34 : TyFit Try.prog lim0 34 k34 := ⟨⟨_, Try.type34, rfl, rfl⟩, _, Try.underlying34, rfl, ⟨_, Try.type3, rfl⟩, rfl, ⟨_, Try.type3, rfl⟩, rfl, ⟨_, Try.type3, rfl⟩⟩
theorem fit36 : TyFit Try.prog lim0 36 k36 := ⟨⟨_, Try.type36, rfl, rfl⟩, _, Try.underlying36, rfl, ⟨_, Try.type30, rfl⟩, rfl, ⟨_, Try.type32, rfl⟩, rfl, ⟨_, Try.type34, rfl⟩, rfl, ⟨_, Try.type28, rfl⟩⟩
theorem fit4 : TyFit Try.prog lim0 4 k4 := ⟨⟨_, Try.type4, rfl, rfl⟩, Try.underlying4⟩
theorem tyFits : ∀ p, p ∈ tyL → TyFit Try.prog lim0 p.1 p.2 := by
  intro p hp
  simp only [tyL, List.mem_cons, List.not_mem_nil, or_false] at hp
  rcases hp with rfl | rfl | rfl | rfl | rfl | rfl | rfl
  · exact fit3
  · exact fit28
  · exact fit30
  · exact fit32
  · exact fit34
  · exact fit36
  · exact fit4
noncomputable def env (nt : Nat) (l : List (Nat × FSpec)) : Env := ⟨nt, fun t => lk tyL t, fun t => ([] : List Nat).any fun u => Nat.beq u t, lim0, spLk l⟩
theorem tyOk (nt : Nat) (l : List (Nat × FSpec)) : TyOk Try.prog (env nt l) := tyOk_of tyFits (fun t ht => by
  cases ht) nt (spLk l)
theorem spOk {nt : Nat} {l : List (Nat × FSpec)} (h : AllCert Try.prog l) : SpOk Try.prog (env nt l) := spOk_of h
theorem follows : Try.prog.follows .mixedOrders = true := by kernel_rfl
noncomputable def bodyOf (f : Func) : Code := match f.body with | some c => c | none => .skip
end Go.Proofs.Ytinmfblemgkboaa.V
