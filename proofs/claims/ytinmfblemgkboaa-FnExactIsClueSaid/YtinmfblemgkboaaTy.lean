import Derived.Test.YtinmfblemgkboaaProg
import Derived.Test.YtinmfblemgkboaaEvLaw
/- The kinds of the types that these texts use. -/
set_option linter.unusedVariables false
set_option linter.unusedSimpArgs false
set_option maxRecDepth 100000
namespace Go.Proofs.Ytinmfblemgkboaa.V
open Go Go.Ev Go.Proofs

abbrev k3 : Kd := .int .i64
abbrev k4 : Kd := .bool
abbrev k25 : Kd := .st (.pair k3 (.pair k3 k3))
abbrev k23 : Kd := .st (.pair k3 (.pair k3 k3))
noncomputable def tyL : List (Nat × Kd) := [(3, k3), (4, k4), (25, k25), (23, k23)]
theorem fit3 : TyFit Try.prog lim0 3 k3 := ⟨⟨_, Try.type3, rfl, rfl⟩, Try.underlying3⟩
theorem fit4 : TyFit Try.prog lim0 4 k4 := ⟨⟨_, Try.type4, rfl, rfl⟩, Try.underlying4⟩
theorem fit25 : TyFit Try.prog lim0 25 k25 := ⟨⟨_, Try.type25, rfl, rfl⟩, _, Try.underlying25, rfl, ⟨_, Try.type3, rfl⟩, rfl, ⟨_, Try.type3, rfl⟩, rfl, ⟨_, Try.type3, rfl⟩⟩
theorem fit23 : TyFit Try.prog lim0 23 k23 := ⟨⟨_, Try.type23, rfl, rfl⟩, _, Try.underlying23, rfl, ⟨_, Try.type3, rfl⟩, rfl, ⟨_, Try.type3, rfl⟩, rfl, ⟨_, Try.type3, rfl⟩⟩
theorem tyFits : ∀ p, p ∈ tyL → TyFit Try.prog lim0 p.1 p.2 := by
  intro p hp
  simp only [tyL, List.mem_cons, List.not_mem_nil, or_false] at hp
  rcases hp with rfl | rfl | rfl | rfl
  · exact fit3
  · exact fit4
  · exact fit25
  · exact fit23
noncomputable def env (nt : Nat) (l : List (Nat × FSpec)) : Env := ⟨nt, fun t => lk tyL t, fun t => ([] : List Nat).any fun u => Nat.beq u t, lim0, spLk l⟩
theorem tyOk (nt : Nat) (l : List (Nat × FSpec)) : TyOk Try.prog (env nt l) := tyOk_of tyFits (fun t ht => by
  cases ht) nt (spLk l)
theorem spOk {nt : Nat} {l : List (Nat × FSpec)} (h : AllCert Try.prog l) : SpOk Try.prog (env nt l) := spOk_of h
noncomputable def bodyOf (f : Func) : Code := match f.body with | some c => c | none => .skip
end Go.Proofs.Ytinmfblemgkboaa.V
