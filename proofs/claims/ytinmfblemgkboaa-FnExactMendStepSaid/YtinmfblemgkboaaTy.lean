import Derived.Test.YtinmfblemgkboaaProg
import Derived.Test.YtinmfblemgkboaaEvPure
/- The kinds of the types that these texts use. -/
set_option linter.unusedVariables false
set_option linter.unusedSimpArgs false
set_option maxRecDepth 100000
namespace Go.Proofs.Ytinmfblemgkboaa.V
open Go Go.Ev Go.Proofs

abbrev kint : Kd := .int .i64
abbrev kwClue : Kd := .st (.pair kint (.pair kint kint))
abbrev kSwClue : Kd := .sl 23 kwClue
abbrev kwPuzzle : Kd := .st kSwClue
abbrev kbool : Kd := .bool
abbrev kClue : Kd := .st (.pair kint (.pair kint kint))
abbrev kSClue : Kd := .sl 25 kClue
abbrev kPuzzle : Kd := .st kSClue
abbrev kSint : Kd := .sl 3 kint
abbrev kwStairs : Kd := .st (.pair kint (.pair kSint kSint))
abbrev kStairs : Kd := .st (.pair kint (.pair kSint kSint))
abbrev kwMoving : Kd := .st (.pair kint kint)
abbrev kwFlight : Kd := .st (.pair kint (.pair kint kint))
abbrev kwDesk : Kd := .st (.pair kwStairs (.pair kwMoving (.pair kwFlight kSint)))
abbrev kMoving : Kd := .st (.pair kint kint)
abbrev kFlight : Kd := .st (.pair kint (.pair kint kint))
abbrev kDesk : Kd := .st (.pair kStairs (.pair kMoving (.pair kFlight kSint)))
abbrev kSSClue : Kd := .sl 46 kSClue
noncomputable def tyL : List (Nat × Kd) := [(3, kint), (23, kwClue), (41, kSwClue), (43, kwPuzzle), (4, kbool), (25, kClue), (46, kSClue), (48, kPuzzle), (28, kSint), (52, kwStairs), (30, kStairs), (66, kwMoving), (67, kwFlight), (69, kwDesk), (32, kMoving), (34, kFlight), (36, kDesk), (165, kSSClue)]
theorem fit3 : TyFit Try.prog lim0 3 kint := ⟨⟨_, Try.type3, rfl, rfl⟩, Try.underlying3⟩
theorem fit23 : TyFit Try.prog lim0 23 kwClue := ⟨⟨_, Try.type23, rfl, rfl⟩, _, Try.underlying23, rfl, ⟨_, Try.type3, rfl⟩, rfl, ⟨_, Try.type3, rfl⟩, rfl, ⟨_, Try.type3, rfl⟩⟩
theorem fit41 : TyFit Try.prog lim0 41 kSwClue := ⟨⟨_, Try.type41, rfl, rfl⟩, rfl, Try.underlying41, _, Try.type23, rfl, rfl, of_decide_eq_true (by kernel_rfl), of_decide_eq_true (by kernel_rfl)⟩
theorem fit43 : TyFit Try.prog lim0 43 kwPuzzle := ⟨⟨_, Try.type43, rfl, rfl⟩, _, Try.underlying43, rfl, ⟨_, Try.type41, rfl⟩⟩
theorem fit4 : TyFit Try.prog lim0 4 kbool := ⟨⟨_, Try.type4, rfl, rfl⟩, Try.underlying4⟩
theorem fit25 : TyFit Try.prog lim0 25 kClue := ⟨⟨_, Try.type25, rfl, rfl⟩, _, Try.underlying25, rfl, ⟨_, Try.type3, rfl⟩, rfl, ⟨_, Try.type3, rfl⟩, rfl, ⟨_, Try.type3, rfl⟩⟩
theorem fit46 : TyFit Try.prog lim0 46 kSClue := ⟨⟨_, Try.type46, rfl, rfl⟩, rfl, Try.underlying46, _, Try.type25, rfl, rfl, of_decide_eq_true (by kernel_rfl), of_decide_eq_true (by kernel_rfl)⟩
theorem fit48 : TyFit Try.prog lim0 48 kPuzzle := ⟨⟨_, Try.type48, rfl, rfl⟩, _, Try.underlying48, rfl, ⟨_, Try.type46, rfl⟩⟩
theorem fit28 : TyFit Try.prog lim0 28 kSint := ⟨⟨_, Try.type28, rfl, rfl⟩, rfl, Try.underlying28, _, Try.type3, rfl, rfl, of_decide_eq_true (by kernel_rfl), of_decide_eq_true (by kernel_rfl)⟩
theorem fit52 : TyFit Try.prog lim0 52 kwStairs := ⟨⟨_, Try.type52, rfl, rfl⟩, _, Try.underlying52, rfl, ⟨_, Try.type3, rfl⟩, rfl, ⟨_, Try.type28, rfl⟩, rfl, ⟨_, Try.type28, rfl⟩⟩
theorem fit30 : TyFit Try.prog lim0 30 kStairs := ⟨⟨_, Try.type30, rfl, rfl⟩, _, Try.underlying30, rfl, ⟨_, Try.type3, rfl⟩, rfl, ⟨_, Try.type28, rfl⟩, rfl, ⟨_, Try.type28, rfl⟩⟩
theorem fit66 : TyFit Try.prog lim0 66 kwMoving := ⟨⟨_, Try.type66, rfl, rfl⟩, _, Try.underlying66, rfl, ⟨_, Try.type3, rfl⟩, rfl, ⟨_, Try.type3, rfl⟩⟩
theorem fit67 : TyFit Try.prog lim0 67 kwFlight := ⟨⟨_, Try.type67, rfl, rfl⟩, _, Try.underlying67, rfl, ⟨_, Try.type3, rfl⟩, rfl, ⟨_, Try.type3, rfl⟩, rfl, ⟨_, Try.type3, rfl⟩⟩
theorem fit69 : TyFit Try.prog lim0 69 kwDesk := ⟨⟨_, Try.type69, rfl, rfl⟩, _, Try.underlying69, rfl, ⟨_, Try.type52, rfl⟩, rfl, ⟨_, Try.type66, rfl⟩, rfl, ⟨_, Try.type67, rfl⟩, rfl, ⟨_, Try.type28, rfl⟩⟩
theorem fit32 : TyFit Try.prog lim0 32 kMoving := ⟨⟨_, Try.type32, rfl, rfl⟩, _, Try.underlying32, rfl, ⟨_, Try.type3, rfl⟩, rfl, ⟨_, Try.type3, rfl⟩⟩
theorem fit34 : TyFit Try.prog lim0 34 kFlight := ⟨⟨_, Try.type34, rfl, rfl⟩, _, Try.underlying34, rfl, ⟨_, Try.type3, rfl⟩, rfl, ⟨_, Try.type3, rfl⟩, rfl, ⟨_, Try.type3, rfl⟩⟩
theorem fit36 : TyFit Try.prog lim0 36 kDesk := ⟨⟨_, Try.type36, rfl, rfl⟩, _, Try.underlying36, rfl, ⟨_, Try.type30, rfl⟩, rfl, ⟨_, Try.type32, rfl⟩, rfl, ⟨_, Try.type34, rfl⟩, rfl, ⟨_, Try.type28, rfl⟩⟩
theorem fit165 : TyFit Try.prog lim0 165 kSSClue := ⟨⟨_, Try.type165, rfl, rfl⟩, rfl, Try.underlying165, _, Try.type46, rfl, rfl, of_decide_eq_true (by kernel_rfl), of_decide_eq_true (by kernel_rfl)⟩
theorem tyFits : ∀ p, p ∈ tyL → TyFit Try.prog lim0 p.1 p.2 := by
  intro p hp
  simp only [tyL, List.mem_cons, List.not_mem_nil, or_false] at hp
  rcases hp with rfl | rfl | rfl | rfl | rfl | rfl | rfl | rfl | rfl | rfl | rfl | rfl | rfl | rfl | rfl | rfl | rfl | rfl
  · exact fit3
  · exact fit23
  · exact fit41
  · exact fit43
  · exact fit4
  · exact fit25
  · exact fit46
  · exact fit48
  · exact fit28
  · exact fit52
  · exact fit30
  · exact fit66
  · exact fit67
  · exact fit69
  · exact fit32
  · exact fit34
  · exact fit36
  · exact fit165
noncomputable def env (nt : Nat) (l : List (Nat × FSpec)) (mv : List Nat) : Env := ⟨nt, fun t => lk tyL t, fun t => ([] : List Nat).any fun u => Nat.beq u t, lim0, spLk l, WPre.none, fun t => mv.any fun u => Nat.beq u t⟩
theorem tyOk (nt : Nat) (l : List (Nat × FSpec)) (mv : List Nat) : TyOk Try.prog (env nt l mv) := tyOk_of tyFits (fun t ht => by
  cases ht) nt (spLk l) _ _
theorem spOk {nt : Nat} {l : List (Nat × FSpec)} {mv : List Nat} (h : AllCert Try.prog WPre.none l) : SpOk Try.prog (env nt l mv) := spOk_of h
theorem follows : Try.prog.follows .mixedOrders = true := by kernel_rfl
noncomputable def bodyOf (f : Func) : Code := match f.body with | some c => c | none => .skip
end Go.Proofs.Ytinmfblemgkboaa.V
