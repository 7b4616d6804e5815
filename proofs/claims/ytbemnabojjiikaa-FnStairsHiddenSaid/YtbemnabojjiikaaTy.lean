import Derived.Test.YtbemnabojjiikaaProg
import Derived.Test.YtbemnabojjiikaaEvRaw
/- The kinds of the types that these texts use. -/
set_option linter.unusedVariables false
set_option linter.unusedSimpArgs false
set_option maxRecDepth 100000
namespace Go.Proofs.Ytbemnabojjiikaa.V
open Go Go.Ev Go.Proofs

abbrev kint : Kd := .int .i64
abbrev kClue : Kd := .st (.pair kint (.pair kint kint))
abbrev kSClue : Kd := .sl 63 kClue
abbrev kPuzzle : Kd := .st kSClue
abbrev kbool : Kd := .bool
abbrev kSint : Kd := .sl 3 kint
abbrev kStairs : Kd := .st (.pair kint (.pair kSint kSint))
abbrev kSStairs : Kd := .sl 31 kStairs
abbrev kSSint : Kd := .sl 22 kSint
abbrev kwClue : Kd := .st (.pair kint (.pair kint kint))
abbrev kSwClue : Kd := .sl 121 kwClue
abbrev kwPuzzle : Kd := .st kSwClue
abbrev kSSClue : Kd := .sl 26 kSClue
abbrev kwStairs : Kd := .st (.pair kint (.pair kSint kSint))
abbrev kuint8 : Kd := .int .u8
abbrev kSuint8 : Kd := .sl 5 kuint8
abbrev kuint64 : Kd := .int .u64
abbrev ksl1Cur : Kd := .st (.pair kSuint8 (.pair kint kuint64))
noncomputable def tyL : List (Nat × Kd) := [(3, kint), (63, kClue), (26, kSClue), (28, kPuzzle), (4, kbool), (22, kSint), (31, kStairs), (56, kSStairs), (117, kSSint), (121, kwClue), (38, kSwClue), (40, kwPuzzle), (133, kSSClue), (24, kwStairs), (5, kuint8), (71, kSuint8), (107, kuint64), (109, ksl1Cur)]
theorem fit3 : TyFit Try.prog lim0 3 kint := ⟨⟨_, Try.type3, rfl, rfl⟩, Try.underlying3⟩
theorem fit63 : TyFit Try.prog lim0 63 kClue := ⟨⟨_, Try.type63, rfl, rfl⟩, _, Try.underlying63, rfl, ⟨_, Try.type3, rfl⟩, rfl, ⟨_, Try.type3, rfl⟩, rfl, ⟨_, Try.type3, rfl⟩⟩
theorem fit26 : TyFit Try.prog lim0 26 kSClue := ⟨⟨_, Try.type26, rfl, rfl⟩, rfl, Try.underlying26, _, Try.type63, rfl, rfl, of_decide_eq_true (by kernel_rfl), of_decide_eq_true (by kernel_rfl)⟩
theorem fit28 : TyFit Try.prog lim0 28 kPuzzle := ⟨⟨_, Try.type28, rfl, rfl⟩, _, Try.underlying28, rfl, ⟨_, Try.type26, rfl⟩⟩
theorem fit4 : TyFit Try.prog lim0 4 kbool := ⟨⟨_, Try.type4, rfl, rfl⟩, Try.underlying4⟩
theorem fit22 : TyFit Try.prog lim0 22 kSint := ⟨⟨_, Try.type22, rfl, rfl⟩, rfl, Try.underlying22, _, Try.type3, rfl, rfl, of_decide_eq_true (by kernel_rfl), of_decide_eq_true (by kernel_rfl)⟩
theorem fit31 : TyFit Try.prog lim0 31 kStairs := ⟨⟨_, Try.type31, rfl, rfl⟩, _, Try.underlying31, rfl, ⟨_, Try.type3, rfl⟩, rfl, ⟨_, Try.type22, rfl⟩, rfl, ⟨_, Try.type22, rfl⟩⟩
theorem fit56 : TyFit Try.prog lim0 56 kSStairs := ⟨⟨_, Try.type56, rfl, rfl⟩, rfl, Try.underlying56, _, Try.type31, rfl, rfl, of_decide_eq_true (by kernel_rfl), of_decide_eq_true (by kernel_rfl)⟩
theorem fit117 : TyFit Try.prog lim0 117 kSSint := ⟨⟨_, Try.type117, rfl, rfl⟩, rfl, Try.underlying117, _, Try.type22, rfl, rfl, of_decide_eq_true (by kernel_rfl), of_decide_eq_true (by kernel_rfl)⟩
theorem fit121 : TyFit Try.prog lim0 121 kwClue := ⟨⟨_, Try.type121, rfl, rfl⟩, _, Try.underlying121, rfl, ⟨_, Try.type3, rfl⟩, rfl, ⟨_, Try.type3, rfl⟩, rfl, ⟨_, Try.type3, rfl⟩⟩
theorem fit38 : TyFit Try.prog lim0 38 kSwClue := ⟨⟨_, Try.type38, rfl, rfl⟩, rfl, Try.underlying38, _, Try.type121, rfl, rfl, of_decide_eq_true (by kernel_rfl), of_decide_eq_true (by kernel_rfl)⟩
theorem fit40 : TyFit Try.prog lim0 40 kwPuzzle := ⟨⟨_, Try.type40, rfl, rfl⟩, _, Try.underlying40, rfl, ⟨_, Try.type38, rfl⟩⟩
theorem fit133 : TyFit Try.prog lim0 133 kSSClue := ⟨⟨_, Try.type133, rfl, rfl⟩, rfl, Try.underlying133, _, Try.type26, rfl, rfl, of_decide_eq_true (by kernel_rfl), of_decide_eq_true (by kernel_rfl)⟩
theorem fit24 : TyFit Try.prog lim0 24 kwStairs := ⟨⟨_, Try.type24, rfl, rfl⟩, _, Try.underlying24, rfl, ⟨_, Try.type3, rfl⟩, rfl, ⟨_, Try.type22, rfl⟩, rfl, ⟨_, Try.type22, rfl⟩⟩
theorem fit5 : TyFit Try.prog lim0 5 kuint8 := ⟨⟨_, Try.type5, rfl, rfl⟩, Try.underlying5⟩
theorem fit71 : TyFit Try.prog lim0 71 kSuint8 := ⟨⟨_, Try.type71, rfl, rfl⟩, rfl, Try.underlying71, _, Try.type5, rfl, rfl, of_decide_eq_true (by kernel_rfl), of_decide_eq_true (by kernel_rfl)⟩
theorem fit107 : TyFit Try.prog lim0 107 kuint64 := ⟨⟨_, Try.type107, rfl, rfl⟩, Try.underlying107⟩
theorem fit109 : TyFit Try.prog lim0 109 ksl1Cur := ⟨⟨_, Try.type109, rfl, rfl⟩, _, Try.underlying109, rfl, ⟨_, Try.type71, rfl⟩, rfl, ⟨_, Try.type3, rfl⟩, rfl, ⟨_, Try.type107, rfl⟩⟩
theorem tyFits : ∀ p, p ∈ tyL → TyFit Try.prog lim0 p.1 p.2 := by
  intro p hp
  simp only [tyL, List.mem_cons, List.not_mem_nil, or_false] at hp
  rcases hp with rfl | rfl | rfl | rfl | rfl | rfl | rfl | rfl | rfl | rfl | rfl | rfl | rfl | rfl | rfl | rfl | rfl | rfl
  · exact fit3
  · exact fit63
  · exact fit26
  · exact fit28
  · exact fit4
  · exact fit22
  · exact fit31
  · exact fit56
  · exact fit117
  · exact fit121
  · exact fit38
  · exact fit40
  · exact fit133
  · exact fit24
  · exact fit5
  · exact fit71
  · exact fit107
  · exact fit109
theorem tyEqs : ∀ p, p ∈ tyL → EqOk Try.prog p.1 p.2 := by
  intro p hp
  simp only [tyL, List.mem_cons, List.not_mem_nil, or_false] at hp
  rcases hp with rfl | rfl | rfl | rfl | rfl | rfl | rfl | rfl | rfl | rfl | rfl | rfl | rfl | rfl | rfl | rfl | rfl | rfl
  · exact trivial
  · exact fun _ => ⟨by kernel_rfl, by kernel_rfl, _, Try.underlying63, of_decide_eq_true (by kernel_rfl), rfl, Try.underlying3, of_decide_eq_true (by kernel_rfl), rfl, Try.underlying3, of_decide_eq_true (by kernel_rfl), rfl, Try.underlying3⟩
  · exact trivial
  · exact fun h => by cases h
  · exact trivial
  · exact trivial
  · exact fun h => by cases h
  · exact trivial
  · exact trivial
  · exact fun _ => ⟨by kernel_rfl, by kernel_rfl, _, Try.underlying121, of_decide_eq_true (by kernel_rfl), rfl, Try.underlying3, of_decide_eq_true (by kernel_rfl), rfl, Try.underlying3, of_decide_eq_true (by kernel_rfl), rfl, Try.underlying3⟩
  · exact trivial
  · exact fun h => by cases h
  · exact trivial
  · exact fun h => by cases h
  · exact trivial
  · exact trivial
  · exact trivial
  · exact fun h => by cases h
noncomputable def env (nt : Nat) (l : List (Nat × FSpec)) (mv : List Nat) : Env := ⟨nt, fun t => lk tyL t, fun t => ([] : List Nat).any fun u => Nat.beq u t, lim0, spLk l, WPre.none, fun t => mv.any fun u => Nat.beq u t⟩
theorem tyOk (nt : Nat) (l : List (Nat × FSpec)) (mv : List Nat) : TyOk Try.prog (env nt l mv) := tyOk_of tyFits (fun t ht => by
  cases ht) tyEqs nt (spLk l) _ _
theorem spOk {nt : Nat} {l : List (Nat × FSpec)} {mv : List Nat} (h : AllCert Try.prog WPre.none l) : SpOk Try.prog (env nt l mv) := spOk_of h
abbrev kSintR : Kd := .raw
abbrev kStairsR : Kd := .st (.pair kint (.pair kSintR kSintR))
abbrev kSStairsR : Kd := .sl 31 kStairsR
class RawD where
  D : kStairs.rawOf.Ty → Option kStairs.Ty
noncomputable def tyLR : List (Nat × Kd) := [(3, kint), (22, kSintR), (31, kStairsR), (56, kSStairsR), (63, kClue), (26, kSClue), (4, kbool)]
theorem fitR3 : TyFit Try.prog lim0 3 kint := ⟨⟨_, Try.type3, rfl, rfl⟩, Try.underlying3⟩
theorem fitR22 : TyFit Try.prog lim0 22 kSintR := ⟨⟨_, Try.type22, rfl, rfl⟩, _, Try.underlying22⟩
theorem fitR31 : TyFit Try.prog lim0 31 kStairsR := ⟨⟨_, Try.type31, rfl, rfl⟩, _, Try.underlying31, rfl, ⟨_, Try.type3, rfl⟩, rfl, ⟨_, Try.type22, rfl⟩, rfl, ⟨_, Try.type22, rfl⟩⟩
theorem fitR56 : TyFit Try.prog lim0 56 kSStairsR := ⟨⟨_, Try.type56, rfl, rfl⟩, rfl, Try.underlying56, _, Try.type31, rfl, rfl, of_decide_eq_true (by kernel_rfl), of_decide_eq_true (by kernel_rfl)⟩
theorem fitR63 : TyFit Try.prog lim0 63 kClue := ⟨⟨_, Try.type63, rfl, rfl⟩, _, Try.underlying63, rfl, ⟨_, Try.type3, rfl⟩, rfl, ⟨_, Try.type3, rfl⟩, rfl, ⟨_, Try.type3, rfl⟩⟩
theorem fitR26 : TyFit Try.prog lim0 26 kSClue := ⟨⟨_, Try.type26, rfl, rfl⟩, rfl, Try.underlying26, _, Try.type63, rfl, rfl, of_decide_eq_true (by kernel_rfl), of_decide_eq_true (by kernel_rfl)⟩
theorem fitR4 : TyFit Try.prog lim0 4 kbool := ⟨⟨_, Try.type4, rfl, rfl⟩, Try.underlying4⟩
theorem tyFitsR : ∀ p, p ∈ tyLR → TyFit Try.prog lim0 p.1 p.2 := by
  intro p hp
  simp only [tyLR, List.mem_cons, List.not_mem_nil, or_false] at hp
  rcases hp with rfl | rfl | rfl | rfl | rfl | rfl | rfl
  · exact fitR3
  · exact fitR22
  · exact fitR31
  · exact fitR56
  · exact fitR63
  · exact fitR26
  · exact fitR4
theorem tyEqsR : ∀ p, p ∈ tyLR → EqOk Try.prog p.1 p.2 := by
  intro p hp
  simp only [tyLR, List.mem_cons, List.not_mem_nil, or_false] at hp
  rcases hp with rfl | rfl | rfl | rfl | rfl | rfl | rfl
  · exact trivial
  · exact trivial
  · exact fun h => by cases h
  · exact trivial
  · exact fun _ => ⟨by kernel_rfl, by kernel_rfl, _, Try.underlying63, of_decide_eq_true (by kernel_rfl), rfl, Try.underlying3, of_decide_eq_true (by kernel_rfl), rfl, Try.underlying3, of_decide_eq_true (by kernel_rfl), rfl, Try.underlying3⟩
  · exact trivial
  · exact trivial
section
variable [RawD]
noncomputable def envR (nt : Nat) (l : List (Nat × FSpec)) (mv : List Nat) : Env := ⟨nt, fun t => lk tyLR t, fun t => ([] : List Nat).any fun u => Nat.beq u t, lim0, spLk l, PreD WPre.none kStairs RawD.D, fun t => mv.any fun u => Nat.beq u t⟩
theorem tyOkR (nt : Nat) (l : List (Nat × FSpec)) (mv : List Nat) : TyOk Try.prog (envR nt l mv) := tyOk_of tyFitsR (fun t ht => by cases ht) tyEqsR nt (spLk l) _ _
theorem spOkR {nt : Nat} {l : List (Nat × FSpec)} {mv : List Nat} (h : AllCert Try.prog (PreD WPre.none kStairs RawD.D) l) : SpOk Try.prog (envR nt l mv) := spOk_of h
end
theorem follows : Try.prog.follows .mixedOrders = true := by kernel_rfl
noncomputable def bodyOf (f : Func) : Code := match f.body with | some c => c | none => .skip
end Go.Proofs.Ytbemnabojjiikaa.V
