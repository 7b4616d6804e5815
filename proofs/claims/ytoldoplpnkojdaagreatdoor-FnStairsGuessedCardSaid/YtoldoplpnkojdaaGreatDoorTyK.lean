import Derived.Test.YtoldoplpnkojdaaGreatDoorProg
import Derived.Test.YtoldoplpnkojdaaGreatDoorEvRaw
import Derived.Test.YtoldoplpnkojdaaGreatDoorEvText
import Derived.Test.YtoldoplpnkojdaaGreatDoorLaysItoa
import Derived.Test.YtoldoplpnkojdaaGreatDoorLaysSplit
import Derived.Test.YtoldoplpnkojdaaGreatDoorLaysAtoi
import Derived.Test.YtoldoplpnkojdaaGreatDoorLaysJoin
/- The kinds of the types that these texts use. -/
set_option linter.unusedVariables false
set_option linter.unusedSimpArgs false
set_option maxRecDepth 100000
namespace Go.Proofs.YtoldoplpnkojdaaGreatDoor.V
open Go Go.Ev Go.Proofs

instance laxI : Lax := ⟨false⟩
def textL : List (String × (Array Value → Prop)) := [("internal/strconv.uint64pow10", isTab .u64 Lib.pow10Tab), ("internal/bytealg.MaxLen", isInt), ("strconv.ErrSyntax", isErr), ("strconv.ErrRange", isErr)]
noncomputable def textPre : WPre := varPre Tryz.prog textL
abbrev kint : Kd := .int .i64
abbrev kClue : Kd := .st (.pair kint (.pair kint kint))
abbrev kSClue : Kd := .sl 51 kClue
abbrev kPuzzle : Kd := .st kSClue
abbrev kbool : Kd := .bool
abbrev kSint : Kd := .sl 3 kint
abbrev kStairs : Kd := .st (.pair kint (.pair kSint kSint))
abbrev kSStairs : Kd := .sl 32 kStairs
abbrev kSSint : Kd := .sl 30 kSint
abbrev kSSClue : Kd := .sl 22 kSClue
abbrev kstring : Kd := .str
abbrev kSstring : Kd := .sl 9 kstring
abbrev kuint8 : Kd := .int .u8
abbrev kSuint8 : Kd := .sl 5 kuint8
abbrev kerror : Kd := .err
abbrev kuint64 : Kd := .int .u64
abbrev ksl1Cur : Kd := .st (.pair kSuint8 (.pair kint kuint64))
noncomputable def tyL : List (Nat × Kd) := [(3, kint), (51, kClue), (22, kSClue), (24, kPuzzle), (4, kbool), (30, kSint), (32, kStairs), (25, kSStairs), (86, kSSint), (117, kSSClue), (9, kstring), (66, kSstring), (5, kuint8), (58, kSuint8), (99, kerror), (78, kuint64), (80, ksl1Cur)]
theorem fit3 : TyFit Tryz.prog lim0 3 kint := ⟨⟨_, Tryz.type3, rfl, rfl⟩, Tryz.underlying3⟩
theorem fit51 : TyFit Tryz.prog lim0 51 kClue := ⟨⟨_, Tryz.type51, rfl, rfl⟩, _, Tryz.underlying51, rfl, ⟨_, Tryz.type3, rfl⟩, rfl, ⟨_, Tryz.type3, rfl⟩, rfl, ⟨_, Tryz.type3, rfl⟩⟩
theorem fit22 : TyFit Tryz.prog lim0 22 kSClue := ⟨⟨_, Tryz.type22, rfl, rfl⟩, rfl, Tryz.underlying22, _, Tryz.type51, rfl, rfl, of_decide_eq_true (by kernel_rfl), of_decide_eq_true (by kernel_rfl)⟩
theorem fit24 : TyFit Tryz.prog lim0 24 kPuzzle := ⟨⟨_, Tryz.type24, rfl, rfl⟩, _, Tryz.underlying24, rfl, ⟨_, Tryz.type22, rfl⟩⟩
theorem fit4 : TyFit Tryz.prog lim0 4 kbool := ⟨⟨_, Tryz.type4, rfl, rfl⟩, Tryz.underlying4⟩
theorem fit30 : TyFit Tryz.prog lim0 30 kSint := ⟨⟨_, Tryz.type30, rfl, rfl⟩, rfl, Tryz.underlying30, _, Tryz.type3, rfl, rfl, of_decide_eq_true (by kernel_rfl), of_decide_eq_true (by kernel_rfl)⟩
theorem fit32 : TyFit Tryz.prog lim0 32 kStairs := ⟨⟨_, Tryz.type32, rfl, rfl⟩, _, Tryz.underlying32, rfl, ⟨_, Tryz.type3, rfl⟩, rfl, ⟨_, Tryz.type30, rfl⟩, rfl, ⟨_, Tryz.type30, rfl⟩⟩
theorem fit25 : TyFit Tryz.prog lim0 25 kSStairs := ⟨⟨_, Tryz.type25, rfl, rfl⟩, rfl, Tryz.underlying25, _, Tryz.type32, rfl, rfl, of_decide_eq_true (by kernel_rfl), of_decide_eq_true (by kernel_rfl)⟩
theorem fit86 : TyFit Tryz.prog lim0 86 kSSint := ⟨⟨_, Tryz.type86, rfl, rfl⟩, rfl, Tryz.underlying86, _, Tryz.type30, rfl, rfl, of_decide_eq_true (by kernel_rfl), of_decide_eq_true (by kernel_rfl)⟩
theorem fit117 : TyFit Tryz.prog lim0 117 kSSClue := ⟨⟨_, Tryz.type117, rfl, rfl⟩, rfl, Tryz.underlying117, _, Tryz.type22, rfl, rfl, of_decide_eq_true (by kernel_rfl), of_decide_eq_true (by kernel_rfl)⟩
theorem fit9 : TyFit Tryz.prog lim0 9 kstring := ⟨⟨_, Tryz.type9, rfl, rfl⟩, Tryz.underlying9⟩
theorem fit66 : TyFit Tryz.prog lim0 66 kSstring := ⟨⟨_, Tryz.type66, rfl, rfl⟩, rfl, Tryz.underlying66, _, Tryz.type9, rfl, rfl, of_decide_eq_true (by kernel_rfl), of_decide_eq_true (by kernel_rfl)⟩
theorem fit5 : TyFit Tryz.prog lim0 5 kuint8 := ⟨⟨_, Tryz.type5, rfl, rfl⟩, Tryz.underlying5⟩
theorem fit58 : TyFit Tryz.prog lim0 58 kSuint8 := ⟨⟨_, Tryz.type58, rfl, rfl⟩, rfl, Tryz.underlying58, _, Tryz.type5, rfl, rfl, of_decide_eq_true (by kernel_rfl), of_decide_eq_true (by kernel_rfl)⟩
theorem fit99 : TyFit Tryz.prog lim0 99 kerror := ⟨⟨_, Tryz.type99, rfl, rfl⟩, _, Tryz.underlying99⟩
theorem fit78 : TyFit Tryz.prog lim0 78 kuint64 := ⟨⟨_, Tryz.type78, rfl, rfl⟩, Tryz.underlying78⟩
theorem fit80 : TyFit Tryz.prog lim0 80 ksl1Cur := ⟨⟨_, Tryz.type80, rfl, rfl⟩, _, Tryz.underlying80, rfl, ⟨_, Tryz.type58, rfl⟩, rfl, ⟨_, Tryz.type3, rfl⟩, rfl, ⟨_, Tryz.type78, rfl⟩⟩
theorem tyFits : ∀ p, p ∈ tyL → TyFit Tryz.prog lim0 p.1 p.2 := by
  intro p hp
  simp only [tyL, List.mem_cons, List.not_mem_nil, or_false] at hp
  rcases hp with rfl | rfl | rfl | rfl | rfl | rfl | rfl | rfl | rfl | rfl | rfl | rfl | rfl | rfl | rfl | rfl | rfl
  · exact fit3
  · exact fit51
  · exact fit22
  · exact fit24
  · exact fit4
  · exact fit30
  · exact fit32
  · exact fit25
  · exact fit86
  · exact fit117
  · exact fit9
  · exact fit66
  · exact fit5
  · exact fit58
  · exact fit99
  · exact fit78
  · exact fit80
theorem tyEqs : ∀ p, p ∈ tyL → EqOk Tryz.prog p.1 p.2 := by
  intro p hp
  simp only [tyL, List.mem_cons, List.not_mem_nil, or_false] at hp
  rcases hp with rfl | rfl | rfl | rfl | rfl | rfl | rfl | rfl | rfl | rfl | rfl | rfl | rfl | rfl | rfl | rfl | rfl
  · exact trivial
  · exact fun _ => ⟨by kernel_rfl, by kernel_rfl, _, Tryz.underlying51, of_decide_eq_true (by kernel_rfl), rfl, Tryz.underlying3, of_decide_eq_true (by kernel_rfl), rfl, Tryz.underlying3, of_decide_eq_true (by kernel_rfl), rfl, Tryz.underlying3⟩
  · exact trivial
  · exact fun h => by cases h
  · exact trivial
  · exact trivial
  · exact fun h => by cases h
  · exact trivial
  · exact trivial
  · exact trivial
  · exact trivial
  · exact trivial
  · exact trivial
  · exact trivial
  · exact trivial
  · exact trivial
  · exact fun h => by cases h
noncomputable def env (nt : Nat) (l : List (Nat × FSpec)) (mv : List Nat) : Env := ⟨nt, fun t => lk tyL t, fun t => ([] : List Nat).any fun u => Nat.beq u t, lim0, spLk l, textPre, fun t => mv.any fun u => Nat.beq u t⟩
theorem tyOk (nt : Nat) (l : List (Nat × FSpec)) (mv : List Nat) : TyOk Tryz.prog (env nt l mv) := tyOk_of tyFits (fun t ht => by
  cases ht) tyEqs nt (spLk l) _ _
theorem spOk {nt : Nat} {l : List (Nat × FSpec)} {mv : List Nat} (h : AllCert Tryz.prog textPre l) : SpOk Tryz.prog (env nt l mv) := spOk_of h
abbrev kSintR : Kd := .raw
abbrev kStairsR : Kd := .st (.pair kint (.pair kSintR kSintR))
abbrev kSStairsR : Kd := .sl 32 kStairsR
class RawD where
  D : kStairs.rawOf.Ty → Option kStairs.Ty
noncomputable def tyLR : List (Nat × Kd) := [(3, kint), (30, kSintR), (32, kStairsR), (25, kSStairsR), (51, kClue), (22, kSClue), (4, kbool)]
theorem fitR3 : TyFit Tryz.prog lim0 3 kint := ⟨⟨_, Tryz.type3, rfl, rfl⟩, Tryz.underlying3⟩
theorem fitR30 : TyFit Tryz.prog lim0 30 kSintR := ⟨⟨_, Tryz.type30, rfl, rfl⟩, _, Tryz.underlying30⟩
theorem fitR32 : TyFit Tryz.prog lim0 32 kStairsR := ⟨⟨_, Tryz.type32, rfl, rfl⟩, _, Tryz.underlying32, rfl, ⟨_, Tryz.type3, rfl⟩, rfl, ⟨_, Tryz.type30, rfl⟩, rfl, ⟨_, Tryz.type30, rfl⟩⟩
theorem fitR25 : TyFit Tryz.prog lim0 25 kSStairsR := ⟨⟨_, Tryz.type25, rfl, rfl⟩, rfl, Tryz.underlying25, _, Tryz.type32, rfl, rfl, of_decide_eq_true (by kernel_rfl), of_decide_eq_true (by kernel_rfl)⟩
theorem fitR51 : TyFit Tryz.prog lim0 51 kClue := ⟨⟨_, Tryz.type51, rfl, rfl⟩, _, Tryz.underlying51, rfl, ⟨_, Tryz.type3, rfl⟩, rfl, ⟨_, Tryz.type3, rfl⟩, rfl, ⟨_, Tryz.type3, rfl⟩⟩
theorem fitR22 : TyFit Tryz.prog lim0 22 kSClue := ⟨⟨_, Tryz.type22, rfl, rfl⟩, rfl, Tryz.underlying22, _, Tryz.type51, rfl, rfl, of_decide_eq_true (by kernel_rfl), of_decide_eq_true (by kernel_rfl)⟩
theorem fitR4 : TyFit Tryz.prog lim0 4 kbool := ⟨⟨_, Tryz.type4, rfl, rfl⟩, Tryz.underlying4⟩
theorem tyFitsR : ∀ p, p ∈ tyLR → TyFit Tryz.prog lim0 p.1 p.2 := by
  intro p hp
  simp only [tyLR, List.mem_cons, List.not_mem_nil, or_false] at hp
  rcases hp with rfl | rfl | rfl | rfl | rfl | rfl | rfl
  · exact fitR3
  · exact fitR30
  · exact fitR32
  · exact fitR25
  · exact fitR51
  · exact fitR22
  · exact fitR4
theorem tyEqsR : ∀ p, p ∈ tyLR → EqOk Tryz.prog p.1 p.2 := by
  intro p hp
  simp only [tyLR, List.mem_cons, List.not_mem_nil, or_false] at hp
  rcases hp with rfl | rfl | rfl | rfl | rfl | rfl | rfl
  · exact trivial
  · exact trivial
  · exact fun h => by cases h
  · exact trivial
  · exact fun _ => ⟨by kernel_rfl, by kernel_rfl, _, Tryz.underlying51, of_decide_eq_true (by kernel_rfl), rfl, Tryz.underlying3, of_decide_eq_true (by kernel_rfl), rfl, Tryz.underlying3, of_decide_eq_true (by kernel_rfl), rfl, Tryz.underlying3⟩
  · exact trivial
  · exact trivial
section
variable [RawD]
noncomputable def envR (nt : Nat) (l : List (Nat × FSpec)) (mv : List Nat) : Env := ⟨nt, fun t => lk tyLR t, fun t => ([] : List Nat).any fun u => Nat.beq u t, lim0, spLk l, PreD textPre kStairs RawD.D, fun t => mv.any fun u => Nat.beq u t⟩
theorem tyOkR (nt : Nat) (l : List (Nat × FSpec)) (mv : List Nat) : TyOk Tryz.prog (envR nt l mv) := tyOk_of tyFitsR (fun t ht => by cases ht) tyEqsR nt (spLk l) _ _
theorem spOkR {nt : Nat} {l : List (Nat × FSpec)} {mv : List Nat} (h : AllCert Tryz.prog (PreD textPre kStairs RawD.D) l) : SpOk Tryz.prog (envR nt l mv) := spOk_of h
end
theorem follows : Tryz.prog.follows .mixedOrders = true := by kernel_rfl
noncomputable def bodyOf (f : Func) : Code := match f.body with | some c => c | none => .skip
end Go.Proofs.YtoldoplpnkojdaaGreatDoor.V
