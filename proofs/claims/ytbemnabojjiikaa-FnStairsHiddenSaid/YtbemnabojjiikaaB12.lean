/- Functions of the program, as plain functions. No condition. -/
import Derived.Test.YtbemnabojjiikaaB11
set_option linter.unusedVariables false
set_option linter.unusedSimpArgs false
set_option maxRecDepth 100000
namespace Go.Proofs.Ytbemnabojjiikaa.V
open Go Go.Ev Go.Proofs
/-! laws.wPuzzle -/
noncomputable def c_w_wPuzzle : FnCx := { env := env 31 [] [], body := bodyOf Try.f51, res := [.tmp 4], ins := [.ro kPuzzle, .ro kPuzzle], out := [(kbool, true)], T := Bool, fin := fun r => r.1.1, inj := fun t => ((t, ()), ((), (), ())), pts := [([.inLoop [1, 1, 0, 1, 0, 0], .inBlock 0, .code [1, 1, 1]], Shape.mk [Bs.box 28 [Cs.sl 2], Bs.box 28 [Cs.sl 3], Bs.row kClue 63 false, Bs.row kClue 63 false] [(2, Ss.one (Cs.ptr 0 0)), (3, Ss.one (Cs.ptr 1 0)), (15, Ss.one (Cs.sc kint)), (16, Ss.one (Cs.sc kint))] [Ss.one (Cs.any), Ss.one (Cs.any)])], fuel := 400, dr := evDr (env 31 [] []) }
noncomputable def w_wPuzzle_t1 (g1 : List (Int × (Int × Int)) → List (Int × (Int × Int)) → Int → Int → Option (Bool)) (r2 : List (Int × (Int × Int))) (r3 : List (Int × (Int × Int))) (s15 : Int) (s16 : Int) : Option Bool :=
  bif decide (s16 < s15) then
    bif decide (0 ≤ s16) then
      bif decide (s16 < (↑(List.length r2) : Int)) then
        bif decide (0 ≤ s16) then
          bif decide (s16 < (↑(List.length r3) : Int)) then
            bif
                !(Prod.fst (rdk kClue r2 s16) ==
                      Prod.fst (rdk kClue r3 s16) &&
                    (Prod.fst (Prod.snd (rdk kClue r2 s16)) ==
                        Prod.fst (Prod.snd (rdk kClue r3 s16)) &&
                      Prod.snd (Prod.snd (rdk kClue r2 s16)) ==
                        Prod.snd (Prod.snd (rdk kClue r3 s16)))) then
              some false
            else g1 r2 r3 s15 (IntKind.wrap IntKind.i64 (s16 + 1))
          else none
        else none
      else none
    else none
  else some true
noncomputable def w_wPuzzle_t0 (g1 : List (Int × (Int × Int)) → List (Int × (Int × Int)) → Int → Int → Option (Bool)) (a0_Clues : List (Int × Int × Int)) (b1_Clues : List (Int × Int × Int)) : Option Bool :=
  bif (↑(List.length a0_Clues) : Int) != (↑(List.length b1_Clues) : Int) then some false else g1 a0_Clues b1_Clues (↑(List.length a0_Clues) : Int) 0
theorem w_wPuzzle_ts : Tails c_w_wPuzzle.pts c_w_wPuzzle.round :=
  ⟨fun s => by
    obtain ⟨⟨⟨_, _⟩, ⟨_, _⟩, r2, r3, _⟩, ⟨_, _, s15, s16, _⟩, ⟨_, _, _⟩⟩ := s
    refine Tail.eq (Y := fun g => w_wPuzzle_t1 (fun r2 r3 s15 s16 => g.1 ((((), ()), ((), ()), r2, r3, ()), ((), (), s15, s16, ()), ((), (), ()))) r2 r3 s15 s16) ?_ (fun g => by kernel_rfl)
    simp only [w_wPuzzle_t1]; repeat (first | exact Tail.const _ | exact Tail.here _ | exact Tail.there (Tail.here _) | exact Tail.there (Tail.there (Tail.here _)) | exact Tail.there (Tail.there (Tail.there (Tail.here _))) | exact Tail.there (Tail.there (Tail.there (Tail.there (Tail.here _)))) | exact Tail.there (Tail.there (Tail.there (Tail.there (Tail.there (Tail.here _))))) | apply Tail.cond | (apply Tail.bind; intro _)), trivial⟩
theorem w_wPuzzle_hs : ∀ x, Tail c_w_wPuzzle.pts (fun g => c_w_wPuzzle.start g x) := fun x => by
    obtain ⟨a0_Clues, b1_Clues, _⟩ := x
    refine Tail.eq (Y := fun g => w_wPuzzle_t0 (fun r2 r3 s15 s16 => g.1 ((((), ()), ((), ()), r2, r3, ()), ((), (), s15, s16, ()), ((), (), ()))) a0_Clues b1_Clues) ?_ (fun g => by kernel_rfl)
    simp only [w_wPuzzle_t0]; repeat (first | exact Tail.const _ | exact Tail.here _ | exact Tail.there (Tail.here _) | exact Tail.there (Tail.there (Tail.here _)) | exact Tail.there (Tail.there (Tail.there (Tail.here _))) | exact Tail.there (Tail.there (Tail.there (Tail.there (Tail.here _)))) | exact Tail.there (Tail.there (Tail.there (Tail.there (Tail.there (Tail.here _))))) | apply Tail.cond | (apply Tail.bind; intro _))
noncomputable def w_wPuzzle_L1 (r2 : List (Int × (Int × Int))) (r3 : List (Int × (Int × Int))) (s15 : Int) (s16 : Int) : Option Bool := c_w_wPuzzle.L.1 ((((), ()), ((), ()), r2, r3, ()), ((), (), s15, s16, ()), ((), (), ()))
theorem w_wPuzzle_u1 (r2 : List (Int × (Int × Int))) (r3 : List (Int × (Int × Int))) (s15 : Int) (s16 : Int) : w_wPuzzle_L1 r2 r3 s15 s16 = w_wPuzzle_t1 w_wPuzzle_L1 r2 r3 s15 s16 :=
  (congrArg (fun g => g.1 ((((), ()), ((), ()), r2, r3, ()), ((), (), s15, s16, ()), ((), (), ()))) (FnCx.L_eq w_wPuzzle_ts)).trans (by kernel_rfl)
noncomputable def w_wPuzzle (a0_Clues : List (Int × Int × Int)) (b1_Clues : List (Int × Int × Int)) : Option Bool := w_wPuzzle_t0 w_wPuzzle_L1 a0_Clues b1_Clues
theorem w_wPuzzle_e (a0_Clues : List (Int × Int × Int)) (b1_Clues : List (Int × Int × Int)) : c_w_wPuzzle.start c_w_wPuzzle.L (a0_Clues, b1_Clues, ()) = w_wPuzzle a0_Clues b1_Clues := by kernel_rfl
noncomputable def F_w_wPuzzle : Ins c_w_wPuzzle.ins → Option Bool := fun x => w_wPuzzle x.1 x.2.1
noncomputable def S_w_wPuzzle : FSpec := mkF c_w_wPuzzle.env.pre c_w_wPuzzle.ins c_w_wPuzzle.out c_w_wPuzzle.inj F_w_wPuzzle
theorem h_w_wPuzzle : Cert Try.prog 51 S_w_wPuzzle := FnCx.certF (c := c_w_wPuzzle) F_w_wPuzzle (tyOk _ _ _) (spOk trivial) (fun _ _ _ _ _ hs => evDr_ok (tyOk _ _ _) hs follows) Try.func51 rfl rfl Try.ntmps51 (by kernel_rfl) rfl rfl (fun _ => rfl) w_wPuzzle_ts w_wPuzzle_hs (fun x t hb ht => by
  obtain ⟨a0_Clues, b1_Clues, _⟩ := x
  exact (w_wPuzzle_e a0_Clues b1_Clues).trans ht)
/-! impl.DoesFit -/
noncomputable def c_i_DoesFit : FnCx := { env := env 17 [(63, S_i_IsClue), (78, S_i_isHidden), (97, S_i_fits)] [], body := bodyOf Try.f53, res := [.tmp 4, .tmp 5], ins := [.ro kClue, .ro kStairs], out := [(kbool, true), (kbool, true)], T := Bool × Bool, fin := fun r => (r.1.1, r.1.2.1), inj := fun t => ((t.1, t.2, ()), ((), (), ())), pts := [], fuel := 400, dr := noDr }
noncomputable def i_DoesFit (c0_Kind : Int) (c0_A : Int) (c0_B : Int) (s1_Steps : Int) (s1_Strides : List Int) (s1_Broken : List Int) : Option (Bool × Bool) :=
  bif !i_IsClue c0_Kind c0_A c0_B then some (false, false)
  else
    bif !i_isHidden s1_Steps s1_Strides s1_Broken then some (false, false)
    else Option.bind (i_fits c0_Kind c0_A c0_B s1_Steps s1_Strides s1_Broken) fun r => some (r, true)
theorem i_DoesFit_e (c0_Kind : Int) (c0_A : Int) (c0_B : Int) (s1_Steps : Int) (s1_Strides : List Int) (s1_Broken : List Int) : c_i_DoesFit.start c_i_DoesFit.L ((c0_Kind, c0_A, c0_B), (s1_Steps, s1_Strides, s1_Broken), ()) = i_DoesFit c0_Kind c0_A c0_B s1_Steps s1_Strides s1_Broken := by kernel_rfl
noncomputable def F_i_DoesFit : Ins c_i_DoesFit.ins → Option (Bool × Bool) := fun x => i_DoesFit x.1.1 x.1.2.1 x.1.2.2 x.2.1.1 x.2.1.2.1 x.2.1.2.2
noncomputable def S_i_DoesFit : FSpec := mkF c_i_DoesFit.env.pre c_i_DoesFit.ins c_i_DoesFit.out c_i_DoesFit.inj F_i_DoesFit
theorem h_i_DoesFit : Cert Try.prog 53 S_i_DoesFit := FnCx.certF (c := c_i_DoesFit) F_i_DoesFit (tyOk _ _ _) (spOk ⟨h_i_IsClue, fun _ _ _ => trivial, ⟨h_i_isHidden, fun _ _ _ => trivial, ⟨h_i_fits, fun _ _ _ => trivial, trivial⟩⟩⟩) (fun _ _ _ _ _ hs => noDr_ok) Try.func53 rfl rfl Try.ntmps53 (by kernel_rfl) rfl rfl (fun _ => rfl) trivial (fun x => .inl ⟨c_i_DoesFit.start () x, fun _ => rfl⟩) (fun x t hb ht => by
  obtain ⟨⟨c0_Kind, c0_A, c0_B⟩, ⟨s1_Steps, s1_Strides, s1_Broken⟩, _⟩ := x
  exact (i_DoesFit_e c0_Kind c0_A c0_B s1_Steps s1_Strides s1_Broken).trans ht)
/-! laws.wSame -/
noncomputable def c_w_wSame : FnCx := { env := env 26 [] [], body := bodyOf Try.f134, res := [.tmp 4], ins := [.ro kSint, .ro kSint], out := [(kbool, true)], T := Bool, fin := fun r => r.1.1, inj := fun t => ((t, ()), ((), (), ())), pts := [([.inLoop [1, 1, 0, 1, 0, 0], .inBlock 0, .code [1, 1, 1]], Shape.mk [Bs.row kint 3 false, Bs.row kint 3 false] [(0, Ss.one (Cs.sl 0)), (1, Ss.one (Cs.sl 1)), (12, Ss.one (Cs.sc kint)), (13, Ss.one (Cs.sc kint))] [Ss.one (Cs.any), Ss.one (Cs.any)])], fuel := 400, dr := evDr (env 26 [] []) }
noncomputable def w_wSame_t1 (g1 : List (Int) → List (Int) → Int → Int → Option (Bool)) (r0 : List (Int)) (r1 : List (Int)) (s12 : Int) (s13 : Int) : Option Bool :=
  bif decide (s13 < s12) then
    bif decide (0 ≤ s13) then
      bif decide (s13 < (↑(List.length r0) : Int)) then
        bif decide (0 ≤ s13) then
          bif decide (s13 < (↑(List.length r1) : Int)) then
            bif rdk kint r0 s13 != rdk kint r1 s13 then some false else g1 r0 r1 s12 (IntKind.wrap IntKind.i64 (s13 + 1))
          else none
        else none
      else none
    else none
  else some true
noncomputable def w_wSame_t0 (g1 : List (Int) → List (Int) → Int → Int → Option (Bool)) (a0 : List Int) (b1 : List Int) : Option Bool :=
  bif (↑(List.length a0) : Int) != (↑(List.length b1) : Int) then some false else g1 a0 b1 (↑(List.length a0) : Int) 0
theorem w_wSame_ts : Tails c_w_wSame.pts c_w_wSame.round :=
  ⟨fun s => by
    obtain ⟨⟨r0, r1, _⟩, ⟨_, _, s12, s13, _⟩, ⟨_, _, _⟩⟩ := s
    refine Tail.eq (Y := fun g => w_wSame_t1 (fun r0 r1 s12 s13 => g.1 ((r0, r1, ()), ((), (), s12, s13, ()), ((), (), ()))) r0 r1 s12 s13) ?_ (fun g => by kernel_rfl)
    simp only [w_wSame_t1]; repeat (first | exact Tail.const _ | exact Tail.here _ | exact Tail.there (Tail.here _) | exact Tail.there (Tail.there (Tail.here _)) | exact Tail.there (Tail.there (Tail.there (Tail.here _))) | exact Tail.there (Tail.there (Tail.there (Tail.there (Tail.here _)))) | exact Tail.there (Tail.there (Tail.there (Tail.there (Tail.there (Tail.here _))))) | apply Tail.cond | (apply Tail.bind; intro _)), trivial⟩
theorem w_wSame_hs : ∀ x, Tail c_w_wSame.pts (fun g => c_w_wSame.start g x) := fun x => by
    obtain ⟨a0, b1, _⟩ := x
    refine Tail.eq (Y := fun g => w_wSame_t0 (fun r0 r1 s12 s13 => g.1 ((r0, r1, ()), ((), (), s12, s13, ()), ((), (), ()))) a0 b1) ?_ (fun g => by kernel_rfl)
    simp only [w_wSame_t0]; repeat (first | exact Tail.const _ | exact Tail.here _ | exact Tail.there (Tail.here _) | exact Tail.there (Tail.there (Tail.here _)) | exact Tail.there (Tail.there (Tail.there (Tail.here _))) | exact Tail.there (Tail.there (Tail.there (Tail.there (Tail.here _)))) | exact Tail.there (Tail.there (Tail.there (Tail.there (Tail.there (Tail.here _))))) | apply Tail.cond | (apply Tail.bind; intro _))
noncomputable def w_wSame_L1 (r0 : List (Int)) (r1 : List (Int)) (s12 : Int) (s13 : Int) : Option Bool := c_w_wSame.L.1 ((r0, r1, ()), ((), (), s12, s13, ()), ((), (), ()))
theorem w_wSame_u1 (r0 : List (Int)) (r1 : List (Int)) (s12 : Int) (s13 : Int) : w_wSame_L1 r0 r1 s12 s13 = w_wSame_t1 w_wSame_L1 r0 r1 s12 s13 :=
  (congrArg (fun g => g.1 ((r0, r1, ()), ((), (), s12, s13, ()), ((), (), ()))) (FnCx.L_eq w_wSame_ts)).trans (by kernel_rfl)
noncomputable def w_wSame (a0 : List Int) (b1 : List Int) : Option Bool := w_wSame_t0 w_wSame_L1 a0 b1
theorem w_wSame_e (a0 : List Int) (b1 : List Int) : c_w_wSame.start c_w_wSame.L (a0, b1, ()) = w_wSame a0 b1 := by kernel_rfl
noncomputable def F_w_wSame : Ins c_w_wSame.ins → Option Bool := fun x => w_wSame x.1 x.2.1
noncomputable def S_w_wSame : FSpec := mkF c_w_wSame.env.pre c_w_wSame.ins c_w_wSame.out c_w_wSame.inj F_w_wSame
theorem h_w_wSame : Cert Try.prog 134 S_w_wSame := FnCx.certF (c := c_w_wSame) F_w_wSame (tyOk _ _ _) (spOk trivial) (fun _ _ _ _ _ hs => evDr_ok (tyOk _ _ _) hs follows) Try.func134 rfl rfl Try.ntmps134 (by kernel_rfl) rfl rfl (fun _ => rfl) w_wSame_ts w_wSame_hs (fun x t hb ht => by
  obtain ⟨a0, b1, _⟩ := x
  exact (w_wSame_e a0 b1).trans ht)
/-! laws.wStairs -/
noncomputable def c_w_wStairs : FnCx := { env := env 24 [(134, S_w_wSame)] [], body := bodyOf Try.f104, res := [.tmp 4], ins := [.ro kStairs, .ro kStairs], out := [(kbool, true)], T := Bool, fin := fun r => r.1.1, inj := fun t => ((t, ()), ((), (), ())), pts := [], fuel := 400, dr := noDr }
noncomputable def w_wStairs (a0_Steps : Int) (a0_Strides : List Int) (a0_Broken : List Int) (b1_Steps : Int) (b1_Strides : List Int) (b1_Broken : List Int) : Option Bool :=
  bif a0_Steps == b1_Steps then
    Option.bind (w_wSame a0_Strides b1_Strides) fun r => bif r then Option.bind (w_wSame a0_Broken b1_Broken) fun r => some r else some false
  else some false
theorem w_wStairs_e (a0_Steps : Int) (a0_Strides : List Int) (a0_Broken : List Int) (b1_Steps : Int) (b1_Strides : List Int) (b1_Broken : List Int) : c_w_wStairs.start c_w_wStairs.L ((a0_Steps, a0_Strides, a0_Broken), (b1_Steps, b1_Strides, b1_Broken), ()) = w_wStairs a0_Steps a0_Strides a0_Broken b1_Steps b1_Strides b1_Broken := by kernel_rfl
noncomputable def F_w_wStairs : Ins c_w_wStairs.ins → Option Bool := fun x => w_wStairs x.1.1 x.1.2.1 x.1.2.2 x.2.1.1 x.2.1.2.1 x.2.1.2.2
noncomputable def S_w_wStairs : FSpec := mkF c_w_wStairs.env.pre c_w_wStairs.ins c_w_wStairs.out c_w_wStairs.inj F_w_wStairs
theorem h_w_wStairs : Cert Try.prog 104 S_w_wStairs := FnCx.certF (c := c_w_wStairs) F_w_wStairs (tyOk _ _ _) (spOk ⟨h_w_wSame, fun _ _ _ => trivial, trivial⟩) (fun _ _ _ _ _ hs => noDr_ok) Try.func104 rfl rfl Try.ntmps104 (by kernel_rfl) rfl rfl (fun _ => rfl) trivial (fun x => .inl ⟨c_w_wStairs.start () x, fun _ => rfl⟩) (fun x t hb ht => by
  obtain ⟨⟨a0_Steps, a0_Strides, a0_Broken⟩, ⟨b1_Steps, b1_Strides, b1_Broken⟩, _⟩ := x
  exact (w_wStairs_e a0_Steps a0_Strides a0_Broken b1_Steps b1_Strides b1_Broken).trans ht)
/-! laws.wLists -/
noncomputable def c_w_wLists : FnCx := { env := env 27 [(104, S_w_wStairs)] [], body := bodyOf Try.f57, res := [.tmp 4], ins := [.ro kSStairs, .ro kSStairs], out := [(kbool, true)], T := Bool, fin := fun r => r.1.1, inj := fun t => ((t, ()), ((), (), ())), pts := [([.inLoop [1, 1, 0, 1, 0, 0], .inBlock 0, .code [1, 1, 1]], Shape.mk [Bs.row kStairs 31 false, Bs.row kStairs 31 false] [(0, Ss.one (Cs.sl 0)), (1, Ss.one (Cs.sl 1)), (12, Ss.one (Cs.sc kint)), (13, Ss.one (Cs.sc kint))] [Ss.one (Cs.any), Ss.one (Cs.any)])], fuel := 400, dr := evDr (env 27 [(104, S_w_wStairs)] []) }
noncomputable def w_wLists_t1 (g1 : List ((Int × (List (Int) × List (Int)))) → List ((Int × (List (Int) × List (Int)))) → Int → Int → Option (Bool)) (r0 : List ((Int × (List (Int) × List (Int))))) (r1 : List ((Int × (List (Int) × List (Int))))) (s12 : Int) (s13 : Int) : Option Bool :=
  bif decide (s13 < s12) then
    bif decide (0 ≤ s13) then
      bif decide (s13 < (↑(List.length r0) : Int)) then
        bif decide (0 ≤ s13) then
          bif decide (s13 < (↑(List.length r1) : Int)) then
            Option.bind
              (w_wStairs (Prod.fst (rdk kStairs r0 s13))
                (Prod.fst (Prod.snd (rdk kStairs r0 s13)))
                (Prod.snd (Prod.snd (rdk kStairs r0 s13)))
                (Prod.fst (rdk kStairs r1 s13))
                (Prod.fst (Prod.snd (rdk kStairs r1 s13)))
                (Prod.snd (Prod.snd (rdk kStairs r1 s13))))
              fun r => bif !r then some false else g1 r0 r1 s12 (IntKind.wrap IntKind.i64 (s13 + 1))
          else none
        else none
      else none
    else none
  else some true
noncomputable def w_wLists_t0 (g1 : List ((Int × (List (Int) × List (Int)))) → List ((Int × (List (Int) × List (Int)))) → Int → Int → Option (Bool)) (a0 : List ((Int × List Int × List Int))) (b1 : List ((Int × List Int × List Int))) : Option Bool :=
  bif (↑(List.length a0) : Int) != (↑(List.length b1) : Int) then some false else g1 a0 b1 (↑(List.length a0) : Int) 0
theorem w_wLists_ts : Tails c_w_wLists.pts c_w_wLists.round :=
  ⟨fun s => by
    obtain ⟨⟨r0, r1, _⟩, ⟨_, _, s12, s13, _⟩, ⟨_, _, _⟩⟩ := s
    refine Tail.eq (Y := fun g => w_wLists_t1 (fun r0 r1 s12 s13 => g.1 ((r0, r1, ()), ((), (), s12, s13, ()), ((), (), ()))) r0 r1 s12 s13) ?_ (fun g => by kernel_rfl)
    simp only [w_wLists_t1]; repeat (first | exact Tail.const _ | exact Tail.here _ | exact Tail.there (Tail.here _) | exact Tail.there (Tail.there (Tail.here _)) | exact Tail.there (Tail.there (Tail.there (Tail.here _))) | exact Tail.there (Tail.there (Tail.there (Tail.there (Tail.here _)))) | exact Tail.there (Tail.there (Tail.there (Tail.there (Tail.there (Tail.here _))))) | apply Tail.cond | (apply Tail.bind; intro _)), trivial⟩
theorem w_wLists_hs : ∀ x, Tail c_w_wLists.pts (fun g => c_w_wLists.start g x) := fun x => by
    obtain ⟨a0, b1, _⟩ := x
    refine Tail.eq (Y := fun g => w_wLists_t0 (fun r0 r1 s12 s13 => g.1 ((r0, r1, ()), ((), (), s12, s13, ()), ((), (), ()))) a0 b1) ?_ (fun g => by kernel_rfl)
    simp only [w_wLists_t0]; repeat (first | exact Tail.const _ | exact Tail.here _ | exact Tail.there (Tail.here _) | exact Tail.there (Tail.there (Tail.here _)) | exact Tail.there (Tail.there (Tail.there (Tail.here _))) | exact Tail.there (Tail.there (Tail.there (Tail.there (Tail.here _)))) | exact Tail.there (Tail.there (Tail.there (Tail.there (Tail.there (Tail.here _))))) | apply Tail.cond | (apply Tail.bind; intro _))
noncomputable def w_wLists_L1 (r0 : List ((Int × (List (Int) × List (Int))))) (r1 : List ((Int × (List (Int) × List (Int))))) (s12 : Int) (s13 : Int) : Option Bool := c_w_wLists.L.1 ((r0, r1, ()), ((), (), s12, s13, ()), ((), (), ()))
theorem w_wLists_u1 (r0 : List ((Int × (List (Int) × List (Int))))) (r1 : List ((Int × (List (Int) × List (Int))))) (s12 : Int) (s13 : Int) : w_wLists_L1 r0 r1 s12 s13 = w_wLists_t1 w_wLists_L1 r0 r1 s12 s13 :=
  (congrArg (fun g => g.1 ((r0, r1, ()), ((), (), s12, s13, ()), ((), (), ()))) (FnCx.L_eq w_wLists_ts)).trans (by kernel_rfl)
noncomputable def w_wLists (a0 : List ((Int × List Int × List Int))) (b1 : List ((Int × List Int × List Int))) : Option Bool := w_wLists_t0 w_wLists_L1 a0 b1
theorem w_wLists_e (a0 : List ((Int × List Int × List Int))) (b1 : List ((Int × List Int × List Int))) : c_w_wLists.start c_w_wLists.L (a0, b1, ()) = w_wLists a0 b1 := by kernel_rfl
noncomputable def F_w_wLists : Ins c_w_wLists.ins → Option Bool := fun x => w_wLists x.1 x.2.1
noncomputable def S_w_wLists : FSpec := mkF c_w_wLists.env.pre c_w_wLists.ins c_w_wLists.out c_w_wLists.inj F_w_wLists
theorem h_w_wLists : Cert Try.prog 57 S_w_wLists := FnCx.certF (c := c_w_wLists) F_w_wLists (tyOk _ _ _) (spOk ⟨h_w_wStairs, fun _ _ _ => trivial, trivial⟩) (fun _ _ _ _ _ hs => evDr_ok (tyOk _ _ _) hs follows) Try.func57 rfl rfl Try.ntmps57 (by kernel_rfl) rfl rfl (fun _ => rfl) w_wLists_ts w_wLists_hs (fun x t hb ht => by
  obtain ⟨a0, b1, _⟩ := x
  exact (w_wLists_e a0 b1).trans ht)
/-! spec.AddClue -/
noncomputable def c_s_AddClue : FnCx := { env := env 29 [(86, S_s_pzGood), (105, S_s_pzClue)] [], body := bodyOf Try.f59, res := [.cell 4 28, .tmp 5], ins := [.ro kPuzzle, .ro kClue], out := [(kPuzzle, true), (kbool, true)], T := List (Int × Int × Int) × Bool, fin := fun r => (r.1.1, r.1.2.1), inj := fun t => ((t.1, t.2, ()), ((), (), ())), pts := [], fuel := 400, dr := evDr (env 29 [(86, S_s_pzGood), (105, S_s_pzClue)] []) }
noncomputable def s_AddClue (p0_Clues : List (Int × Int × Int)) (c1_Kind : Int) (c1_A : Int) (c1_B : Int) : Option (List (Int × Int × Int) × Bool) :=
  bif !s_pzGood_n p0_Clues then some ([], false)
  else
    bif !s_pzClue c1_Kind c1_A c1_B then some ([], false)
    else
      bif (↑(List.length p0_Clues) : Int) == 6 then some ([], false)
      else
        bif Nat.ble (0 + List.length p0_Clues) 4294967296 then
          bif Nat.ble (List.length ([] ++ p0_Clues) + 1) 4294967296 then some ([] ++ p0_Clues ++ [(c1_Kind, c1_A, c1_B)], true) else none
        else none
theorem s_AddClue_e (p0_Clues : List (Int × Int × Int)) (c1_Kind : Int) (c1_A : Int) (c1_B : Int) : c_s_AddClue.start c_s_AddClue.L (p0_Clues, (c1_Kind, c1_A, c1_B), ()) = s_AddClue p0_Clues c1_Kind c1_A c1_B := by kernel_rfl
-- NICE tot
noncomputable def s_AddClue_n (p : List (Int × Int × Int)) (a b c : Int) : List (Int × Int × Int) × Bool := bif s_pzGood_n p && (s_pzClue a b c && !decide (p.length = 6)) then (p ++ [(a, b, c)], true) else ([], false)
theorem s_AddClue_ok (p : List (Int × Int × Int)) (a b c : Int) (hb : BdI c_s_AddClue.ins (p, (a, b, c), ())) : s_AddClue p a b c = some (s_AddClue_n p a b c) := by
  unfold s_AddClue s_AddClue_n
  cases h1 : s_pzGood_n p
  · rfl
  · have hl := s_pzGood_len h1
    have e : ((p.length : Int) == 6) = decide (p.length = 6) := by by_cases h : p.length = 6 <;> simp [h]; omega
    have h2 : p.length ≤ 4294967296 := by omega
    have h3 : p.length ≤ 4294967295 := by omega
    rw [e]
    cases s_pzClue a b c <;> cases decide (p.length = 6) <;> simp [ble_dec, h2, h3]
noncomputable def F_s_AddClue : Ins c_s_AddClue.ins → (List (Int × Int × Int) × Bool) := fun x => s_AddClue_n x.1 x.2.1.1 x.2.1.2.1 x.2.1.2.2
noncomputable def S_s_AddClue : FSpec := mkT c_s_AddClue.env.pre c_s_AddClue.ins c_s_AddClue.out c_s_AddClue.inj F_s_AddClue
theorem h_s_AddClue : Cert Try.prog 59 S_s_AddClue := FnCx.certT (c := c_s_AddClue) F_s_AddClue (tyOk _ _ _) (spOk ⟨h_s_pzGood, fun _ _ _ => trivial, ⟨h_s_pzClue, fun _ _ _ => trivial, trivial⟩⟩) (fun _ _ _ _ _ hs => evDr_ok (tyOk _ _ _) hs follows) Try.func59 rfl rfl Try.ntmps59 (by kernel_rfl) rfl rfl (fun _ => rfl) trivial (fun x => .inl ⟨c_s_AddClue.start () x, fun _ => rfl⟩) (fun x hb => by
  obtain ⟨p0_Clues, ⟨c1_Kind, c1_A, c1_B⟩, _⟩ := x
  exact (s_AddClue_e p0_Clues c1_Kind c1_A c1_B).trans (s_AddClue_ok p0_Clues c1_Kind c1_A c1_B hb))
/-! impl.AddClue -/
noncomputable def c_i_AddClue : FnCx := { env := env 28 [(56, S_i_IsPuzzle), (63, S_i_IsClue), (95, S_slices_Clone_Clue)] [], body := bodyOf Try.f58, res := [.cell 4 28, .tmp 5], ins := [.ro kPuzzle, .ro kClue], out := [(kPuzzle, true), (kbool, true)], T := List (Int × Int × Int) × Bool, fin := fun r => (r.1.1, r.1.2.1), inj := fun t => ((t.1, t.2, ()), ((), (), ())), pts := [], fuel := 400, dr := evDr (env 28 [(56, S_i_IsPuzzle), (63, S_i_IsClue), (95, S_slices_Clone_Clue)] []) }
noncomputable def i_AddClue (p0_Clues : List (Int × Int × Int)) (c1_Kind : Int) (c1_A : Int) (c1_B : Int) : Option (List (Int × Int × Int) × Bool) :=
  bif !i_IsPuzzle p0_Clues then some ([], false)
  else
    bif !i_IsClue c1_Kind c1_A c1_B then some ([], false)
    else
      bif (↑(List.length p0_Clues) : Int) == 6 then some ([], false)
      else Option.bind (slices_Clone_Clue_n p0_Clues) fun r => bif Nat.ble (List.length r + 1) 4294967296 then some (r ++ [(c1_Kind, c1_A, c1_B)], true) else none
theorem i_AddClue_e (p0_Clues : List (Int × Int × Int)) (c1_Kind : Int) (c1_A : Int) (c1_B : Int) : c_i_AddClue.start c_i_AddClue.L (p0_Clues, (c1_Kind, c1_A, c1_B), ()) = i_AddClue p0_Clues c1_Kind c1_A c1_B := by kernel_rfl
-- NICE tot
noncomputable def i_AddClue_n (p : List (Int × Int × Int)) (a b c : Int) : List (Int × Int × Int) × Bool := s_AddClue_n p a b c
theorem i_AddClue_ok (p : List (Int × Int × Int)) (a b c : Int) (hb : BdI c_i_AddClue.ins (p, (a, b, c), ())) : i_AddClue p a b c = some (i_AddClue_n p a b c) := by
  unfold i_AddClue i_AddClue_n s_AddClue_n
  rw [IsPuzzle_eq, IsClue_eq]
  cases h1 : s_pzGood_n p
  · rfl
  · have hl := s_pzGood_len h1
    have e : ((p.length : Int) == 6) = decide (p.length = 6) := by by_cases h : p.length = 6 <;> simp [h]; omega
    have h2 : p.length ≤ 4294967296 := by omega
    have h3 : p.length ≤ 4294967295 := by omega
    rw [e]
    cases s_pzClue a b c <;> cases decide (p.length = 6) <;> simp [ble_dec, h2, h3, slices_Clone_Clue_n]
noncomputable def F_i_AddClue : Ins c_i_AddClue.ins → (List (Int × Int × Int) × Bool) := fun x => i_AddClue_n x.1 x.2.1.1 x.2.1.2.1 x.2.1.2.2
noncomputable def S_i_AddClue : FSpec := mkT c_i_AddClue.env.pre c_i_AddClue.ins c_i_AddClue.out c_i_AddClue.inj F_i_AddClue
theorem h_i_AddClue : Cert Try.prog 58 S_i_AddClue := FnCx.certT (c := c_i_AddClue) F_i_AddClue (tyOk _ _ _) (spOk ⟨h_i_IsPuzzle, fun _ _ _ => trivial, ⟨h_i_IsClue, fun _ _ _ => trivial, ⟨h_slices_Clone_Clue, fun _ _ _ => trivial, trivial⟩⟩⟩) (fun _ _ _ _ _ hs => evDr_ok (tyOk _ _ _) hs follows) Try.func58 rfl rfl Try.ntmps58 (by kernel_rfl) rfl rfl (fun _ => rfl) trivial (fun x => .inl ⟨c_i_AddClue.start () x, fun _ => rfl⟩) (fun x hb => by
  obtain ⟨p0_Clues, ⟨c1_Kind, c1_A, c1_B⟩, _⟩ := x
  exact (i_AddClue_e p0_Clues c1_Kind c1_A c1_B).trans (i_AddClue_ok p0_Clues c1_Kind c1_A c1_B hb))
/-! spec.DropClue -/
noncomputable def c_s_DropClue : FnCx := { env := env 24 [(86, S_s_pzGood), (74, S_s_l1In), (93, S_s_pzWithout)] [], body := bodyOf Try.f61, res := [.cell 4 28, .tmp 5], ins := [.ro kPuzzle, .ro kint], out := [(kPuzzle, true), (kbool, true)], T := List (Int × Int × Int) × Bool, fin := fun r => (r.1.1, r.1.2.1), inj := fun t => ((t.1, t.2, ()), ((), (), ())), pts := [], fuel := 400, dr := noDr }
noncomputable def s_DropClue (p0_Clues : List (Int × Int × Int)) (k1 : Int) : Option (List (Int × Int × Int) × Bool) :=
  bif !s_pzGood_n p0_Clues then some ([], false)
  else
    bif !s_l1In k1 0 (IntKind.wrap IntKind.i64 ((↑(List.length p0_Clues) : Int) - 1)) then some ([], false)
    else Option.bind (s_pzWithout p0_Clues k1) fun r => some (r, true)
theorem s_DropClue_e (p0_Clues : List (Int × Int × Int)) (k1 : Int) : c_s_DropClue.start c_s_DropClue.L (p0_Clues, k1, ()) = s_DropClue p0_Clues k1 := by kernel_rfl
-- NICE tot
noncomputable def s_DropClue_n (p : List (Int × Int × Int)) (k : Int) : List (Int × Int × Int) × Bool := bif s_pzGood_n p && (decide (0 ≤ k) && decide (k < (p.length : Int))) then (p.take k.toNat ++ p.drop (k.toNat + 1), true) else ([], false)
theorem s_DropClue_ok (p : List (Int × Int × Int)) (k : Int) (hb : BdI c_s_DropClue.ins (p, k, ())) : s_DropClue p k = some (s_DropClue_n p k) := by
  unfold s_DropClue s_DropClue_n
  cases h1 : s_pzGood_n p
  · rfl
  · have hl := s_pzGood_len h1
    have hw : IntKind.wrap .i64 ((p.length : Int) - 1) = (p.length : Int) - 1 := by rw [wrapI (by omega) (by omega)]
    have hi : s_l1In k 0 ((p.length : Int) - 1) = (decide (0 ≤ k) && decide (k < (p.length : Int))) := by
      unfold s_l1In
      by_cases h : 0 ≤ k <;> by_cases h' : k < (p.length : Int) <;> simp [h, h'] <;> omega
    rw [hw, hi]
    cases hd : (decide (0 ≤ k) && decide (k < (p.length : Int)))
    · rfl
    · simp only [Bool.and_eq_true, decide_eq_true_eq] at hd
      obtain ⟨n, rfl⟩ : ∃ n : Nat, k = n := ⟨k.toNat, (Int.toNat_of_nonneg hd.1).symm⟩
      have := s_pzWithout_eq p n (by omega) hl
      simp [this]
noncomputable def F_s_DropClue : Ins c_s_DropClue.ins → (List (Int × Int × Int) × Bool) := fun x => s_DropClue_n x.1 x.2.1
noncomputable def S_s_DropClue : FSpec := mkT c_s_DropClue.env.pre c_s_DropClue.ins c_s_DropClue.out c_s_DropClue.inj F_s_DropClue
theorem h_s_DropClue : Cert Try.prog 61 S_s_DropClue := FnCx.certT (c := c_s_DropClue) F_s_DropClue (tyOk _ _ _) (spOk ⟨h_s_pzGood, fun _ _ _ => trivial, ⟨h_s_l1In, fun _ _ _ => trivial, ⟨h_s_pzWithout, fun _ _ _ => trivial, trivial⟩⟩⟩) (fun _ _ _ _ _ hs => noDr_ok) Try.func61 rfl rfl Try.ntmps61 (by kernel_rfl) rfl rfl (fun _ => rfl) trivial (fun x => .inl ⟨c_s_DropClue.start () x, fun _ => rfl⟩) (fun x hb => by
  obtain ⟨p0_Clues, k1, _⟩ := x
  exact (s_DropClue_e p0_Clues k1).trans (s_DropClue_ok p0_Clues k1 hb))
/-! impl.DropClue -/
noncomputable def c_i_DropClue : FnCx := { env := env 24 [(56, S_i_IsPuzzle), (79, S_i_within), (94, S_i_without)] [], body := bodyOf Try.f60, res := [.cell 4 28, .tmp 5], ins := [.ro kPuzzle, .ro kint], out := [(kPuzzle, true), (kbool, true)], T := List (Int × Int × Int) × Bool, fin := fun r => (r.1.1, r.1.2.1), inj := fun t => ((t.1, t.2, ()), ((), (), ())), pts := [], fuel := 400, dr := noDr }
noncomputable def i_DropClue (p0_Clues : List (Int × Int × Int)) (k1 : Int) : Option (List (Int × Int × Int) × Bool) :=
  bif !i_IsPuzzle p0_Clues then some ([], false)
  else
    bif !i_within k1 0 (IntKind.wrap IntKind.i64 ((↑(List.length p0_Clues) : Int) - 1)) then some ([], false)
    else Option.bind (i_without p0_Clues k1) fun r => some (r, true)
theorem i_DropClue_e (p0_Clues : List (Int × Int × Int)) (k1 : Int) : c_i_DropClue.start c_i_DropClue.L (p0_Clues, k1, ()) = i_DropClue p0_Clues k1 := by kernel_rfl
-- NICE tot
noncomputable def i_DropClue_n (p : List (Int × Int × Int)) (k : Int) : List (Int × Int × Int) × Bool := s_DropClue_n p k
theorem i_DropClue_ok (p : List (Int × Int × Int)) (k : Int) (hb : BdI c_i_DropClue.ins (p, k, ())) : i_DropClue p k = some (i_DropClue_n p k) := by
  unfold i_DropClue i_DropClue_n s_DropClue_n
  rw [IsPuzzle_eq]
  cases h1 : s_pzGood_n p
  · rfl
  · have hl := s_pzGood_len h1
    have hw : IntKind.wrap .i64 ((p.length : Int) - 1) = (p.length : Int) - 1 := by rw [wrapI (by omega) (by omega)]
    have hi : i_within k 0 ((p.length : Int) - 1) = (decide (0 ≤ k) && decide (k < (p.length : Int))) := by
      unfold i_within
      by_cases h : 0 ≤ k <;> by_cases h' : k < (p.length : Int) <;> simp [h, h'] <;> omega
    rw [hw, hi]
    cases hd : (decide (0 ≤ k) && decide (k < (p.length : Int)))
    · rfl
    · simp only [Bool.and_eq_true, decide_eq_true_eq] at hd
      obtain ⟨n, rfl⟩ : ∃ n : Nat, k = n := ⟨k.toNat, (Int.toNat_of_nonneg hd.1).symm⟩
      have := i_without_eq p n (by omega) hl
      simp [this]
noncomputable def F_i_DropClue : Ins c_i_DropClue.ins → (List (Int × Int × Int) × Bool) := fun x => i_DropClue_n x.1 x.2.1
noncomputable def S_i_DropClue : FSpec := mkT c_i_DropClue.env.pre c_i_DropClue.ins c_i_DropClue.out c_i_DropClue.inj F_i_DropClue
theorem h_i_DropClue : Cert Try.prog 60 S_i_DropClue := FnCx.certT (c := c_i_DropClue) F_i_DropClue (tyOk _ _ _) (spOk ⟨h_i_IsPuzzle, fun _ _ _ => trivial, ⟨h_i_within, fun _ _ _ => trivial, ⟨h_i_without, fun _ _ _ => trivial, trivial⟩⟩⟩) (fun _ _ _ _ _ hs => noDr_ok) Try.func60 rfl rfl Try.ntmps60 (by kernel_rfl) rfl rfl (fun _ => rfl) trivial (fun x => .inl ⟨c_i_DropClue.start () x, fun _ => rfl⟩) (fun x hb => by
  obtain ⟨p0_Clues, k1, _⟩ := x
  exact (i_DropClue_e p0_Clues k1).trans (i_DropClue_ok p0_Clues k1 hb))
/-! spec.DoesFit -/
noncomputable def c_s_DoesFit : FnCx := { env := env 17 [(73, S_s_pzHidden), (105, S_s_pzClue), (106, S_s_pzFits)] [], body := bodyOf Try.f62, res := [.tmp 4, .tmp 5], ins := [.ro kClue, .ro kStairs], out := [(kbool, true), (kbool, true)], T := Bool × Bool, fin := fun r => (r.1.1, r.1.2.1), inj := fun t => ((t.1, t.2, ()), ((), (), ())), pts := [], fuel := 400, dr := noDr }
noncomputable def s_DoesFit (c0_Kind : Int) (c0_A : Int) (c0_B : Int) (s1_Steps : Int) (s1_Strides : List Int) (s1_Broken : List Int) : Option (Bool × Bool) :=
  Option.bind (s_pzHidden s1_Steps s1_Strides s1_Broken) fun r =>
    bif !r then some (false, false)
    else
      bif !s_pzClue c0_Kind c0_A c0_B then some (false, false) else Option.bind (s_pzFits c0_Kind c0_A c0_B s1_Steps s1_Strides s1_Broken) fun r => some (r, true)
theorem s_DoesFit_e (c0_Kind : Int) (c0_A : Int) (c0_B : Int) (s1_Steps : Int) (s1_Strides : List Int) (s1_Broken : List Int) : c_s_DoesFit.start c_s_DoesFit.L ((c0_Kind, c0_A, c0_B), (s1_Steps, s1_Strides, s1_Broken), ()) = s_DoesFit c0_Kind c0_A c0_B s1_Steps s1_Strides s1_Broken := by kernel_rfl
noncomputable def F_s_DoesFit : Ins c_s_DoesFit.ins → Option (Bool × Bool) := fun x => s_DoesFit x.1.1 x.1.2.1 x.1.2.2 x.2.1.1 x.2.1.2.1 x.2.1.2.2
noncomputable def S_s_DoesFit : FSpec := mkF c_s_DoesFit.env.pre c_s_DoesFit.ins c_s_DoesFit.out c_s_DoesFit.inj F_s_DoesFit
theorem h_s_DoesFit : Cert Try.prog 62 S_s_DoesFit := FnCx.certF (c := c_s_DoesFit) F_s_DoesFit (tyOk _ _ _) (spOk ⟨h_s_pzHidden, fun _ _ _ => trivial, ⟨h_s_pzClue, fun _ _ _ => trivial, ⟨h_s_pzFits, fun _ _ _ => trivial, trivial⟩⟩⟩) (fun _ _ _ _ _ hs => noDr_ok) Try.func62 rfl rfl Try.ntmps62 (by kernel_rfl) rfl rfl (fun _ => rfl) trivial (fun x => .inl ⟨c_s_DoesFit.start () x, fun _ => rfl⟩) (fun x t hb ht => by
  obtain ⟨⟨c0_Kind, c0_A, c0_B⟩, ⟨s1_Steps, s1_Strides, s1_Broken⟩, _⟩ := x
  exact (s_DoesFit_e c0_Kind c0_A c0_B s1_Steps s1_Strides s1_Broken).trans ht)
/-! spec.IsClue -/
noncomputable def c_s_IsClue : FnCx := { env := env 5 [(105, S_s_pzClue)] [], body := bodyOf Try.f64, res := [.tmp 2], ins := [.ro kClue], out := [(kbool, true)], T := Bool, fin := fun r => r.1.1, inj := fun t => ((t, ()), ((), ())), pts := [], fuel := 400, dr := noDr }
noncomputable def s_IsClue (c0_Kind : Int) (c0_A : Int) (c0_B : Int) : Bool :=
  s_pzClue c0_Kind c0_A c0_B
theorem s_IsClue_e (c0_Kind : Int) (c0_A : Int) (c0_B : Int) : c_s_IsClue.start c_s_IsClue.L ((c0_Kind, c0_A, c0_B), ()) = some (s_IsClue c0_Kind c0_A c0_B) := by kernel_rfl
noncomputable def F_s_IsClue : Ins c_s_IsClue.ins → Bool := fun x => s_IsClue x.1.1 x.1.2.1 x.1.2.2
noncomputable def S_s_IsClue : FSpec := mkT c_s_IsClue.env.pre c_s_IsClue.ins c_s_IsClue.out c_s_IsClue.inj F_s_IsClue
theorem h_s_IsClue : Cert Try.prog 64 S_s_IsClue := FnCx.certT (c := c_s_IsClue) F_s_IsClue (tyOk _ _ _) (spOk ⟨h_s_pzClue, fun _ _ _ => trivial, trivial⟩) (fun _ _ _ _ _ hs => noDr_ok) Try.func64 rfl rfl Try.ntmps64 (by kernel_rfl) rfl rfl (fun _ => rfl) trivial (fun x => .inl ⟨c_s_IsClue.start () x, fun _ => rfl⟩) (fun x hb => by
  obtain ⟨⟨c0_Kind, c0_A, c0_B⟩, _⟩ := x
  exact s_IsClue_e c0_Kind c0_A c0_B)
/-! laws.FnStairsHiddenOfAll -/
noncomputable def c_w_FnStairsHiddenOfAll : FnCx := { env := env 430 [(18, S_i_MakePuzzle), (16, S_s_MakePuzzle), (51, S_w_wPuzzle), (52, S_i_CountClimbs), (53, S_i_DoesFit), (54, S_i_FewestStrides), (55, S_i_MostStrides), (56, S_i_IsPuzzle), (50, S_i_HarderPuzzle), (49, S_s_HarderPuzzle), (29, S_i_IsSolved), (45, S_i_Solutions), (43, S_i_NeedlessClues), (57, S_w_wLists), (58, S_i_AddClue), (59, S_s_AddClue), (60, S_i_DropClue), (61, S_s_DropClue), (62, S_s_DoesFit), (63, S_i_IsClue), (64, S_s_IsClue)] [], body := bodyOf Try.f13, res := [.tmp 22], ins := [.ro kStairs, .ro kint, .ro kint, .ro kPuzzle, .ro kPuzzle, .ro kClue, .ro kPuzzle, .ro kint, .ro kClue, .ro kStairs, .ro kClue], out := [(kbool, true)], T := Bool, fin := fun r => r.1.1, inj := fun t => ((t, ()), ((), (), (), (), (), (), (), (), (), (), (), ())), pts := [([.code [1, 1, 1, 1, 1]], Shape.mk [Bs.box 28 [Cs.sl 7], Bs.box 28 [Cs.sl 8], Bs.box 63 [Cs.sc kint, Cs.sc kint, Cs.sc kint], Bs.box 28 [Cs.sl 9], Bs.box 63 [Cs.sc kint, Cs.sc kint, Cs.sc kint], Bs.box 31 [Cs.sc kint, Cs.sl 10, Cs.sl 11], Bs.box 63 [Cs.sc kint, Cs.sc kint, Cs.sc kint], Bs.row kClue 63 false, Bs.row kClue 63 false, Bs.row kClue 63 false, Bs.row kint 3 false, Bs.row kint 3 false] [(7, Ss.one (Cs.sc kint)), (14, Ss.one (Cs.ptr 0 0)), (15, Ss.one (Cs.ptr 1 0)), (16, Ss.one (Cs.ptr 2 0)), (17, Ss.one (Cs.ptr 3 0)), (19, Ss.one (Cs.ptr 4 0)), (20, Ss.one (Cs.ptr 5 0)), (21, Ss.one (Cs.ptr 6 0))] [Ss.one (Cs.any), Ss.one (Cs.any), Ss.one (Cs.any), Ss.one (Cs.any), Ss.one (Cs.any), Ss.one (Cs.any), Ss.one (Cs.any), Ss.one (Cs.any), Ss.one (Cs.any), Ss.one (Cs.any), Ss.one (Cs.any)]), ([.code [1, 1, 1, 1, 1, 1, 1, 1, 1]], Shape.mk [Bs.box 28 [Cs.sl 8], Bs.box 28 [Cs.sl 9], Bs.box 63 [Cs.sc kint, Cs.sc kint, Cs.sc kint], Bs.box 28 [Cs.sl 10], Bs.box 63 [Cs.sc kint, Cs.sc kint, Cs.sc kint], Bs.box 31 [Cs.sc kint, Cs.sl 11, Cs.sl 12], Bs.box 63 [Cs.sc kint, Cs.sc kint, Cs.sc kint], Bs.box 28 [Cs.sl 13], Bs.row kClue 63 false, Bs.row kClue 63 false, Bs.row kClue 63 false, Bs.row kint 3 false, Bs.row kint 3 false, Bs.row kClue 63 true] [(7, Ss.one (Cs.sc kint)), (14, Ss.one (Cs.ptr 0 0)), (15, Ss.one (Cs.ptr 1 0)), (16, Ss.one (Cs.ptr 2 0)), (17, Ss.one (Cs.ptr 3 0)), (19, Ss.one (Cs.ptr 4 0)), (20, Ss.one (Cs.ptr 5 0)), (21, Ss.one (Cs.ptr 6 0)), (45, Ss.one (Cs.ptr 7 0)), (46, Ss.one (Cs.sc kbool))] [Ss.one (Cs.any), Ss.one (Cs.any), Ss.one (Cs.any), Ss.one (Cs.any), Ss.one (Cs.any), Ss.one (Cs.any), Ss.one (Cs.any), Ss.one (Cs.any), Ss.one (Cs.any), Ss.one (Cs.any), Ss.one (Cs.any)]), ([.code [1, 1, 1, 1, 1, 1, 1, 1, 1, 1]], Shape.mk [Bs.box 28 [Cs.sl 6], Bs.box 63 [Cs.sc kint, Cs.sc kint, Cs.sc kint], Bs.box 28 [Cs.sl 7], Bs.box 63 [Cs.sc kint, Cs.sc kint, Cs.sc kint], Bs.box 31 [Cs.sc kint, Cs.sl 8, Cs.sl 9], Bs.box 63 [Cs.sc kint, Cs.sc kint, Cs.sc kint], Bs.row kClue 63 false, Bs.row kClue 63 false, Bs.row kint 3 false, Bs.row kint 3 false] [(7, Ss.one (Cs.sc kint)), (15, Ss.one (Cs.ptr 0 0)), (16, Ss.one (Cs.ptr 1 0)), (17, Ss.one (Cs.ptr 2 0)), (19, Ss.one (Cs.ptr 3 0)), (20, Ss.one (Cs.ptr 4 0)), (21, Ss.one (Cs.ptr 5 0))] [Ss.one (Cs.any), Ss.one (Cs.any), Ss.one (Cs.any), Ss.one (Cs.any), Ss.one (Cs.any), Ss.one (Cs.any), Ss.one (Cs.any), Ss.one (Cs.any), Ss.one (Cs.any), Ss.one (Cs.any), Ss.one (Cs.any)]), ([.code [1, 1, 1, 1, 1, 1, 1, 1, 1, 1, 1, 1, 1, 1, 1, 1, 1]], Shape.mk [Bs.box 28 [Cs.sl 5], Bs.box 63 [Cs.sc kint, Cs.sc kint, Cs.sc kint], Bs.box 28 [Cs.sl 6], Bs.box 28 [Cs.sl 7], Bs.box 28 [Cs.sl 8], Bs.row kClue 63 false, Bs.row kClue 63 false, Bs.row kClue 63 true, Bs.row kClue 63 true] [(7, Ss.one (Cs.sc kint)), (15, Ss.one (Cs.ptr 0 0)), (16, Ss.one (Cs.ptr 1 0)), (17, Ss.one (Cs.ptr 2 0)), (57, Ss.one (Cs.ptr 3 0)), (58, Ss.one (Cs.sc kbool)), (61, Ss.one (Cs.ptr 4 0)), (62, Ss.one (Cs.sc kbool))] [Ss.one (Cs.any), Ss.one (Cs.any), Ss.one (Cs.any), Ss.one (Cs.any), Ss.one (Cs.any), Ss.one (Cs.any), Ss.one (Cs.any), Ss.one (Cs.any), Ss.one (Cs.any), Ss.one (Cs.any), Ss.one (Cs.any)]), ([.code [1, 1, 1, 1, 1, 1, 1, 1, 1, 1, 1, 1, 1, 1, 1, 1, 1, 1]], Shape.mk [Bs.box 28 [Cs.sl 2], Bs.box 28 [Cs.sl 3], Bs.row kClue 63 false, Bs.row kClue 63 true] [(7, Ss.one (Cs.sc kint)), (17, Ss.one (Cs.ptr 0 0)), (61, Ss.one (Cs.ptr 1 0)), (62, Ss.one (Cs.sc kbool))] [Ss.one (Cs.any), Ss.one (Cs.any), Ss.one (Cs.any), Ss.one (Cs.any), Ss.one (Cs.any), Ss.one (Cs.any), Ss.one (Cs.any), Ss.one (Cs.any), Ss.one (Cs.any), Ss.one (Cs.any), Ss.one (Cs.any)]), ([.code [1, 1, 1, 1, 1, 1, 1, 1, 1, 1, 1, 1, 1, 1, 1, 1, 1, 1, 1]], Shape.mk [] [] [Ss.one (Cs.any), Ss.one (Cs.any), Ss.one (Cs.any), Ss.one (Cs.any), Ss.one (Cs.any), Ss.one (Cs.any), Ss.one (Cs.any), Ss.one (Cs.any), Ss.one (Cs.any), Ss.one (Cs.any), Ss.one (Cs.any)]), ([.inLoop [1, 1, 1, 1, 0, 1, 0, 1, 1, 1, 1, 1, 1, 1, 1, 1, 0, 0], .inBlock 0, .code [1, 1, 1, 1, 1]], Shape.mk [Bs.box 31 [Cs.sc kint, Cs.sl 9, Cs.sl 10], Bs.box 28 [Cs.sl 11], Bs.box 28 [Cs.sl 12], Bs.box 63 [Cs.sc kint, Cs.sc kint, Cs.sc kint], Bs.box 28 [Cs.sl 13], Bs.box 63 [Cs.sc kint, Cs.sc kint, Cs.sc kint], Bs.box 31 [Cs.sc kint, Cs.sl 14, Cs.sl 15], Bs.box 63 [Cs.sc kint, Cs.sc kint, Cs.sc kint], Bs.row kClue 63 true, Bs.row kint 3 false, Bs.row kint 3 false, Bs.row kClue 63 false, Bs.row kClue 63 false, Bs.row kClue 63 false, Bs.row kint 3 false, Bs.row kint 3 false] [(7, Ss.one (Cs.sc kint)), (11, Ss.one (Cs.ptr 0 0)), (14, Ss.one (Cs.ptr 1 0)), (15, Ss.one (Cs.ptr 2 0)), (16, Ss.one (Cs.ptr 3 0)), (17, Ss.one (Cs.ptr 4 0)), (19, Ss.one (Cs.ptr 5 0)), (20, Ss.one (Cs.ptr 6 0)), (21, Ss.one (Cs.ptr 7 0)), (199, Ss.one (Cs.sl 8)), (200, Ss.one (Cs.sc kint)), (201, Ss.one (Cs.sc kint))] [Ss.one (Cs.any), Ss.one (Cs.any), Ss.one (Cs.any), Ss.one (Cs.any), Ss.one (Cs.any), Ss.one (Cs.any), Ss.one (Cs.any), Ss.one (Cs.any), Ss.one (Cs.any), Ss.one (Cs.any), Ss.one (Cs.any)])], fuel := 400, dr := evDr (env 430 [(18, S_i_MakePuzzle), (16, S_s_MakePuzzle), (51, S_w_wPuzzle), (52, S_i_CountClimbs), (53, S_i_DoesFit), (54, S_i_FewestStrides), (55, S_i_MostStrides), (56, S_i_IsPuzzle), (50, S_i_HarderPuzzle), (49, S_s_HarderPuzzle), (29, S_i_IsSolved), (45, S_i_Solutions), (43, S_i_NeedlessClues), (57, S_w_wLists), (58, S_i_AddClue), (59, S_s_AddClue), (60, S_i_DropClue), (61, S_s_DropClue), (62, S_s_DoesFit), (63, S_i_IsClue), (64, S_s_IsClue)] []) }
noncomputable def w_FnStairsHiddenOfAll_t1 (g1 : Int → Int → Int → Int → Int → Int → Int → Int → Int → Int → List (Int × (Int × Int)) → List (Int × (Int × Int)) → List (Int × (Int × Int)) → List (Int) → List (Int) → Int → Option (Bool)) (g2 : Int → Int → Int → Int → Int → Int → Int → Int → Int → Int → List (Int × (Int × Int)) → List (Int × (Int × Int)) → List (Int × (Int × Int)) → List (Int) → List (Int) → List (Int × (Int × Int)) → Int → Bool → Option (Bool)) (g3 : Int → Int → Int → Int → Int → Int → Int → Int → Int → Int → List (Int × (Int × Int)) → List (Int × (Int × Int)) → List (Int) → List (Int) → Int → Option (Bool)) (g4 : Int → Int → Int → List (Int × (Int × Int)) → List (Int × (Int × Int)) → List (Int × (Int × Int)) → List (Int × (Int × Int)) → Int → Bool → Bool → Option (Bool)) (g5 : List (Int × (Int × Int)) → List (Int × (Int × Int)) → Int → Bool → Option (Bool)) (g6 : Option (Bool)) (g7 : Int → Int → Int → Int → Int → Int → Int → Int → Int → Int → Int → List (Int × (Int × Int)) → List (Int) → List (Int) → List (Int × (Int × Int)) → List (Int × (Int × Int)) → List (Int × (Int × Int)) → List (Int) → List (Int) → Int → Int → Int → Option (Bool)) (b2_0 : Int) (b2_1 : Int) (b2_2 : Int) (b4_0 : Int) (b4_1 : Int) (b4_2 : Int) (b5_0 : Int) (b6_0 : Int) (b6_1 : Int) (b6_2 : Int) (r7 : List (Int × (Int × Int))) (r8 : List (Int × (Int × Int))) (r9 : List (Int × (Int × Int))) (r10 : List (Int)) (r11 : List (Int)) (k7 : Int) : Option Bool :=
  Option.bind (i_HarderPuzzle r7) fun r =>
    Option.bind (s_HarderPuzzle r7) fun r_1 =>
      Option.bind (i_IsSolved r7) fun r_2 =>
        bif !Prod.snd r == Prod.snd r_1 then some false
        else
          Option.bind (w_wPuzzle (Prod.fst r) (Prod.fst r_1)) fun r_3 =>
            bif !r_3 then some false
            else
              bif Prod.snd r_2 then
                bif !Prod.snd r == Prod.fst r_2 then some false
                else g2 b2_0 b2_1 b2_2 b4_0 b4_1 b4_2 b5_0 b6_0 b6_1 b6_2 r7 r8 r9 r10 r11 (Prod.fst r) k7 (Prod.snd r)
              else
                bif !Prod.snd r == false then some false else g2 b2_0 b2_1 b2_2 b4_0 b4_1 b4_2 b5_0 b6_0 b6_1 b6_2 r7 r8 r9 r10 r11 (Prod.fst r) k7 (Prod.snd r)
noncomputable def w_FnStairsHiddenOfAll_t2 (g1 : Int → Int → Int → Int → Int → Int → Int → Int → Int → Int → List (Int × (Int × Int)) → List (Int × (Int × Int)) → List (Int × (Int × Int)) → List (Int) → List (Int) → Int → Option (Bool)) (g2 : Int → Int → Int → Int → Int → Int → Int → Int → Int → Int → List (Int × (Int × Int)) → List (Int × (Int × Int)) → List (Int × (Int × Int)) → List (Int) → List (Int) → List (Int × (Int × Int)) → Int → Bool → Option (Bool)) (g3 : Int → Int → Int → Int → Int → Int → Int → Int → Int → Int → List (Int × (Int × Int)) → List (Int × (Int × Int)) → List (Int) → List (Int) → Int → Option (Bool)) (g4 : Int → Int → Int → List (Int × (Int × Int)) → List (Int × (Int × Int)) → List (Int × (Int × Int)) → List (Int × (Int × Int)) → Int → Bool → Bool → Option (Bool)) (g5 : List (Int × (Int × Int)) → List (Int × (Int × Int)) → Int → Bool → Option (Bool)) (g6 : Option (Bool)) (g7 : Int → Int → Int → Int → Int → Int → Int → Int → Int → Int → Int → List (Int × (Int × Int)) → List (Int) → List (Int) → List (Int × (Int × Int)) → List (Int × (Int × Int)) → List (Int × (Int × Int)) → List (Int) → List (Int) → Int → Int → Int → Option (Bool)) (b2_0 : Int) (b2_1 : Int) (b2_2 : Int) (b4_0 : Int) (b4_1 : Int) (b4_2 : Int) (b5_0 : Int) (b6_0 : Int) (b6_1 : Int) (b6_2 : Int) (r8 : List (Int × (Int × Int))) (r9 : List (Int × (Int × Int))) (r10 : List (Int × (Int × Int))) (r11 : List (Int)) (r12 : List (Int)) (r13 : List (Int × (Int × Int))) (k7 : Int) (one46 : Bool) : Option Bool :=
  bif one46 then
    Option.bind (i_Solutions r8) fun r =>
      Option.bind (i_Solutions r13) fun r_1 =>
        Option.bind (i_NeedlessClues r13) fun r_2 =>
          bif !Prod.snd r then some false
          else
            bif !Prod.snd r_1 then some false
            else
              Option.bind (w_wLists (Prod.fst r) (Prod.fst r_1)) fun r =>
                bif !r then some false
                else
                  bif !Prod.snd r_2 then some false
                  else
                    bif (↑(List.length (Prod.fst r_2)) : Int) != 0 then some false
                    else
                      bif decide ((↑(List.length r13) : Int) > (↑(List.length r8) : Int)) then some false
                      else g3 b2_0 b2_1 b2_2 b4_0 b4_1 b4_2 b5_0 b6_0 b6_1 b6_2 r9 r10 r11 r12 k7
  else g3 b2_0 b2_1 b2_2 b4_0 b4_1 b4_2 b5_0 b6_0 b6_1 b6_2 r9 r10 r11 r12 k7
noncomputable def w_FnStairsHiddenOfAll_t3 (g1 : Int → Int → Int → Int → Int → Int → Int → Int → Int → Int → List (Int × (Int × Int)) → List (Int × (Int × Int)) → List (Int × (Int × Int)) → List (Int) → List (Int) → Int → Option (Bool)) (g2 : Int → Int → Int → Int → Int → Int → Int → Int → Int → Int → List (Int × (Int × Int)) → List (Int × (Int × Int)) → List (Int × (Int × Int)) → List (Int) → List (Int) → List (Int × (Int × Int)) → Int → Bool → Option (Bool)) (g3 : Int → Int → Int → Int → Int → Int → Int → Int → Int → Int → List (Int × (Int × Int)) → List (Int × (Int × Int)) → List (Int) → List (Int) → Int → Option (Bool)) (g4 : Int → Int → Int → List (Int × (Int × Int)) → List (Int × (Int × Int)) → List (Int × (Int × Int)) → List (Int × (Int × Int)) → Int → Bool → Bool → Option (Bool)) (g5 : List (Int × (Int × Int)) → List (Int × (Int × Int)) → Int → Bool → Option (Bool)) (g6 : Option (Bool)) (g7 : Int → Int → Int → Int → Int → Int → Int → Int → Int → Int → Int → List (Int × (Int × Int)) → List (Int) → List (Int) → List (Int × (Int × Int)) → List (Int × (Int × Int)) → List (Int × (Int × Int)) → List (Int) → List (Int) → Int → Int → Int → Option (Bool)) (b1_0 : Int) (b1_1 : Int) (b1_2 : Int) (b3_0 : Int) (b3_1 : Int) (b3_2 : Int) (b4_0 : Int) (b5_0 : Int) (b5_1 : Int) (b5_2 : Int) (r6 : List (Int × (Int × Int))) (r7 : List (Int × (Int × Int))) (r8 : List (Int)) (r9 : List (Int)) (k7 : Int) : Option Bool :=
  Option.bind (i_DoesFit b3_0 b3_1 b3_2 b4_0 r8 r9) fun r =>
    Option.bind (s_DoesFit b3_0 b3_1 b3_2 b4_0 r8 r9) fun r_1 =>
      bif !Prod.snd (i_AddClue_n r6 b1_0 b1_1 b1_2) == Prod.snd (s_AddClue_n r6 b1_0 b1_1 b1_2) then some false
      else
        Option.bind (w_wPuzzle (Prod.fst (i_AddClue_n r6 b1_0 b1_1 b1_2)) (Prod.fst (s_AddClue_n r6 b1_0 b1_1 b1_2))) fun r_2 =>
          bif !r_2 then some false
          else
            bif !Prod.snd (i_DropClue_n r7 k7) == Prod.snd (s_DropClue_n r7 k7) then some false
            else
              Option.bind (w_wPuzzle (Prod.fst (i_DropClue_n r7 k7)) (Prod.fst (s_DropClue_n r7 k7))) fun r_3 =>
                bif !r_3 then some false
                else
                  bif !Prod.snd r == Prod.snd r_1 then some false
                  else
                    bif !Prod.fst r == Prod.fst r_1 then some false
                    else
                      bif !i_IsClue b5_0 b5_1 b5_2 == s_IsClue b5_0 b5_1 b5_2 then some false
                      else
                        bif Prod.snd r then
                          bif !i_IsClue b3_0 b3_1 b3_2 then some false
                          else
                            g4 b1_0 b1_1 b1_2 r6 r7 (Prod.fst (i_AddClue_n r6 b1_0 b1_1 b1_2)) (Prod.fst (i_DropClue_n r7 k7)) k7
                              (Prod.snd (i_AddClue_n r6 b1_0 b1_1 b1_2)) (Prod.snd (i_DropClue_n r7 k7))
                        else
                          g4 b1_0 b1_1 b1_2 r6 r7 (Prod.fst (i_AddClue_n r6 b1_0 b1_1 b1_2)) (Prod.fst (i_DropClue_n r7 k7)) k7
                            (Prod.snd (i_AddClue_n r6 b1_0 b1_1 b1_2)) (Prod.snd (i_DropClue_n r7 k7))
noncomputable def w_FnStairsHiddenOfAll_t4 (g1 : Int → Int → Int → Int → Int → Int → Int → Int → Int → Int → List (Int × (Int × Int)) → List (Int × (Int × Int)) → List (Int × (Int × Int)) → List (Int) → List (Int) → Int → Option (Bool)) (g2 : Int → Int → Int → Int → Int → Int → Int → Int → Int → Int → List (Int × (Int × Int)) → List (Int × (Int × Int)) → List (Int × (Int × Int)) → List (Int) → List (Int) → List (Int × (Int × Int)) → Int → Bool → Option (Bool)) (g3 : Int → Int → Int → Int → Int → Int → Int → Int → Int → Int → List (Int × (Int × Int)) → List (Int × (Int × Int)) → List (Int) → List (Int) → Int → Option (Bool)) (g4 : Int → Int → Int → List (Int × (Int × Int)) → List (Int × (Int × Int)) → List (Int × (Int × Int)) → List (Int × (Int × Int)) → Int → Bool → Bool → Option (Bool)) (g5 : List (Int × (Int × Int)) → List (Int × (Int × Int)) → Int → Bool → Option (Bool)) (g6 : Option (Bool)) (g7 : Int → Int → Int → Int → Int → Int → Int → Int → Int → Int → Int → List (Int × (Int × Int)) → List (Int) → List (Int) → List (Int × (Int × Int)) → List (Int × (Int × Int)) → List (Int × (Int × Int)) → List (Int) → List (Int) → Int → Int → Int → Option (Bool)) (b1_0 : Int) (b1_1 : Int) (b1_2 : Int) (r5 : List (Int × (Int × Int))) (r6 : List (Int × (Int × Int))) (r7 : List (Int × (Int × Int))) (r8 : List (Int × (Int × Int))) (k7 : Int) (four58 : Bool) (six62 : Bool) : Option Bool :=
  bif four58 then
    bif !Prod.snd (i_DropClue_n r7 (↑(List.length r5) : Int)) then some false
    else
      Option.bind (w_wPuzzle (Prod.fst (i_DropClue_n r7 (↑(List.length r5) : Int))) r5) fun r =>
        bif !r then some false
        else
          bif decide ((↑(List.length r5) : Int) < (↑(List.length r7) : Int)) then
            bif
                !(Prod.fst (rdk kClue r7 (↑(List.length r5) : Int)) ==
                      b1_0 &&
                    (Prod.fst
                          (Prod.snd
                            (rdk kClue r7 (↑(List.length r5) : Int))) ==
                        b1_1 &&
                      Prod.snd
                          (Prod.snd
                            (rdk kClue r7 (↑(List.length r5) : Int))) ==
                        b1_2)) then
              some false
            else g5 r6 r8 k7 six62
          else none
  else g5 r6 r8 k7 six62
noncomputable def w_FnStairsHiddenOfAll_t5 (g1 : Int → Int → Int → Int → Int → Int → Int → Int → Int → Int → List (Int × (Int × Int)) → List (Int × (Int × Int)) → List (Int × (Int × Int)) → List (Int) → List (Int) → Int → Option (Bool)) (g2 : Int → Int → Int → Int → Int → Int → Int → Int → Int → Int → List (Int × (Int × Int)) → List (Int × (Int × Int)) → List (Int × (Int × Int)) → List (Int) → List (Int) → List (Int × (Int × Int)) → Int → Bool → Option (Bool)) (g3 : Int → Int → Int → Int → Int → Int → Int → Int → Int → Int → List (Int × (Int × Int)) → List (Int × (Int × Int)) → List (Int) → List (Int) → Int → Option (Bool)) (g4 : Int → Int → Int → List (Int × (Int × Int)) → List (Int × (Int × Int)) → List (Int × (Int × Int)) → List (Int × (Int × Int)) → Int → Bool → Bool → Option (Bool)) (g5 : List (Int × (Int × Int)) → List (Int × (Int × Int)) → Int → Bool → Option (Bool)) (g6 : Option (Bool)) (g7 : Int → Int → Int → Int → Int → Int → Int → Int → Int → Int → Int → List (Int × (Int × Int)) → List (Int) → List (Int) → List (Int × (Int × Int)) → List (Int × (Int × Int)) → List (Int × (Int × Int)) → List (Int) → List (Int) → Int → Int → Int → Option (Bool)) (r2 : List (Int × (Int × Int))) (r3 : List (Int × (Int × Int))) (k7 : Int) (six62 : Bool) : Option Bool :=
  bif six62 then
    bif k7 == IntKind.wrap IntKind.i64 ((↑(List.length r2) : Int) - 1) then
      bif decide (0 ≤ k7) then
        bif decide (k7 < (↑(List.length r2) : Int)) then
          bif
              Prod.snd
                (i_AddClue_n r3 (Prod.fst (rdk kClue r2 k7))
                  (Prod.fst (Prod.snd (rdk kClue r2 k7)))
                  (Prod.snd (Prod.snd (rdk kClue r2 k7)))) then
            Option.bind
              (w_wPuzzle
                (Prod.fst
                  (i_AddClue_n r3 (Prod.fst (rdk kClue r2 k7))
                    (Prod.fst (Prod.snd (rdk kClue r2 k7)))
                    (Prod.snd (Prod.snd (rdk kClue r2 k7)))))
                r2)
              fun r => some r
          else some false
        else none
      else none
    else g6
  else g6
noncomputable def w_FnStairsHiddenOfAll_t6 (g1 : Int → Int → Int → Int → Int → Int → Int → Int → Int → Int → List (Int × (Int × Int)) → List (Int × (Int × Int)) → List (Int × (Int × Int)) → List (Int) → List (Int) → Int → Option (Bool)) (g2 : Int → Int → Int → Int → Int → Int → Int → Int → Int → Int → List (Int × (Int × Int)) → List (Int × (Int × Int)) → List (Int × (Int × Int)) → List (Int) → List (Int) → List (Int × (Int × Int)) → Int → Bool → Option (Bool)) (g3 : Int → Int → Int → Int → Int → Int → Int → Int → Int → Int → List (Int × (Int × Int)) → List (Int × (Int × Int)) → List (Int) → List (Int) → Int → Option (Bool)) (g4 : Int → Int → Int → List (Int × (Int × Int)) → List (Int × (Int × Int)) → List (Int × (Int × Int)) → List (Int × (Int × Int)) → Int → Bool → Bool → Option (Bool)) (g5 : List (Int × (Int × Int)) → List (Int × (Int × Int)) → Int → Bool → Option (Bool)) (g6 : Option (Bool)) (g7 : Int → Int → Int → Int → Int → Int → Int → Int → Int → Int → Int → List (Int × (Int × Int)) → List (Int) → List (Int) → List (Int × (Int × Int)) → List (Int × (Int × Int)) → List (Int × (Int × Int)) → List (Int) → List (Int) → Int → Int → Int → Option (Bool))  : Option Bool :=
  some true
noncomputable def w_FnStairsHiddenOfAll_t7 (g1 : Int → Int → Int → Int → Int → Int → Int → Int → Int → Int → List (Int × (Int × Int)) → List (Int × (Int × Int)) → List (Int × (Int × Int)) → List (Int) → List (Int) → Int → Option (Bool)) (g2 : Int → Int → Int → Int → Int → Int → Int → Int → Int → Int → List (Int × (Int × Int)) → List (Int × (Int × Int)) → List (Int × (Int × Int)) → List (Int) → List (Int) → List (Int × (Int × Int)) → Int → Bool → Option (Bool)) (g3 : Int → Int → Int → Int → Int → Int → Int → Int → Int → Int → List (Int × (Int × Int)) → List (Int × (Int × Int)) → List (Int) → List (Int) → Int → Option (Bool)) (g4 : Int → Int → Int → List (Int × (Int × Int)) → List (Int × (Int × Int)) → List (Int × (Int × Int)) → List (Int × (Int × Int)) → Int → Bool → Bool → Option (Bool)) (g5 : List (Int × (Int × Int)) → List (Int × (Int × Int)) → Int → Bool → Option (Bool)) (g6 : Option (Bool)) (g7 : Int → Int → Int → Int → Int → Int → Int → Int → Int → Int → Int → List (Int × (Int × Int)) → List (Int) → List (Int) → List (Int × (Int × Int)) → List (Int × (Int × Int)) → List (Int × (Int × Int)) → List (Int) → List (Int) → Int → Int → Int → Option (Bool)) (b0_0 : Int) (b3_0 : Int) (b3_1 : Int) (b3_2 : Int) (b5_0 : Int) (b5_1 : Int) (b5_2 : Int) (b6_0 : Int) (b7_0 : Int) (b7_1 : Int) (b7_2 : Int) (r8 : List (Int × (Int × Int))) (r9 : List (Int)) (r10 : List (Int)) (r11 : List (Int × (Int × Int))) (r12 : List (Int × (Int × Int))) (r13 : List (Int × (Int × Int))) (r14 : List (Int)) (r15 : List (Int)) (k7 : Int) (s200 : Int) (s201 : Int) : Option Bool :=
  bif decide (s201 < s200) then
    bif decide (0 ≤ s201) then
      bif decide (s201 < (↑(List.length r8) : Int)) then
        Option.bind
          (i_DoesFit (Prod.fst (rdk kClue r8 s201))
            (Prod.fst (Prod.snd (rdk kClue r8 s201)))
            (Prod.snd (Prod.snd (rdk kClue r8 s201))) b0_0 r9 r10)
          fun r =>
          bif !Prod.snd r then some false
          else
            bif !Prod.fst r then some false
            else g7 b0_0 b3_0 b3_1 b3_2 b5_0 b5_1 b5_2 b6_0 b7_0 b7_1 b7_2 r8 r9 r10 r11 r12 r13 r14 r15 k7 s200 (IntKind.wrap IntKind.i64 (s201 + 1))
      else none
    else none
  else g1 b3_0 b3_1 b3_2 b5_0 b5_1 b5_2 b6_0 b7_0 b7_1 b7_2 r11 r12 r13 r14 r15 k7
noncomputable def w_FnStairsHiddenOfAll_t0 (g1 : Int → Int → Int → Int → Int → Int → Int → Int → Int → Int → List (Int × (Int × Int)) → List (Int × (Int × Int)) → List (Int × (Int × Int)) → List (Int) → List (Int) → Int → Option (Bool)) (g2 : Int → Int → Int → Int → Int → Int → Int → Int → Int → Int → List (Int × (Int × Int)) → List (Int × (Int × Int)) → List (Int × (Int × Int)) → List (Int) → List (Int) → List (Int × (Int × Int)) → Int → Bool → Option (Bool)) (g3 : Int → Int → Int → Int → Int → Int → Int → Int → Int → Int → List (Int × (Int × Int)) → List (Int × (Int × Int)) → List (Int) → List (Int) → Int → Option (Bool)) (g4 : Int → Int → Int → List (Int × (Int × Int)) → List (Int × (Int × Int)) → List (Int × (Int × Int)) → List (Int × (Int × Int)) → Int → Bool → Bool → Option (Bool)) (g5 : List (Int × (Int × Int)) → List (Int × (Int × Int)) → Int → Bool → Option (Bool)) (g6 : Option (Bool)) (g7 : Int → Int → Int → Int → Int → Int → Int → Int → Int → Int → Int → List (Int × (Int × Int)) → List (Int) → List (Int) → List (Int × (Int × Int)) → List (Int × (Int × Int)) → List (Int × (Int × Int)) → List (Int) → List (Int) → Int → Int → Int → Option (Bool)) (s0_Steps : Int) (s0_Strides : List Int) (s0_Broken : List Int) (clues1 : Int) (seed2 : Int) (q3_Clues : List (Int × Int × Int)) (r4_Clues : List (Int × Int × Int)) (c5_Kind : Int) (c5_A : Int) (c5_B : Int) (p6_Clues : List (Int × Int × Int)) (k7 : Int) (d8_Kind : Int) (d8_A : Int) (d8_B : Int) (x9_Steps : Int) (x9_Strides : List Int) (x9_Broken : List Int) (e10_Kind : Int) (e10_A : Int) (e10_B : Int) : Option Bool :=
  Option.bind (i_MakePuzzle s0_Steps s0_Strides s0_Broken clues1 seed2) fun r =>
    Option.bind (s_MakePuzzle s0_Steps s0_Strides s0_Broken clues1 seed2) fun r_1 =>
      bif !Prod.snd r == Prod.snd r_1 then some false
      else
        Option.bind (w_wPuzzle (Prod.fst r) (Prod.fst r_1)) fun r_2 =>
          bif !r_2 then some false
          else
            bif Prod.snd r then
              Option.bind (i_CountClimbs s0_Steps s0_Strides s0_Broken) fun r_3 =>
                Option.bind (i_DoesFit 0 0 (Prod.fst r_3) s0_Steps s0_Strides s0_Broken) fun r_4 =>
                  Option.bind (i_FewestStrides s0_Steps s0_Strides s0_Broken) fun r_5 =>
                    Option.bind (i_DoesFit 1 0 (Prod.fst r_5) s0_Steps s0_Strides s0_Broken) fun r_6 =>
                      Option.bind (i_MostStrides s0_Steps s0_Strides s0_Broken) fun r_7 =>
                        Option.bind (i_DoesFit 5 0 (Prod.fst r_7) s0_Steps s0_Strides s0_Broken) fun r_8 =>
                          Option.bind (i_DoesFit 4 0 s0_Steps s0_Steps s0_Strides s0_Broken) fun r_9 =>
                            bif !i_IsPuzzle (Prod.fst r) then some false
                            else
                              bif (↑(List.length (Prod.fst r)) : Int) != clues1 then some false
                              else
                                bif !Prod.snd r_3 then some false
                                else
                                  bif !Prod.snd r_4 then some false
                                  else
                                    bif !Prod.fst r_4 then some false
                                    else
                                      bif !Prod.snd r_5 == Prod.snd r_7 then some false
                                      else
                                        bif !Prod.snd r_5 == decide (Prod.fst r_3 > 0) then some false
                                        else
                                          bif !Prod.snd r_6 then some false
                                          else
                                            bif !Prod.fst r_6 then some false
                                            else
                                              bif !Prod.snd r_8 then some false
                                              else
                                                bif !Prod.fst r_8 then some false
                                                else
                                                  bif !Prod.snd r_9 then some false
                                                  else
                                                    bif !Prod.fst r_9 then some false
                                                    else
                                                      g7 s0_Steps c5_Kind c5_A c5_B d8_Kind d8_A d8_B x9_Steps e10_Kind e10_A e10_B (Prod.fst r) s0_Strides
                                                        s0_Broken q3_Clues r4_Clues p6_Clues x9_Strides x9_Broken k7 (↑(List.length (Prod.fst r)) : Int) 0
            else g1 c5_Kind c5_A c5_B d8_Kind d8_A d8_B x9_Steps e10_Kind e10_A e10_B q3_Clues r4_Clues p6_Clues x9_Strides x9_Broken k7
theorem w_FnStairsHiddenOfAll_ts : Tails c_w_FnStairsHiddenOfAll.pts c_w_FnStairsHiddenOfAll.round :=
  ⟨fun s => by
    obtain ⟨⟨⟨_, _⟩, ⟨_, _⟩, ⟨b2_0, b2_1, b2_2, _⟩, ⟨_, _⟩, ⟨b4_0, b4_1, b4_2, _⟩, ⟨b5_0, _, _, _⟩, ⟨b6_0, b6_1, b6_2, _⟩, r7, r8, r9, r10, r11, _⟩, ⟨k7, _, _, _, _, _, _, _, _⟩, ⟨_, _, _, _, _, _, _, _, _, _, _, _⟩⟩ := s
    refine Tail.eq (Y := fun g => w_FnStairsHiddenOfAll_t1 (fun b2_0 b2_1 b2_2 b4_0 b4_1 b4_2 b5_0 b6_0 b6_1 b6_2 r7 r8 r9 r10 r11 k7 => g.1 ((((), ()), ((), ()), (b2_0, b2_1, b2_2, ()), ((), ()), (b4_0, b4_1, b4_2, ()), (b5_0, (), (), ()), (b6_0, b6_1, b6_2, ()), r7, r8, r9, r10, r11, ()), (k7, (), (), (), (), (), (), (), ()), ((), (), (), (), (), (), (), (), (), (), (), ()))) (fun b2_0 b2_1 b2_2 b4_0 b4_1 b4_2 b5_0 b6_0 b6_1 b6_2 r8 r9 r10 r11 r12 r13 k7 one46 => g.2.1 ((((), ()), ((), ()), (b2_0, b2_1, b2_2, ()), ((), ()), (b4_0, b4_1, b4_2, ()), (b5_0, (), (), ()), (b6_0, b6_1, b6_2, ()), ((), ()), r8, r9, r10, r11, r12, r13, ()), (k7, (), (), (), (), (), (), (), (), one46, ()), ((), (), (), (), (), (), (), (), (), (), (), ()))) (fun b1_0 b1_1 b1_2 b3_0 b3_1 b3_2 b4_0 b5_0 b5_1 b5_2 r6 r7 r8 r9 k7 => g.2.2.1 ((((), ()), (b1_0, b1_1, b1_2, ()), ((), ()), (b3_0, b3_1, b3_2, ()), (b4_0, (), (), ()), (b5_0, b5_1, b5_2, ()), r6, r7, r8, r9, ()), (k7, (), (), (), (), (), (), ()), ((), (), (), (), (), (), (), (), (), (), (), ()))) (fun b1_0 b1_1 b1_2 r5 r6 r7 r8 k7 four58 six62 => g.2.2.2.1 ((((), ()), (b1_0, b1_1, b1_2, ()), ((), ()), ((), ()), ((), ()), r5, r6, r7, r8, ()), (k7, (), (), (), (), four58, (), six62, ()), ((), (), (), (), (), (), (), (), (), (), (), ()))) (fun r2 r3 k7 six62 => g.2.2.2.2.1 ((((), ()), ((), ()), r2, r3, ()), (k7, (), (), six62, ()), ((), (), (), (), (), (), (), (), (), (), (), ()))) (g.2.2.2.2.2.1 ((), (), ((), (), (), (), (), (), (), (), (), (), (), ()))) (fun b0_0 b3_0 b3_1 b3_2 b5_0 b5_1 b5_2 b6_0 b7_0 b7_1 b7_2 r8 r9 r10 r11 r12 r13 r14 r15 k7 s200 s201 => g.2.2.2.2.2.2.1 (((b0_0, (), (), ()), ((), ()), ((), ()), (b3_0, b3_1, b3_2, ()), ((), ()), (b5_0, b5_1, b5_2, ()), (b6_0, (), (), ()), (b7_0, b7_1, b7_2, ()), r8, r9, r10, r11, r12, r13, r14, r15, ()), (k7, (), (), (), (), (), (), (), (), (), s200, s201, ()), ((), (), (), (), (), (), (), (), (), (), (), ()))) b2_0 b2_1 b2_2 b4_0 b4_1 b4_2 b5_0 b6_0 b6_1 b6_2 r7 r8 r9 r10 r11 k7) ?_ (fun g => by kernel_rfl)
    simp only [w_FnStairsHiddenOfAll_t1]; repeat (first | exact Tail.const _ | exact Tail.here _ | exact Tail.there (Tail.here _) | exact Tail.there (Tail.there (Tail.here _)) | exact Tail.there (Tail.there (Tail.there (Tail.here _))) | exact Tail.there (Tail.there (Tail.there (Tail.there (Tail.here _)))) | exact Tail.there (Tail.there (Tail.there (Tail.there (Tail.there (Tail.here _))))) | exact Tail.there (Tail.there (Tail.there (Tail.there (Tail.there (Tail.there (Tail.here _)))))) | apply Tail.cond | (apply Tail.bind; intro _)),
  fun s => by
    obtain ⟨⟨⟨_, _⟩, ⟨_, _⟩, ⟨b2_0, b2_1, b2_2, _⟩, ⟨_, _⟩, ⟨b4_0, b4_1, b4_2, _⟩, ⟨b5_0, _, _, _⟩, ⟨b6_0, b6_1, b6_2, _⟩, ⟨_, _⟩, r8, r9, r10, r11, r12, r13, _⟩, ⟨k7, _, _, _, _, _, _, _, _, one46, _⟩, ⟨_, _, _, _, _, _, _, _, _, _, _, _⟩⟩ := s
    refine Tail.eq (Y := fun g => w_FnStairsHiddenOfAll_t2 (fun b2_0 b2_1 b2_2 b4_0 b4_1 b4_2 b5_0 b6_0 b6_1 b6_2 r7 r8 r9 r10 r11 k7 => g.1 ((((), ()), ((), ()), (b2_0, b2_1, b2_2, ()), ((), ()), (b4_0, b4_1, b4_2, ()), (b5_0, (), (), ()), (b6_0, b6_1, b6_2, ()), r7, r8, r9, r10, r11, ()), (k7, (), (), (), (), (), (), (), ()), ((), (), (), (), (), (), (), (), (), (), (), ()))) (fun b2_0 b2_1 b2_2 b4_0 b4_1 b4_2 b5_0 b6_0 b6_1 b6_2 r8 r9 r10 r11 r12 r13 k7 one46 => g.2.1 ((((), ()), ((), ()), (b2_0, b2_1, b2_2, ()), ((), ()), (b4_0, b4_1, b4_2, ()), (b5_0, (), (), ()), (b6_0, b6_1, b6_2, ()), ((), ()), r8, r9, r10, r11, r12, r13, ()), (k7, (), (), (), (), (), (), (), (), one46, ()), ((), (), (), (), (), (), (), (), (), (), (), ()))) (fun b1_0 b1_1 b1_2 b3_0 b3_1 b3_2 b4_0 b5_0 b5_1 b5_2 r6 r7 r8 r9 k7 => g.2.2.1 ((((), ()), (b1_0, b1_1, b1_2, ()), ((), ()), (b3_0, b3_1, b3_2, ()), (b4_0, (), (), ()), (b5_0, b5_1, b5_2, ()), r6, r7, r8, r9, ()), (k7, (), (), (), (), (), (), ()), ((), (), (), (), (), (), (), (), (), (), (), ()))) (fun b1_0 b1_1 b1_2 r5 r6 r7 r8 k7 four58 six62 => g.2.2.2.1 ((((), ()), (b1_0, b1_1, b1_2, ()), ((), ()), ((), ()), ((), ()), r5, r6, r7, r8, ()), (k7, (), (), (), (), four58, (), six62, ()), ((), (), (), (), (), (), (), (), (), (), (), ()))) (fun r2 r3 k7 six62 => g.2.2.2.2.1 ((((), ()), ((), ()), r2, r3, ()), (k7, (), (), six62, ()), ((), (), (), (), (), (), (), (), (), (), (), ()))) (g.2.2.2.2.2.1 ((), (), ((), (), (), (), (), (), (), (), (), (), (), ()))) (fun b0_0 b3_0 b3_1 b3_2 b5_0 b5_1 b5_2 b6_0 b7_0 b7_1 b7_2 r8 r9 r10 r11 r12 r13 r14 r15 k7 s200 s201 => g.2.2.2.2.2.2.1 (((b0_0, (), (), ()), ((), ()), ((), ()), (b3_0, b3_1, b3_2, ()), ((), ()), (b5_0, b5_1, b5_2, ()), (b6_0, (), (), ()), (b7_0, b7_1, b7_2, ()), r8, r9, r10, r11, r12, r13, r14, r15, ()), (k7, (), (), (), (), (), (), (), (), (), s200, s201, ()), ((), (), (), (), (), (), (), (), (), (), (), ()))) b2_0 b2_1 b2_2 b4_0 b4_1 b4_2 b5_0 b6_0 b6_1 b6_2 r8 r9 r10 r11 r12 r13 k7 one46) ?_ (fun g => by kernel_rfl)
    simp only [w_FnStairsHiddenOfAll_t2]; repeat (first | exact Tail.const _ | exact Tail.here _ | exact Tail.there (Tail.here _) | exact Tail.there (Tail.there (Tail.here _)) | exact Tail.there (Tail.there (Tail.there (Tail.here _))) | exact Tail.there (Tail.there (Tail.there (Tail.there (Tail.here _)))) | exact Tail.there (Tail.there (Tail.there (Tail.there (Tail.there (Tail.here _))))) | exact Tail.there (Tail.there (Tail.there (Tail.there (Tail.there (Tail.there (Tail.here _)))))) | apply Tail.cond | (apply Tail.bind; intro _)),
  fun s => by
    obtain ⟨⟨⟨_, _⟩, ⟨b1_0, b1_1, b1_2, _⟩, ⟨_, _⟩, ⟨b3_0, b3_1, b3_2, _⟩, ⟨b4_0, _, _, _⟩, ⟨b5_0, b5_1, b5_2, _⟩, r6, r7, r8, r9, _⟩, ⟨k7, _, _, _, _, _, _, _⟩, ⟨_, _, _, _, _, _, _, _, _, _, _, _⟩⟩ := s
    refine Tail.eq (Y := fun g => w_FnStairsHiddenOfAll_t3 (fun b2_0 b2_1 b2_2 b4_0 b4_1 b4_2 b5_0 b6_0 b6_1 b6_2 r7 r8 r9 r10 r11 k7 => g.1 ((((), ()), ((), ()), (b2_0, b2_1, b2_2, ()), ((), ()), (b4_0, b4_1, b4_2, ()), (b5_0, (), (), ()), (b6_0, b6_1, b6_2, ()), r7, r8, r9, r10, r11, ()), (k7, (), (), (), (), (), (), (), ()), ((), (), (), (), (), (), (), (), (), (), (), ()))) (fun b2_0 b2_1 b2_2 b4_0 b4_1 b4_2 b5_0 b6_0 b6_1 b6_2 r8 r9 r10 r11 r12 r13 k7 one46 => g.2.1 ((((), ()), ((), ()), (b2_0, b2_1, b2_2, ()), ((), ()), (b4_0, b4_1, b4_2, ()), (b5_0, (), (), ()), (b6_0, b6_1, b6_2, ()), ((), ()), r8, r9, r10, r11, r12, r13, ()), (k7, (), (), (), (), (), (), (), (), one46, ()), ((), (), (), (), (), (), (), (), (), (), (), ()))) (fun b1_0 b1_1 b1_2 b3_0 b3_1 b3_2 b4_0 b5_0 b5_1 b5_2 r6 r7 r8 r9 k7 => g.2.2.1 ((((), ()), (b1_0, b1_1, b1_2, ()), ((), ()), (b3_0, b3_1, b3_2, ()), (b4_0, (), (), ()), (b5_0, b5_1, b5_2, ()), r6, r7, r8, r9, ()), (k7, (), (), (), (), (), (), ()), ((), (), (), (), (), (), (), (), (), (), (), ()))) (fun b1_0 b1_1 b1_2 r5 r6 r7 r8 k7 four58 six62 => g.2.2.2.1 ((((), ()), (b1_0, b1_1, b1_2, ()), ((), ()), ((), ()), ((), ()), r5, r6, r7, r8, ()), (k7, (), (), (), (), four58, (), six62, ()), ((), (), (), (), (), (), (), (), (), (), (), ()))) (fun r2 r3 k7 six62 => g.2.2.2.2.1 ((((), ()), ((), ()), r2, r3, ()), (k7, (), (), six62, ()), ((), (), (), (), (), (), (), (), (), (), (), ()))) (g.2.2.2.2.2.1 ((), (), ((), (), (), (), (), (), (), (), (), (), (), ()))) (fun b0_0 b3_0 b3_1 b3_2 b5_0 b5_1 b5_2 b6_0 b7_0 b7_1 b7_2 r8 r9 r10 r11 r12 r13 r14 r15 k7 s200 s201 => g.2.2.2.2.2.2.1 (((b0_0, (), (), ()), ((), ()), ((), ()), (b3_0, b3_1, b3_2, ()), ((), ()), (b5_0, b5_1, b5_2, ()), (b6_0, (), (), ()), (b7_0, b7_1, b7_2, ()), r8, r9, r10, r11, r12, r13, r14, r15, ()), (k7, (), (), (), (), (), (), (), (), (), s200, s201, ()), ((), (), (), (), (), (), (), (), (), (), (), ()))) b1_0 b1_1 b1_2 b3_0 b3_1 b3_2 b4_0 b5_0 b5_1 b5_2 r6 r7 r8 r9 k7) ?_ (fun g => by kernel_rfl)
    simp only [w_FnStairsHiddenOfAll_t3]; repeat (first | exact Tail.const _ | exact Tail.here _ | exact Tail.there (Tail.here _) | exact Tail.there (Tail.there (Tail.here _)) | exact Tail.there (Tail.there (Tail.there (Tail.here _))) | exact Tail.there (Tail.there (Tail.there (Tail.there (Tail.here _)))) | exact Tail.there (Tail.there (Tail.there (Tail.there (Tail.there (Tail.here _))))) | exact Tail.there (Tail.there (Tail.there (Tail.there (Tail.there (Tail.there (Tail.here _)))))) | apply Tail.cond | (apply Tail.bind; intro _)),
  fun s => by
    obtain ⟨⟨⟨_, _⟩, ⟨b1_0, b1_1, b1_2, _⟩, ⟨_, _⟩, ⟨_, _⟩, ⟨_, _⟩, r5, r6, r7, r8, _⟩, ⟨k7, _, _, _, _, four58, _, six62, _⟩, ⟨_, _, _, _, _, _, _, _, _, _, _, _⟩⟩ := s
    refine Tail.eq (Y := fun g => w_FnStairsHiddenOfAll_t4 (fun b2_0 b2_1 b2_2 b4_0 b4_1 b4_2 b5_0 b6_0 b6_1 b6_2 r7 r8 r9 r10 r11 k7 => g.1 ((((), ()), ((), ()), (b2_0, b2_1, b2_2, ()), ((), ()), (b4_0, b4_1, b4_2, ()), (b5_0, (), (), ()), (b6_0, b6_1, b6_2, ()), r7, r8, r9, r10, r11, ()), (k7, (), (), (), (), (), (), (), ()), ((), (), (), (), (), (), (), (), (), (), (), ()))) (fun b2_0 b2_1 b2_2 b4_0 b4_1 b4_2 b5_0 b6_0 b6_1 b6_2 r8 r9 r10 r11 r12 r13 k7 one46 => g.2.1 ((((), ()), ((), ()), (b2_0, b2_1, b2_2, ()), ((), ()), (b4_0, b4_1, b4_2, ()), (b5_0, (), (), ()), (b6_0, b6_1, b6_2, ()), ((), ()), r8, r9, r10, r11, r12, r13, ()), (k7, (), (), (), (), (), (), (), (), one46, ()), ((), (), (), (), (), (), (), (), (), (), (), ()))) (fun b1_0 b1_1 b1_2 b3_0 b3_1 b3_2 b4_0 b5_0 b5_1 b5_2 r6 r7 r8 r9 k7 => g.2.2.1 ((((), ()), (b1_0, b1_1, b1_2, ()), ((), ()), (b3_0, b3_1, b3_2, ()), (b4_0, (), (), ()), (b5_0, b5_1, b5_2, ()), r6, r7, r8, r9, ()), (k7, (), (), (), (), (), (), ()), ((), (), (), (), (), (), (), (), (), (), (), ()))) (fun b1_0 b1_1 b1_2 r5 r6 r7 r8 k7 four58 six62 => g.2.2.2.1 ((((), ()), (b1_0, b1_1, b1_2, ()), ((), ()), ((), ()), ((), ()), r5, r6, r7, r8, ()), (k7, (), (), (), (), four58, (), six62, ()), ((), (), (), (), (), (), (), (), (), (), (), ()))) (fun r2 r3 k7 six62 => g.2.2.2.2.1 ((((), ()), ((), ()), r2, r3, ()), (k7, (), (), six62, ()), ((), (), (), (), (), (), (), (), (), (), (), ()))) (g.2.2.2.2.2.1 ((), (), ((), (), (), (), (), (), (), (), (), (), (), ()))) (fun b0_0 b3_0 b3_1 b3_2 b5_0 b5_1 b5_2 b6_0 b7_0 b7_1 b7_2 r8 r9 r10 r11 r12 r13 r14 r15 k7 s200 s201 => g.2.2.2.2.2.2.1 (((b0_0, (), (), ()), ((), ()), ((), ()), (b3_0, b3_1, b3_2, ()), ((), ()), (b5_0, b5_1, b5_2, ()), (b6_0, (), (), ()), (b7_0, b7_1, b7_2, ()), r8, r9, r10, r11, r12, r13, r14, r15, ()), (k7, (), (), (), (), (), (), (), (), (), s200, s201, ()), ((), (), (), (), (), (), (), (), (), (), (), ()))) b1_0 b1_1 b1_2 r5 r6 r7 r8 k7 four58 six62) ?_ (fun g => by kernel_rfl)
    simp only [w_FnStairsHiddenOfAll_t4]; repeat (first | exact Tail.const _ | exact Tail.here _ | exact Tail.there (Tail.here _) | exact Tail.there (Tail.there (Tail.here _)) | exact Tail.there (Tail.there (Tail.there (Tail.here _))) | exact Tail.there (Tail.there (Tail.there (Tail.there (Tail.here _)))) | exact Tail.there (Tail.there (Tail.there (Tail.there (Tail.there (Tail.here _))))) | exact Tail.there (Tail.there (Tail.there (Tail.there (Tail.there (Tail.there (Tail.here _)))))) | apply Tail.cond | (apply Tail.bind; intro _)),
  fun s => by
    obtain ⟨⟨⟨_, _⟩, ⟨_, _⟩, r2, r3, _⟩, ⟨k7, _, _, six62, _⟩, ⟨_, _, _, _, _, _, _, _, _, _, _, _⟩⟩ := s
    refine Tail.eq (Y := fun g => w_FnStairsHiddenOfAll_t5 (fun b2_0 b2_1 b2_2 b4_0 b4_1 b4_2 b5_0 b6_0 b6_1 b6_2 r7 r8 r9 r10 r11 k7 => g.1 ((((), ()), ((), ()), (b2_0, b2_1, b2_2, ()), ((), ()), (b4_0, b4_1, b4_2, ()), (b5_0, (), (), ()), (b6_0, b6_1, b6_2, ()), r7, r8, r9, r10, r11, ()), (k7, (), (), (), (), (), (), (), ()), ((), (), (), (), (), (), (), (), (), (), (), ()))) (fun b2_0 b2_1 b2_2 b4_0 b4_1 b4_2 b5_0 b6_0 b6_1 b6_2 r8 r9 r10 r11 r12 r13 k7 one46 => g.2.1 ((((), ()), ((), ()), (b2_0, b2_1, b2_2, ()), ((), ()), (b4_0, b4_1, b4_2, ()), (b5_0, (), (), ()), (b6_0, b6_1, b6_2, ()), ((), ()), r8, r9, r10, r11, r12, r13, ()), (k7, (), (), (), (), (), (), (), (), one46, ()), ((), (), (), (), (), (), (), (), (), (), (), ()))) (fun b1_0 b1_1 b1_2 b3_0 b3_1 b3_2 b4_0 b5_0 b5_1 b5_2 r6 r7 r8 r9 k7 => g.2.2.1 ((((), ()), (b1_0, b1_1, b1_2, ()), ((), ()), (b3_0, b3_1, b3_2, ()), (b4_0, (), (), ()), (b5_0, b5_1, b5_2, ()), r6, r7, r8, r9, ()), (k7, (), (), (), (), (), (), ()), ((), (), (), (), (), (), (), (), (), (), (), ()))) (fun b1_0 b1_1 b1_2 r5 r6 r7 r8 k7 four58 six62 => g.2.2.2.1 ((((), ()), (b1_0, b1_1, b1_2, ()), ((), ()), ((), ()), ((), ()), r5, r6, r7, r8, ()), (k7, (), (), (), (), four58, (), six62, ()), ((), (), (), (), (), (), (), (), (), (), (), ()))) (fun r2 r3 k7 six62 => g.2.2.2.2.1 ((((), ()), ((), ()), r2, r3, ()), (k7, (), (), six62, ()), ((), (), (), (), (), (), (), (), (), (), (), ()))) (g.2.2.2.2.2.1 ((), (), ((), (), (), (), (), (), (), (), (), (), (), ()))) (fun b0_0 b3_0 b3_1 b3_2 b5_0 b5_1 b5_2 b6_0 b7_0 b7_1 b7_2 r8 r9 r10 r11 r12 r13 r14 r15 k7 s200 s201 => g.2.2.2.2.2.2.1 (((b0_0, (), (), ()), ((), ()), ((), ()), (b3_0, b3_1, b3_2, ()), ((), ()), (b5_0, b5_1, b5_2, ()), (b6_0, (), (), ()), (b7_0, b7_1, b7_2, ()), r8, r9, r10, r11, r12, r13, r14, r15, ()), (k7, (), (), (), (), (), (), (), (), (), s200, s201, ()), ((), (), (), (), (), (), (), (), (), (), (), ()))) r2 r3 k7 six62) ?_ (fun g => by kernel_rfl)
    simp only [w_FnStairsHiddenOfAll_t5]; repeat (first | exact Tail.const _ | exact Tail.here _ | exact Tail.there (Tail.here _) | exact Tail.there (Tail.there (Tail.here _)) | exact Tail.there (Tail.there (Tail.there (Tail.here _))) | exact Tail.there (Tail.there (Tail.there (Tail.there (Tail.here _)))) | exact Tail.there (Tail.there (Tail.there (Tail.there (Tail.there (Tail.here _))))) | exact Tail.there (Tail.there (Tail.there (Tail.there (Tail.there (Tail.there (Tail.here _)))))) | apply Tail.cond | (apply Tail.bind; intro _)),
  fun s => by
    obtain ⟨_, _, ⟨_, _, _, _, _, _, _, _, _, _, _, _⟩⟩ := s
    refine Tail.eq (Y := fun g => w_FnStairsHiddenOfAll_t6 (fun b2_0 b2_1 b2_2 b4_0 b4_1 b4_2 b5_0 b6_0 b6_1 b6_2 r7 r8 r9 r10 r11 k7 => g.1 ((((), ()), ((), ()), (b2_0, b2_1, b2_2, ()), ((), ()), (b4_0, b4_1, b4_2, ()), (b5_0, (), (), ()), (b6_0, b6_1, b6_2, ()), r7, r8, r9, r10, r11, ()), (k7, (), (), (), (), (), (), (), ()), ((), (), (), (), (), (), (), (), (), (), (), ()))) (fun b2_0 b2_1 b2_2 b4_0 b4_1 b4_2 b5_0 b6_0 b6_1 b6_2 r8 r9 r10 r11 r12 r13 k7 one46 => g.2.1 ((((), ()), ((), ()), (b2_0, b2_1, b2_2, ()), ((), ()), (b4_0, b4_1, b4_2, ()), (b5_0, (), (), ()), (b6_0, b6_1, b6_2, ()), ((), ()), r8, r9, r10, r11, r12, r13, ()), (k7, (), (), (), (), (), (), (), (), one46, ()), ((), (), (), (), (), (), (), (), (), (), (), ()))) (fun b1_0 b1_1 b1_2 b3_0 b3_1 b3_2 b4_0 b5_0 b5_1 b5_2 r6 r7 r8 r9 k7 => g.2.2.1 ((((), ()), (b1_0, b1_1, b1_2, ()), ((), ()), (b3_0, b3_1, b3_2, ()), (b4_0, (), (), ()), (b5_0, b5_1, b5_2, ()), r6, r7, r8, r9, ()), (k7, (), (), (), (), (), (), ()), ((), (), (), (), (), (), (), (), (), (), (), ()))) (fun b1_0 b1_1 b1_2 r5 r6 r7 r8 k7 four58 six62 => g.2.2.2.1 ((((), ()), (b1_0, b1_1, b1_2, ()), ((), ()), ((), ()), ((), ()), r5, r6, r7, r8, ()), (k7, (), (), (), (), four58, (), six62, ()), ((), (), (), (), (), (), (), (), (), (), (), ()))) (fun r2 r3 k7 six62 => g.2.2.2.2.1 ((((), ()), ((), ()), r2, r3, ()), (k7, (), (), six62, ()), ((), (), (), (), (), (), (), (), (), (), (), ()))) (g.2.2.2.2.2.1 ((), (), ((), (), (), (), (), (), (), (), (), (), (), ()))) (fun b0_0 b3_0 b3_1 b3_2 b5_0 b5_1 b5_2 b6_0 b7_0 b7_1 b7_2 r8 r9 r10 r11 r12 r13 r14 r15 k7 s200 s201 => g.2.2.2.2.2.2.1 (((b0_0, (), (), ()), ((), ()), ((), ()), (b3_0, b3_1, b3_2, ()), ((), ()), (b5_0, b5_1, b5_2, ()), (b6_0, (), (), ()), (b7_0, b7_1, b7_2, ()), r8, r9, r10, r11, r12, r13, r14, r15, ()), (k7, (), (), (), (), (), (), (), (), (), s200, s201, ()), ((), (), (), (), (), (), (), (), (), (), (), ()))) ) ?_ (fun g => by kernel_rfl)
    simp only [w_FnStairsHiddenOfAll_t6]; repeat (first | exact Tail.const _ | exact Tail.here _ | exact Tail.there (Tail.here _) | exact Tail.there (Tail.there (Tail.here _)) | exact Tail.there (Tail.there (Tail.there (Tail.here _))) | exact Tail.there (Tail.there (Tail.there (Tail.there (Tail.here _)))) | exact Tail.there (Tail.there (Tail.there (Tail.there (Tail.there (Tail.here _))))) | exact Tail.there (Tail.there (Tail.there (Tail.there (Tail.there (Tail.there (Tail.here _)))))) | apply Tail.cond | (apply Tail.bind; intro _)),
  fun s => by
    obtain ⟨⟨⟨b0_0, _, _, _⟩, ⟨_, _⟩, ⟨_, _⟩, ⟨b3_0, b3_1, b3_2, _⟩, ⟨_, _⟩, ⟨b5_0, b5_1, b5_2, _⟩, ⟨b6_0, _, _, _⟩, ⟨b7_0, b7_1, b7_2, _⟩, r8, r9, r10, r11, r12, r13, r14, r15, _⟩, ⟨k7, _, _, _, _, _, _, _, _, _, s200, s201, _⟩, ⟨_, _, _, _, _, _, _, _, _, _, _, _⟩⟩ := s
    refine Tail.eq (Y := fun g => w_FnStairsHiddenOfAll_t7 (fun b2_0 b2_1 b2_2 b4_0 b4_1 b4_2 b5_0 b6_0 b6_1 b6_2 r7 r8 r9 r10 r11 k7 => g.1 ((((), ()), ((), ()), (b2_0, b2_1, b2_2, ()), ((), ()), (b4_0, b4_1, b4_2, ()), (b5_0, (), (), ()), (b6_0, b6_1, b6_2, ()), r7, r8, r9, r10, r11, ()), (k7, (), (), (), (), (), (), (), ()), ((), (), (), (), (), (), (), (), (), (), (), ()))) (fun b2_0 b2_1 b2_2 b4_0 b4_1 b4_2 b5_0 b6_0 b6_1 b6_2 r8 r9 r10 r11 r12 r13 k7 one46 => g.2.1 ((((), ()), ((), ()), (b2_0, b2_1, b2_2, ()), ((), ()), (b4_0, b4_1, b4_2, ()), (b5_0, (), (), ()), (b6_0, b6_1, b6_2, ()), ((), ()), r8, r9, r10, r11, r12, r13, ()), (k7, (), (), (), (), (), (), (), (), one46, ()), ((), (), (), (), (), (), (), (), (), (), (), ()))) (fun b1_0 b1_1 b1_2 b3_0 b3_1 b3_2 b4_0 b5_0 b5_1 b5_2 r6 r7 r8 r9 k7 => g.2.2.1 ((((), ()), (b1_0, b1_1, b1_2, ()), ((), ()), (b3_0, b3_1, b3_2, ()), (b4_0, (), (), ()), (b5_0, b5_1, b5_2, ()), r6, r7, r8, r9, ()), (k7, (), (), (), (), (), (), ()), ((), (), (), (), (), (), (), (), (), (), (), ()))) (fun b1_0 b1_1 b1_2 r5 r6 r7 r8 k7 four58 six62 => g.2.2.2.1 ((((), ()), (b1_0, b1_1, b1_2, ()), ((), ()), ((), ()), ((), ()), r5, r6, r7, r8, ()), (k7, (), (), (), (), four58, (), six62, ()), ((), (), (), (), (), (), (), (), (), (), (), ()))) (fun r2 r3 k7 six62 => g.2.2.2.2.1 ((((), ()), ((), ()), r2, r3, ()), (k7, (), (), six62, ()), ((), (), (), (), (), (), (), (), (), (), (), ()))) (g.2.2.2.2.2.1 ((), (), ((), (), (), (), (), (), (), (), (), (), (), ()))) (fun b0_0 b3_0 b3_1 b3_2 b5_0 b5_1 b5_2 b6_0 b7_0 b7_1 b7_2 r8 r9 r10 r11 r12 r13 r14 r15 k7 s200 s201 => g.2.2.2.2.2.2.1 (((b0_0, (), (), ()), ((), ()), ((), ()), (b3_0, b3_1, b3_2, ()), ((), ()), (b5_0, b5_1, b5_2, ()), (b6_0, (), (), ()), (b7_0, b7_1, b7_2, ()), r8, r9, r10, r11, r12, r13, r14, r15, ()), (k7, (), (), (), (), (), (), (), (), (), s200, s201, ()), ((), (), (), (), (), (), (), (), (), (), (), ()))) b0_0 b3_0 b3_1 b3_2 b5_0 b5_1 b5_2 b6_0 b7_0 b7_1 b7_2 r8 r9 r10 r11 r12 r13 r14 r15 k7 s200 s201) ?_ (fun g => by kernel_rfl)
    simp only [w_FnStairsHiddenOfAll_t7]; repeat (first | exact Tail.const _ | exact Tail.here _ | exact Tail.there (Tail.here _) | exact Tail.there (Tail.there (Tail.here _)) | exact Tail.there (Tail.there (Tail.there (Tail.here _))) | exact Tail.there (Tail.there (Tail.there (Tail.there (Tail.here _)))) | exact Tail.there (Tail.there (Tail.there (Tail.there (Tail.there (Tail.here _))))) | exact Tail.there (Tail.there (Tail.there (Tail.there (Tail.there (Tail.there (Tail.here _)))))) | apply Tail.cond | (apply Tail.bind; intro _)), trivial⟩
theorem w_FnStairsHiddenOfAll_hs : ∀ x, Tail c_w_FnStairsHiddenOfAll.pts (fun g => c_w_FnStairsHiddenOfAll.start g x) := fun x => by
    obtain ⟨⟨s0_Steps, s0_Strides, s0_Broken⟩, clues1, seed2, q3_Clues, r4_Clues, ⟨c5_Kind, c5_A, c5_B⟩, p6_Clues, k7, ⟨d8_Kind, d8_A, d8_B⟩, ⟨x9_Steps, x9_Strides, x9_Broken⟩, ⟨e10_Kind, e10_A, e10_B⟩, _⟩ := x
    refine Tail.eq (Y := fun g => w_FnStairsHiddenOfAll_t0 (fun b2_0 b2_1 b2_2 b4_0 b4_1 b4_2 b5_0 b6_0 b6_1 b6_2 r7 r8 r9 r10 r11 k7 => g.1 ((((), ()), ((), ()), (b2_0, b2_1, b2_2, ()), ((), ()), (b4_0, b4_1, b4_2, ()), (b5_0, (), (), ()), (b6_0, b6_1, b6_2, ()), r7, r8, r9, r10, r11, ()), (k7, (), (), (), (), (), (), (), ()), ((), (), (), (), (), (), (), (), (), (), (), ()))) (fun b2_0 b2_1 b2_2 b4_0 b4_1 b4_2 b5_0 b6_0 b6_1 b6_2 r8 r9 r10 r11 r12 r13 k7 one46 => g.2.1 ((((), ()), ((), ()), (b2_0, b2_1, b2_2, ()), ((), ()), (b4_0, b4_1, b4_2, ()), (b5_0, (), (), ()), (b6_0, b6_1, b6_2, ()), ((), ()), r8, r9, r10, r11, r12, r13, ()), (k7, (), (), (), (), (), (), (), (), one46, ()), ((), (), (), (), (), (), (), (), (), (), (), ()))) (fun b1_0 b1_1 b1_2 b3_0 b3_1 b3_2 b4_0 b5_0 b5_1 b5_2 r6 r7 r8 r9 k7 => g.2.2.1 ((((), ()), (b1_0, b1_1, b1_2, ()), ((), ()), (b3_0, b3_1, b3_2, ()), (b4_0, (), (), ()), (b5_0, b5_1, b5_2, ()), r6, r7, r8, r9, ()), (k7, (), (), (), (), (), (), ()), ((), (), (), (), (), (), (), (), (), (), (), ()))) (fun b1_0 b1_1 b1_2 r5 r6 r7 r8 k7 four58 six62 => g.2.2.2.1 ((((), ()), (b1_0, b1_1, b1_2, ()), ((), ()), ((), ()), ((), ()), r5, r6, r7, r8, ()), (k7, (), (), (), (), four58, (), six62, ()), ((), (), (), (), (), (), (), (), (), (), (), ()))) (fun r2 r3 k7 six62 => g.2.2.2.2.1 ((((), ()), ((), ()), r2, r3, ()), (k7, (), (), six62, ()), ((), (), (), (), (), (), (), (), (), (), (), ()))) (g.2.2.2.2.2.1 ((), (), ((), (), (), (), (), (), (), (), (), (), (), ()))) (fun b0_0 b3_0 b3_1 b3_2 b5_0 b5_1 b5_2 b6_0 b7_0 b7_1 b7_2 r8 r9 r10 r11 r12 r13 r14 r15 k7 s200 s201 => g.2.2.2.2.2.2.1 (((b0_0, (), (), ()), ((), ()), ((), ()), (b3_0, b3_1, b3_2, ()), ((), ()), (b5_0, b5_1, b5_2, ()), (b6_0, (), (), ()), (b7_0, b7_1, b7_2, ()), r8, r9, r10, r11, r12, r13, r14, r15, ()), (k7, (), (), (), (), (), (), (), (), (), s200, s201, ()), ((), (), (), (), (), (), (), (), (), (), (), ()))) s0_Steps s0_Strides s0_Broken clues1 seed2 q3_Clues r4_Clues c5_Kind c5_A c5_B p6_Clues k7 d8_Kind d8_A d8_B x9_Steps x9_Strides x9_Broken e10_Kind e10_A e10_B) ?_ (fun g => by kernel_rfl)
    simp only [w_FnStairsHiddenOfAll_t0]; repeat (first | exact Tail.const _ | exact Tail.here _ | exact Tail.there (Tail.here _) | exact Tail.there (Tail.there (Tail.here _)) | exact Tail.there (Tail.there (Tail.there (Tail.here _))) | exact Tail.there (Tail.there (Tail.there (Tail.there (Tail.here _)))) | exact Tail.there (Tail.there (Tail.there (Tail.there (Tail.there (Tail.here _))))) | exact Tail.there (Tail.there (Tail.there (Tail.there (Tail.there (Tail.there (Tail.here _)))))) | apply Tail.cond | (apply Tail.bind; intro _))
noncomputable def w_FnStairsHiddenOfAll_L1 (b2_0 : Int) (b2_1 : Int) (b2_2 : Int) (b4_0 : Int) (b4_1 : Int) (b4_2 : Int) (b5_0 : Int) (b6_0 : Int) (b6_1 : Int) (b6_2 : Int) (r7 : List (Int × (Int × Int))) (r8 : List (Int × (Int × Int))) (r9 : List (Int × (Int × Int))) (r10 : List (Int)) (r11 : List (Int)) (k7 : Int) : Option Bool := c_w_FnStairsHiddenOfAll.L.1 ((((), ()), ((), ()), (b2_0, b2_1, b2_2, ()), ((), ()), (b4_0, b4_1, b4_2, ()), (b5_0, (), (), ()), (b6_0, b6_1, b6_2, ()), r7, r8, r9, r10, r11, ()), (k7, (), (), (), (), (), (), (), ()), ((), (), (), (), (), (), (), (), (), (), (), ()))
noncomputable def w_FnStairsHiddenOfAll_L2 (b2_0 : Int) (b2_1 : Int) (b2_2 : Int) (b4_0 : Int) (b4_1 : Int) (b4_2 : Int) (b5_0 : Int) (b6_0 : Int) (b6_1 : Int) (b6_2 : Int) (r8 : List (Int × (Int × Int))) (r9 : List (Int × (Int × Int))) (r10 : List (Int × (Int × Int))) (r11 : List (Int)) (r12 : List (Int)) (r13 : List (Int × (Int × Int))) (k7 : Int) (one46 : Bool) : Option Bool := c_w_FnStairsHiddenOfAll.L.2.1 ((((), ()), ((), ()), (b2_0, b2_1, b2_2, ()), ((), ()), (b4_0, b4_1, b4_2, ()), (b5_0, (), (), ()), (b6_0, b6_1, b6_2, ()), ((), ()), r8, r9, r10, r11, r12, r13, ()), (k7, (), (), (), (), (), (), (), (), one46, ()), ((), (), (), (), (), (), (), (), (), (), (), ()))
noncomputable def w_FnStairsHiddenOfAll_L3 (b1_0 : Int) (b1_1 : Int) (b1_2 : Int) (b3_0 : Int) (b3_1 : Int) (b3_2 : Int) (b4_0 : Int) (b5_0 : Int) (b5_1 : Int) (b5_2 : Int) (r6 : List (Int × (Int × Int))) (r7 : List (Int × (Int × Int))) (r8 : List (Int)) (r9 : List (Int)) (k7 : Int) : Option Bool := c_w_FnStairsHiddenOfAll.L.2.2.1 ((((), ()), (b1_0, b1_1, b1_2, ()), ((), ()), (b3_0, b3_1, b3_2, ()), (b4_0, (), (), ()), (b5_0, b5_1, b5_2, ()), r6, r7, r8, r9, ()), (k7, (), (), (), (), (), (), ()), ((), (), (), (), (), (), (), (), (), (), (), ()))
noncomputable def w_FnStairsHiddenOfAll_L4 (b1_0 : Int) (b1_1 : Int) (b1_2 : Int) (r5 : List (Int × (Int × Int))) (r6 : List (Int × (Int × Int))) (r7 : List (Int × (Int × Int))) (r8 : List (Int × (Int × Int))) (k7 : Int) (four58 : Bool) (six62 : Bool) : Option Bool := c_w_FnStairsHiddenOfAll.L.2.2.2.1 ((((), ()), (b1_0, b1_1, b1_2, ()), ((), ()), ((), ()), ((), ()), r5, r6, r7, r8, ()), (k7, (), (), (), (), four58, (), six62, ()), ((), (), (), (), (), (), (), (), (), (), (), ()))
noncomputable def w_FnStairsHiddenOfAll_L5 (r2 : List (Int × (Int × Int))) (r3 : List (Int × (Int × Int))) (k7 : Int) (six62 : Bool) : Option Bool := c_w_FnStairsHiddenOfAll.L.2.2.2.2.1 ((((), ()), ((), ()), r2, r3, ()), (k7, (), (), six62, ()), ((), (), (), (), (), (), (), (), (), (), (), ()))
noncomputable def w_FnStairsHiddenOfAll_L6  : Option Bool := c_w_FnStairsHiddenOfAll.L.2.2.2.2.2.1 ((), (), ((), (), (), (), (), (), (), (), (), (), (), ()))
noncomputable def w_FnStairsHiddenOfAll_L7 (b0_0 : Int) (b3_0 : Int) (b3_1 : Int) (b3_2 : Int) (b5_0 : Int) (b5_1 : Int) (b5_2 : Int) (b6_0 : Int) (b7_0 : Int) (b7_1 : Int) (b7_2 : Int) (r8 : List (Int × (Int × Int))) (r9 : List (Int)) (r10 : List (Int)) (r11 : List (Int × (Int × Int))) (r12 : List (Int × (Int × Int))) (r13 : List (Int × (Int × Int))) (r14 : List (Int)) (r15 : List (Int)) (k7 : Int) (s200 : Int) (s201 : Int) : Option Bool := c_w_FnStairsHiddenOfAll.L.2.2.2.2.2.2.1 (((b0_0, (), (), ()), ((), ()), ((), ()), (b3_0, b3_1, b3_2, ()), ((), ()), (b5_0, b5_1, b5_2, ()), (b6_0, (), (), ()), (b7_0, b7_1, b7_2, ()), r8, r9, r10, r11, r12, r13, r14, r15, ()), (k7, (), (), (), (), (), (), (), (), (), s200, s201, ()), ((), (), (), (), (), (), (), (), (), (), (), ()))
theorem w_FnStairsHiddenOfAll_u1 (b2_0 : Int) (b2_1 : Int) (b2_2 : Int) (b4_0 : Int) (b4_1 : Int) (b4_2 : Int) (b5_0 : Int) (b6_0 : Int) (b6_1 : Int) (b6_2 : Int) (r7 : List (Int × (Int × Int))) (r8 : List (Int × (Int × Int))) (r9 : List (Int × (Int × Int))) (r10 : List (Int)) (r11 : List (Int)) (k7 : Int) : w_FnStairsHiddenOfAll_L1 b2_0 b2_1 b2_2 b4_0 b4_1 b4_2 b5_0 b6_0 b6_1 b6_2 r7 r8 r9 r10 r11 k7 = w_FnStairsHiddenOfAll_t1 w_FnStairsHiddenOfAll_L1 w_FnStairsHiddenOfAll_L2 w_FnStairsHiddenOfAll_L3 w_FnStairsHiddenOfAll_L4 w_FnStairsHiddenOfAll_L5 w_FnStairsHiddenOfAll_L6 w_FnStairsHiddenOfAll_L7 b2_0 b2_1 b2_2 b4_0 b4_1 b4_2 b5_0 b6_0 b6_1 b6_2 r7 r8 r9 r10 r11 k7 :=
  (congrArg (fun g => g.1 ((((), ()), ((), ()), (b2_0, b2_1, b2_2, ()), ((), ()), (b4_0, b4_1, b4_2, ()), (b5_0, (), (), ()), (b6_0, b6_1, b6_2, ()), r7, r8, r9, r10, r11, ()), (k7, (), (), (), (), (), (), (), ()), ((), (), (), (), (), (), (), (), (), (), (), ()))) (FnCx.L_eq w_FnStairsHiddenOfAll_ts)).trans (by kernel_rfl)
theorem w_FnStairsHiddenOfAll_u2 (b2_0 : Int) (b2_1 : Int) (b2_2 : Int) (b4_0 : Int) (b4_1 : Int) (b4_2 : Int) (b5_0 : Int) (b6_0 : Int) (b6_1 : Int) (b6_2 : Int) (r8 : List (Int × (Int × Int))) (r9 : List (Int × (Int × Int))) (r10 : List (Int × (Int × Int))) (r11 : List (Int)) (r12 : List (Int)) (r13 : List (Int × (Int × Int))) (k7 : Int) (one46 : Bool) : w_FnStairsHiddenOfAll_L2 b2_0 b2_1 b2_2 b4_0 b4_1 b4_2 b5_0 b6_0 b6_1 b6_2 r8 r9 r10 r11 r12 r13 k7 one46 = w_FnStairsHiddenOfAll_t2 w_FnStairsHiddenOfAll_L1 w_FnStairsHiddenOfAll_L2 w_FnStairsHiddenOfAll_L3 w_FnStairsHiddenOfAll_L4 w_FnStairsHiddenOfAll_L5 w_FnStairsHiddenOfAll_L6 w_FnStairsHiddenOfAll_L7 b2_0 b2_1 b2_2 b4_0 b4_1 b4_2 b5_0 b6_0 b6_1 b6_2 r8 r9 r10 r11 r12 r13 k7 one46 :=
  (congrArg (fun g => g.2.1 ((((), ()), ((), ()), (b2_0, b2_1, b2_2, ()), ((), ()), (b4_0, b4_1, b4_2, ()), (b5_0, (), (), ()), (b6_0, b6_1, b6_2, ()), ((), ()), r8, r9, r10, r11, r12, r13, ()), (k7, (), (), (), (), (), (), (), (), one46, ()), ((), (), (), (), (), (), (), (), (), (), (), ()))) (FnCx.L_eq w_FnStairsHiddenOfAll_ts)).trans (by kernel_rfl)
theorem w_FnStairsHiddenOfAll_u3 (b1_0 : Int) (b1_1 : Int) (b1_2 : Int) (b3_0 : Int) (b3_1 : Int) (b3_2 : Int) (b4_0 : Int) (b5_0 : Int) (b5_1 : Int) (b5_2 : Int) (r6 : List (Int × (Int × Int))) (r7 : List (Int × (Int × Int))) (r8 : List (Int)) (r9 : List (Int)) (k7 : Int) : w_FnStairsHiddenOfAll_L3 b1_0 b1_1 b1_2 b3_0 b3_1 b3_2 b4_0 b5_0 b5_1 b5_2 r6 r7 r8 r9 k7 = w_FnStairsHiddenOfAll_t3 w_FnStairsHiddenOfAll_L1 w_FnStairsHiddenOfAll_L2 w_FnStairsHiddenOfAll_L3 w_FnStairsHiddenOfAll_L4 w_FnStairsHiddenOfAll_L5 w_FnStairsHiddenOfAll_L6 w_FnStairsHiddenOfAll_L7 b1_0 b1_1 b1_2 b3_0 b3_1 b3_2 b4_0 b5_0 b5_1 b5_2 r6 r7 r8 r9 k7 :=
  (congrArg (fun g => g.2.2.1 ((((), ()), (b1_0, b1_1, b1_2, ()), ((), ()), (b3_0, b3_1, b3_2, ()), (b4_0, (), (), ()), (b5_0, b5_1, b5_2, ()), r6, r7, r8, r9, ()), (k7, (), (), (), (), (), (), ()), ((), (), (), (), (), (), (), (), (), (), (), ()))) (FnCx.L_eq w_FnStairsHiddenOfAll_ts)).trans (by kernel_rfl)
theorem w_FnStairsHiddenOfAll_u4 (b1_0 : Int) (b1_1 : Int) (b1_2 : Int) (r5 : List (Int × (Int × Int))) (r6 : List (Int × (Int × Int))) (r7 : List (Int × (Int × Int))) (r8 : List (Int × (Int × Int))) (k7 : Int) (four58 : Bool) (six62 : Bool) : w_FnStairsHiddenOfAll_L4 b1_0 b1_1 b1_2 r5 r6 r7 r8 k7 four58 six62 = w_FnStairsHiddenOfAll_t4 w_FnStairsHiddenOfAll_L1 w_FnStairsHiddenOfAll_L2 w_FnStairsHiddenOfAll_L3 w_FnStairsHiddenOfAll_L4 w_FnStairsHiddenOfAll_L5 w_FnStairsHiddenOfAll_L6 w_FnStairsHiddenOfAll_L7 b1_0 b1_1 b1_2 r5 r6 r7 r8 k7 four58 six62 :=
  (congrArg (fun g => g.2.2.2.1 ((((), ()), (b1_0, b1_1, b1_2, ()), ((), ()), ((), ()), ((), ()), r5, r6, r7, r8, ()), (k7, (), (), (), (), four58, (), six62, ()), ((), (), (), (), (), (), (), (), (), (), (), ()))) (FnCx.L_eq w_FnStairsHiddenOfAll_ts)).trans (by kernel_rfl)
theorem w_FnStairsHiddenOfAll_u5 (r2 : List (Int × (Int × Int))) (r3 : List (Int × (Int × Int))) (k7 : Int) (six62 : Bool) : w_FnStairsHiddenOfAll_L5 r2 r3 k7 six62 = w_FnStairsHiddenOfAll_t5 w_FnStairsHiddenOfAll_L1 w_FnStairsHiddenOfAll_L2 w_FnStairsHiddenOfAll_L3 w_FnStairsHiddenOfAll_L4 w_FnStairsHiddenOfAll_L5 w_FnStairsHiddenOfAll_L6 w_FnStairsHiddenOfAll_L7 r2 r3 k7 six62 :=
  (congrArg (fun g => g.2.2.2.2.1 ((((), ()), ((), ()), r2, r3, ()), (k7, (), (), six62, ()), ((), (), (), (), (), (), (), (), (), (), (), ()))) (FnCx.L_eq w_FnStairsHiddenOfAll_ts)).trans (by kernel_rfl)
theorem w_FnStairsHiddenOfAll_u6  : w_FnStairsHiddenOfAll_L6  = w_FnStairsHiddenOfAll_t6 w_FnStairsHiddenOfAll_L1 w_FnStairsHiddenOfAll_L2 w_FnStairsHiddenOfAll_L3 w_FnStairsHiddenOfAll_L4 w_FnStairsHiddenOfAll_L5 w_FnStairsHiddenOfAll_L6 w_FnStairsHiddenOfAll_L7  :=
  (congrArg (fun g => g.2.2.2.2.2.1 ((), (), ((), (), (), (), (), (), (), (), (), (), (), ()))) (FnCx.L_eq w_FnStairsHiddenOfAll_ts)).trans (by kernel_rfl)
theorem w_FnStairsHiddenOfAll_u7 (b0_0 : Int) (b3_0 : Int) (b3_1 : Int) (b3_2 : Int) (b5_0 : Int) (b5_1 : Int) (b5_2 : Int) (b6_0 : Int) (b7_0 : Int) (b7_1 : Int) (b7_2 : Int) (r8 : List (Int × (Int × Int))) (r9 : List (Int)) (r10 : List (Int)) (r11 : List (Int × (Int × Int))) (r12 : List (Int × (Int × Int))) (r13 : List (Int × (Int × Int))) (r14 : List (Int)) (r15 : List (Int)) (k7 : Int) (s200 : Int) (s201 : Int) : w_FnStairsHiddenOfAll_L7 b0_0 b3_0 b3_1 b3_2 b5_0 b5_1 b5_2 b6_0 b7_0 b7_1 b7_2 r8 r9 r10 r11 r12 r13 r14 r15 k7 s200 s201 = w_FnStairsHiddenOfAll_t7 w_FnStairsHiddenOfAll_L1 w_FnStairsHiddenOfAll_L2 w_FnStairsHiddenOfAll_L3 w_FnStairsHiddenOfAll_L4 w_FnStairsHiddenOfAll_L5 w_FnStairsHiddenOfAll_L6 w_FnStairsHiddenOfAll_L7 b0_0 b3_0 b3_1 b3_2 b5_0 b5_1 b5_2 b6_0 b7_0 b7_1 b7_2 r8 r9 r10 r11 r12 r13 r14 r15 k7 s200 s201 :=
  (congrArg (fun g => g.2.2.2.2.2.2.1 (((b0_0, (), (), ()), ((), ()), ((), ()), (b3_0, b3_1, b3_2, ()), ((), ()), (b5_0, b5_1, b5_2, ()), (b6_0, (), (), ()), (b7_0, b7_1, b7_2, ()), r8, r9, r10, r11, r12, r13, r14, r15, ()), (k7, (), (), (), (), (), (), (), (), (), s200, s201, ()), ((), (), (), (), (), (), (), (), (), (), (), ()))) (FnCx.L_eq w_FnStairsHiddenOfAll_ts)).trans (by kernel_rfl)
noncomputable def w_FnStairsHiddenOfAll (s0_Steps : Int) (s0_Strides : List Int) (s0_Broken : List Int) (clues1 : Int) (seed2 : Int) (q3_Clues : List (Int × Int × Int)) (r4_Clues : List (Int × Int × Int)) (c5_Kind : Int) (c5_A : Int) (c5_B : Int) (p6_Clues : List (Int × Int × Int)) (k7 : Int) (d8_Kind : Int) (d8_A : Int) (d8_B : Int) (x9_Steps : Int) (x9_Strides : List Int) (x9_Broken : List Int) (e10_Kind : Int) (e10_A : Int) (e10_B : Int) : Option Bool := w_FnStairsHiddenOfAll_t0 w_FnStairsHiddenOfAll_L1 w_FnStairsHiddenOfAll_L2 w_FnStairsHiddenOfAll_L3 w_FnStairsHiddenOfAll_L4 w_FnStairsHiddenOfAll_L5 w_FnStairsHiddenOfAll_L6 w_FnStairsHiddenOfAll_L7 s0_Steps s0_Strides s0_Broken clues1 seed2 q3_Clues r4_Clues c5_Kind c5_A c5_B p6_Clues k7 d8_Kind d8_A d8_B x9_Steps x9_Strides x9_Broken e10_Kind e10_A e10_B
theorem w_FnStairsHiddenOfAll_e (s0_Steps : Int) (s0_Strides : List Int) (s0_Broken : List Int) (clues1 : Int) (seed2 : Int) (q3_Clues : List (Int × Int × Int)) (r4_Clues : List (Int × Int × Int)) (c5_Kind : Int) (c5_A : Int) (c5_B : Int) (p6_Clues : List (Int × Int × Int)) (k7 : Int) (d8_Kind : Int) (d8_A : Int) (d8_B : Int) (x9_Steps : Int) (x9_Strides : List Int) (x9_Broken : List Int) (e10_Kind : Int) (e10_A : Int) (e10_B : Int) : c_w_FnStairsHiddenOfAll.start c_w_FnStairsHiddenOfAll.L ((s0_Steps, s0_Strides, s0_Broken), clues1, seed2, q3_Clues, r4_Clues, (c5_Kind, c5_A, c5_B), p6_Clues, k7, (d8_Kind, d8_A, d8_B), (x9_Steps, x9_Strides, x9_Broken), (e10_Kind, e10_A, e10_B), ()) = w_FnStairsHiddenOfAll s0_Steps s0_Strides s0_Broken clues1 seed2 q3_Clues r4_Clues c5_Kind c5_A c5_B p6_Clues k7 d8_Kind d8_A d8_B x9_Steps x9_Strides x9_Broken e10_Kind e10_A e10_B := by kernel_rfl
noncomputable def F_w_FnStairsHiddenOfAll : Ins c_w_FnStairsHiddenOfAll.ins → Option Bool := fun x => w_FnStairsHiddenOfAll x.1.1 x.1.2.1 x.1.2.2 x.2.1 x.2.2.1 x.2.2.2.1 x.2.2.2.2.1 x.2.2.2.2.2.1.1 x.2.2.2.2.2.1.2.1 x.2.2.2.2.2.1.2.2 x.2.2.2.2.2.2.1 x.2.2.2.2.2.2.2.1 x.2.2.2.2.2.2.2.2.1.1 x.2.2.2.2.2.2.2.2.1.2.1 x.2.2.2.2.2.2.2.2.1.2.2 x.2.2.2.2.2.2.2.2.2.1.1 x.2.2.2.2.2.2.2.2.2.1.2.1 x.2.2.2.2.2.2.2.2.2.1.2.2 x.2.2.2.2.2.2.2.2.2.2.1.1 x.2.2.2.2.2.2.2.2.2.2.1.2.1 x.2.2.2.2.2.2.2.2.2.2.1.2.2
noncomputable def S_w_FnStairsHiddenOfAll : FSpec := mkF c_w_FnStairsHiddenOfAll.env.pre c_w_FnStairsHiddenOfAll.ins c_w_FnStairsHiddenOfAll.out c_w_FnStairsHiddenOfAll.inj F_w_FnStairsHiddenOfAll
theorem h_w_FnStairsHiddenOfAll : Cert Try.prog 13 S_w_FnStairsHiddenOfAll := FnCx.certF (c := c_w_FnStairsHiddenOfAll) F_w_FnStairsHiddenOfAll (tyOk _ _ _) (spOk ⟨h_i_MakePuzzle, fun _ _ _ => trivial, ⟨h_s_MakePuzzle, fun _ _ _ => trivial, ⟨h_w_wPuzzle, fun _ _ _ => trivial, ⟨h_i_CountClimbs, fun _ _ _ => trivial, ⟨h_i_DoesFit, fun _ _ _ => trivial, ⟨h_i_FewestStrides, fun _ _ _ => trivial, ⟨h_i_MostStrides, fun _ _ _ => trivial, ⟨h_i_IsPuzzle, fun _ _ _ => trivial, ⟨h_i_HarderPuzzle, fun _ _ _ => trivial, ⟨h_s_HarderPuzzle, fun _ _ _ => trivial, ⟨h_i_IsSolved, fun _ _ _ => trivial, ⟨h_i_Solutions, fun _ _ _ => trivial, ⟨h_i_NeedlessClues, fun _ _ _ => trivial, ⟨h_w_wLists, fun _ _ _ => trivial, ⟨h_i_AddClue, fun _ _ _ => trivial, ⟨h_s_AddClue, fun _ _ _ => trivial, ⟨h_i_DropClue, fun _ _ _ => trivial, ⟨h_s_DropClue, fun _ _ _ => trivial, ⟨h_s_DoesFit, fun _ _ _ => trivial, ⟨h_i_IsClue, fun _ _ _ => trivial, ⟨h_s_IsClue, fun _ _ _ => trivial, trivial⟩⟩⟩⟩⟩⟩⟩⟩⟩⟩⟩⟩⟩⟩⟩⟩⟩⟩⟩⟩⟩) (fun _ _ _ _ _ hs => evDr_ok (tyOk _ _ _) hs follows) Try.func13 rfl rfl Try.ntmps13 (by kernel_rfl) rfl rfl (fun _ => rfl) w_FnStairsHiddenOfAll_ts w_FnStairsHiddenOfAll_hs (fun x t hb ht => by
  obtain ⟨⟨s0_Steps, s0_Strides, s0_Broken⟩, clues1, seed2, q3_Clues, r4_Clues, ⟨c5_Kind, c5_A, c5_B⟩, p6_Clues, k7, ⟨d8_Kind, d8_A, d8_B⟩, ⟨x9_Steps, x9_Strides, x9_Broken⟩, ⟨e10_Kind, e10_A, e10_B⟩, _⟩ := x
  exact (w_FnStairsHiddenOfAll_e s0_Steps s0_Strides s0_Broken clues1 seed2 q3_Clues r4_Clues c5_Kind c5_A c5_B p6_Clues k7 d8_Kind d8_A d8_B x9_Steps x9_Strides x9_Broken e10_Kind e10_A e10_B).trans ht)
end Go.Proofs.Ytbemnabojjiikaa.V
