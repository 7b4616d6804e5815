/- Functions of the program, as plain functions. No condition. -/
import Derived.Test.YtbemnabojjiikaaB4
set_option linter.unusedVariables false
set_option linter.unusedSimpArgs false
set_option maxRecDepth 100000
namespace Go.Proofs.Ytbemnabojjiikaa.V
open Go Go.Ev Go.Proofs
/-! spec.pzSolved -/
noncomputable def c_s_pzSolved : FnCx := { env := env 7 [(87, S_s_pzAll)] [], body := bodyOf Try.f89, res := [.tmp 2], ins := [.ro kSClue], out := [(kbool, true)], T := Bool, fin := fun r => r.1.1, inj := fun t => ((t, ()), ((), ())), pts := [], fuel := 400, dr := noDr }
noncomputable def s_pzSolved (clues0 : List (Int × Int × Int)) : Option Bool :=
  Option.bind (s_pzAll clues0) fun r => some ((↑(List.length r) : Int) == 1)
theorem s_pzSolved_e (clues0 : List (Int × Int × Int)) : c_s_pzSolved.start c_s_pzSolved.L (clues0, ()) = s_pzSolved clues0 := by kernel_rfl
noncomputable def F_s_pzSolved : Ins c_s_pzSolved.ins → Option Bool := fun x => s_pzSolved x.1
noncomputable def S_s_pzSolved : FSpec := mkF c_s_pzSolved.env.pre c_s_pzSolved.ins c_s_pzSolved.out c_s_pzSolved.inj F_s_pzSolved
theorem h_s_pzSolved : Cert Try.prog 89 S_s_pzSolved := FnCx.certF (c := c_s_pzSolved) F_s_pzSolved (tyOk _ _ _) (spOk ⟨h_s_pzAll, fun _ _ _ => trivial, trivial⟩) (fun _ _ _ _ _ hs => noDr_ok) Try.func89 rfl rfl Try.ntmps89 (by kernel_rfl) rfl rfl (fun _ => rfl) trivial (fun x => .inl ⟨c_s_pzSolved.start () x, fun _ => rfl⟩) (fun x t hb ht => by
  obtain ⟨clues0, _⟩ := x
  exact (s_pzSolved_e clues0).trans ht)
/-! spec.IsSolved -/
noncomputable def c_s_IsSolved : FnCx := { env := env 10 [(86, S_s_pzGood), (89, S_s_pzSolved)] [], body := bodyOf Try.f28, res := [.tmp 2, .tmp 3], ins := [.ro kPuzzle], out := [(kbool, true), (kbool, true)], T := Bool × Bool, fin := fun r => (r.1.1, r.1.2.1), inj := fun t => ((t.1, t.2, ()), ((), ())), pts := [], fuel := 400, dr := noDr }
noncomputable def s_IsSolved (p0_Clues : List (Int × Int × Int)) : Option (Bool × Bool) :=
  bif !s_pzGood_n p0_Clues then some (false, false) else Option.bind (s_pzSolved p0_Clues) fun r => some (r, true)
theorem s_IsSolved_e (p0_Clues : List (Int × Int × Int)) : c_s_IsSolved.start c_s_IsSolved.L (p0_Clues, ()) = s_IsSolved p0_Clues := by kernel_rfl
noncomputable def F_s_IsSolved : Ins c_s_IsSolved.ins → Option (Bool × Bool) := fun x => s_IsSolved x.1
noncomputable def S_s_IsSolved : FSpec := mkF c_s_IsSolved.env.pre c_s_IsSolved.ins c_s_IsSolved.out c_s_IsSolved.inj F_s_IsSolved
theorem h_s_IsSolved : Cert Try.prog 28 S_s_IsSolved := FnCx.certF (c := c_s_IsSolved) F_s_IsSolved (tyOk _ _ _) (spOk ⟨h_s_pzGood, fun _ _ _ => trivial, ⟨h_s_pzSolved, fun _ _ _ => trivial, trivial⟩⟩) (fun _ _ _ _ _ hs => noDr_ok) Try.func28 rfl rfl Try.ntmps28 (by kernel_rfl) rfl rfl (fun _ => rfl) trivial (fun x => .inl ⟨c_s_IsSolved.start () x, fun _ => rfl⟩) (fun x t hb ht => by
  obtain ⟨p0_Clues, _⟩ := x
  exact (s_IsSolved_e p0_Clues).trans ht)
/-! impl.IsSolved -/
noncomputable def c_i_IsSolved : FnCx := { env := env 14 [(27, S_i_CountSolutions)] [], body := bodyOf Try.f29, res := [.tmp 2, .tmp 3], ins := [.ro kPuzzle], out := [(kbool, true), (kbool, true)], T := Bool × Bool, fin := fun r => (r.1.1, r.1.2.1), inj := fun t => ((t.1, t.2, ()), ((), ())), pts := [], fuel := 400, dr := noDr }
noncomputable def i_IsSolved (p0_Clues : List (Int × Int × Int)) : Option (Bool × Bool) :=
  Option.bind (i_CountSolutions p0_Clues) fun r => some (Prod.fst r == 1, Prod.snd r)
theorem i_IsSolved_e (p0_Clues : List (Int × Int × Int)) : c_i_IsSolved.start c_i_IsSolved.L (p0_Clues, ()) = i_IsSolved p0_Clues := by kernel_rfl
noncomputable def F_i_IsSolved : Ins c_i_IsSolved.ins → Option (Bool × Bool) := fun x => i_IsSolved x.1
noncomputable def S_i_IsSolved : FSpec := mkF c_i_IsSolved.env.pre c_i_IsSolved.ins c_i_IsSolved.out c_i_IsSolved.inj F_i_IsSolved
theorem h_i_IsSolved : Cert Try.prog 29 S_i_IsSolved := FnCx.certF (c := c_i_IsSolved) F_i_IsSolved (tyOk _ _ _) (spOk ⟨h_i_CountSolutions, fun _ _ _ => trivial, trivial⟩) (fun _ _ _ _ _ hs => noDr_ok) Try.func29 rfl rfl Try.ntmps29 (by kernel_rfl) rfl rfl (fun _ => rfl) trivial (fun x => .inl ⟨c_i_IsSolved.start () x, fun _ => rfl⟩) (fun x t hb ht => by
  obtain ⟨p0_Clues, _⟩ := x
  exact (i_IsSolved_e p0_Clues).trans ht)
/-! laws.FnExactIsSolved -/
noncomputable def c_w_FnExactIsSolved : FnCx := { env := env 40 [(24, S_w_szPuzzle), (26, S_w_toPuzzle), (28, S_s_IsSolved), (29, S_i_IsSolved), (19, S_w_eqPuzzle)] [], body := bodyOf Try.f5, res := [.tmp 2], ins := [.ro kwPuzzle], out := [(kbool, true)], T := Bool, fin := fun r => r.1.1, inj := fun t => ((t, ()), ((), ())), pts := [], fuel := 400, dr := evDr (env 40 [(24, S_w_szPuzzle), (26, S_w_toPuzzle), (28, S_s_IsSolved), (29, S_i_IsSolved), (19, S_w_eqPuzzle)] []) }
noncomputable def w_FnExactIsSolved (aP0_Clues : List (Int × Int × Int)) : Option Bool :=
  bif decide (w_szPuzzle aP0_Clues 1048576 < 0) then some true
  else
    Option.bind (w_toPuzzle aP0_Clues) fun r =>
      Option.bind (s_IsSolved r) fun r =>
        Option.bind (w_toPuzzle aP0_Clues) fun r_1 =>
          Option.bind (i_IsSolved r_1) fun r_2 =>
            bif !Prod.fst r_2 == Prod.fst r then some false
            else
              bif !Prod.snd r_2 == Prod.snd r then some false
              else Option.bind (w_toPuzzle aP0_Clues) fun r => bif !w_eqPuzzle r_1 r then some false else some true
theorem w_FnExactIsSolved_e (aP0_Clues : List (Int × Int × Int)) : c_w_FnExactIsSolved.start c_w_FnExactIsSolved.L (aP0_Clues, ()) = w_FnExactIsSolved aP0_Clues := by kernel_rfl
noncomputable def F_w_FnExactIsSolved : Ins c_w_FnExactIsSolved.ins → Option Bool := fun x => w_FnExactIsSolved x.1
noncomputable def S_w_FnExactIsSolved : FSpec := mkF c_w_FnExactIsSolved.env.pre c_w_FnExactIsSolved.ins c_w_FnExactIsSolved.out c_w_FnExactIsSolved.inj F_w_FnExactIsSolved
theorem h_w_FnExactIsSolved : Cert Try.prog 5 S_w_FnExactIsSolved := FnCx.certF (c := c_w_FnExactIsSolved) F_w_FnExactIsSolved (tyOk _ _ _) (spOk ⟨h_w_szPuzzle, fun _ _ _ => trivial, ⟨h_w_toPuzzle, fun _ _ _ => trivial, ⟨h_s_IsSolved, fun _ _ _ => trivial, ⟨h_i_IsSolved, fun _ _ _ => trivial, ⟨h_w_eqPuzzle, fun _ _ _ => trivial, trivial⟩⟩⟩⟩⟩) (fun _ _ _ _ _ hs => evDr_ok (tyOk _ _ _) hs follows) Try.func5 rfl rfl Try.ntmps5 (by kernel_rfl) rfl rfl (fun _ => rfl) trivial (fun x => .inl ⟨c_w_FnExactIsSolved.start () x, fun _ => rfl⟩) (fun x t hb ht => by
  obtain ⟨aP0_Clues, _⟩ := x
  exact (w_FnExactIsSolved_e aP0_Clues).trans ht)
/-! spec.BestClue -/
noncomputable def c_s_BestClue : FnCx := { env := env 42 [(86, S_s_pzGood), (87, S_s_pzAll)] [], body := bodyOf Try.f30, res := [.tmp 2, .tmp 3], ins := [.ro kPuzzle], out := [(kint, true), (kbool, true)], T := Int × Bool, fin := fun r => (r.1.1, r.1.2.1), inj := fun t => ((t.1, t.2, ()), ((), ())), pts := [([.inLoop [1, 1, 1, 0, 1, 0, 0], .inBlock 0, .code [1, 1, 1, 1]], Shape.mk [Bs.box 28 [Cs.sl 1], Bs.row kClue 63 false] [(1, Ss.one (Cs.ptr 0 0)), (4, Ss.one (Cs.sc kint)), (5, Ss.one (Cs.sc kint)), (19, Ss.one (Cs.sc kint)), (20, Ss.one (Cs.sc kint))] [Ss.one (Cs.any)])], fuel := 400, dr := noDr }
noncomputable def s_BestClue_t1 (g1 : List (Int × (Int × Int)) → Int → Int → Int → Int → Option (Int × Bool)) (r1 : List (Int × (Int × Int))) (best4 : Int) (least5 : Int) (s19 : Int) (s20 : Int) : Option (Int × Bool) :=
  bif decide (s20 < s19) then
    bif decide (0 ≤ IntKind.wrap IntKind.i64 (s20 + 1)) then
      bif decide (IntKind.wrap IntKind.i64 (s20 + 1) ≤ (↑(List.length r1) : Int)) then
        bif decide (0 ≤ s20) then
          bif decide (s20 ≤ IntKind.wrap IntKind.i64 (s20 + 1)) then
            Option.bind (s_pzAll (List.take (Int.toNat (IntKind.wrap IntKind.i64 (s20 + 1)) - Int.toNat s20) (List.drop (Int.toNat s20) r1))) fun r =>
              bif s20 == 0 then g1 r1 s20 (↑(List.length r) : Int) s19 (IntKind.wrap IntKind.i64 (s20 + 1))
              else
                bif decide ((↑(List.length r) : Int) < least5) then g1 r1 s20 (↑(List.length r) : Int) s19 (IntKind.wrap IntKind.i64 (s20 + 1))
                else g1 r1 best4 least5 s19 (IntKind.wrap IntKind.i64 (s20 + 1))
          else none
        else none
      else none
    else none
  else some (best4, true)
noncomputable def s_BestClue_t0 (g1 : List (Int × (Int × Int)) → Int → Int → Int → Int → Option (Int × Bool)) (p0_Clues : List (Int × Int × Int)) : Option (Int × Bool) :=
  bif !s_pzGood_n p0_Clues then some (0, false)
  else bif (↑(List.length p0_Clues) : Int) == 0 then some (0, false) else g1 p0_Clues 0 0 (↑(List.length p0_Clues) : Int) 0
theorem s_BestClue_ts : Tails c_s_BestClue.pts c_s_BestClue.round :=
  ⟨fun s => by
    obtain ⟨⟨⟨_, _⟩, r1, _⟩, ⟨_, best4, least5, s19, s20, _⟩, ⟨_, _⟩⟩ := s
    refine Tail.eq (Y := fun g => s_BestClue_t1 (fun r1 best4 least5 s19 s20 => g.1 ((((), ()), r1, ()), ((), best4, least5, s19, s20, ()), ((), ()))) r1 best4 least5 s19 s20) ?_ (fun g => by kernel_rfl)
    simp only [s_BestClue_t1]; repeat (first | exact Tail.const _ | exact Tail.here _ | exact Tail.there (Tail.here _) | exact Tail.there (Tail.there (Tail.here _)) | exact Tail.there (Tail.there (Tail.there (Tail.here _))) | exact Tail.there (Tail.there (Tail.there (Tail.there (Tail.here _)))) | exact Tail.there (Tail.there (Tail.there (Tail.there (Tail.there (Tail.here _))))) | apply Tail.cond | (apply Tail.bind; intro _)), trivial⟩
theorem s_BestClue_hs : ∀ x, Tail c_s_BestClue.pts (fun g => c_s_BestClue.start g x) := fun x => by
    obtain ⟨p0_Clues, _⟩ := x
    refine Tail.eq (Y := fun g => s_BestClue_t0 (fun r1 best4 least5 s19 s20 => g.1 ((((), ()), r1, ()), ((), best4, least5, s19, s20, ()), ((), ()))) p0_Clues) ?_ (fun g => by kernel_rfl)
    simp only [s_BestClue_t0]; repeat (first | exact Tail.const _ | exact Tail.here _ | exact Tail.there (Tail.here _) | exact Tail.there (Tail.there (Tail.here _)) | exact Tail.there (Tail.there (Tail.there (Tail.here _))) | exact Tail.there (Tail.there (Tail.there (Tail.there (Tail.here _)))) | exact Tail.there (Tail.there (Tail.there (Tail.there (Tail.there (Tail.here _))))) | apply Tail.cond | (apply Tail.bind; intro _))
noncomputable def s_BestClue_L1 (r1 : List (Int × (Int × Int))) (best4 : Int) (least5 : Int) (s19 : Int) (s20 : Int) : Option (Int × Bool) := c_s_BestClue.L.1 ((((), ()), r1, ()), ((), best4, least5, s19, s20, ()), ((), ()))
theorem s_BestClue_u1 (r1 : List (Int × (Int × Int))) (best4 : Int) (least5 : Int) (s19 : Int) (s20 : Int) : s_BestClue_L1 r1 best4 least5 s19 s20 = s_BestClue_t1 s_BestClue_L1 r1 best4 least5 s19 s20 :=
  (congrArg (fun g => g.1 ((((), ()), r1, ()), ((), best4, least5, s19, s20, ()), ((), ()))) (FnCx.L_eq s_BestClue_ts)).trans (by kernel_rfl)
noncomputable def s_BestClue (p0_Clues : List (Int × Int × Int)) : Option (Int × Bool) := s_BestClue_t0 s_BestClue_L1 p0_Clues
theorem s_BestClue_e (p0_Clues : List (Int × Int × Int)) : c_s_BestClue.start c_s_BestClue.L (p0_Clues, ()) = s_BestClue p0_Clues := by kernel_rfl
noncomputable def F_s_BestClue : Ins c_s_BestClue.ins → Option (Int × Bool) := fun x => s_BestClue x.1
noncomputable def S_s_BestClue : FSpec := mkF c_s_BestClue.env.pre c_s_BestClue.ins c_s_BestClue.out c_s_BestClue.inj F_s_BestClue
theorem h_s_BestClue : Cert Try.prog 30 S_s_BestClue := FnCx.certF (c := c_s_BestClue) F_s_BestClue (tyOk _ _ _) (spOk ⟨h_s_pzGood, fun _ _ _ => trivial, ⟨h_s_pzAll, fun _ _ _ => trivial, trivial⟩⟩) (fun _ _ _ _ _ hs => noDr_ok) Try.func30 rfl rfl Try.ntmps30 (by kernel_rfl) rfl rfl (fun _ => rfl) s_BestClue_ts s_BestClue_hs (fun x t hb ht => by
  obtain ⟨p0_Clues, _⟩ := x
  exact (s_BestClue_e p0_Clues).trans ht)
/-! impl.BestClue -/
noncomputable def c_i_BestClue : FnCx := { env := env 41 [(56, S_i_IsPuzzle), (90, S_i_solutions)] [], body := bodyOf Try.f31, res := [.tmp 2, .tmp 3], ins := [.ro kPuzzle], out := [(kint, true), (kbool, true)], T := Int × Bool, fin := fun r => (r.1.1, r.1.2.1), inj := fun t => ((t.1, t.2, ()), ((), ())), pts := [([.inLoop [1, 1, 1, 0, 1, 0, 0], .inBlock 0, .code [1, 1, 1, 1]], Shape.mk [Bs.row kClue 63 false] [(4, Ss.one (Cs.sc kint)), (5, Ss.one (Cs.sc kint)), (19, Ss.one (Cs.sl 0)), (20, Ss.one (Cs.sc kint)), (21, Ss.one (Cs.sc kint))] [Ss.one (Cs.any)])], fuel := 400, dr := noDr }
noncomputable def i_BestClue_t1 (g1 : List (Int × (Int × Int)) → Int → Int → Int → Int → Option (Int × Bool)) (r0 : List (Int × (Int × Int))) (best4 : Int) (least5 : Int) (s20 : Int) (s21 : Int) : Option (Int × Bool) :=
  bif decide (s21 < s20) then
    bif decide (0 ≤ s21) then
      bif decide (s21 < (↑(List.length r0) : Int)) then
        Option.bind
          (i_solutions
            [(Prod.fst (rdk kClue r0 s21),
                Prod.fst (Prod.snd (rdk kClue r0 s21)),
                Prod.snd (Prod.snd (rdk kClue r0 s21)))])
          fun r =>
          bif decide (least5 < 0) then g1 r0 s21 (↑(List.length r) : Int) s20 (IntKind.wrap IntKind.i64 (s21 + 1))
          else
            bif decide ((↑(List.length r) : Int) < least5) then g1 r0 s21 (↑(List.length r) : Int) s20 (IntKind.wrap IntKind.i64 (s21 + 1))
            else g1 r0 best4 least5 s20 (IntKind.wrap IntKind.i64 (s21 + 1))
      else none
    else none
  else some (best4, true)
noncomputable def i_BestClue_t0 (g1 : List (Int × (Int × Int)) → Int → Int → Int → Int → Option (Int × Bool)) (p0_Clues : List (Int × Int × Int)) : Option (Int × Bool) :=
  bif !i_IsPuzzle p0_Clues then some (0, false)
  else bif (↑(List.length p0_Clues) : Int) == 0 then some (0, false) else g1 p0_Clues 0 (-1) (↑(List.length p0_Clues) : Int) 0
theorem i_BestClue_ts : Tails c_i_BestClue.pts c_i_BestClue.round :=
  ⟨fun s => by
    obtain ⟨⟨r0, _⟩, ⟨best4, least5, _, s20, s21, _⟩, ⟨_, _⟩⟩ := s
    refine Tail.eq (Y := fun g => i_BestClue_t1 (fun r0 best4 least5 s20 s21 => g.1 ((r0, ()), (best4, least5, (), s20, s21, ()), ((), ()))) r0 best4 least5 s20 s21) ?_ (fun g => by kernel_rfl)
    simp only [i_BestClue_t1]; repeat (first | exact Tail.const _ | exact Tail.here _ | exact Tail.there (Tail.here _) | exact Tail.there (Tail.there (Tail.here _)) | exact Tail.there (Tail.there (Tail.there (Tail.here _))) | exact Tail.there (Tail.there (Tail.there (Tail.there (Tail.here _)))) | exact Tail.there (Tail.there (Tail.there (Tail.there (Tail.there (Tail.here _))))) | apply Tail.cond | (apply Tail.bind; intro _)), trivial⟩
theorem i_BestClue_hs : ∀ x, Tail c_i_BestClue.pts (fun g => c_i_BestClue.start g x) := fun x => by
    obtain ⟨p0_Clues, _⟩ := x
    refine Tail.eq (Y := fun g => i_BestClue_t0 (fun r0 best4 least5 s20 s21 => g.1 ((r0, ()), (best4, least5, (), s20, s21, ()), ((), ()))) p0_Clues) ?_ (fun g => by kernel_rfl)
    simp only [i_BestClue_t0]; repeat (first | exact Tail.const _ | exact Tail.here _ | exact Tail.there (Tail.here _) | exact Tail.there (Tail.there (Tail.here _)) | exact Tail.there (Tail.there (Tail.there (Tail.here _))) | exact Tail.there (Tail.there (Tail.there (Tail.there (Tail.here _)))) | exact Tail.there (Tail.there (Tail.there (Tail.there (Tail.there (Tail.here _))))) | apply Tail.cond | (apply Tail.bind; intro _))
noncomputable def i_BestClue_L1 (r0 : List (Int × (Int × Int))) (best4 : Int) (least5 : Int) (s20 : Int) (s21 : Int) : Option (Int × Bool) := c_i_BestClue.L.1 ((r0, ()), (best4, least5, (), s20, s21, ()), ((), ()))
theorem i_BestClue_u1 (r0 : List (Int × (Int × Int))) (best4 : Int) (least5 : Int) (s20 : Int) (s21 : Int) : i_BestClue_L1 r0 best4 least5 s20 s21 = i_BestClue_t1 i_BestClue_L1 r0 best4 least5 s20 s21 :=
  (congrArg (fun g => g.1 ((r0, ()), (best4, least5, (), s20, s21, ()), ((), ()))) (FnCx.L_eq i_BestClue_ts)).trans (by kernel_rfl)
noncomputable def i_BestClue (p0_Clues : List (Int × Int × Int)) : Option (Int × Bool) := i_BestClue_t0 i_BestClue_L1 p0_Clues
theorem i_BestClue_e (p0_Clues : List (Int × Int × Int)) : c_i_BestClue.start c_i_BestClue.L (p0_Clues, ()) = i_BestClue p0_Clues := by kernel_rfl
noncomputable def F_i_BestClue : Ins c_i_BestClue.ins → Option (Int × Bool) := fun x => i_BestClue x.1
noncomputable def S_i_BestClue : FSpec := mkF c_i_BestClue.env.pre c_i_BestClue.ins c_i_BestClue.out c_i_BestClue.inj F_i_BestClue
theorem h_i_BestClue : Cert Try.prog 31 S_i_BestClue := FnCx.certF (c := c_i_BestClue) F_i_BestClue (tyOk _ _ _) (spOk ⟨h_i_IsPuzzle, fun _ _ _ => trivial, ⟨h_i_solutions, fun _ _ _ => trivial, trivial⟩⟩) (fun _ _ _ _ _ hs => noDr_ok) Try.func31 rfl rfl Try.ntmps31 (by kernel_rfl) rfl rfl (fun _ => rfl) i_BestClue_ts i_BestClue_hs (fun x t hb ht => by
  obtain ⟨p0_Clues, _⟩ := x
  exact (i_BestClue_e p0_Clues).trans ht)
/-! laws.FnExactBestClue -/
noncomputable def c_w_FnExactBestClue : FnCx := { env := env 40 [(24, S_w_szPuzzle), (26, S_w_toPuzzle), (30, S_s_BestClue), (31, S_i_BestClue), (19, S_w_eqPuzzle)] [], body := bodyOf Try.f6, res := [.tmp 2], ins := [.ro kwPuzzle], out := [(kbool, true)], T := Bool, fin := fun r => r.1.1, inj := fun t => ((t, ()), ((), ())), pts := [], fuel := 400, dr := evDr (env 40 [(24, S_w_szPuzzle), (26, S_w_toPuzzle), (30, S_s_BestClue), (31, S_i_BestClue), (19, S_w_eqPuzzle)] []) }
noncomputable def w_FnExactBestClue (aP0_Clues : List (Int × Int × Int)) : Option Bool :=
  bif decide (w_szPuzzle aP0_Clues 1048576 < 0) then some true
  else
    Option.bind (w_toPuzzle aP0_Clues) fun r =>
      Option.bind (s_BestClue r) fun r =>
        Option.bind (w_toPuzzle aP0_Clues) fun r_1 =>
          Option.bind (i_BestClue r_1) fun r_2 =>
            bif Prod.fst r_2 != Prod.fst r then some false
            else
              bif !Prod.snd r_2 == Prod.snd r then some false
              else Option.bind (w_toPuzzle aP0_Clues) fun r => bif !w_eqPuzzle r_1 r then some false else some true
theorem w_FnExactBestClue_e (aP0_Clues : List (Int × Int × Int)) : c_w_FnExactBestClue.start c_w_FnExactBestClue.L (aP0_Clues, ()) = w_FnExactBestClue aP0_Clues := by kernel_rfl
noncomputable def F_w_FnExactBestClue : Ins c_w_FnExactBestClue.ins → Option Bool := fun x => w_FnExactBestClue x.1
noncomputable def S_w_FnExactBestClue : FSpec := mkF c_w_FnExactBestClue.env.pre c_w_FnExactBestClue.ins c_w_FnExactBestClue.out c_w_FnExactBestClue.inj F_w_FnExactBestClue
theorem h_w_FnExactBestClue : Cert Try.prog 6 S_w_FnExactBestClue := FnCx.certF (c := c_w_FnExactBestClue) F_w_FnExactBestClue (tyOk _ _ _) (spOk ⟨h_w_szPuzzle, fun _ _ _ => trivial, ⟨h_w_toPuzzle, fun _ _ _ => trivial, ⟨h_s_BestClue, fun _ _ _ => trivial, ⟨h_i_BestClue, fun _ _ _ => trivial, ⟨h_w_eqPuzzle, fun _ _ _ => trivial, trivial⟩⟩⟩⟩⟩) (fun _ _ _ _ _ hs => evDr_ok (tyOk _ _ _) hs follows) Try.func6 rfl rfl Try.ntmps6 (by kernel_rfl) rfl rfl (fun _ => rfl) trivial (fun x => .inl ⟨c_w_FnExactBestClue.start () x, fun _ => rfl⟩) (fun x t hb ht => by
  obtain ⟨aP0_Clues, _⟩ := x
  exact (w_FnExactBestClue_e aP0_Clues).trans ht)
end Go.Proofs.Ytbemnabojjiikaa.V
