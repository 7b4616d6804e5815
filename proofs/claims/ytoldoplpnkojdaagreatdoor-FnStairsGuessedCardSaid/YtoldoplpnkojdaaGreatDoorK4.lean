/- Functions of the program, as plain functions. No condition. -/
import Derived.Test.YtoldoplpnkojdaaGreatDoorK3
set_option linter.unusedVariables false
set_option linter.unusedSimpArgs false
set_option maxRecDepth 100000
namespace Go.Proofs.YtoldoplpnkojdaaGreatDoor.V
open Go Go.Ev Go.Proofs
/-! impl.CountSolutions -/
noncomputable def c_i_CountSolutions : FnCx := { env := env 14 [(5, S_i_Solutions)] [], body := bodyOf Tryz.f7, res := [.tmp 2, .tmp 3], ins := [.ro kPuzzle], out := [(kint, true), (kbool, true)], T := Int × Bool, fin := fun r => (r.1.1, r.1.2.1), inj := fun t => ((t.1, t.2, ()), ((), ())), pts := [], fuel := 400, dr := noDr }
noncomputable def i_CountSolutions (p0_Clues : List (Int × Int × Int)) : Option (Int × Bool) :=
  Option.bind (i_Solutions p0_Clues) fun r => some ((↑(List.length (Prod.fst r)) : Int), Prod.snd r)
theorem i_CountSolutions_e (p0_Clues : List (Int × Int × Int)) : c_i_CountSolutions.start c_i_CountSolutions.L (p0_Clues, ()) = i_CountSolutions p0_Clues := by kernel_rfl
noncomputable def F_i_CountSolutions : Ins c_i_CountSolutions.ins → Option (Int × Bool) := fun x => i_CountSolutions x.1
noncomputable def S_i_CountSolutions : FSpec := mkF c_i_CountSolutions.env.pre c_i_CountSolutions.ins c_i_CountSolutions.out c_i_CountSolutions.inj F_i_CountSolutions
theorem h_i_CountSolutions : Cert Tryz.prog 7 S_i_CountSolutions := FnCx.certF (c := c_i_CountSolutions) F_i_CountSolutions (tyOk _ _ _) (spOk ⟨h_i_Solutions, fun _ _ h => h, trivial⟩) (fun _ _ _ _ _ hs => noDr_ok) Tryz.func7 rfl rfl Tryz.ntmps7 (by kernel_rfl) rfl rfl (fun _ => rfl) trivial (fun x => .inl ⟨c_i_CountSolutions.start () x, fun _ => rfl⟩) (fun x t hb ht => by
  obtain ⟨p0_Clues, _⟩ := x
  exact (i_CountSolutions_e p0_Clues).trans ht)
/-! spec.CountSolutions -/
noncomputable def c_s_CountSolutions : FnCx := { env := env 11 [(40, S_s_pzGood), (41, S_s_pzAll)] [], body := bodyOf Tryz.f8, res := [.tmp 2, .tmp 3], ins := [.ro kPuzzle], out := [(kint, true), (kbool, true)], T := Int × Bool, fin := fun r => (r.1.1, r.1.2.1), inj := fun t => ((t.1, t.2, ()), ((), ())), pts := [], fuel := 400, dr := noDr }
noncomputable def s_CountSolutions (p0_Clues : List (Int × Int × Int)) : Option (Int × Bool) :=
  bif !s_pzGood_n p0_Clues then some (0, false) else Option.bind (s_pzAll p0_Clues) fun r => some ((↑(List.length r) : Int), true)
theorem s_CountSolutions_e (p0_Clues : List (Int × Int × Int)) : c_s_CountSolutions.start c_s_CountSolutions.L (p0_Clues, ()) = s_CountSolutions p0_Clues := by kernel_rfl
noncomputable def F_s_CountSolutions : Ins c_s_CountSolutions.ins → Option (Int × Bool) := fun x => s_CountSolutions x.1
noncomputable def S_s_CountSolutions : FSpec := mkF c_s_CountSolutions.env.pre c_s_CountSolutions.ins c_s_CountSolutions.out c_s_CountSolutions.inj F_s_CountSolutions
theorem h_s_CountSolutions : Cert Tryz.prog 8 S_s_CountSolutions := FnCx.certF (c := c_s_CountSolutions) F_s_CountSolutions (tyOk _ _ _) (spOk ⟨h_s_pzGood, fun _ _ h => h, ⟨h_s_pzAll, fun _ _ h => h, trivial⟩⟩) (fun _ _ _ _ _ hs => noDr_ok) Tryz.func8 rfl rfl Tryz.ntmps8 (by kernel_rfl) rfl rfl (fun _ => rfl) trivial (fun x => .inl ⟨c_s_CountSolutions.start () x, fun _ => rfl⟩) (fun x t hb ht => by
  obtain ⟨p0_Clues, _⟩ := x
  exact (s_CountSolutions_e p0_Clues).trans ht)
/-! impl.FirstSolution -/
noncomputable def c_i_FirstSolution : FnCx := { env := env 22 [(5, S_i_Solutions)] [21], body := bodyOf Tryz.f9, res := [.cell 2 32, .tmp 3], ins := [.ro kPuzzle], out := [(kStairs, true), (kbool, true)], T := (Int × List Int × List Int) × Bool, fin := fun r => (r.1.1, r.1.2.1), inj := fun t => ((t.1, t.2, ()), ((), ())), pts := [], fuel := 400, dr := noDr }
noncomputable def i_FirstSolution (p0_Clues : List (Int × Int × Int)) : Option ((Int × List Int × List Int) × Bool) :=
  Option.bind (i_Solutions p0_Clues) fun r =>
    bif !Prod.snd r then some ((0, [], []), false)
    else
      bif (↑(List.length (Prod.fst r)) : Int) == 0 then some ((0, [], []), false)
      else
        bif decide (0 < (↑(List.length (Prod.fst r)) : Int)) then
          some
            ((Prod.fst (rdk kStairs (Prod.fst r) 0),
                Prod.fst
                  (Prod.snd (rdk kStairs (Prod.fst r) 0)),
                Prod.snd
                  (Prod.snd (rdk kStairs (Prod.fst r) 0))),
              true)
        else none
theorem i_FirstSolution_e (p0_Clues : List (Int × Int × Int)) : c_i_FirstSolution.start c_i_FirstSolution.L (p0_Clues, ()) = i_FirstSolution p0_Clues := by kernel_rfl
noncomputable def F_i_FirstSolution : Ins c_i_FirstSolution.ins → Option ((Int × List Int × List Int) × Bool) := fun x => i_FirstSolution x.1
noncomputable def S_i_FirstSolution : FSpec := mkF c_i_FirstSolution.env.pre c_i_FirstSolution.ins c_i_FirstSolution.out c_i_FirstSolution.inj F_i_FirstSolution
theorem h_i_FirstSolution : Cert Tryz.prog 9 S_i_FirstSolution := FnCx.certF (c := c_i_FirstSolution) F_i_FirstSolution (tyOk _ _ _) (spOk ⟨h_i_Solutions, fun _ _ h => h, trivial⟩) (fun _ _ _ _ _ hs => noDr_ok) Tryz.func9 rfl rfl Tryz.ntmps9 (by kernel_rfl) rfl rfl (fun _ => rfl) trivial (fun x => .inl ⟨c_i_FirstSolution.start () x, fun _ => rfl⟩) (fun x t hb ht => by
  obtain ⟨p0_Clues, _⟩ := x
  exact (i_FirstSolution_e p0_Clues).trans ht)
/-! spec.FirstSolution -/
noncomputable def c_s_FirstSolution : FnCx := { env := env 19 [(40, S_s_pzGood), (41, S_s_pzAll)] [18], body := bodyOf Tryz.f10, res := [.cell 2 32, .tmp 3], ins := [.ro kPuzzle], out := [(kStairs, true), (kbool, true)], T := (Int × List Int × List Int) × Bool, fin := fun r => (r.1.1, r.1.2.1), inj := fun t => ((t.1, t.2, ()), ((), ())), pts := [], fuel := 400, dr := noDr }
noncomputable def s_FirstSolution (p0_Clues : List (Int × Int × Int)) : Option ((Int × List Int × List Int) × Bool) :=
  bif !s_pzGood_n p0_Clues then some ((0, [], []), false)
  else
    Option.bind (s_pzAll p0_Clues) fun r =>
      bif (↑(List.length r) : Int) == 0 then some ((0, [], []), false)
      else
        bif decide (0 < (↑(List.length r) : Int)) then
          some
            ((Prod.fst (rdk kStairs r 0),
                Prod.fst (Prod.snd (rdk kStairs r 0)),
                Prod.snd (Prod.snd (rdk kStairs r 0))),
              true)
        else none
theorem s_FirstSolution_e (p0_Clues : List (Int × Int × Int)) : c_s_FirstSolution.start c_s_FirstSolution.L (p0_Clues, ()) = s_FirstSolution p0_Clues := by kernel_rfl
noncomputable def F_s_FirstSolution : Ins c_s_FirstSolution.ins → Option ((Int × List Int × List Int) × Bool) := fun x => s_FirstSolution x.1
noncomputable def S_s_FirstSolution : FSpec := mkF c_s_FirstSolution.env.pre c_s_FirstSolution.ins c_s_FirstSolution.out c_s_FirstSolution.inj F_s_FirstSolution
theorem h_s_FirstSolution : Cert Tryz.prog 10 S_s_FirstSolution := FnCx.certF (c := c_s_FirstSolution) F_s_FirstSolution (tyOk _ _ _) (spOk ⟨h_s_pzGood, fun _ _ h => h, ⟨h_s_pzAll, fun _ _ h => h, trivial⟩⟩) (fun _ _ _ _ _ hs => noDr_ok) Tryz.func10 rfl rfl Tryz.ntmps10 (by kernel_rfl) rfl rfl (fun _ => rfl) trivial (fun x => .inl ⟨c_s_FirstSolution.start () x, fun _ => rfl⟩) (fun x t hb ht => by
  obtain ⟨p0_Clues, _⟩ := x
  exact (s_FirstSolution_e p0_Clues).trans ht)
/-! impl.SureStrides -/
noncomputable def c_i_SureStrides : FnCx := { env := env 61 [(5, S_i_Solutions), (42, S_slices_Contains_int)] [], body := bodyOf Tryz.f11, res := [.tmp 2, .tmp 3, .tmp 4], ins := [.ro kPuzzle], out := [(kSint, true), (kSint, true), (kbool, true)], T := List Int × List Int × Bool, fin := fun r => (r.1.1, r.1.2.1, r.1.2.2.1), inj := fun t => ((t.1, t.2.1, t.2.2, ()), ((), ())), pts := [([.inLoop [1, 1, 1, 1, 0, 1, 0, 0], .inBlock 0, .code [1, 1, 1, 1, 1]], Shape.mk [Bs.row kStairs 32 false, Bs.row kint 3 true, Bs.row kint 3 true] [(5, Ss.one (Cs.sl 0)), (7, Ss.one (Cs.sl 1)), (8, Ss.one (Cs.sl 2)), (9, Ss.one (Cs.sc kint))] [Ss.one (Cs.any)]), ([.inLoop [1, 1, 1, 1, 0, 1, 0, 0, 1, 0, 0, 1, 0, 1, 0, 0], .inBlock 2, .code [1, 1, 1, 1, 0, 1, 0, 0, 1, 0, 0, 1, 1], .inBlock 1, .code [1, 1, 1, 1, 0, 1, 0, 0, 1, 1], .inLoop [1, 1, 1, 1, 0, 1, 0, 0], .inBlock 0, .code [1, 1, 1, 1, 1]], Shape.mk [Bs.row kStairs 32 false, Bs.row kint 3 true, Bs.row kint 3 true] [(5, Ss.one (Cs.sl 0)), (7, Ss.one (Cs.sl 1)), (8, Ss.one (Cs.sl 2)), (9, Ss.one (Cs.sc kint)), (10, Ss.one (Cs.sc kint)), (31, Ss.one (Cs.sl 0)), (32, Ss.one (Cs.sc kint)), (33, Ss.one (Cs.sc kint))] [Ss.one (Cs.any)])], fuel := 400, dr := noDr }
noncomputable def i_SureStrides_t1 (g1 : List ((Int × (List (Int) × List (Int)))) → List (Int) → List (Int) → Int → Option (List Int × List Int × Bool)) (g2 : List ((Int × (List (Int) × List (Int)))) → List (Int) → List (Int) → Int → Int → Int → Int → Option (List Int × List Int × Bool)) (r0 : List ((Int × (List (Int) × List (Int))))) (r1 : List (Int)) (r2 : List (Int)) (n9 : Int) : Option (List Int × List Int × Bool) :=
  bif decide (n9 ≤ 3) then g2 r0 r1 r2 n9 0 (↑(List.length r0) : Int) 0 else some (r1, r2, true)
noncomputable def i_SureStrides_t2 (g1 : List ((Int × (List (Int) × List (Int)))) → List (Int) → List (Int) → Int → Option (List Int × List Int × Bool)) (g2 : List ((Int × (List (Int) × List (Int)))) → List (Int) → List (Int) → Int → Int → Int → Int → Option (List Int × List Int × Bool)) (r0 : List ((Int × (List (Int) × List (Int))))) (r1 : List (Int)) (r2 : List (Int)) (n9 : Int) (many10 : Int) (s32 : Int) (s33 : Int) : Option (List Int × List Int × Bool) :=
  bif decide (s33 < s32) then
    bif decide (0 ≤ s33) then
      bif decide (s33 < (↑(List.length r0) : Int)) then
        bif
            slices_Contains_int
              (Prod.fst (Prod.snd (rdk kStairs r0 s33)))
              n9 then
          g2 r0 r1 r2 n9 (IntKind.wrap IntKind.i64 (many10 + 1)) s32 (IntKind.wrap IntKind.i64 (s33 + 1))
        else g2 r0 r1 r2 n9 many10 s32 (IntKind.wrap IntKind.i64 (s33 + 1))
      else none
    else none
  else
    bif many10 == (↑(List.length r0) : Int) then
      bif Nat.ble (List.length r1 + 1) 4294967296 then g1 r0 (r1 ++ [n9]) r2 (IntKind.wrap IntKind.i64 (n9 + 1)) else none
    else
      bif many10 == 0 then bif Nat.ble (List.length r2 + 1) 4294967296 then g1 r0 r1 (r2 ++ [n9]) (IntKind.wrap IntKind.i64 (n9 + 1)) else none
      else g1 r0 r1 r2 (IntKind.wrap IntKind.i64 (n9 + 1))
noncomputable def i_SureStrides_t0 (g1 : List ((Int × (List (Int) × List (Int)))) → List (Int) → List (Int) → Int → Option (List Int × List Int × Bool)) (g2 : List ((Int × (List (Int) × List (Int)))) → List (Int) → List (Int) → Int → Int → Int → Int → Option (List Int × List Int × Bool)) (p0_Clues : List (Int × Int × Int)) : Option (List Int × List Int × Bool) :=
  Option.bind (i_Solutions p0_Clues) fun r =>
    bif !Prod.snd r then some ([], [], false) else bif (↑(List.length (Prod.fst r)) : Int) == 0 then some ([], [], false) else g1 (Prod.fst r) [] [] 1
theorem i_SureStrides_ts : Tails c_i_SureStrides.pts c_i_SureStrides.round :=
  ⟨fun s => by
    obtain ⟨⟨r0, r1, r2, _⟩, ⟨_, _, _, n9, _⟩, ⟨_, _⟩⟩ := s
    refine Tail.eq (Y := fun g => i_SureStrides_t1 (fun r0 r1 r2 n9 => g.1 ((r0, r1, r2, ()), ((), (), (), n9, ()), ((), ()))) (fun r0 r1 r2 n9 many10 s32 s33 => g.2.1 ((r0, r1, r2, ()), ((), (), (), n9, many10, (), s32, s33, ()), ((), ()))) r0 r1 r2 n9) ?_ (fun g => by kernel_rfl)
    simp only [i_SureStrides_t1]; repeat (first | exact Tail.const _ | exact Tail.here _ | exact Tail.there (Tail.here _) | exact Tail.there (Tail.there (Tail.here _)) | exact Tail.there (Tail.there (Tail.there (Tail.here _))) | exact Tail.there (Tail.there (Tail.there (Tail.there (Tail.here _)))) | exact Tail.there (Tail.there (Tail.there (Tail.there (Tail.there (Tail.here _))))) | apply Tail.cond | (apply Tail.bind; intro _)),
  fun s => by
    obtain ⟨⟨r0, r1, r2, _⟩, ⟨_, _, _, n9, many10, _, s32, s33, _⟩, ⟨_, _⟩⟩ := s
    refine Tail.eq (Y := fun g => i_SureStrides_t2 (fun r0 r1 r2 n9 => g.1 ((r0, r1, r2, ()), ((), (), (), n9, ()), ((), ()))) (fun r0 r1 r2 n9 many10 s32 s33 => g.2.1 ((r0, r1, r2, ()), ((), (), (), n9, many10, (), s32, s33, ()), ((), ()))) r0 r1 r2 n9 many10 s32 s33) ?_ (fun g => by kernel_rfl)
    simp only [i_SureStrides_t2]; repeat (first | exact Tail.const _ | exact Tail.here _ | exact Tail.there (Tail.here _) | exact Tail.there (Tail.there (Tail.here _)) | exact Tail.there (Tail.there (Tail.there (Tail.here _))) | exact Tail.there (Tail.there (Tail.there (Tail.there (Tail.here _)))) | exact Tail.there (Tail.there (Tail.there (Tail.there (Tail.there (Tail.here _))))) | apply Tail.cond | (apply Tail.bind; intro _)), trivial⟩
theorem i_SureStrides_hs : ∀ x, Tail c_i_SureStrides.pts (fun g => c_i_SureStrides.start g x) := fun x => by
    obtain ⟨p0_Clues, _⟩ := x
    refine Tail.eq (Y := fun g => i_SureStrides_t0 (fun r0 r1 r2 n9 => g.1 ((r0, r1, r2, ()), ((), (), (), n9, ()), ((), ()))) (fun r0 r1 r2 n9 many10 s32 s33 => g.2.1 ((r0, r1, r2, ()), ((), (), (), n9, many10, (), s32, s33, ()), ((), ()))) p0_Clues) ?_ (fun g => by kernel_rfl)
    simp only [i_SureStrides_t0]; repeat (first | exact Tail.const _ | exact Tail.here _ | exact Tail.there (Tail.here _) | exact Tail.there (Tail.there (Tail.here _)) | exact Tail.there (Tail.there (Tail.there (Tail.here _))) | exact Tail.there (Tail.there (Tail.there (Tail.there (Tail.here _)))) | exact Tail.there (Tail.there (Tail.there (Tail.there (Tail.there (Tail.here _))))) | apply Tail.cond | (apply Tail.bind; intro _))
noncomputable def i_SureStrides_L1 (r0 : List ((Int × (List (Int) × List (Int))))) (r1 : List (Int)) (r2 : List (Int)) (n9 : Int) : Option (List Int × List Int × Bool) := c_i_SureStrides.L.1 ((r0, r1, r2, ()), ((), (), (), n9, ()), ((), ()))
noncomputable def i_SureStrides_L2 (r0 : List ((Int × (List (Int) × List (Int))))) (r1 : List (Int)) (r2 : List (Int)) (n9 : Int) (many10 : Int) (s32 : Int) (s33 : Int) : Option (List Int × List Int × Bool) := c_i_SureStrides.L.2.1 ((r0, r1, r2, ()), ((), (), (), n9, many10, (), s32, s33, ()), ((), ()))
theorem i_SureStrides_u1 (r0 : List ((Int × (List (Int) × List (Int))))) (r1 : List (Int)) (r2 : List (Int)) (n9 : Int) : i_SureStrides_L1 r0 r1 r2 n9 = i_SureStrides_t1 i_SureStrides_L1 i_SureStrides_L2 r0 r1 r2 n9 :=
  (congrArg (fun g => g.1 ((r0, r1, r2, ()), ((), (), (), n9, ()), ((), ()))) (FnCx.L_eq i_SureStrides_ts)).trans (by kernel_rfl)
theorem i_SureStrides_u2 (r0 : List ((Int × (List (Int) × List (Int))))) (r1 : List (Int)) (r2 : List (Int)) (n9 : Int) (many10 : Int) (s32 : Int) (s33 : Int) : i_SureStrides_L2 r0 r1 r2 n9 many10 s32 s33 = i_SureStrides_t2 i_SureStrides_L1 i_SureStrides_L2 r0 r1 r2 n9 many10 s32 s33 :=
  (congrArg (fun g => g.2.1 ((r0, r1, r2, ()), ((), (), (), n9, many10, (), s32, s33, ()), ((), ()))) (FnCx.L_eq i_SureStrides_ts)).trans (by kernel_rfl)
noncomputable def i_SureStrides (p0_Clues : List (Int × Int × Int)) : Option (List Int × List Int × Bool) := i_SureStrides_t0 i_SureStrides_L1 i_SureStrides_L2 p0_Clues
theorem i_SureStrides_e (p0_Clues : List (Int × Int × Int)) : c_i_SureStrides.start c_i_SureStrides.L (p0_Clues, ()) = i_SureStrides p0_Clues := by kernel_rfl
noncomputable def F_i_SureStrides : Ins c_i_SureStrides.ins → Option (List Int × List Int × Bool) := fun x => i_SureStrides x.1
noncomputable def S_i_SureStrides : FSpec := mkF c_i_SureStrides.env.pre c_i_SureStrides.ins c_i_SureStrides.out c_i_SureStrides.inj F_i_SureStrides
theorem h_i_SureStrides : Cert Tryz.prog 11 S_i_SureStrides := FnCx.certF (c := c_i_SureStrides) F_i_SureStrides (tyOk _ _ _) (spOk ⟨h_i_Solutions, fun _ _ h => h, ⟨h_slices_Contains_int, fun _ _ h => h, trivial⟩⟩) (fun _ _ _ _ _ hs => noDr_ok) Tryz.func11 rfl rfl Tryz.ntmps11 (by kernel_rfl) rfl rfl (fun _ => rfl) i_SureStrides_ts i_SureStrides_hs (fun x t hb ht => by
  obtain ⟨p0_Clues, _⟩ := x
  exact (i_SureStrides_e p0_Clues).trans ht)
/-! spec.SureStrides -/
noncomputable def c_s_SureStrides : FnCx := { env := env 54 [(40, S_s_pzGood), (41, S_s_pzAll), (43, S_s_pzValue)] [], body := bodyOf Tryz.f12, res := [.tmp 2, .tmp 3, .tmp 4], ins := [.ro kPuzzle], out := [(kSint, true), (kSint, true), (kbool, true)], T := List Int × List Int × Bool, fin := fun r => (r.1.1, r.1.2.1, r.1.2.2.1), inj := fun t => ((t.1, t.2.1, t.2.2, ()), ((), ())), pts := [([.inLoop [1, 1, 1, 1, 1, 0, 1, 0, 0], .inBlock 0, .code [1, 1, 1, 1, 1, 1]], Shape.mk [Bs.row kStairs 32 false, Bs.row kint 3 true, Bs.row kint 3 true] [(5, Ss.one (Cs.sl 0)), (6, Ss.one (Cs.sl 1)), (7, Ss.one (Cs.sl 2)), (8, Ss.one (Cs.sc kint))] [Ss.one (Cs.any)]), ([.inLoop [1, 1, 1, 1, 1, 0, 1, 0, 0, 1, 0, 0, 1, 0, 1, 0, 0], .inBlock 2, .code [1, 1, 1, 1, 1, 0, 1, 0, 0, 1, 0, 0, 1, 1], .inBlock 1, .code [1, 1, 1, 1, 1, 0, 1, 0, 0, 1, 1], .inLoop [1, 1, 1, 1, 1, 0, 1, 0, 0], .inBlock 0, .code [1, 1, 1, 1, 1, 1]], Shape.mk [Bs.row kStairs 32 false, Bs.row kint 3 true, Bs.row kint 3 true] [(5, Ss.one (Cs.sl 0)), (6, Ss.one (Cs.sl 1)), (7, Ss.one (Cs.sl 2)), (8, Ss.one (Cs.sc kint)), (9, Ss.one (Cs.sc kint)), (25, Ss.one (Cs.sl 0)), (26, Ss.one (Cs.sc kint)), (27, Ss.one (Cs.sc kint))] [Ss.one (Cs.any)])], fuel := 400, dr := noDr }
noncomputable def s_SureStrides_t1 (g1 : List ((Int × (List (Int) × List (Int)))) → List (Int) → List (Int) → Int → Option (List Int × List Int × Bool)) (g2 : List ((Int × (List (Int) × List (Int)))) → List (Int) → List (Int) → Int → Int → Int → Int → Option (List Int × List Int × Bool)) (r0 : List ((Int × (List (Int) × List (Int))))) (r1 : List (Int)) (r2 : List (Int)) (stride8 : Int) : Option (List Int × List Int × Bool) :=
  bif decide (stride8 ≤ 3) then g2 r0 r1 r2 stride8 0 (↑(List.length r0) : Int) 0 else some (r1, r2, true)
noncomputable def s_SureStrides_t2 (g1 : List ((Int × (List (Int) × List (Int)))) → List (Int) → List (Int) → Int → Option (List Int × List Int × Bool)) (g2 : List ((Int × (List (Int) × List (Int)))) → List (Int) → List (Int) → Int → Int → Int → Int → Option (List Int × List Int × Bool)) (r0 : List ((Int × (List (Int) × List (Int))))) (r1 : List (Int)) (r2 : List (Int)) (stride8 : Int) (n9 : Int) (s26 : Int) (s27 : Int) : Option (List Int × List Int × Bool) :=
  bif decide (s27 < s26) then
    bif decide (0 ≤ s27) then
      bif decide (s27 < (↑(List.length r0) : Int)) then
        Option.bind
          (s_pzValue 2 stride8
            (Prod.fst (rdk kStairs r0 s27))
            (Prod.fst (Prod.snd (rdk kStairs r0 s27)))
            (Prod.snd (Prod.snd (rdk kStairs r0 s27))))
          fun r => g2 r0 r1 r2 stride8 (IntKind.wrap IntKind.i64 (n9 + r)) s26 (IntKind.wrap IntKind.i64 (s27 + 1))
      else none
    else none
  else
    bif n9 == (↑(List.length r0) : Int) then
      bif Nat.ble (List.length r1 + 1) 4294967296 then g1 r0 (r1 ++ [stride8]) r2 (IntKind.wrap IntKind.i64 (stride8 + 1)) else none
    else
      bif n9 == 0 then bif Nat.ble (List.length r2 + 1) 4294967296 then g1 r0 r1 (r2 ++ [stride8]) (IntKind.wrap IntKind.i64 (stride8 + 1)) else none
      else g1 r0 r1 r2 (IntKind.wrap IntKind.i64 (stride8 + 1))
noncomputable def s_SureStrides_t0 (g1 : List ((Int × (List (Int) × List (Int)))) → List (Int) → List (Int) → Int → Option (List Int × List Int × Bool)) (g2 : List ((Int × (List (Int) × List (Int)))) → List (Int) → List (Int) → Int → Int → Int → Int → Option (List Int × List Int × Bool)) (p0_Clues : List (Int × Int × Int)) : Option (List Int × List Int × Bool) :=
  bif !s_pzGood_n p0_Clues then some ([], [], false)
  else Option.bind (s_pzAll p0_Clues) fun r => bif (↑(List.length r) : Int) == 0 then some ([], [], false) else g1 r [] [] 1
theorem s_SureStrides_ts : Tails c_s_SureStrides.pts c_s_SureStrides.round :=
  ⟨fun s => by
    obtain ⟨⟨r0, r1, r2, _⟩, ⟨_, _, _, stride8, _⟩, ⟨_, _⟩⟩ := s
    refine Tail.eq (Y := fun g => s_SureStrides_t1 (fun r0 r1 r2 stride8 => g.1 ((r0, r1, r2, ()), ((), (), (), stride8, ()), ((), ()))) (fun r0 r1 r2 stride8 n9 s26 s27 => g.2.1 ((r0, r1, r2, ()), ((), (), (), stride8, n9, (), s26, s27, ()), ((), ()))) r0 r1 r2 stride8) ?_ (fun g => by kernel_rfl)
    simp only [s_SureStrides_t1]; repeat (first | exact Tail.const _ | exact Tail.here _ | exact Tail.there (Tail.here _) | exact Tail.there (Tail.there (Tail.here _)) | exact Tail.there (Tail.there (Tail.there (Tail.here _))) | exact Tail.there (Tail.there (Tail.there (Tail.there (Tail.here _)))) | exact Tail.there (Tail.there (Tail.there (Tail.there (Tail.there (Tail.here _))))) | apply Tail.cond | (apply Tail.bind; intro _)),
  fun s => by
    obtain ⟨⟨r0, r1, r2, _⟩, ⟨_, _, _, stride8, n9, _, s26, s27, _⟩, ⟨_, _⟩⟩ := s
    refine Tail.eq (Y := fun g => s_SureStrides_t2 (fun r0 r1 r2 stride8 => g.1 ((r0, r1, r2, ()), ((), (), (), stride8, ()), ((), ()))) (fun r0 r1 r2 stride8 n9 s26 s27 => g.2.1 ((r0, r1, r2, ()), ((), (), (), stride8, n9, (), s26, s27, ()), ((), ()))) r0 r1 r2 stride8 n9 s26 s27) ?_ (fun g => by kernel_rfl)
    simp only [s_SureStrides_t2]; repeat (first | exact Tail.const _ | exact Tail.here _ | exact Tail.there (Tail.here _) | exact Tail.there (Tail.there (Tail.here _)) | exact Tail.there (Tail.there (Tail.there (Tail.here _))) | exact Tail.there (Tail.there (Tail.there (Tail.there (Tail.here _)))) | exact Tail.there (Tail.there (Tail.there (Tail.there (Tail.there (Tail.here _))))) | apply Tail.cond | (apply Tail.bind; intro _)), trivial⟩
theorem s_SureStrides_hs : ∀ x, Tail c_s_SureStrides.pts (fun g => c_s_SureStrides.start g x) := fun x => by
    obtain ⟨p0_Clues, _⟩ := x
    refine Tail.eq (Y := fun g => s_SureStrides_t0 (fun r0 r1 r2 stride8 => g.1 ((r0, r1, r2, ()), ((), (), (), stride8, ()), ((), ()))) (fun r0 r1 r2 stride8 n9 s26 s27 => g.2.1 ((r0, r1, r2, ()), ((), (), (), stride8, n9, (), s26, s27, ()), ((), ()))) p0_Clues) ?_ (fun g => by kernel_rfl)
    simp only [s_SureStrides_t0]; repeat (first | exact Tail.const _ | exact Tail.here _ | exact Tail.there (Tail.here _) | exact Tail.there (Tail.there (Tail.here _)) | exact Tail.there (Tail.there (Tail.there (Tail.here _))) | exact Tail.there (Tail.there (Tail.there (Tail.there (Tail.here _)))) | exact Tail.there (Tail.there (Tail.there (Tail.there (Tail.there (Tail.here _))))) | apply Tail.cond | (apply Tail.bind; intro _))
noncomputable def s_SureStrides_L1 (r0 : List ((Int × (List (Int) × List (Int))))) (r1 : List (Int)) (r2 : List (Int)) (stride8 : Int) : Option (List Int × List Int × Bool) := c_s_SureStrides.L.1 ((r0, r1, r2, ()), ((), (), (), stride8, ()), ((), ()))
noncomputable def s_SureStrides_L2 (r0 : List ((Int × (List (Int) × List (Int))))) (r1 : List (Int)) (r2 : List (Int)) (stride8 : Int) (n9 : Int) (s26 : Int) (s27 : Int) : Option (List Int × List Int × Bool) := c_s_SureStrides.L.2.1 ((r0, r1, r2, ()), ((), (), (), stride8, n9, (), s26, s27, ()), ((), ()))
theorem s_SureStrides_u1 (r0 : List ((Int × (List (Int) × List (Int))))) (r1 : List (Int)) (r2 : List (Int)) (stride8 : Int) : s_SureStrides_L1 r0 r1 r2 stride8 = s_SureStrides_t1 s_SureStrides_L1 s_SureStrides_L2 r0 r1 r2 stride8 :=
  (congrArg (fun g => g.1 ((r0, r1, r2, ()), ((), (), (), stride8, ()), ((), ()))) (FnCx.L_eq s_SureStrides_ts)).trans (by kernel_rfl)
theorem s_SureStrides_u2 (r0 : List ((Int × (List (Int) × List (Int))))) (r1 : List (Int)) (r2 : List (Int)) (stride8 : Int) (n9 : Int) (s26 : Int) (s27 : Int) : s_SureStrides_L2 r0 r1 r2 stride8 n9 s26 s27 = s_SureStrides_t2 s_SureStrides_L1 s_SureStrides_L2 r0 r1 r2 stride8 n9 s26 s27 :=
  (congrArg (fun g => g.2.1 ((r0, r1, r2, ()), ((), (), (), stride8, n9, (), s26, s27, ()), ((), ()))) (FnCx.L_eq s_SureStrides_ts)).trans (by kernel_rfl)
noncomputable def s_SureStrides (p0_Clues : List (Int × Int × Int)) : Option (List Int × List Int × Bool) := s_SureStrides_t0 s_SureStrides_L1 s_SureStrides_L2 p0_Clues
theorem s_SureStrides_e (p0_Clues : List (Int × Int × Int)) : c_s_SureStrides.start c_s_SureStrides.L (p0_Clues, ()) = s_SureStrides p0_Clues := by kernel_rfl
noncomputable def F_s_SureStrides : Ins c_s_SureStrides.ins → Option (List Int × List Int × Bool) := fun x => s_SureStrides x.1
noncomputable def S_s_SureStrides : FSpec := mkF c_s_SureStrides.env.pre c_s_SureStrides.ins c_s_SureStrides.out c_s_SureStrides.inj F_s_SureStrides
theorem h_s_SureStrides : Cert Tryz.prog 12 S_s_SureStrides := FnCx.certF (c := c_s_SureStrides) F_s_SureStrides (tyOk _ _ _) (spOk ⟨h_s_pzGood, fun _ _ h => h, ⟨h_s_pzAll, fun _ _ h => h, ⟨h_s_pzValue, fun _ _ h => h, trivial⟩⟩⟩) (fun _ _ _ _ _ hs => noDr_ok) Tryz.func12 rfl rfl Tryz.ntmps12 (by kernel_rfl) rfl rfl (fun _ => rfl) s_SureStrides_ts s_SureStrides_hs (fun x t hb ht => by
  obtain ⟨p0_Clues, _⟩ := x
  exact (s_SureStrides_e p0_Clues).trans ht)
/-! impl.IsSolved -/
noncomputable def c_i_IsSolved : FnCx := { env := env 14 [(7, S_i_CountSolutions)] [], body := bodyOf Tryz.f13, res := [.tmp 2, .tmp 3], ins := [.ro kPuzzle], out := [(kbool, true), (kbool, true)], T := Bool × Bool, fin := fun r => (r.1.1, r.1.2.1), inj := fun t => ((t.1, t.2, ()), ((), ())), pts := [], fuel := 400, dr := noDr }
noncomputable def i_IsSolved (p0_Clues : List (Int × Int × Int)) : Option (Bool × Bool) :=
  Option.bind (i_CountSolutions p0_Clues) fun r => some (Prod.fst r == 1, Prod.snd r)
theorem i_IsSolved_e (p0_Clues : List (Int × Int × Int)) : c_i_IsSolved.start c_i_IsSolved.L (p0_Clues, ()) = i_IsSolved p0_Clues := by kernel_rfl
noncomputable def F_i_IsSolved : Ins c_i_IsSolved.ins → Option (Bool × Bool) := fun x => i_IsSolved x.1
noncomputable def S_i_IsSolved : FSpec := mkF c_i_IsSolved.env.pre c_i_IsSolved.ins c_i_IsSolved.out c_i_IsSolved.inj F_i_IsSolved
theorem h_i_IsSolved : Cert Tryz.prog 13 S_i_IsSolved := FnCx.certF (c := c_i_IsSolved) F_i_IsSolved (tyOk _ _ _) (spOk ⟨h_i_CountSolutions, fun _ _ h => h, trivial⟩) (fun _ _ _ _ _ hs => noDr_ok) Tryz.func13 rfl rfl Tryz.ntmps13 (by kernel_rfl) rfl rfl (fun _ => rfl) trivial (fun x => .inl ⟨c_i_IsSolved.start () x, fun _ => rfl⟩) (fun x t hb ht => by
  obtain ⟨p0_Clues, _⟩ := x
  exact (i_IsSolved_e p0_Clues).trans ht)
/-! spec.pzSolved -/
noncomputable def c_s_pzSolved : FnCx := { env := env 7 [(41, S_s_pzAll)] [], body := bodyOf Tryz.f44, res := [.tmp 2], ins := [.ro kSClue], out := [(kbool, true)], T := Bool, fin := fun r => r.1.1, inj := fun t => ((t, ()), ((), ())), pts := [], fuel := 400, dr := noDr }
noncomputable def s_pzSolved (clues0 : List (Int × Int × Int)) : Option Bool :=
  Option.bind (s_pzAll clues0) fun r => some ((↑(List.length r) : Int) == 1)
theorem s_pzSolved_e (clues0 : List (Int × Int × Int)) : c_s_pzSolved.start c_s_pzSolved.L (clues0, ()) = s_pzSolved clues0 := by kernel_rfl
noncomputable def F_s_pzSolved : Ins c_s_pzSolved.ins → Option Bool := fun x => s_pzSolved x.1
noncomputable def S_s_pzSolved : FSpec := mkF c_s_pzSolved.env.pre c_s_pzSolved.ins c_s_pzSolved.out c_s_pzSolved.inj F_s_pzSolved
theorem h_s_pzSolved : Cert Tryz.prog 44 S_s_pzSolved := FnCx.certF (c := c_s_pzSolved) F_s_pzSolved (tyOk _ _ _) (spOk ⟨h_s_pzAll, fun _ _ h => h, trivial⟩) (fun _ _ _ _ _ hs => noDr_ok) Tryz.func44 rfl rfl Tryz.ntmps44 (by kernel_rfl) rfl rfl (fun _ => rfl) trivial (fun x => .inl ⟨c_s_pzSolved.start () x, fun _ => rfl⟩) (fun x t hb ht => by
  obtain ⟨clues0, _⟩ := x
  exact (s_pzSolved_e clues0).trans ht)
/-! spec.IsSolved -/
noncomputable def c_s_IsSolved : FnCx := { env := env 10 [(40, S_s_pzGood), (44, S_s_pzSolved)] [], body := bodyOf Tryz.f14, res := [.tmp 2, .tmp 3], ins := [.ro kPuzzle], out := [(kbool, true), (kbool, true)], T := Bool × Bool, fin := fun r => (r.1.1, r.1.2.1), inj := fun t => ((t.1, t.2, ()), ((), ())), pts := [], fuel := 400, dr := noDr }
noncomputable def s_IsSolved (p0_Clues : List (Int × Int × Int)) : Option (Bool × Bool) :=
  bif !s_pzGood_n p0_Clues then some (false, false) else Option.bind (s_pzSolved p0_Clues) fun r => some (r, true)
theorem s_IsSolved_e (p0_Clues : List (Int × Int × Int)) : c_s_IsSolved.start c_s_IsSolved.L (p0_Clues, ()) = s_IsSolved p0_Clues := by kernel_rfl
noncomputable def F_s_IsSolved : Ins c_s_IsSolved.ins → Option (Bool × Bool) := fun x => s_IsSolved x.1
noncomputable def S_s_IsSolved : FSpec := mkF c_s_IsSolved.env.pre c_s_IsSolved.ins c_s_IsSolved.out c_s_IsSolved.inj F_s_IsSolved
theorem h_s_IsSolved : Cert Tryz.prog 14 S_s_IsSolved := FnCx.certF (c := c_s_IsSolved) F_s_IsSolved (tyOk _ _ _) (spOk ⟨h_s_pzGood, fun _ _ h => h, ⟨h_s_pzSolved, fun _ _ h => h, trivial⟩⟩) (fun _ _ _ _ _ hs => noDr_ok) Tryz.func14 rfl rfl Tryz.ntmps14 (by kernel_rfl) rfl rfl (fun _ => rfl) trivial (fun x => .inl ⟨c_s_IsSolved.start () x, fun _ => rfl⟩) (fun x t hb ht => by
  obtain ⟨p0_Clues, _⟩ := x
  exact (s_IsSolved_e p0_Clues).trans ht)
/-! slices.Grow[[]impl.Clue,impl.Clue] -/
noncomputable def c_slices_Grow_Clue : FnCx := { env := env 27 [] [20, 25], body := bodyOf Tryz.f101, res := [.tmp 4], ins := [.nl, .ro kint], out := [(kSClue, true)], T := List (Int × Int × Int), fin := fun r => r.1.1, inj := fun t => ((t, ()), ((), (), ())), pts := [], fuel := 400, dr := noDr }
noncomputable def slices_Grow_Clue (n1 : Int) : Option (List (Int × Int × Int)) :=
  bif decide (n1 < 0) then none
  else
    bif decide (IntKind.wrap IntKind.i64 (n1 - IntKind.wrap IntKind.i64 (0 - 0)) > 0) then
      bif decide (0 ≤ IntKind.wrap IntKind.i64 (n1 - IntKind.wrap IntKind.i64 (0 - 0))) then
        bif decide (IntKind.wrap IntKind.i64 (n1 - IntKind.wrap IntKind.i64 (0 - 0)) ≤ (↑4294967296 : Int)) then
          some (List.take (Int.toNat 0) (List.replicate (Int.toNat (IntKind.wrap IntKind.i64 (n1 - IntKind.wrap IntKind.i64 (0 - 0)))) (Kd.zero kClue)))
        else none
      else none
    else some []
theorem slices_Grow_Clue_e (n1 : Int) : c_slices_Grow_Clue.start c_slices_Grow_Clue.L ((), n1, ()) = slices_Grow_Clue n1 := by kernel_rfl
noncomputable def F_slices_Grow_Clue : Ins c_slices_Grow_Clue.ins → Option (List (Int × Int × Int)) := fun x => slices_Grow_Clue x.2.1
noncomputable def S_slices_Grow_Clue : FSpec := mkF c_slices_Grow_Clue.env.pre c_slices_Grow_Clue.ins c_slices_Grow_Clue.out c_slices_Grow_Clue.inj F_slices_Grow_Clue
theorem h_slices_Grow_Clue : Cert Tryz.prog 101 S_slices_Grow_Clue := FnCx.certF (c := c_slices_Grow_Clue) F_slices_Grow_Clue (tyOk _ _ _) (spOk trivial) (fun _ _ _ _ _ hs => noDr_ok) Tryz.func101 rfl rfl Tryz.ntmps101 (by kernel_rfl) rfl rfl (fun _ => rfl) trivial (fun x => .inl ⟨c_slices_Grow_Clue.start () x, fun _ => rfl⟩) (fun x t hb ht => by
  obtain ⟨_, n1, _⟩ := x
  exact (slices_Grow_Clue_e n1).trans ht)
/-! slices.Concat[[]impl.Clue,impl.Clue] -/
noncomputable def c_slices_Concat_Clue : FnCx := { env := env 36 [(101, S_slices_Grow_Clue)] [], body := bodyOf Tryz.f77, res := [.tmp 2], ins := [.ro kSSClue], out := [(kSClue, true)], T := List (Int × Int × Int), fin := fun r => r.1.1, inj := fun t => ((t, ()), ((), ())), pts := [([.inLoop [1, 1, 0, 1, 0, 0], .inBlock 0, .code [1, 1, 1]], Shape.mk [Bs.row kSClue 22 false] [(0, Ss.one (Cs.sl 0)), (3, Ss.one (Cs.sc kint)), (9, Ss.one (Cs.sl 0)), (10, Ss.one (Cs.sc kint)), (11, Ss.one (Cs.sc kint))] [Ss.one (Cs.any)]), ([.inLoop [1, 1, 1, 1, 0, 1, 0, 0], .inBlock 2, .code [1, 1, 1, 1, 1]], Shape.mk [Bs.row kClue 51 true, Bs.row kSClue 22 false] [(6, Ss.one (Cs.sl 0)), (25, Ss.one (Cs.sl 1)), (26, Ss.one (Cs.sc kint)), (27, Ss.one (Cs.sc kint))] [Ss.one (Cs.any)])], fuel := 400, dr := noDr }
noncomputable def slices_Concat_Clue_t1 (g1 : List (List (Int × (Int × Int))) → Int → Int → Int → Option (List (Int × Int × Int))) (g2 : List (Int × (Int × Int)) → List (List (Int × (Int × Int))) → Int → Int → Option (List (Int × Int × Int))) (r0 : List (List (Int × (Int × Int)))) (size3 : Int) (s10 : Int) (s11 : Int) : Option (List (Int × Int × Int)) :=
  bif decide (s11 < s10) then
    bif decide (0 ≤ s11) then
      bif decide (s11 < (↑(List.length r0) : Int)) then
        bif
            decide
              (IntKind.wrap IntKind.i64
                  (size3 +
                    (↑(List.length (rdk kSClue r0 s11)) : Int)) <
                0) then
          none
        else
          g1 r0
            (IntKind.wrap IntKind.i64
              (size3 + (↑(List.length (rdk kSClue r0 s11)) : Int)))
            s10 (IntKind.wrap IntKind.i64 (s11 + 1))
      else none
    else none
  else Option.bind (slices_Grow_Clue size3) fun r => g2 r r0 (↑(List.length r0) : Int) 0
noncomputable def slices_Concat_Clue_t2 (g1 : List (List (Int × (Int × Int))) → Int → Int → Int → Option (List (Int × Int × Int))) (g2 : List (Int × (Int × Int)) → List (List (Int × (Int × Int))) → Int → Int → Option (List (Int × Int × Int))) (r0 : List (Int × (Int × Int))) (r1 : List (List (Int × (Int × Int)))) (s26 : Int) (s27 : Int) : Option (List (Int × Int × Int)) :=
  bif decide (s27 < s26) then
    bif decide (0 ≤ s27) then
      bif decide (s27 < (↑(List.length r1) : Int)) then
        bif
            Nat.ble
              (List.length r0 + List.length (rdk kSClue r1 s27))
              4294967296 then
          g2 (r0 ++ rdk kSClue r1 s27) r1 s26
            (IntKind.wrap IntKind.i64 (s27 + 1))
        else none
      else none
    else none
  else some r0
noncomputable def slices_Concat_Clue_t0 (g1 : List (List (Int × (Int × Int))) → Int → Int → Int → Option (List (Int × Int × Int))) (g2 : List (Int × (Int × Int)) → List (List (Int × (Int × Int))) → Int → Int → Option (List (Int × Int × Int))) (slices0 : List (List (Int × Int × Int))) : Option (List (Int × Int × Int)) :=
  g1 slices0 0 (↑(List.length slices0) : Int) 0
theorem slices_Concat_Clue_ts : Tails c_slices_Concat_Clue.pts c_slices_Concat_Clue.round :=
  ⟨fun s => by
    obtain ⟨⟨r0, _⟩, ⟨_, size3, _, s10, s11, _⟩, ⟨_, _⟩⟩ := s
    refine Tail.eq (Y := fun g => slices_Concat_Clue_t1 (fun r0 size3 s10 s11 => g.1 ((r0, ()), ((), size3, (), s10, s11, ()), ((), ()))) (fun r0 r1 s26 s27 => g.2.1 ((r0, r1, ()), ((), (), s26, s27, ()), ((), ()))) r0 size3 s10 s11) ?_ (fun g => by kernel_rfl)
    simp only [slices_Concat_Clue_t1]; repeat (first | exact Tail.const _ | exact Tail.here _ | exact Tail.there (Tail.here _) | exact Tail.there (Tail.there (Tail.here _)) | exact Tail.there (Tail.there (Tail.there (Tail.here _))) | exact Tail.there (Tail.there (Tail.there (Tail.there (Tail.here _)))) | exact Tail.there (Tail.there (Tail.there (Tail.there (Tail.there (Tail.here _))))) | apply Tail.cond | (apply Tail.bind; intro _)),
  fun s => by
    obtain ⟨⟨r0, r1, _⟩, ⟨_, _, s26, s27, _⟩, ⟨_, _⟩⟩ := s
    refine Tail.eq (Y := fun g => slices_Concat_Clue_t2 (fun r0 size3 s10 s11 => g.1 ((r0, ()), ((), size3, (), s10, s11, ()), ((), ()))) (fun r0 r1 s26 s27 => g.2.1 ((r0, r1, ()), ((), (), s26, s27, ()), ((), ()))) r0 r1 s26 s27) ?_ (fun g => by kernel_rfl)
    simp only [slices_Concat_Clue_t2]; repeat (first | exact Tail.const _ | exact Tail.here _ | exact Tail.there (Tail.here _) | exact Tail.there (Tail.there (Tail.here _)) | exact Tail.there (Tail.there (Tail.there (Tail.here _))) | exact Tail.there (Tail.there (Tail.there (Tail.there (Tail.here _)))) | exact Tail.there (Tail.there (Tail.there (Tail.there (Tail.there (Tail.here _))))) | apply Tail.cond | (apply Tail.bind; intro _)), trivial⟩
theorem slices_Concat_Clue_hs : ∀ x, Tail c_slices_Concat_Clue.pts (fun g => c_slices_Concat_Clue.start g x) := fun x => by
    obtain ⟨slices0, _⟩ := x
    refine Tail.eq (Y := fun g => slices_Concat_Clue_t0 (fun r0 size3 s10 s11 => g.1 ((r0, ()), ((), size3, (), s10, s11, ()), ((), ()))) (fun r0 r1 s26 s27 => g.2.1 ((r0, r1, ()), ((), (), s26, s27, ()), ((), ()))) slices0) ?_ (fun g => by kernel_rfl)
    simp only [slices_Concat_Clue_t0]; repeat (first | exact Tail.const _ | exact Tail.here _ | exact Tail.there (Tail.here _) | exact Tail.there (Tail.there (Tail.here _)) | exact Tail.there (Tail.there (Tail.there (Tail.here _))) | exact Tail.there (Tail.there (Tail.there (Tail.there (Tail.here _)))) | exact Tail.there (Tail.there (Tail.there (Tail.there (Tail.there (Tail.here _))))) | apply Tail.cond | (apply Tail.bind; intro _))
noncomputable def slices_Concat_Clue_L1 (r0 : List (List (Int × (Int × Int)))) (size3 : Int) (s10 : Int) (s11 : Int) : Option (List (Int × Int × Int)) := c_slices_Concat_Clue.L.1 ((r0, ()), ((), size3, (), s10, s11, ()), ((), ()))
noncomputable def slices_Concat_Clue_L2 (r0 : List (Int × (Int × Int))) (r1 : List (List (Int × (Int × Int)))) (s26 : Int) (s27 : Int) : Option (List (Int × Int × Int)) := c_slices_Concat_Clue.L.2.1 ((r0, r1, ()), ((), (), s26, s27, ()), ((), ()))
theorem slices_Concat_Clue_u1 (r0 : List (List (Int × (Int × Int)))) (size3 : Int) (s10 : Int) (s11 : Int) : slices_Concat_Clue_L1 r0 size3 s10 s11 = slices_Concat_Clue_t1 slices_Concat_Clue_L1 slices_Concat_Clue_L2 r0 size3 s10 s11 :=
  (congrArg (fun g => g.1 ((r0, ()), ((), size3, (), s10, s11, ()), ((), ()))) (FnCx.L_eq slices_Concat_Clue_ts)).trans (by kernel_rfl)
theorem slices_Concat_Clue_u2 (r0 : List (Int × (Int × Int))) (r1 : List (List (Int × (Int × Int)))) (s26 : Int) (s27 : Int) : slices_Concat_Clue_L2 r0 r1 s26 s27 = slices_Concat_Clue_t2 slices_Concat_Clue_L1 slices_Concat_Clue_L2 r0 r1 s26 s27 :=
  (congrArg (fun g => g.2.1 ((r0, r1, ()), ((), (), s26, s27, ()), ((), ()))) (FnCx.L_eq slices_Concat_Clue_ts)).trans (by kernel_rfl)
noncomputable def slices_Concat_Clue (slices0 : List (List (Int × Int × Int))) : Option (List (Int × Int × Int)) := slices_Concat_Clue_t0 slices_Concat_Clue_L1 slices_Concat_Clue_L2 slices0
theorem slices_Concat_Clue_e (slices0 : List (List (Int × Int × Int))) : c_slices_Concat_Clue.start c_slices_Concat_Clue.L (slices0, ()) = slices_Concat_Clue slices0 := by kernel_rfl
noncomputable def F_slices_Concat_Clue : Ins c_slices_Concat_Clue.ins → Option (List (Int × Int × Int)) := fun x => slices_Concat_Clue x.1
noncomputable def S_slices_Concat_Clue : FSpec := mkF c_slices_Concat_Clue.env.pre c_slices_Concat_Clue.ins c_slices_Concat_Clue.out c_slices_Concat_Clue.inj F_slices_Concat_Clue
theorem h_slices_Concat_Clue : Cert Tryz.prog 77 S_slices_Concat_Clue := FnCx.certF (c := c_slices_Concat_Clue) F_slices_Concat_Clue (tyOk _ _ _) (spOk ⟨h_slices_Grow_Clue, fun _ _ h => h, trivial⟩) (fun _ _ _ _ _ hs => noDr_ok) Tryz.func77 rfl rfl Tryz.ntmps77 (by kernel_rfl) rfl rfl (fun _ => rfl) slices_Concat_Clue_ts slices_Concat_Clue_hs (fun x t hb ht => by
  obtain ⟨slices0, _⟩ := x
  exact (slices_Concat_Clue_e slices0).trans ht)
/-! impl.without -/
noncomputable def c_i_without : FnCx := { env := env 14 [(77, S_slices_Concat_Clue)] [], body := bodyOf Tryz.f45, res := [.tmp 4], ins := [.ro kSClue, .ro kint], out := [(kSClue, true)], T := List (Int × Int × Int), fin := fun r => r.1.1, inj := fun t => ((t, ()), ((), (), ())), pts := [], fuel := 400, dr := evDr (env 14 [(77, S_slices_Concat_Clue)] []) }
noncomputable def i_without (clues0 : List (Int × Int × Int)) (k1 : Int) : Option (List (Int × Int × Int)) :=
  bif decide (0 ≤ k1) then
    bif decide (k1 ≤ (↑(List.length clues0) : Int)) then
      bif decide (0 ≤ IntKind.wrap IntKind.i64 (k1 + 1)) then
        bif decide (IntKind.wrap IntKind.i64 (k1 + 1) ≤ (↑(List.length clues0) : Int)) then
          Option.bind
            (slices_Concat_Clue
              [List.take (Int.toNat k1 - Int.toNat 0) (List.drop (Int.toNat 0) clues0),
                List.take (Int.toNat (↑(List.length clues0) : Int) - Int.toNat (IntKind.wrap IntKind.i64 (k1 + 1)))
                  (List.drop (Int.toNat (IntKind.wrap IntKind.i64 (k1 + 1))) clues0)])
            fun r => some r
        else none
      else none
    else none
  else none
theorem i_without_e (clues0 : List (Int × Int × Int)) (k1 : Int) : c_i_without.start c_i_without.L (clues0, k1, ()) = i_without clues0 k1 := by kernel_rfl
theorem i_grow_eq (n : Nat) (h : n ≤ 6) : slices_Grow_Clue n = some [] := by
  unfold slices_Grow_Clue
  have hw0 : IntKind.wrap .i64 (0 - 0) = 0 := rfl
  have hw : IntKind.wrap .i64 ((n : Int) - 0) = n := by rw [wrapI (by omega) (by omega)]; omega
  have hn : ¬ ((n : Int) < 0) := by omega
  rw [hw0, hw, decide_eq_false hn]
  by_cases h0 : n = 0
  · subst h0; rfl
  · have : (0 : Int) < n := by omega
    have hw' : IntKind.wrap .i64 (n : Int) = n := wrapI (by omega) (by omega)
    have h1 : 0 < n := by omega
    have h2 : (n : Int) ≤ 4294967296 := by omega
    simp [h1, h2, hw']
theorem i_concat_eq (a b : List (Int × Int × Int)) (h : a.length + b.length ≤ 6) : slices_Concat_Clue [a, b] = some (a ++ b) := by
  unfold slices_Concat_Clue slices_Concat_Clue_t0
  have hw1 : IntKind.wrap .i64 (0 + (a.length : Int)) = (a.length : Int) := by rw [wrapI (by omega) (by omega)]; omega
  have hw2 : IntKind.wrap .i64 ((a.length : Int) + (b.length : Int)) = ((a.length + b.length : Nat) : Int) := by rw [wrapI (by omega) (by omega)]; omega
  have hn1 : ¬ ((a.length : Int) < 0) := by omega
  have hn2 : ¬ (((a.length + b.length : Nat) : Int) < 0) := by omega
  have r0 : rdk kSClue [a, b] 0 = a := rfl
  have r1 : rdk kSClue [a, b] 1 = b := rfl
  have s1 : IntKind.wrap .i64 (0 + 1) = 1 := rfl
  have s2 : IntKind.wrap .i64 (1 + 1) = 2 := rfl
  have e1 := slices_Concat_Clue_u1 [a, b] 0 (([a, b] : List (List (Int × Int × Int))).length : Int) 0
  have e2 := slices_Concat_Clue_u1 [a, b] (a.length : Int) (([a, b] : List (List (Int × Int × Int))).length : Int) 1
  have e3 := slices_Concat_Clue_u1 [a, b] ((a.length + b.length : Nat) : Int) (([a, b] : List (List (Int × Int × Int))).length : Int) 2
  have e4 := slices_Concat_Clue_u2 [] [a, b] (([a, b] : List (List (Int × Int × Int))).length : Int) 0
  have e5 := slices_Concat_Clue_u2 a [a, b] (([a, b] : List (List (Int × Int × Int))).length : Int) 1
  have e6 := slices_Concat_Clue_u2 (a ++ b) [a, b] (([a, b] : List (List (Int × Int × Int))).length : Int) 2
  unfold slices_Concat_Clue_t1 at e1 e2 e3
  unfold slices_Concat_Clue_t2 at e4 e5 e6
  have hg := i_grow_eq (a.length + b.length) h
  have b1 : a.length ≤ 4294967296 := by omega
  have b2 : a.length + b.length ≤ 4294967296 := by omega
  rw [r0, hw1, s1, decide_eq_false hn1] at e1
  rw [r1, hw2, s2, decide_eq_false hn2] at e2
  rw [hg] at e3
  rw [r0, s1] at e4
  rw [r1, s2] at e5
  simp [ble_dec] at e1 e2 e3 e4 e5 e6
  simp [e1, e2, e3, e4, e5, e6, b1, b2]
theorem i_without_eq (p : List (Int × Int × Int)) (k : Nat) (hk : k < p.length) (hl : p.length ≤ 6) : i_without p k = some (p.take k ++ p.drop (k + 1)) := by
  unfold i_without
  have hw : IntKind.wrap .i64 ((k : Int) + 1) = ((k + 1 : Nat) : Int) := by rw [wrapI (by omega) (by omega)]; omega
  have h1 : (0 : Int) ≤ (k : Int) := by omega
  have h2 : (k : Int) ≤ (p.length : Int) := by omega
  have h3 : (0 : Int) ≤ ((k + 1 : Nat) : Int) := by omega
  have h4 : ((k + 1 : Nat) : Int) ≤ (p.length : Int) := by omega
  rw [hw, decide_eq_true h1, decide_eq_true h2, decide_eq_true h3, decide_eq_true h4]
  simp only [cond_true, Int.toNat_natCast]
  have e1 : (p.drop (k + 1)).take (p.length - (k + 1)) = p.drop (k + 1) := List.take_of_length_le (by simp)
  simp only [Int.toNat_zero, List.drop_zero, Nat.sub_zero, e1]
  rw [i_concat_eq _ _ (by simp; omega)]
  rfl
noncomputable def F_i_without : Ins c_i_without.ins → Option (List (Int × Int × Int)) := fun x => i_without x.1 x.2.1
noncomputable def S_i_without : FSpec := mkF c_i_without.env.pre c_i_without.ins c_i_without.out c_i_without.inj F_i_without
theorem h_i_without : Cert Tryz.prog 45 S_i_without := FnCx.certF (c := c_i_without) F_i_without (tyOk _ _ _) (spOk ⟨h_slices_Concat_Clue, fun _ _ h => h, trivial⟩) (fun _ _ _ _ _ hs => evDr_ok (tyOk _ _ _) hs follows) Tryz.func45 rfl rfl Tryz.ntmps45 (by kernel_rfl) rfl rfl (fun _ => rfl) trivial (fun x => .inl ⟨c_i_without.start () x, fun _ => rfl⟩) (fun x t hb ht => by
  obtain ⟨clues0, k1, _⟩ := x
  exact (i_without_e clues0 k1).trans ht)
/-! impl.NeedlessClues -/
noncomputable def c_i_NeedlessClues : FnCx := { env := env 33 [(26, S_i_IsPuzzle), (45, S_i_without), (39, S_i_solutions)] [], body := bodyOf Tryz.f15, res := [.tmp 2, .tmp 3], ins := [.ro kPuzzle], out := [(kSint, true), (kbool, true)], T := List Int × Bool, fin := fun r => (r.1.1, r.1.2.1), inj := fun t => ((t.1, t.2, ()), ((), ())), pts := [([.inLoop [1, 1, 1, 0, 1, 0, 0], .inBlock 0, .code [1, 1, 1, 1]], Shape.mk [Bs.box 24 [Cs.sl 2], Bs.row kint 3 true, Bs.row kClue 51 false] [(1, Ss.one (Cs.ptr 0 0)), (4, Ss.one (Cs.sl 1)), (12, Ss.one (Cs.sc kint)), (13, Ss.one (Cs.sc kint))] [Ss.one (Cs.any)])], fuel := 400, dr := evDr (env 33 [(26, S_i_IsPuzzle), (45, S_i_without), (39, S_i_solutions)] []) }
noncomputable def i_NeedlessClues_t1 (g1 : List (Int) → List (Int × (Int × Int)) → Int → Int → Option (List Int × Bool)) (r1 : List (Int)) (r2 : List (Int × (Int × Int))) (s12 : Int) (s13 : Int) : Option (List Int × Bool) :=
  bif decide (s13 < s12) then
    Option.bind (i_without r2 s13) fun r =>
      Option.bind (i_solutions r) fun r =>
        Option.bind (i_solutions r2) fun r_1 =>
          bif (↑(List.length r) : Int) == (↑(List.length r_1) : Int) then
            bif Nat.ble (List.length r1 + 1) 4294967296 then g1 (r1 ++ [s13]) r2 s12 (IntKind.wrap IntKind.i64 (s13 + 1)) else none
          else g1 r1 r2 s12 (IntKind.wrap IntKind.i64 (s13 + 1))
  else some (r1, true)
noncomputable def i_NeedlessClues_t0 (g1 : List (Int) → List (Int × (Int × Int)) → Int → Int → Option (List Int × Bool)) (p0_Clues : List (Int × Int × Int)) : Option (List Int × Bool) :=
  bif !i_IsPuzzle p0_Clues then some ([], false) else g1 [] p0_Clues (↑(List.length p0_Clues) : Int) 0
theorem i_NeedlessClues_ts : Tails c_i_NeedlessClues.pts c_i_NeedlessClues.round :=
  ⟨fun s => by
    obtain ⟨⟨⟨_, _⟩, r1, r2, _⟩, ⟨_, _, s12, s13, _⟩, ⟨_, _⟩⟩ := s
    refine Tail.eq (Y := fun g => i_NeedlessClues_t1 (fun r1 r2 s12 s13 => g.1 ((((), ()), r1, r2, ()), ((), (), s12, s13, ()), ((), ()))) r1 r2 s12 s13) ?_ (fun g => by kernel_rfl)
    simp only [i_NeedlessClues_t1]; repeat (first | exact Tail.const _ | exact Tail.here _ | exact Tail.there (Tail.here _) | exact Tail.there (Tail.there (Tail.here _)) | exact Tail.there (Tail.there (Tail.there (Tail.here _))) | exact Tail.there (Tail.there (Tail.there (Tail.there (Tail.here _)))) | exact Tail.there (Tail.there (Tail.there (Tail.there (Tail.there (Tail.here _))))) | apply Tail.cond | (apply Tail.bind; intro _)), trivial⟩
theorem i_NeedlessClues_hs : ∀ x, Tail c_i_NeedlessClues.pts (fun g => c_i_NeedlessClues.start g x) := fun x => by
    obtain ⟨p0_Clues, _⟩ := x
    refine Tail.eq (Y := fun g => i_NeedlessClues_t0 (fun r1 r2 s12 s13 => g.1 ((((), ()), r1, r2, ()), ((), (), s12, s13, ()), ((), ()))) p0_Clues) ?_ (fun g => by kernel_rfl)
    simp only [i_NeedlessClues_t0]; repeat (first | exact Tail.const _ | exact Tail.here _ | exact Tail.there (Tail.here _) | exact Tail.there (Tail.there (Tail.here _)) | exact Tail.there (Tail.there (Tail.there (Tail.here _))) | exact Tail.there (Tail.there (Tail.there (Tail.there (Tail.here _)))) | exact Tail.there (Tail.there (Tail.there (Tail.there (Tail.there (Tail.here _))))) | apply Tail.cond | (apply Tail.bind; intro _))
noncomputable def i_NeedlessClues_L1 (r1 : List (Int)) (r2 : List (Int × (Int × Int))) (s12 : Int) (s13 : Int) : Option (List Int × Bool) := c_i_NeedlessClues.L.1 ((((), ()), r1, r2, ()), ((), (), s12, s13, ()), ((), ()))
theorem i_NeedlessClues_u1 (r1 : List (Int)) (r2 : List (Int × (Int × Int))) (s12 : Int) (s13 : Int) : i_NeedlessClues_L1 r1 r2 s12 s13 = i_NeedlessClues_t1 i_NeedlessClues_L1 r1 r2 s12 s13 :=
  (congrArg (fun g => g.1 ((((), ()), r1, r2, ()), ((), (), s12, s13, ()), ((), ()))) (FnCx.L_eq i_NeedlessClues_ts)).trans (by kernel_rfl)
noncomputable def i_NeedlessClues (p0_Clues : List (Int × Int × Int)) : Option (List Int × Bool) := i_NeedlessClues_t0 i_NeedlessClues_L1 p0_Clues
theorem i_NeedlessClues_e (p0_Clues : List (Int × Int × Int)) : c_i_NeedlessClues.start c_i_NeedlessClues.L (p0_Clues, ()) = i_NeedlessClues p0_Clues := by kernel_rfl
noncomputable def F_i_NeedlessClues : Ins c_i_NeedlessClues.ins → Option (List Int × Bool) := fun x => i_NeedlessClues x.1
noncomputable def S_i_NeedlessClues : FSpec := mkF c_i_NeedlessClues.env.pre c_i_NeedlessClues.ins c_i_NeedlessClues.out c_i_NeedlessClues.inj F_i_NeedlessClues
theorem h_i_NeedlessClues : Cert Tryz.prog 15 S_i_NeedlessClues := FnCx.certF (c := c_i_NeedlessClues) F_i_NeedlessClues (tyOk _ _ _) (spOk ⟨h_i_IsPuzzle, fun _ _ h => h, ⟨h_i_without, fun _ _ h => h, ⟨h_i_solutions, fun _ _ h => h, trivial⟩⟩⟩) (fun _ _ _ _ _ hs => evDr_ok (tyOk _ _ _) hs follows) Tryz.func15 rfl rfl Tryz.ntmps15 (by kernel_rfl) rfl rfl (fun _ => rfl) i_NeedlessClues_ts i_NeedlessClues_hs (fun x t hb ht => by
  obtain ⟨p0_Clues, _⟩ := x
  exact (i_NeedlessClues_e p0_Clues).trans ht)
/-! spec.pzWithout -/
noncomputable def c_s_pzWithout : FnCx := { env := env 15 [] [], body := bodyOf Tryz.f46, res := [.tmp 4], ins := [.ro kSClue, .ro kint], out := [(kSClue, true)], T := List (Int × Int × Int), fin := fun r => r.1.1, inj := fun t => ((t, ()), ((), (), ())), pts := [], fuel := 400, dr := evDr (env 15 [] []) }
noncomputable def s_pzWithout (clues0 : List (Int × Int × Int)) (k1 : Int) : Option (List (Int × Int × Int)) :=
  bif decide (0 ≤ k1) then
    bif decide (k1 ≤ (↑(List.length clues0) : Int)) then
      bif Nat.ble (0 + List.length (List.take (Int.toNat k1 - Int.toNat 0) (List.drop (Int.toNat 0) clues0))) 4294967296 then
        bif decide (0 ≤ IntKind.wrap IntKind.i64 (k1 + 1)) then
          bif decide (IntKind.wrap IntKind.i64 (k1 + 1) ≤ (↑(List.length clues0) : Int)) then
            bif
                Nat.ble
                  (List.length ([] ++ List.take (Int.toNat k1 - Int.toNat 0) (List.drop (Int.toNat 0) clues0)) +
                    List.length
                      (List.take (Int.toNat (↑(List.length clues0) : Int) - Int.toNat (IntKind.wrap IntKind.i64 (k1 + 1)))
                        (List.drop (Int.toNat (IntKind.wrap IntKind.i64 (k1 + 1))) clues0)))
                  4294967296 then
              some
                ([] ++ List.take (Int.toNat k1 - Int.toNat 0) (List.drop (Int.toNat 0) clues0) ++
                  List.take (Int.toNat (↑(List.length clues0) : Int) - Int.toNat (IntKind.wrap IntKind.i64 (k1 + 1)))
                    (List.drop (Int.toNat (IntKind.wrap IntKind.i64 (k1 + 1))) clues0))
            else none
          else none
        else none
      else none
    else none
  else none
theorem s_pzWithout_e (clues0 : List (Int × Int × Int)) (k1 : Int) : c_s_pzWithout.start c_s_pzWithout.L (clues0, k1, ()) = s_pzWithout clues0 k1 := by kernel_rfl
theorem s_pzWithout_eq (p : List (Int × Int × Int)) (k : Nat) (hk : k < p.length) (hl : p.length ≤ 6) : s_pzWithout p k = some (p.take k ++ p.drop (k + 1)) := by
  unfold s_pzWithout
  have hw : IntKind.wrap .i64 ((k : Int) + 1) = ((k + 1 : Nat) : Int) := by rw [wrapI (by omega) (by omega)]; omega
  have h1 : (0 : Int) ≤ (k : Int) := by omega
  have h2 : (k : Int) ≤ (p.length : Int) := by omega
  have h3 : (0 : Int) ≤ ((k + 1 : Nat) : Int) := by omega
  have h4 : ((k + 1 : Nat) : Int) ≤ (p.length : Int) := by omega
  rw [hw, decide_eq_true h1, decide_eq_true h2, decide_eq_true h3, decide_eq_true h4]
  simp only [cond_true, Int.toNat_natCast, ble_dec, List.nil_append]
  have e1 : (p.drop (k + 1)).take (p.length - (k + 1)) = p.drop (k + 1) := List.take_of_length_le (by simp)
  simp only [Int.toNat_zero, List.drop_zero, Nat.sub_zero, e1]
  rw [decide_eq_true (by simp; omega), decide_eq_true (by simp; omega)]
  rfl
noncomputable def F_s_pzWithout : Ins c_s_pzWithout.ins → Option (List (Int × Int × Int)) := fun x => s_pzWithout x.1 x.2.1
noncomputable def S_s_pzWithout : FSpec := mkF c_s_pzWithout.env.pre c_s_pzWithout.ins c_s_pzWithout.out c_s_pzWithout.inj F_s_pzWithout
theorem h_s_pzWithout : Cert Tryz.prog 46 S_s_pzWithout := FnCx.certF (c := c_s_pzWithout) F_s_pzWithout (tyOk _ _ _) (spOk trivial) (fun _ _ _ _ _ hs => evDr_ok (tyOk _ _ _) hs follows) Tryz.func46 rfl rfl Tryz.ntmps46 (by kernel_rfl) rfl rfl (fun _ => rfl) trivial (fun x => .inl ⟨c_s_pzWithout.start () x, fun _ => rfl⟩) (fun x t hb ht => by
  obtain ⟨clues0, k1, _⟩ := x
  exact (s_pzWithout_e clues0 k1).trans ht)
/-! spec.NeedlessClues -/
noncomputable def c_s_NeedlessClues : FnCx := { env := env 34 [(40, S_s_pzGood), (41, S_s_pzAll), (46, S_s_pzWithout)] [], body := bodyOf Tryz.f16, res := [.tmp 2, .tmp 3], ins := [.ro kPuzzle], out := [(kSint, true), (kbool, true)], T := List Int × Bool, fin := fun r => (r.1.1, r.1.2.1), inj := fun t => ((t.1, t.2, ()), ((), ())), pts := [([.inLoop [1, 1, 1, 1, 0, 1, 0, 0], .inBlock 0, .code [1, 1, 1, 1, 1]], Shape.mk [Bs.box 24 [Cs.sl 2], Bs.row kint 3 true, Bs.row kClue 51 false] [(1, Ss.one (Cs.ptr 0 0)), (4, Ss.one (Cs.sl 1)), (5, Ss.one (Cs.sc kint)), (16, Ss.one (Cs.sc kint)), (17, Ss.one (Cs.sc kint))] [Ss.one (Cs.any)])], fuel := 400, dr := noDr }
noncomputable def s_NeedlessClues_t1 (g1 : List (Int) → List (Int × (Int × Int)) → Int → Int → Int → Option (List Int × Bool)) (r1 : List (Int)) (r2 : List (Int × (Int × Int))) (count5 : Int) (s16 : Int) (s17 : Int) : Option (List Int × Bool) :=
  bif decide (s17 < s16) then
    Option.bind (s_pzWithout r2 s17) fun r =>
      Option.bind (s_pzAll r) fun r =>
        bif (↑(List.length r) : Int) == count5 then
          bif Nat.ble (List.length r1 + 1) 4294967296 then g1 (r1 ++ [s17]) r2 count5 s16 (IntKind.wrap IntKind.i64 (s17 + 1)) else none
        else g1 r1 r2 count5 s16 (IntKind.wrap IntKind.i64 (s17 + 1))
  else some (r1, true)
noncomputable def s_NeedlessClues_t0 (g1 : List (Int) → List (Int × (Int × Int)) → Int → Int → Int → Option (List Int × Bool)) (p0_Clues : List (Int × Int × Int)) : Option (List Int × Bool) :=
  bif !s_pzGood_n p0_Clues then some ([], false)
  else Option.bind (s_pzAll p0_Clues) fun r => g1 [] p0_Clues (↑(List.length r) : Int) (↑(List.length p0_Clues) : Int) 0
theorem s_NeedlessClues_ts : Tails c_s_NeedlessClues.pts c_s_NeedlessClues.round :=
  ⟨fun s => by
    obtain ⟨⟨⟨_, _⟩, r1, r2, _⟩, ⟨_, _, count5, s16, s17, _⟩, ⟨_, _⟩⟩ := s
    refine Tail.eq (Y := fun g => s_NeedlessClues_t1 (fun r1 r2 count5 s16 s17 => g.1 ((((), ()), r1, r2, ()), ((), (), count5, s16, s17, ()), ((), ()))) r1 r2 count5 s16 s17) ?_ (fun g => by kernel_rfl)
    simp only [s_NeedlessClues_t1]; repeat (first | exact Tail.const _ | exact Tail.here _ | exact Tail.there (Tail.here _) | exact Tail.there (Tail.there (Tail.here _)) | exact Tail.there (Tail.there (Tail.there (Tail.here _))) | exact Tail.there (Tail.there (Tail.there (Tail.there (Tail.here _)))) | exact Tail.there (Tail.there (Tail.there (Tail.there (Tail.there (Tail.here _))))) | apply Tail.cond | (apply Tail.bind; intro _)), trivial⟩
theorem s_NeedlessClues_hs : ∀ x, Tail c_s_NeedlessClues.pts (fun g => c_s_NeedlessClues.start g x) := fun x => by
    obtain ⟨p0_Clues, _⟩ := x
    refine Tail.eq (Y := fun g => s_NeedlessClues_t0 (fun r1 r2 count5 s16 s17 => g.1 ((((), ()), r1, r2, ()), ((), (), count5, s16, s17, ()), ((), ()))) p0_Clues) ?_ (fun g => by kernel_rfl)
    simp only [s_NeedlessClues_t0]; repeat (first | exact Tail.const _ | exact Tail.here _ | exact Tail.there (Tail.here _) | exact Tail.there (Tail.there (Tail.here _)) | exact Tail.there (Tail.there (Tail.there (Tail.here _))) | exact Tail.there (Tail.there (Tail.there (Tail.there (Tail.here _)))) | exact Tail.there (Tail.there (Tail.there (Tail.there (Tail.there (Tail.here _))))) | apply Tail.cond | (apply Tail.bind; intro _))
noncomputable def s_NeedlessClues_L1 (r1 : List (Int)) (r2 : List (Int × (Int × Int))) (count5 : Int) (s16 : Int) (s17 : Int) : Option (List Int × Bool) := c_s_NeedlessClues.L.1 ((((), ()), r1, r2, ()), ((), (), count5, s16, s17, ()), ((), ()))
theorem s_NeedlessClues_u1 (r1 : List (Int)) (r2 : List (Int × (Int × Int))) (count5 : Int) (s16 : Int) (s17 : Int) : s_NeedlessClues_L1 r1 r2 count5 s16 s17 = s_NeedlessClues_t1 s_NeedlessClues_L1 r1 r2 count5 s16 s17 :=
  (congrArg (fun g => g.1 ((((), ()), r1, r2, ()), ((), (), count5, s16, s17, ()), ((), ()))) (FnCx.L_eq s_NeedlessClues_ts)).trans (by kernel_rfl)
noncomputable def s_NeedlessClues (p0_Clues : List (Int × Int × Int)) : Option (List Int × Bool) := s_NeedlessClues_t0 s_NeedlessClues_L1 p0_Clues
theorem s_NeedlessClues_e (p0_Clues : List (Int × Int × Int)) : c_s_NeedlessClues.start c_s_NeedlessClues.L (p0_Clues, ()) = s_NeedlessClues p0_Clues := by kernel_rfl
noncomputable def F_s_NeedlessClues : Ins c_s_NeedlessClues.ins → Option (List Int × Bool) := fun x => s_NeedlessClues x.1
noncomputable def S_s_NeedlessClues : FSpec := mkF c_s_NeedlessClues.env.pre c_s_NeedlessClues.ins c_s_NeedlessClues.out c_s_NeedlessClues.inj F_s_NeedlessClues
theorem h_s_NeedlessClues : Cert Tryz.prog 16 S_s_NeedlessClues := FnCx.certF (c := c_s_NeedlessClues) F_s_NeedlessClues (tyOk _ _ _) (spOk ⟨h_s_pzGood, fun _ _ h => h, ⟨h_s_pzAll, fun _ _ h => h, ⟨h_s_pzWithout, fun _ _ h => h, trivial⟩⟩⟩) (fun _ _ _ _ _ hs => noDr_ok) Tryz.func16 rfl rfl Tryz.ntmps16 (by kernel_rfl) rfl rfl (fun _ => rfl) s_NeedlessClues_ts s_NeedlessClues_hs (fun x t hb ht => by
  obtain ⟨p0_Clues, _⟩ := x
  exact (s_NeedlessClues_e p0_Clues).trans ht)
/-! impl.LeftByClues -/
noncomputable def c_i_LeftByClues : FnCx := { env := env 28 [(26, S_i_IsPuzzle), (39, S_i_solutions)] [], body := bodyOf Tryz.f17, res := [.tmp 2, .tmp 3], ins := [.ro kPuzzle], out := [(kSint, true), (kbool, true)], T := List Int × Bool, fin := fun r => (r.1.1, r.1.2.1), inj := fun t => ((t.1, t.2, ()), ((), ())), pts := [([.inLoop [1, 1, 1, 0, 1, 0, 0], .inBlock 0, .code [1, 1, 1, 1]], Shape.mk [Bs.box 24 [Cs.sl 2], Bs.row kint 3 true, Bs.row kClue 51 false] [(1, Ss.one (Cs.ptr 0 0)), (4, Ss.one (Cs.sl 1)), (13, Ss.one (Cs.sc kint)), (14, Ss.one (Cs.sc kint))] [Ss.one (Cs.any)])], fuel := 400, dr := noDr }
noncomputable def i_LeftByClues_t1 (g1 : List (Int) → List (Int × (Int × Int)) → Int → Int → Option (List Int × Bool)) (r1 : List (Int)) (r2 : List (Int × (Int × Int))) (s13 : Int) (s14 : Int) : Option (List Int × Bool) :=
  bif decide (s14 < s13) then
    bif decide (0 ≤ s14) then
      bif decide (s14 ≤ (↑(List.length r2) : Int)) then
        Option.bind (i_solutions (List.take (Int.toNat s14 - Int.toNat 0) (List.drop (Int.toNat 0) r2))) fun r =>
          bif Nat.ble (List.length r1 + 1) 4294967296 then g1 (r1 ++ [(↑(List.length r) : Int)]) r2 s13 (IntKind.wrap IntKind.i64 (s14 + 1)) else none
      else none
    else none
  else some (r1, true)
noncomputable def i_LeftByClues_t0 (g1 : List (Int) → List (Int × (Int × Int)) → Int → Int → Option (List Int × Bool)) (p0_Clues : List (Int × Int × Int)) : Option (List Int × Bool) :=
  bif !i_IsPuzzle p0_Clues then some ([], false) else g1 [] p0_Clues (IntKind.wrap IntKind.i64 ((↑(List.length p0_Clues) : Int) + 1)) 0
theorem i_LeftByClues_ts : Tails c_i_LeftByClues.pts c_i_LeftByClues.round :=
  ⟨fun s => by
    obtain ⟨⟨⟨_, _⟩, r1, r2, _⟩, ⟨_, _, s13, s14, _⟩, ⟨_, _⟩⟩ := s
    refine Tail.eq (Y := fun g => i_LeftByClues_t1 (fun r1 r2 s13 s14 => g.1 ((((), ()), r1, r2, ()), ((), (), s13, s14, ()), ((), ()))) r1 r2 s13 s14) ?_ (fun g => by kernel_rfl)
    simp only [i_LeftByClues_t1]; repeat (first | exact Tail.const _ | exact Tail.here _ | exact Tail.there (Tail.here _) | exact Tail.there (Tail.there (Tail.here _)) | exact Tail.there (Tail.there (Tail.there (Tail.here _))) | exact Tail.there (Tail.there (Tail.there (Tail.there (Tail.here _)))) | exact Tail.there (Tail.there (Tail.there (Tail.there (Tail.there (Tail.here _))))) | apply Tail.cond | (apply Tail.bind; intro _)), trivial⟩
theorem i_LeftByClues_hs : ∀ x, Tail c_i_LeftByClues.pts (fun g => c_i_LeftByClues.start g x) := fun x => by
    obtain ⟨p0_Clues, _⟩ := x
    refine Tail.eq (Y := fun g => i_LeftByClues_t0 (fun r1 r2 s13 s14 => g.1 ((((), ()), r1, r2, ()), ((), (), s13, s14, ()), ((), ()))) p0_Clues) ?_ (fun g => by kernel_rfl)
    simp only [i_LeftByClues_t0]; repeat (first | exact Tail.const _ | exact Tail.here _ | exact Tail.there (Tail.here _) | exact Tail.there (Tail.there (Tail.here _)) | exact Tail.there (Tail.there (Tail.there (Tail.here _))) | exact Tail.there (Tail.there (Tail.there (Tail.there (Tail.here _)))) | exact Tail.there (Tail.there (Tail.there (Tail.there (Tail.there (Tail.here _))))) | apply Tail.cond | (apply Tail.bind; intro _))
noncomputable def i_LeftByClues_L1 (r1 : List (Int)) (r2 : List (Int × (Int × Int))) (s13 : Int) (s14 : Int) : Option (List Int × Bool) := c_i_LeftByClues.L.1 ((((), ()), r1, r2, ()), ((), (), s13, s14, ()), ((), ()))
theorem i_LeftByClues_u1 (r1 : List (Int)) (r2 : List (Int × (Int × Int))) (s13 : Int) (s14 : Int) : i_LeftByClues_L1 r1 r2 s13 s14 = i_LeftByClues_t1 i_LeftByClues_L1 r1 r2 s13 s14 :=
  (congrArg (fun g => g.1 ((((), ()), r1, r2, ()), ((), (), s13, s14, ()), ((), ()))) (FnCx.L_eq i_LeftByClues_ts)).trans (by kernel_rfl)
noncomputable def i_LeftByClues (p0_Clues : List (Int × Int × Int)) : Option (List Int × Bool) := i_LeftByClues_t0 i_LeftByClues_L1 p0_Clues
theorem i_LeftByClues_e (p0_Clues : List (Int × Int × Int)) : c_i_LeftByClues.start c_i_LeftByClues.L (p0_Clues, ()) = i_LeftByClues p0_Clues := by kernel_rfl
noncomputable def F_i_LeftByClues : Ins c_i_LeftByClues.ins → Option (List Int × Bool) := fun x => i_LeftByClues x.1
noncomputable def S_i_LeftByClues : FSpec := mkF c_i_LeftByClues.env.pre c_i_LeftByClues.ins c_i_LeftByClues.out c_i_LeftByClues.inj F_i_LeftByClues
theorem h_i_LeftByClues : Cert Tryz.prog 17 S_i_LeftByClues := FnCx.certF (c := c_i_LeftByClues) F_i_LeftByClues (tyOk _ _ _) (spOk ⟨h_i_IsPuzzle, fun _ _ h => h, ⟨h_i_solutions, fun _ _ h => h, trivial⟩⟩) (fun _ _ _ _ _ hs => noDr_ok) Tryz.func17 rfl rfl Tryz.ntmps17 (by kernel_rfl) rfl rfl (fun _ => rfl) i_LeftByClues_ts i_LeftByClues_hs (fun x t hb ht => by
  obtain ⟨p0_Clues, _⟩ := x
  exact (i_LeftByClues_e p0_Clues).trans ht)
/-! spec.LeftByClues -/
noncomputable def c_s_LeftByClues : FnCx := { env := env 26 [(40, S_s_pzGood), (41, S_s_pzAll)] [], body := bodyOf Tryz.f18, res := [.tmp 2, .tmp 3], ins := [.ro kPuzzle], out := [(kSint, true), (kbool, true)], T := List Int × Bool, fin := fun r => (r.1.1, r.1.2.1), inj := fun t => ((t.1, t.2, ()), ((), ())), pts := [([.inLoop [1, 1, 1, 0, 1, 0, 0], .inBlock 0, .code [1, 1, 1, 1]], Shape.mk [Bs.box 24 [Cs.sl 2], Bs.row kint 3 true, Bs.row kClue 51 false] [(1, Ss.one (Cs.ptr 0 0)), (4, Ss.one (Cs.sl 1)), (5, Ss.one (Cs.sc kint))] [Ss.one (Cs.any)])], fuel := 400, dr := noDr }
noncomputable def s_LeftByClues_t1 (g1 : List (Int) → List (Int × (Int × Int)) → Int → Option (List Int × Bool)) (r1 : List (Int)) (r2 : List (Int × (Int × Int))) (k5 : Int) : Option (List Int × Bool) :=
  bif decide (k5 ≤ (↑(List.length r2) : Int)) then
    bif decide (0 ≤ k5) then
      bif decide (k5 ≤ (↑(List.length r2) : Int)) then
        Option.bind (s_pzAll (List.take (Int.toNat k5 - Int.toNat 0) (List.drop (Int.toNat 0) r2))) fun r =>
          bif Nat.ble (List.length r1 + 1) 4294967296 then g1 (r1 ++ [(↑(List.length r) : Int)]) r2 (IntKind.wrap IntKind.i64 (k5 + 1)) else none
      else none
    else none
  else some (r1, true)
noncomputable def s_LeftByClues_t0 (g1 : List (Int) → List (Int × (Int × Int)) → Int → Option (List Int × Bool)) (p0_Clues : List (Int × Int × Int)) : Option (List Int × Bool) :=
  bif !s_pzGood_n p0_Clues then some ([], false) else g1 [] p0_Clues 0
theorem s_LeftByClues_ts : Tails c_s_LeftByClues.pts c_s_LeftByClues.round :=
  ⟨fun s => by
    obtain ⟨⟨⟨_, _⟩, r1, r2, _⟩, ⟨_, _, k5, _⟩, ⟨_, _⟩⟩ := s
    refine Tail.eq (Y := fun g => s_LeftByClues_t1 (fun r1 r2 k5 => g.1 ((((), ()), r1, r2, ()), ((), (), k5, ()), ((), ()))) r1 r2 k5) ?_ (fun g => by kernel_rfl)
    simp only [s_LeftByClues_t1]; repeat (first | exact Tail.const _ | exact Tail.here _ | exact Tail.there (Tail.here _) | exact Tail.there (Tail.there (Tail.here _)) | exact Tail.there (Tail.there (Tail.there (Tail.here _))) | exact Tail.there (Tail.there (Tail.there (Tail.there (Tail.here _)))) | exact Tail.there (Tail.there (Tail.there (Tail.there (Tail.there (Tail.here _))))) | apply Tail.cond | (apply Tail.bind; intro _)), trivial⟩
theorem s_LeftByClues_hs : ∀ x, Tail c_s_LeftByClues.pts (fun g => c_s_LeftByClues.start g x) := fun x => by
    obtain ⟨p0_Clues, _⟩ := x
    refine Tail.eq (Y := fun g => s_LeftByClues_t0 (fun r1 r2 k5 => g.1 ((((), ()), r1, r2, ()), ((), (), k5, ()), ((), ()))) p0_Clues) ?_ (fun g => by kernel_rfl)
    simp only [s_LeftByClues_t0]; repeat (first | exact Tail.const _ | exact Tail.here _ | exact Tail.there (Tail.here _) | exact Tail.there (Tail.there (Tail.here _)) | exact Tail.there (Tail.there (Tail.there (Tail.here _))) | exact Tail.there (Tail.there (Tail.there (Tail.there (Tail.here _)))) | exact Tail.there (Tail.there (Tail.there (Tail.there (Tail.there (Tail.here _))))) | apply Tail.cond | (apply Tail.bind; intro _))
noncomputable def s_LeftByClues_L1 (r1 : List (Int)) (r2 : List (Int × (Int × Int))) (k5 : Int) : Option (List Int × Bool) := c_s_LeftByClues.L.1 ((((), ()), r1, r2, ()), ((), (), k5, ()), ((), ()))
theorem s_LeftByClues_u1 (r1 : List (Int)) (r2 : List (Int × (Int × Int))) (k5 : Int) : s_LeftByClues_L1 r1 r2 k5 = s_LeftByClues_t1 s_LeftByClues_L1 r1 r2 k5 :=
  (congrArg (fun g => g.1 ((((), ()), r1, r2, ()), ((), (), k5, ()), ((), ()))) (FnCx.L_eq s_LeftByClues_ts)).trans (by kernel_rfl)
noncomputable def s_LeftByClues (p0_Clues : List (Int × Int × Int)) : Option (List Int × Bool) := s_LeftByClues_t0 s_LeftByClues_L1 p0_Clues
theorem s_LeftByClues_e (p0_Clues : List (Int × Int × Int)) : c_s_LeftByClues.start c_s_LeftByClues.L (p0_Clues, ()) = s_LeftByClues p0_Clues := by kernel_rfl
noncomputable def F_s_LeftByClues : Ins c_s_LeftByClues.ins → Option (List Int × Bool) := fun x => s_LeftByClues x.1
noncomputable def S_s_LeftByClues : FSpec := mkF c_s_LeftByClues.env.pre c_s_LeftByClues.ins c_s_LeftByClues.out c_s_LeftByClues.inj F_s_LeftByClues
theorem h_s_LeftByClues : Cert Tryz.prog 18 S_s_LeftByClues := FnCx.certF (c := c_s_LeftByClues) F_s_LeftByClues (tyOk _ _ _) (spOk ⟨h_s_pzGood, fun _ _ h => h, ⟨h_s_pzAll, fun _ _ h => h, trivial⟩⟩) (fun _ _ _ _ _ hs => noDr_ok) Tryz.func18 rfl rfl Tryz.ntmps18 (by kernel_rfl) rfl rfl (fun _ => rfl) s_LeftByClues_ts s_LeftByClues_hs (fun x t hb ht => by
  obtain ⟨p0_Clues, _⟩ := x
  exact (s_LeftByClues_e p0_Clues).trans ht)
/-! impl.BestClue -/
noncomputable def c_i_BestClue : FnCx := { env := env 41 [(26, S_i_IsPuzzle), (39, S_i_solutions)] [], body := bodyOf Tryz.f19, res := [.tmp 2, .tmp 3], ins := [.ro kPuzzle], out := [(kint, true), (kbool, true)], T := Int × Bool, fin := fun r => (r.1.1, r.1.2.1), inj := fun t => ((t.1, t.2, ()), ((), ())), pts := [([.inLoop [1, 1, 1, 0, 1, 0, 0], .inBlock 0, .code [1, 1, 1, 1]], Shape.mk [Bs.row kClue 51 false] [(4, Ss.one (Cs.sc kint)), (5, Ss.one (Cs.sc kint)), (19, Ss.one (Cs.sl 0)), (20, Ss.one (Cs.sc kint)), (21, Ss.one (Cs.sc kint))] [Ss.one (Cs.any)])], fuel := 400, dr := noDr }
noncomputable def i_BestClue_t1 (g1 : List (Int × (Int × Int)) → Int → Int → Int → Int → Option (Int × Bool)) (r0 : List (Int × (Int × Int))) (best4 : Int) (least5 : Int) (s20 : Int) (s21 : Int) : Option (Int × Bool) :=
  bif decide (s21 < s20) then
    bif decide (0 ≤ s21) then
      bif decide (s21 < (↑(List.length r0) : Int)) then
        Option.bind
          (i_solutions
            [(Prod.fst (rdk kClue r0 s21),
                Prod.fst (Prod.snd (rdk kClue r0 s21)),
                Prod.snd (Prod.snd (rdk kClue r0 s21)))])
          fun r =>
          bif decide (least5 < 0) then g1 r0 s21 (↑(List.length r) : Int) s20 (IntKind.wrap IntKind.i64 (s21 + 1))
          else
            bif decide ((↑(List.length r) : Int) < least5) then g1 r0 s21 (↑(List.length r) : Int) s20 (IntKind.wrap IntKind.i64 (s21 + 1))
            else g1 r0 best4 least5 s20 (IntKind.wrap IntKind.i64 (s21 + 1))
      else none
    else none
  else some (best4, true)
noncomputable def i_BestClue_t0 (g1 : List (Int × (Int × Int)) → Int → Int → Int → Int → Option (Int × Bool)) (p0_Clues : List (Int × Int × Int)) : Option (Int × Bool) :=
  bif !i_IsPuzzle p0_Clues then some (0, false)
  else bif (↑(List.length p0_Clues) : Int) == 0 then some (0, false) else g1 p0_Clues 0 (-1) (↑(List.length p0_Clues) : Int) 0
theorem i_BestClue_ts : Tails c_i_BestClue.pts c_i_BestClue.round :=
  ⟨fun s => by
    obtain ⟨⟨r0, _⟩, ⟨best4, least5, _, s20, s21, _⟩, ⟨_, _⟩⟩ := s
    refine Tail.eq (Y := fun g => i_BestClue_t1 (fun r0 best4 least5 s20 s21 => g.1 ((r0, ()), (best4, least5, (), s20, s21, ()), ((), ()))) r0 best4 least5 s20 s21) ?_ (fun g => by kernel_rfl)
    simp only [i_BestClue_t1]; repeat (first | exact Tail.const _ | exact Tail.here _ | exact Tail.there (Tail.here _) | exact Tail.there (Tail.there (Tail.here _)) | exact Tail.there (Tail.there (Tail.there (Tail.here _))) | exact Tail.there (Tail.there (Tail.there (Tail.there (Tail.here _)))) | exact Tail.there (Tail.there (Tail.there (Tail.there (Tail.there (Tail.here _))))) | apply Tail.cond | (apply Tail.bind; intro _)), trivial⟩
theorem i_BestClue_hs : ∀ x, Tail c_i_BestClue.pts (fun g => c_i_BestClue.start g x) := fun x => by
    obtain ⟨p0_Clues, _⟩ := x
    refine Tail.eq (Y := fun g => i_BestClue_t0 (fun r0 best4 least5 s20 s21 => g.1 ((r0, ()), (best4, least5, (), s20, s21, ()), ((), ()))) p0_Clues) ?_ (fun g => by kernel_rfl)
    simp only [i_BestClue_t0]; repeat (first | exact Tail.const _ | exact Tail.here _ | exact Tail.there (Tail.here _) | exact Tail.there (Tail.there (Tail.here _)) | exact Tail.there (Tail.there (Tail.there (Tail.here _))) | exact Tail.there (Tail.there (Tail.there (Tail.there (Tail.here _)))) | exact Tail.there (Tail.there (Tail.there (Tail.there (Tail.there (Tail.here _))))) | apply Tail.cond | (apply Tail.bind; intro _))
noncomputable def i_BestClue_L1 (r0 : List (Int × (Int × Int))) (best4 : Int) (least5 : Int) (s20 : Int) (s21 : Int) : Option (Int × Bool) := c_i_BestClue.L.1 ((r0, ()), (best4, least5, (), s20, s21, ()), ((), ()))
theorem i_BestClue_u1 (r0 : List (Int × (Int × Int))) (best4 : Int) (least5 : Int) (s20 : Int) (s21 : Int) : i_BestClue_L1 r0 best4 least5 s20 s21 = i_BestClue_t1 i_BestClue_L1 r0 best4 least5 s20 s21 :=
  (congrArg (fun g => g.1 ((r0, ()), (best4, least5, (), s20, s21, ()), ((), ()))) (FnCx.L_eq i_BestClue_ts)).trans (by kernel_rfl)
noncomputable def i_BestClue (p0_Clues : List (Int × Int × Int)) : Option (Int × Bool) := i_BestClue_t0 i_BestClue_L1 p0_Clues
theorem i_BestClue_e (p0_Clues : List (Int × Int × Int)) : c_i_BestClue.start c_i_BestClue.L (p0_Clues, ()) = i_BestClue p0_Clues := by kernel_rfl
noncomputable def F_i_BestClue : Ins c_i_BestClue.ins → Option (Int × Bool) := fun x => i_BestClue x.1
noncomputable def S_i_BestClue : FSpec := mkF c_i_BestClue.env.pre c_i_BestClue.ins c_i_BestClue.out c_i_BestClue.inj F_i_BestClue
theorem h_i_BestClue : Cert Tryz.prog 19 S_i_BestClue := FnCx.certF (c := c_i_BestClue) F_i_BestClue (tyOk _ _ _) (spOk ⟨h_i_IsPuzzle, fun _ _ h => h, ⟨h_i_solutions, fun _ _ h => h, trivial⟩⟩) (fun _ _ _ _ _ hs => noDr_ok) Tryz.func19 rfl rfl Tryz.ntmps19 (by kernel_rfl) rfl rfl (fun _ => rfl) i_BestClue_ts i_BestClue_hs (fun x t hb ht => by
  obtain ⟨p0_Clues, _⟩ := x
  exact (i_BestClue_e p0_Clues).trans ht)
/-! spec.BestClue -/
noncomputable def c_s_BestClue : FnCx := { env := env 42 [(40, S_s_pzGood), (41, S_s_pzAll)] [], body := bodyOf Tryz.f20, res := [.tmp 2, .tmp 3], ins := [.ro kPuzzle], out := [(kint, true), (kbool, true)], T := Int × Bool, fin := fun r => (r.1.1, r.1.2.1), inj := fun t => ((t.1, t.2, ()), ((), ())), pts := [([.inLoop [1, 1, 1, 0, 1, 0, 0], .inBlock 0, .code [1, 1, 1, 1]], Shape.mk [Bs.box 24 [Cs.sl 1], Bs.row kClue 51 false] [(1, Ss.one (Cs.ptr 0 0)), (4, Ss.one (Cs.sc kint)), (5, Ss.one (Cs.sc kint)), (19, Ss.one (Cs.sc kint)), (20, Ss.one (Cs.sc kint))] [Ss.one (Cs.any)])], fuel := 400, dr := noDr }
noncomputable def s_BestClue_t1 (g1 : List (Int × (Int × Int)) → Int → Int → Int → Int → Option (Int × Bool)) (r1 : List (Int × (Int × Int))) (best4 : Int) (least5 : Int) (s19 : Int) (s20 : Int) : Option (Int × Bool) :=
  bif decide (s20 < s19) then
    bif decide (0 ≤ IntKind.wrap IntKind.i64 (s20 + 1)) then
      bif decide (IntKind.wrap IntKind.i64 (s20 + 1) ≤ (↑(List.length r1) : Int)) then
        bif decide (0 ≤ s20) then
          bif decide (s20 ≤ IntKind.wrap IntKind.i64 (s20 + 1)) then
            Option.bind (s_pzAll (List.take (Int.toNat (IntKind.wrap IntKind.i64 (s20 + 1)) - Int.toNat s20) (List.drop (Int.toNat s20) r1))) fun r =>
              bif s20 == 0 then g1 r1 s20 (↑(List.length r) : Int) s19 (IntKind.wrap IntKind.i64 (s20 + 1))
              else
                bif decide ((↑(List.length r) : Int) < least5) then g1 r1 s20 (↑(List.length r) : Int) s19 (IntKind.wrap IntKind.i64 (s20 + 1))
                else g1 r1 best4 least5 s19 (IntKind.wrap IntKind.i64 (s20 + 1))
          else none
        else none
      else none
    else none
  else some (best4, true)
noncomputable def s_BestClue_t0 (g1 : List (Int × (Int × Int)) → Int → Int → Int → Int → Option (Int × Bool)) (p0_Clues : List (Int × Int × Int)) : Option (Int × Bool) :=
  bif !s_pzGood_n p0_Clues then some (0, false)
  else bif (↑(List.length p0_Clues) : Int) == 0 then some (0, false) else g1 p0_Clues 0 0 (↑(List.length p0_Clues) : Int) 0
theorem s_BestClue_ts : Tails c_s_BestClue.pts c_s_BestClue.round :=
  ⟨fun s => by
    obtain ⟨⟨⟨_, _⟩, r1, _⟩, ⟨_, best4, least5, s19, s20, _⟩, ⟨_, _⟩⟩ := s
    refine Tail.eq (Y := fun g => s_BestClue_t1 (fun r1 best4 least5 s19 s20 => g.1 ((((), ()), r1, ()), ((), best4, least5, s19, s20, ()), ((), ()))) r1 best4 least5 s19 s20) ?_ (fun g => by kernel_rfl)
    simp only [s_BestClue_t1]; repeat (first | exact Tail.const _ | exact Tail.here _ | exact Tail.there (Tail.here _) | exact Tail.there (Tail.there (Tail.here _)) | exact Tail.there (Tail.there (Tail.there (Tail.here _))) | exact Tail.there (Tail.there (Tail.there (Tail.there (Tail.here _)))) | exact Tail.there (Tail.there (Tail.there (Tail.there (Tail.there (Tail.here _))))) | apply Tail.cond | (apply Tail.bind; intro _)), trivial⟩
theorem s_BestClue_hs : ∀ x, Tail c_s_BestClue.pts (fun g => c_s_BestClue.start g x) := fun x => by
    obtain ⟨p0_Clues, _⟩ := x
    refine Tail.eq (Y := fun g => s_BestClue_t0 (fun r1 best4 least5 s19 s20 => g.1 ((((), ()), r1, ()), ((), best4, least5, s19, s20, ()), ((), ()))) p0_Clues) ?_ (fun g => by kernel_rfl)
    simp only [s_BestClue_t0]; repeat (first | exact Tail.const _ | exact Tail.here _ | exact Tail.there (Tail.here _) | exact Tail.there (Tail.there (Tail.here _)) | exact Tail.there (Tail.there (Tail.there (Tail.here _))) | exact Tail.there (Tail.there (Tail.there (Tail.there (Tail.here _)))) | exact Tail.there (Tail.there (Tail.there (Tail.there (Tail.there (Tail.here _))))) | apply Tail.cond | (apply Tail.bind; intro _))
noncomputable def s_BestClue_L1 (r1 : List (Int × (Int × Int))) (best4 : Int) (least5 : Int) (s19 : Int) (s20 : Int) : Option (Int × Bool) := c_s_BestClue.L.1 ((((), ()), r1, ()), ((), best4, least5, s19, s20, ()), ((), ()))
theorem s_BestClue_u1 (r1 : List (Int × (Int × Int))) (best4 : Int) (least5 : Int) (s19 : Int) (s20 : Int) : s_BestClue_L1 r1 best4 least5 s19 s20 = s_BestClue_t1 s_BestClue_L1 r1 best4 least5 s19 s20 :=
  (congrArg (fun g => g.1 ((((), ()), r1, ()), ((), best4, least5, s19, s20, ()), ((), ()))) (FnCx.L_eq s_BestClue_ts)).trans (by kernel_rfl)
noncomputable def s_BestClue (p0_Clues : List (Int × Int × Int)) : Option (Int × Bool) := s_BestClue_t0 s_BestClue_L1 p0_Clues
theorem s_BestClue_e (p0_Clues : List (Int × Int × Int)) : c_s_BestClue.start c_s_BestClue.L (p0_Clues, ()) = s_BestClue p0_Clues := by kernel_rfl
noncomputable def F_s_BestClue : Ins c_s_BestClue.ins → Option (Int × Bool) := fun x => s_BestClue x.1
noncomputable def S_s_BestClue : FSpec := mkF c_s_BestClue.env.pre c_s_BestClue.ins c_s_BestClue.out c_s_BestClue.inj F_s_BestClue
theorem h_s_BestClue : Cert Tryz.prog 20 S_s_BestClue := FnCx.certF (c := c_s_BestClue) F_s_BestClue (tyOk _ _ _) (spOk ⟨h_s_pzGood, fun _ _ h => h, ⟨h_s_pzAll, fun _ _ h => h, trivial⟩⟩) (fun _ _ _ _ _ hs => noDr_ok) Tryz.func20 rfl rfl Tryz.ntmps20 (by kernel_rfl) rfl rfl (fun _ => rfl) s_BestClue_ts s_BestClue_hs (fun x t hb ht => by
  obtain ⟨p0_Clues, _⟩ := x
  exact (s_BestClue_e p0_Clues).trans ht)
/-! strconv.Itoa -/
noncomputable def strconv_Itoa (n : Int) : Option ByteArray := itoaF n
noncomputable def F_strconv_Itoa : Ins [.ro kint] → Option ByteArray := fun x => strconv_Itoa x.1
noncomputable def S_strconv_Itoa : FSpec := mkF (T := ByteArray) textPre [.ro kint] [(.str, true)] (fun t => ((t, ()), ((), ()))) F_strconv_Itoa
theorem h_strconv_Itoa : Cert Tryz.prog 78 S_strconv_Itoa := itoa_cert litoa rfl ⟨_, Tryz.func78, rfl, by kernel_rfl⟩ (by simp [textL])
/-! strings.Join -/
theorem xjoin : Builder.Extra Tryz.prog ljoin_ren where
  sizeBuilder := by kernel_rfl
  liesBuilder := by kernel_rfl
  t5 := Tryz.underlying5
  a5 := Tryz.isAgg5
  z5 := Tryz.sizeOf5
  v5 := Tryz.zeroValue5
  infoByte := by kernel_rfl
  cellsByte := by kernel_rfl
  sizeByte := by kernel_rfl
  neB5 := by decide
noncomputable def strings_Join (xs : List ByteArray) (s : ByteArray) : Option ByteArray := joinF xs s
noncomputable def F_strings_Join : Ins [.ro kSstring, .ro kstring] → Option ByteArray := fun x => strings_Join x.1 x.2.1
noncomputable def S_strings_Join : FSpec := mkF (T := ByteArray) textPre [.ro kSstring, .ro kstring] [(.str, true)] (fun t => ((t, ()), ((), (), ()))) F_strings_Join
theorem h_strings_Join : Cert Tryz.prog 48 S_strings_Join := join_cert rfl ljoin xjoin rfl ⟨_, Tryz.func48, rfl, by kernel_rfl⟩
/-! impl.joined -/
noncomputable def c_i_joined : FnCx := { env := env 24 [(78, S_strconv_Itoa), (48, S_strings_Join)] [], body := bodyOf Tryz.f47, res := [.tmp 4], ins := [.ro kSint, .ro kstring], out := [(kstring, true)], T := ByteArray, fin := fun r => r.1.1, inj := fun t => ((t, ()), ((), (), ())), pts := [([.inLoop [1, 1, 0, 1, 0, 0], .inBlock 0, .code [1, 1, 1]], Shape.mk [Bs.row kstring 9 true, Bs.row kint 3 false] [(1, Ss.one (Cs.sc kstring)), (5, Ss.one (Cs.sl 0)), (9, Ss.one (Cs.sl 1)), (10, Ss.one (Cs.sc kint)), (11, Ss.one (Cs.sc kint))] [Ss.one (Cs.any), Ss.one (Cs.any)])], fuel := 400, dr := noDr }
noncomputable def i_joined_t1 (g1 : List (ByteArray) → List (Int) → ByteArray → Int → Int → Option (ByteArray)) (r0 : List (ByteArray)) (r1 : List (Int)) (between1 : ByteArray) (s10 : Int) (s11 : Int) : Option ByteArray :=
  bif decide (s11 < s10) then
    bif decide (0 ≤ s11) then
      bif decide (s11 < (↑(List.length r1) : Int)) then
        Option.bind (strconv_Itoa (rdk kint r1 s11)) fun r =>
          bif Nat.ble (List.length r0 + 1) 4294967296 then g1 (r0 ++ [r]) r1 between1 s10 (IntKind.wrap IntKind.i64 (s11 + 1)) else none
      else none
    else none
  else Option.bind (strings_Join r0 between1) fun r => some r
noncomputable def i_joined_t0 (g1 : List (ByteArray) → List (Int) → ByteArray → Int → Int → Option (ByteArray)) (l0 : List Int) (between1 : ByteArray) : Option ByteArray :=
  g1 [] l0 between1 (↑(List.length l0) : Int) 0
theorem i_joined_ts : Tails c_i_joined.pts c_i_joined.round :=
  ⟨fun s => by
    obtain ⟨⟨r0, r1, _⟩, ⟨between1, _, _, s10, s11, _⟩, ⟨_, _, _⟩⟩ := s
    refine Tail.eq (Y := fun g => i_joined_t1 (fun r0 r1 between1 s10 s11 => g.1 ((r0, r1, ()), (between1, (), (), s10, s11, ()), ((), (), ()))) r0 r1 between1 s10 s11) ?_ (fun g => by kernel_rfl)
    simp only [i_joined_t1]; repeat (first | exact Tail.const _ | exact Tail.here _ | exact Tail.there (Tail.here _) | exact Tail.there (Tail.there (Tail.here _)) | exact Tail.there (Tail.there (Tail.there (Tail.here _))) | exact Tail.there (Tail.there (Tail.there (Tail.there (Tail.here _)))) | exact Tail.there (Tail.there (Tail.there (Tail.there (Tail.there (Tail.here _))))) | apply Tail.cond | (apply Tail.bind; intro _)), trivial⟩
theorem i_joined_hs : ∀ x, Tail c_i_joined.pts (fun g => c_i_joined.start g x) := fun x => by
    obtain ⟨l0, between1, _⟩ := x
    refine Tail.eq (Y := fun g => i_joined_t0 (fun r0 r1 between1 s10 s11 => g.1 ((r0, r1, ()), (between1, (), (), s10, s11, ()), ((), (), ()))) l0 between1) ?_ (fun g => by kernel_rfl)
    simp only [i_joined_t0]; repeat (first | exact Tail.const _ | exact Tail.here _ | exact Tail.there (Tail.here _) | exact Tail.there (Tail.there (Tail.here _)) | exact Tail.there (Tail.there (Tail.there (Tail.here _))) | exact Tail.there (Tail.there (Tail.there (Tail.there (Tail.here _)))) | exact Tail.there (Tail.there (Tail.there (Tail.there (Tail.there (Tail.here _))))) | apply Tail.cond | (apply Tail.bind; intro _))
noncomputable def i_joined_L1 (r0 : List (ByteArray)) (r1 : List (Int)) (between1 : ByteArray) (s10 : Int) (s11 : Int) : Option ByteArray := c_i_joined.L.1 ((r0, r1, ()), (between1, (), (), s10, s11, ()), ((), (), ()))
theorem i_joined_u1 (r0 : List (ByteArray)) (r1 : List (Int)) (between1 : ByteArray) (s10 : Int) (s11 : Int) : i_joined_L1 r0 r1 between1 s10 s11 = i_joined_t1 i_joined_L1 r0 r1 between1 s10 s11 :=
  (congrArg (fun g => g.1 ((r0, r1, ()), (between1, (), (), s10, s11, ()), ((), (), ()))) (FnCx.L_eq i_joined_ts)).trans (by kernel_rfl)
noncomputable def i_joined (l0 : List Int) (between1 : ByteArray) : Option ByteArray := i_joined_t0 i_joined_L1 l0 between1
theorem i_joined_e (l0 : List Int) (between1 : ByteArray) : c_i_joined.start c_i_joined.L (l0, between1, ()) = i_joined l0 between1 := by kernel_rfl
noncomputable def F_i_joined : Ins c_i_joined.ins → Option ByteArray := fun x => i_joined x.1 x.2.1
noncomputable def S_i_joined : FSpec := mkF c_i_joined.env.pre c_i_joined.ins c_i_joined.out c_i_joined.inj F_i_joined
theorem h_i_joined : Cert Tryz.prog 47 S_i_joined := FnCx.certF (c := c_i_joined) F_i_joined (tyOk _ _ _) (spOk ⟨h_strconv_Itoa, fun _ _ h => h, ⟨h_strings_Join, fun _ _ h => h, trivial⟩⟩) (fun _ _ _ _ _ hs => noDr_ok) Tryz.func47 rfl rfl Tryz.ntmps47 (by kernel_rfl) rfl rfl (fun _ => rfl) i_joined_ts i_joined_hs (fun x t hb ht => by
  obtain ⟨l0, between1, _⟩ := x
  exact (i_joined_e l0 between1).trans ht)
/-! impl.PuzzleText -/
noncomputable def c_i_PuzzleText : FnCx := { env := env 32 [(26, S_i_IsPuzzle), (47, S_i_joined), (48, S_strings_Join)] [], body := bodyOf Tryz.f21, res := [.tmp 2, .tmp 3], ins := [.ro kPuzzle], out := [(kstring, true), (kbool, true)], T := ByteArray × Bool, fin := fun r => (r.1.1, r.1.2.1), inj := fun t => ((t.1, t.2, ()), ((), ())), pts := [([.inLoop [1, 1, 1, 0, 1, 0, 0], .inBlock 0, .code [1, 1, 1, 1]], Shape.mk [Bs.row kstring 9 true, Bs.row kClue 51 false] [(4, Ss.one (Cs.sl 0)), (12, Ss.one (Cs.sl 1)), (13, Ss.one (Cs.sc kint)), (14, Ss.one (Cs.sc kint))] [Ss.one (Cs.any)])], fuel := 400, dr := noDr }
noncomputable def i_PuzzleText_t1 (g1 : List (ByteArray) → List (Int × (Int × Int)) → Int → Int → Option (ByteArray × Bool)) (r0 : List (ByteArray)) (r1 : List (Int × (Int × Int))) (s13 : Int) (s14 : Int) : Option (ByteArray × Bool) :=
  bif decide (s14 < s13) then
    bif decide (0 ≤ s14) then
      bif decide (s14 < (↑(List.length r1) : Int)) then
        Option.bind
          (i_joined
            [Prod.fst (rdk kClue r1 s14),
              Prod.fst (Prod.snd (rdk kClue r1 s14)),
              Prod.snd (Prod.snd (rdk kClue r1 s14))]
            { data := #[46] })
          fun r => bif Nat.ble (List.length r0 + 1) 4294967296 then g1 (r0 ++ [r]) r1 s13 (IntKind.wrap IntKind.i64 (s14 + 1)) else none
      else none
    else none
  else Option.bind (strings_Join r0 { data := #[44] }) fun r => some (r, true)
noncomputable def i_PuzzleText_t0 (g1 : List (ByteArray) → List (Int × (Int × Int)) → Int → Int → Option (ByteArray × Bool)) (p0_Clues : List (Int × Int × Int)) : Option (ByteArray × Bool) :=
  bif !i_IsPuzzle p0_Clues then some ({ data := #[] }, false) else g1 [] p0_Clues (↑(List.length p0_Clues) : Int) 0
theorem i_PuzzleText_ts : Tails c_i_PuzzleText.pts c_i_PuzzleText.round :=
  ⟨fun s => by
    obtain ⟨⟨r0, r1, _⟩, ⟨_, _, s13, s14, _⟩, ⟨_, _⟩⟩ := s
    refine Tail.eq (Y := fun g => i_PuzzleText_t1 (fun r0 r1 s13 s14 => g.1 ((r0, r1, ()), ((), (), s13, s14, ()), ((), ()))) r0 r1 s13 s14) ?_ (fun g => by kernel_rfl)
    simp only [i_PuzzleText_t1]; repeat (first | exact Tail.const _ | exact Tail.here _ | exact Tail.there (Tail.here _) | exact Tail.there (Tail.there (Tail.here _)) | exact Tail.there (Tail.there (Tail.there (Tail.here _))) | exact Tail.there (Tail.there (Tail.there (Tail.there (Tail.here _)))) | exact Tail.there (Tail.there (Tail.there (Tail.there (Tail.there (Tail.here _))))) | apply Tail.cond | (apply Tail.bind; intro _)), trivial⟩
theorem i_PuzzleText_hs : ∀ x, Tail c_i_PuzzleText.pts (fun g => c_i_PuzzleText.start g x) := fun x => by
    obtain ⟨p0_Clues, _⟩ := x
    refine Tail.eq (Y := fun g => i_PuzzleText_t0 (fun r0 r1 s13 s14 => g.1 ((r0, r1, ()), ((), (), s13, s14, ()), ((), ()))) p0_Clues) ?_ (fun g => by kernel_rfl)
    simp only [i_PuzzleText_t0]; repeat (first | exact Tail.const _ | exact Tail.here _ | exact Tail.there (Tail.here _) | exact Tail.there (Tail.there (Tail.here _)) | exact Tail.there (Tail.there (Tail.there (Tail.here _))) | exact Tail.there (Tail.there (Tail.there (Tail.there (Tail.here _)))) | exact Tail.there (Tail.there (Tail.there (Tail.there (Tail.there (Tail.here _))))) | apply Tail.cond | (apply Tail.bind; intro _))
noncomputable def i_PuzzleText_L1 (r0 : List (ByteArray)) (r1 : List (Int × (Int × Int))) (s13 : Int) (s14 : Int) : Option (ByteArray × Bool) := c_i_PuzzleText.L.1 ((r0, r1, ()), ((), (), s13, s14, ()), ((), ()))
theorem i_PuzzleText_u1 (r0 : List (ByteArray)) (r1 : List (Int × (Int × Int))) (s13 : Int) (s14 : Int) : i_PuzzleText_L1 r0 r1 s13 s14 = i_PuzzleText_t1 i_PuzzleText_L1 r0 r1 s13 s14 :=
  (congrArg (fun g => g.1 ((r0, r1, ()), ((), (), s13, s14, ()), ((), ()))) (FnCx.L_eq i_PuzzleText_ts)).trans (by kernel_rfl)
noncomputable def i_PuzzleText (p0_Clues : List (Int × Int × Int)) : Option (ByteArray × Bool) := i_PuzzleText_t0 i_PuzzleText_L1 p0_Clues
theorem i_PuzzleText_e (p0_Clues : List (Int × Int × Int)) : c_i_PuzzleText.start c_i_PuzzleText.L (p0_Clues, ()) = i_PuzzleText p0_Clues := by kernel_rfl
noncomputable def F_i_PuzzleText : Ins c_i_PuzzleText.ins → Option (ByteArray × Bool) := fun x => i_PuzzleText x.1
noncomputable def S_i_PuzzleText : FSpec := mkF c_i_PuzzleText.env.pre c_i_PuzzleText.ins c_i_PuzzleText.out c_i_PuzzleText.inj F_i_PuzzleText
theorem h_i_PuzzleText : Cert Tryz.prog 21 S_i_PuzzleText := FnCx.certF (c := c_i_PuzzleText) F_i_PuzzleText (tyOk _ _ _) (spOk ⟨h_i_IsPuzzle, fun _ _ h => h, ⟨h_i_joined, fun _ _ h => h, ⟨h_strings_Join, fun _ _ h => h, trivial⟩⟩⟩) (fun _ _ _ _ _ hs => noDr_ok) Tryz.func21 rfl rfl Tryz.ntmps21 (by kernel_rfl) rfl rfl (fun _ => rfl) i_PuzzleText_ts i_PuzzleText_hs (fun x t hb ht => by
  obtain ⟨p0_Clues, _⟩ := x
  exact (i_PuzzleText_e p0_Clues).trans ht)
/-! spec.l1Num -/
noncomputable def SR_s_l1Num (RR : Int → Option (ByteArray)) : FSpec := mkF (T := ByteArray) textPre [.ro kint] [(kstring, true)] (fun t => ((t, ()), ((), ()))) (fun x => RR x.1)
noncomputable def c_s_l1Num (RR : Int → Option (ByteArray)) : FnCx := { env := env 20 [(82, SR_s_l1Num RR)] [], body := bodyOf Tryz.f82, res := [.tmp 2], ins := [.ro kint], out := [(kstring, true)], T := ByteArray, fin := fun r => r.1.1, inj := fun t => ((t, ()), ((), ())), pts := [], fuel := 400, dr := evDr (env 20 [(82, SR_s_l1Num RR)] []) }
noncomputable def s_l1Num (RR : Int → Option (ByteArray)) (n0 : Int) : Option ByteArray :=
  bif decide (n0 < 10) then
    some (List.foldl (fun r n => ByteArray.push r (UInt8.ofNat (Int.toNat n))) ByteArray.empty [IntKind.wrap IntKind.u8 (IntKind.wrap IntKind.i64 (48 + n0))])
  else
    Option.bind (RR (IntKind.wrap IntKind.i64 (Int.tdiv n0 10))) fun r =>
      bif
          Nat.ble
            (ByteArray.size r +
              ByteArray.size
                (List.foldl (fun r n => ByteArray.push r (UInt8.ofNat (Int.toNat n))) ByteArray.empty
                  [IntKind.wrap IntKind.u8 (IntKind.wrap IntKind.i64 (48 + Int.tmod n0 10))]))
            9223372036854775807 then
        some
          (r ++
            List.foldl (fun r n => ByteArray.push r (UInt8.ofNat (Int.toNat n))) ByteArray.empty
              [IntKind.wrap IntKind.u8 (IntKind.wrap IntKind.i64 (48 + Int.tmod n0 10))])
      else none
theorem s_l1Num_e (RR : Int → Option (ByteArray)) (n0 : Int) : (c_s_l1Num RR).start (c_s_l1Num RR).L (n0, ()) = (s_l1Num RR) n0 := by kernel_rfl
noncomputable def s_l1Num_it : Nat → Int → Option (ByteArray) := fun n => Nat.rec (fun _ => none) (fun _ RR => s_l1Num RR) n
theorem s_l1Num_is (n : Nat) (n0 : Int) : s_l1Num_it (n + 1) n0 = s_l1Num (s_l1Num_it n) n0 := rfl
theorem hh_s_l1Num : ∀ n, Cert Tryz.prog 82 (SR_s_l1Num (s_l1Num_it n))
  | 0 => cert_none Tryz.func82 rfl (by kernel_rfl) rfl rfl
  | n + 1 => FnCx.certF (c := c_s_l1Num (s_l1Num_it n)) (fun x => s_l1Num_it (n + 1) x.1) (tyOk _ _ _) (spOk ⟨hh_s_l1Num n, fun _ _ h => h, trivial⟩) (fun _ _ _ _ _ hs => evDr_ok (tyOk _ _ _) hs follows) Tryz.func82 rfl rfl Tryz.ntmps82 (by kernel_rfl) rfl rfl (fun _ => rfl) trivial (fun x => .inl ⟨(c_s_l1Num (s_l1Num_it n)).start () x, fun _ => rfl⟩) (fun x t hb ht => by
    obtain ⟨n0, _⟩ := x
    exact (s_l1Num_e (s_l1Num_it n) n0).trans ht)
-- NICE rec
theorem wrapU8 {n : Int} (h1 : 0 ≤ n) (h2 : n ≤ 255) : IntKind.wrap .u8 n = n := by
  unfold IntKind.wrap
  simp [IntKind.signed, IntKind.bits]
  omega
theorem bytes_app (a b : List UInt8) : (⟨a.toArray⟩ : ByteArray) ++ ⟨b.toArray⟩ = ⟨(a ++ b).toArray⟩ := ByteArray.ext (by rw [ByteArray.data_append]; simp)
theorem dec_len : ∀ u : Nat, (Lib.decDigits u).length ≤ u + 1 := by
  intro u
  induction u using Nat.strongRecOn with
  | ind u ih =>
    rw [Lib.decDigits]
    by_cases h : u < 10
    · rw [dif_pos h]; simp
    · rw [dif_neg h]
      have := ih (u / 10) (by omega)
      rw [List.length_append, List.length_singleton]; omega
theorem itoa_nat (n : Nat) : Lib.itoa (n : Int) = Lib.decDigits n := by
  unfold Lib.itoa
  rw [if_neg (by omega), Int.toNat_natCast]
theorem digit_eq {m : Nat} (h : m < 10) : List.foldl (fun r n => ByteArray.push r (UInt8.ofNat (Int.toNat n))) ByteArray.empty [IntKind.wrap .u8 (IntKind.wrap .i64 (48 + (m : Int)))] = ⟨([UInt8.ofNat (48 + m)] : List UInt8).toArray⟩ := by
  rw [wrapI (n := 48 + (m : Int)) (by omega) (by omega), wrapU8 (by omega) (by omega), show (48 + (m : Int)) = ((48 + m : Nat) : Int) by omega]
  simp only [List.foldl_cons, List.foldl_nil, Int.toNat_natCast]
  rfl
theorem num_it : ∀ (k n : Nat), n < k → n ≤ 4000000000000000000 → s_l1Num_it k (n : Int) = some ⟨(Lib.decDigits n).toArray⟩
  | 0, n, h, _ => by omega
  | k + 1, n, h, hn => by
    rw [s_l1Num_is, s_l1Num]
    by_cases h10 : n < 10
    · rw [decide_eq_true (show (n : Int) < 10 by omega), cond_true, digit_eq h10, Lib.decDigits, dif_pos h10]
    · have hm : Int.tmod (n : Int) 10 = ((n % 10 : Nat) : Int) := by rw [Int.tmod_eq_emod_of_nonneg (by omega)]; rfl
      have hd : Int.tdiv (n : Int) 10 = ((n / 10 : Nat) : Int) := by rw [Int.tdiv_eq_ediv_of_nonneg (by omega)]; rfl
      have ih := num_it k (n / 10) (by omega) (by omega)
      have hl := dec_len (n / 10)
      rw [decide_eq_false (show ¬ (n : Int) < 10 by omega), cond_false, hd, hm, wrapI (n := ((n / 10 : Nat) : Int)) (by omega) (by omega), ih, Option.bind_some, digit_eq (Nat.mod_lt n (by omega)), ble_dec, decide_eq_true, cond_true, bytes_app, Lib.decDigits.eq_def n, dif_neg h10]
      show (Lib.decDigits (n / 10)).toArray.size + 1 ≤ _
      simp; omega
noncomputable def s_l1Num_n (n : Int) : Option ByteArray := bif decide (0 ≤ n) && decide (n ≤ 4000000000000000000) then some ⟨(Lib.itoa n).toArray⟩ else none
theorem s_l1Num_ok (n : Int) (t : ByteArray) (h : s_l1Num_n n = some t) : ∃ k, s_l1Num_it k n = some t := by
  unfold s_l1Num_n at h
  cases hc : decide (0 ≤ n) && decide (n ≤ 4000000000000000000)
  · rw [hc] at h; cases h
  · rw [hc, cond_true] at h
    cases h
    rw [Bool.and_eq_true, decide_eq_true_eq, decide_eq_true_eq] at hc
    obtain ⟨m, rfl⟩ := Int.eq_ofNat_of_zero_le hc.1
    exact ⟨m + 1, by rw [num_it (m + 1) m (by omega) (by omega), itoa_nat]⟩
noncomputable def F_s_l1Num : Ins [.ro kint] → Option ByteArray := fun x => s_l1Num_n x.1
noncomputable def S_s_l1Num : FSpec := mkF (T := ByteArray) textPre [.ro kint] [(kstring, true)] (fun t => ((t, ()), ((), ()))) F_s_l1Num
theorem h_s_l1Num : Cert Tryz.prog 82 S_s_l1Num := cert_lim hh_s_l1Num (fun x t hb ht => by
  obtain ⟨n0, _⟩ := x
  exact s_l1Num_ok n0 t ht)
/-! spec.pzText -/
noncomputable def c_s_pzText : FnCx := { env := env 35 [(82, S_s_l1Num)] [], body := bodyOf Tryz.f49, res := [.tmp 2], ins := [.ro kPuzzle], out := [(kstring, true)], T := ByteArray, fin := fun r => r.1.1, inj := fun t => ((t, ()), ((), ())), pts := [([.inLoop [1, 1, 0, 1, 0, 0], .inBlock 0, .code [1, 1, 1]], Shape.mk [Bs.row kClue 51 false] [(3, Ss.one (Cs.sc kstring)), (7, Ss.one (Cs.sl 0)), (8, Ss.one (Cs.sc kint)), (9, Ss.one (Cs.sc kint))] [Ss.one (Cs.any)])], fuel := 400, dr := evDr (env 35 [(82, S_s_l1Num)] []) }
noncomputable def s_pzText_t1 (g1 : List (Int × (Int × Int)) → ByteArray → Int → Int → Option (ByteArray)) (r0 : List (Int × (Int × Int))) (out3 : ByteArray) (s8 : Int) (s9 : Int) : Option ByteArray :=
  bif decide (s9 < s8) then
    bif decide (0 ≤ s9) then
      bif decide (s9 < (↑(List.length r0) : Int)) then
        bif decide (s9 > 0) then
          bif Nat.ble (ByteArray.size out3 + ByteArray.size { data := #[44] }) 9223372036854775807 then
            Option.bind (s_l1Num_n (Prod.fst (rdk kClue r0 s9))) fun r =>
              bif Nat.ble (ByteArray.size r + ByteArray.size { data := #[46] }) 9223372036854775807 then
                Option.bind
                  (s_l1Num_n (Prod.fst (Prod.snd (rdk kClue r0 s9))))
                  fun r_1 =>
                  bif Nat.ble (ByteArray.size (r ++ { data := #[46] }) + ByteArray.size r_1) 9223372036854775807 then
                    bif Nat.ble (ByteArray.size (r ++ { data := #[46] } ++ r_1) + ByteArray.size { data := #[46] }) 9223372036854775807 then
                      Option.bind
                        (s_l1Num_n (Prod.snd (Prod.snd (rdk kClue r0 s9))))
                        fun r_2 =>
                        bif Nat.ble (ByteArray.size (r ++ { data := #[46] } ++ r_1 ++ { data := #[46] }) + ByteArray.size r_2) 9223372036854775807 then
                          bif
                              Nat.ble (ByteArray.size (out3 ++ { data := #[44] }) + ByteArray.size (r ++ { data := #[46] } ++ r_1 ++ { data := #[46] } ++ r_2))
                                9223372036854775807 then
                            g1 r0 (out3 ++ { data := #[44] } ++ (r ++ { data := #[46] } ++ r_1 ++ { data := #[46] } ++ r_2)) s8
                              (IntKind.wrap IntKind.i64 (s9 + 1))
                          else none
                        else none
                    else none
                  else none
              else none
          else none
        else
          Option.bind (s_l1Num_n (Prod.fst (rdk kClue r0 s9))) fun r =>
            bif Nat.ble (ByteArray.size r + ByteArray.size { data := #[46] }) 9223372036854775807 then
              Option.bind (s_l1Num_n (Prod.fst (Prod.snd (rdk kClue r0 s9))))
                fun r_1 =>
                bif Nat.ble (ByteArray.size (r ++ { data := #[46] }) + ByteArray.size r_1) 9223372036854775807 then
                  bif Nat.ble (ByteArray.size (r ++ { data := #[46] } ++ r_1) + ByteArray.size { data := #[46] }) 9223372036854775807 then
                    Option.bind
                      (s_l1Num_n (Prod.snd (Prod.snd (rdk kClue r0 s9))))
                      fun r_2 =>
                      bif Nat.ble (ByteArray.size (r ++ { data := #[46] } ++ r_1 ++ { data := #[46] }) + ByteArray.size r_2) 9223372036854775807 then
                        bif Nat.ble (ByteArray.size out3 + ByteArray.size (r ++ { data := #[46] } ++ r_1 ++ { data := #[46] } ++ r_2)) 9223372036854775807 then
                          g1 r0 (out3 ++ (r ++ { data := #[46] } ++ r_1 ++ { data := #[46] } ++ r_2)) s8 (IntKind.wrap IntKind.i64 (s9 + 1))
                        else none
                      else none
                  else none
                else none
            else none
      else none
    else none
  else some out3
noncomputable def s_pzText_t0 (g1 : List (Int × (Int × Int)) → ByteArray → Int → Int → Option (ByteArray)) (p0_Clues : List (Int × Int × Int)) : Option ByteArray :=
  g1 p0_Clues { data := #[] } (↑(List.length p0_Clues) : Int) 0
theorem s_pzText_ts : Tails c_s_pzText.pts c_s_pzText.round :=
  ⟨fun s => by
    obtain ⟨⟨r0, _⟩, ⟨out3, _, s8, s9, _⟩, ⟨_, _⟩⟩ := s
    refine Tail.eq (Y := fun g => s_pzText_t1 (fun r0 out3 s8 s9 => g.1 ((r0, ()), (out3, (), s8, s9, ()), ((), ()))) r0 out3 s8 s9) ?_ (fun g => by kernel_rfl)
    simp only [s_pzText_t1]; repeat (first | apply Tail.cond | (apply Tail.bind; intro _) | exact Tail.here _ | exact Tail.there (Tail.here _) | exact Tail.there (Tail.there (Tail.here _)) | exact Tail.there (Tail.there (Tail.there (Tail.here _))) | exact Tail.there (Tail.there (Tail.there (Tail.there (Tail.here _)))) | exact Tail.there (Tail.there (Tail.there (Tail.there (Tail.there (Tail.here _))))) | exact Tail.const _), trivial⟩
theorem s_pzText_hs : ∀ x, Tail c_s_pzText.pts (fun g => c_s_pzText.start g x) := fun x => by
    obtain ⟨p0_Clues, _⟩ := x
    refine Tail.eq (Y := fun g => s_pzText_t0 (fun r0 out3 s8 s9 => g.1 ((r0, ()), (out3, (), s8, s9, ()), ((), ()))) p0_Clues) ?_ (fun g => by kernel_rfl)
    simp only [s_pzText_t0]; repeat (first | apply Tail.cond | (apply Tail.bind; intro _) | exact Tail.here _ | exact Tail.there (Tail.here _) | exact Tail.there (Tail.there (Tail.here _)) | exact Tail.there (Tail.there (Tail.there (Tail.here _))) | exact Tail.there (Tail.there (Tail.there (Tail.there (Tail.here _)))) | exact Tail.there (Tail.there (Tail.there (Tail.there (Tail.there (Tail.here _))))) | exact Tail.const _)
noncomputable def s_pzText_L1 (r0 : List (Int × (Int × Int))) (out3 : ByteArray) (s8 : Int) (s9 : Int) : Option ByteArray := c_s_pzText.L.1 ((r0, ()), (out3, (), s8, s9, ()), ((), ()))
theorem s_pzText_u1 (r0 : List (Int × (Int × Int))) (out3 : ByteArray) (s8 : Int) (s9 : Int) : s_pzText_L1 r0 out3 s8 s9 = s_pzText_t1 s_pzText_L1 r0 out3 s8 s9 :=
  (congrArg (fun g => g.1 ((r0, ()), (out3, (), s8, s9, ()), ((), ()))) (FnCx.L_eq s_pzText_ts)).trans (by kernel_rfl)
noncomputable def s_pzText (p0_Clues : List (Int × Int × Int)) : Option ByteArray := s_pzText_t0 s_pzText_L1 p0_Clues
theorem s_pzText_e (p0_Clues : List (Int × Int × Int)) : c_s_pzText.start c_s_pzText.L (p0_Clues, ()) = s_pzText p0_Clues := by kernel_rfl
noncomputable def F_s_pzText : Ins c_s_pzText.ins → Option ByteArray := fun x => s_pzText x.1
noncomputable def S_s_pzText : FSpec := mkF c_s_pzText.env.pre c_s_pzText.ins c_s_pzText.out c_s_pzText.inj F_s_pzText
theorem h_s_pzText : Cert Tryz.prog 49 S_s_pzText := FnCx.certF (c := c_s_pzText) F_s_pzText (tyOk _ _ _) (spOk ⟨h_s_l1Num, fun _ _ h => h, trivial⟩) (fun _ _ _ _ _ hs => evDr_ok (tyOk _ _ _) hs follows) Tryz.func49 rfl rfl Tryz.ntmps49 (by kernel_rfl) rfl rfl (fun _ => rfl) s_pzText_ts s_pzText_hs (fun x t hb ht => by
  obtain ⟨p0_Clues, _⟩ := x
  exact (s_pzText_e p0_Clues).trans ht)
/-! spec.PuzzleText -/
noncomputable def c_s_PuzzleText : FnCx := { env := env 9 [(40, S_s_pzGood), (49, S_s_pzText)] [], body := bodyOf Tryz.f22, res := [.tmp 2, .tmp 3], ins := [.ro kPuzzle], out := [(kstring, true), (kbool, true)], T := ByteArray × Bool, fin := fun r => (r.1.1, r.1.2.1), inj := fun t => ((t.1, t.2, ()), ((), ())), pts := [], fuel := 400, dr := noDr }
noncomputable def s_PuzzleText (p0_Clues : List (Int × Int × Int)) : Option (ByteArray × Bool) :=
  bif !s_pzGood_n p0_Clues then some ({ data := #[] }, false) else Option.bind (s_pzText p0_Clues) fun r => some (r, true)
theorem s_PuzzleText_e (p0_Clues : List (Int × Int × Int)) : c_s_PuzzleText.start c_s_PuzzleText.L (p0_Clues, ()) = s_PuzzleText p0_Clues := by kernel_rfl
noncomputable def F_s_PuzzleText : Ins c_s_PuzzleText.ins → Option (ByteArray × Bool) := fun x => s_PuzzleText x.1
noncomputable def S_s_PuzzleText : FSpec := mkF c_s_PuzzleText.env.pre c_s_PuzzleText.ins c_s_PuzzleText.out c_s_PuzzleText.inj F_s_PuzzleText
theorem h_s_PuzzleText : Cert Tryz.prog 22 S_s_PuzzleText := FnCx.certF (c := c_s_PuzzleText) F_s_PuzzleText (tyOk _ _ _) (spOk ⟨h_s_pzGood, fun _ _ h => h, ⟨h_s_pzText, fun _ _ h => h, trivial⟩⟩) (fun _ _ _ _ _ hs => noDr_ok) Tryz.func22 rfl rfl Tryz.ntmps22 (by kernel_rfl) rfl rfl (fun _ => rfl) trivial (fun x => .inl ⟨c_s_PuzzleText.start () x, fun _ => rfl⟩) (fun x t hb ht => by
  obtain ⟨p0_Clues, _⟩ := x
  exact (s_PuzzleText_e p0_Clues).trans ht)
/-! laws.wSame -/
noncomputable def c_w_wSame : FnCx := { env := env 26 [] [], body := bodyOf Tryz.f25, res := [.tmp 4], ins := [.ro kSint, .ro kSint], out := [(kbool, true)], T := Bool, fin := fun r => r.1.1, inj := fun t => ((t, ()), ((), (), ())), pts := [([.inLoop [1, 1, 0, 1, 0, 0], .inBlock 0, .code [1, 1, 1]], Shape.mk [Bs.row kint 3 false, Bs.row kint 3 false] [(0, Ss.one (Cs.sl 0)), (1, Ss.one (Cs.sl 1)), (12, Ss.one (Cs.sc kint)), (13, Ss.one (Cs.sc kint))] [Ss.one (Cs.any), Ss.one (Cs.any)])], fuel := 400, dr := evDr (env 26 [] []) }
noncomputable def w_wSame_t1 (g1 : List (Int) → List (Int) → Int → Int → Option (Bool)) (r0 : List (Int)) (r1 : List (Int)) (s12 : Int) (s13 : Int) : Option Bool :=
  bif decide (s13 < s12) then
    bif decide (0 ≤ s13) then
      bif decide (s13 < (↑(List.length r0) : Int)) then
        bif decide (0 ≤ s13) then
          bif decide (s13 < (↑(List.length r1) : Int)) then
            bif rdk kint r0 s13 != rdk kint r1 s13 then some false else g1 r0 r1 s12 (IntKind.wrap IntKind.i64 (s13 + 1))
          else none
        else none
      else none
    else none
  else some true
noncomputable def w_wSame_t0 (g1 : List (Int) → List (Int) → Int → Int → Option (Bool)) (a0 : List Int) (b1 : List Int) : Option Bool :=
  bif (↑(List.length a0) : Int) != (↑(List.length b1) : Int) then some false else g1 a0 b1 (↑(List.length a0) : Int) 0
theorem w_wSame_ts : Tails c_w_wSame.pts c_w_wSame.round :=
  ⟨fun s => by
    obtain ⟨⟨r0, r1, _⟩, ⟨_, _, s12, s13, _⟩, ⟨_, _, _⟩⟩ := s
    refine Tail.eq (Y := fun g => w_wSame_t1 (fun r0 r1 s12 s13 => g.1 ((r0, r1, ()), ((), (), s12, s13, ()), ((), (), ()))) r0 r1 s12 s13) ?_ (fun g => by kernel_rfl)
    simp only [w_wSame_t1]; repeat (first | exact Tail.const _ | exact Tail.here _ | exact Tail.there (Tail.here _) | exact Tail.there (Tail.there (Tail.here _)) | exact Tail.there (Tail.there (Tail.there (Tail.here _))) | exact Tail.there (Tail.there (Tail.there (Tail.there (Tail.here _)))) | exact Tail.there (Tail.there (Tail.there (Tail.there (Tail.there (Tail.here _))))) | apply Tail.cond | (apply Tail.bind; intro _)), trivial⟩
theorem w_wSame_hs : ∀ x, Tail c_w_wSame.pts (fun g => c_w_wSame.start g x) := fun x => by
    obtain ⟨a0, b1, _⟩ := x
    refine Tail.eq (Y := fun g => w_wSame_t0 (fun r0 r1 s12 s13 => g.1 ((r0, r1, ()), ((), (), s12, s13, ()), ((), (), ()))) a0 b1) ?_ (fun g => by kernel_rfl)
    simp only [w_wSame_t0]; repeat (first | exact Tail.const _ | exact Tail.here _ | exact Tail.there (Tail.here _) | exact Tail.there (Tail.there (Tail.here _)) | exact Tail.there (Tail.there (Tail.there (Tail.here _))) | exact Tail.there (Tail.there (Tail.there (Tail.there (Tail.here _)))) | exact Tail.there (Tail.there (Tail.there (Tail.there (Tail.there (Tail.here _))))) | apply Tail.cond | (apply Tail.bind; intro _))
noncomputable def w_wSame_L1 (r0 : List (Int)) (r1 : List (Int)) (s12 : Int) (s13 : Int) : Option Bool := c_w_wSame.L.1 ((r0, r1, ()), ((), (), s12, s13, ()), ((), (), ()))
theorem w_wSame_u1 (r0 : List (Int)) (r1 : List (Int)) (s12 : Int) (s13 : Int) : w_wSame_L1 r0 r1 s12 s13 = w_wSame_t1 w_wSame_L1 r0 r1 s12 s13 :=
  (congrArg (fun g => g.1 ((r0, r1, ()), ((), (), s12, s13, ()), ((), (), ()))) (FnCx.L_eq w_wSame_ts)).trans (by kernel_rfl)
noncomputable def w_wSame (a0 : List Int) (b1 : List Int) : Option Bool := w_wSame_t0 w_wSame_L1 a0 b1
theorem w_wSame_e (a0 : List Int) (b1 : List Int) : c_w_wSame.start c_w_wSame.L (a0, b1, ()) = w_wSame a0 b1 := by kernel_rfl
noncomputable def F_w_wSame : Ins c_w_wSame.ins → Option Bool := fun x => w_wSame x.1 x.2.1
noncomputable def S_w_wSame : FSpec := mkF c_w_wSame.env.pre c_w_wSame.ins c_w_wSame.out c_w_wSame.inj F_w_wSame
theorem h_w_wSame : Cert Tryz.prog 25 S_w_wSame := FnCx.certF (c := c_w_wSame) F_w_wSame (tyOk _ _ _) (spOk trivial) (fun _ _ _ _ _ hs => evDr_ok (tyOk _ _ _) hs follows) Tryz.func25 rfl rfl Tryz.ntmps25 (by kernel_rfl) rfl rfl (fun _ => rfl) w_wSame_ts w_wSame_hs (fun x t hb ht => by
  obtain ⟨a0, b1, _⟩ := x
  exact (w_wSame_e a0 b1).trans ht)
/-! laws.wStairs -/
noncomputable def c_w_wStairs : FnCx := { env := env 24 [(25, S_w_wSame)] [], body := bodyOf Tryz.f24, res := [.tmp 4], ins := [.ro kStairs, .ro kStairs], out := [(kbool, true)], T := Bool, fin := fun r => r.1.1, inj := fun t => ((t, ()), ((), (), ())), pts := [], fuel := 400, dr := noDr }
noncomputable def w_wStairs (a0_Steps : Int) (a0_Strides : List Int) (a0_Broken : List Int) (b1_Steps : Int) (b1_Strides : List Int) (b1_Broken : List Int) : Option Bool :=
  bif a0_Steps == b1_Steps then
    Option.bind (w_wSame a0_Strides b1_Strides) fun r => bif r then Option.bind (w_wSame a0_Broken b1_Broken) fun r => some r else some false
  else some false
theorem w_wStairs_e (a0_Steps : Int) (a0_Strides : List Int) (a0_Broken : List Int) (b1_Steps : Int) (b1_Strides : List Int) (b1_Broken : List Int) : c_w_wStairs.start c_w_wStairs.L ((a0_Steps, a0_Strides, a0_Broken), (b1_Steps, b1_Strides, b1_Broken), ()) = w_wStairs a0_Steps a0_Strides a0_Broken b1_Steps b1_Strides b1_Broken := by kernel_rfl
noncomputable def F_w_wStairs : Ins c_w_wStairs.ins → Option Bool := fun x => w_wStairs x.1.1 x.1.2.1 x.1.2.2 x.2.1.1 x.2.1.2.1 x.2.1.2.2
noncomputable def S_w_wStairs : FSpec := mkF c_w_wStairs.env.pre c_w_wStairs.ins c_w_wStairs.out c_w_wStairs.inj F_w_wStairs
theorem h_w_wStairs : Cert Tryz.prog 24 S_w_wStairs := FnCx.certF (c := c_w_wStairs) F_w_wStairs (tyOk _ _ _) (spOk ⟨h_w_wSame, fun _ _ h => h, trivial⟩) (fun _ _ _ _ _ hs => noDr_ok) Tryz.func24 rfl rfl Tryz.ntmps24 (by kernel_rfl) rfl rfl (fun _ => rfl) trivial (fun x => .inl ⟨c_w_wStairs.start () x, fun _ => rfl⟩) (fun x t hb ht => by
  obtain ⟨⟨a0_Steps, a0_Strides, a0_Broken⟩, ⟨b1_Steps, b1_Strides, b1_Broken⟩, _⟩ := x
  exact (w_wStairs_e a0_Steps a0_Strides a0_Broken b1_Steps b1_Strides b1_Broken).trans ht)
/-! laws.wLists -/
noncomputable def c_w_wLists : FnCx := { env := env 27 [(24, S_w_wStairs)] [], body := bodyOf Tryz.f23, res := [.tmp 4], ins := [.ro kSStairs, .ro kSStairs], out := [(kbool, true)], T := Bool, fin := fun r => r.1.1, inj := fun t => ((t, ()), ((), (), ())), pts := [([.inLoop [1, 1, 0, 1, 0, 0], .inBlock 0, .code [1, 1, 1]], Shape.mk [Bs.row kStairs 32 false, Bs.row kStairs 32 false] [(0, Ss.one (Cs.sl 0)), (1, Ss.one (Cs.sl 1)), (12, Ss.one (Cs.sc kint)), (13, Ss.one (Cs.sc kint))] [Ss.one (Cs.any), Ss.one (Cs.any)])], fuel := 400, dr := evDr (env 27 [(24, S_w_wStairs)] []) }
noncomputable def w_wLists_t1 (g1 : List ((Int × (List (Int) × List (Int)))) → List ((Int × (List (Int) × List (Int)))) → Int → Int → Option (Bool)) (r0 : List ((Int × (List (Int) × List (Int))))) (r1 : List ((Int × (List (Int) × List (Int))))) (s12 : Int) (s13 : Int) : Option Bool :=
  bif decide (s13 < s12) then
    bif decide (0 ≤ s13) then
      bif decide (s13 < (↑(List.length r0) : Int)) then
        bif decide (0 ≤ s13) then
          bif decide (s13 < (↑(List.length r1) : Int)) then
            Option.bind
              (w_wStairs (Prod.fst (rdk kStairs r0 s13))
                (Prod.fst (Prod.snd (rdk kStairs r0 s13)))
                (Prod.snd (Prod.snd (rdk kStairs r0 s13)))
                (Prod.fst (rdk kStairs r1 s13))
                (Prod.fst (Prod.snd (rdk kStairs r1 s13)))
                (Prod.snd (Prod.snd (rdk kStairs r1 s13))))
              fun r => bif !r then some false else g1 r0 r1 s12 (IntKind.wrap IntKind.i64 (s13 + 1))
          else none
        else none
      else none
    else none
  else some true
noncomputable def w_wLists_t0 (g1 : List ((Int × (List (Int) × List (Int)))) → List ((Int × (List (Int) × List (Int)))) → Int → Int → Option (Bool)) (a0 : List ((Int × List Int × List Int))) (b1 : List ((Int × List Int × List Int))) : Option Bool :=
  bif (↑(List.length a0) : Int) != (↑(List.length b1) : Int) then some false else g1 a0 b1 (↑(List.length a0) : Int) 0
theorem w_wLists_ts : Tails c_w_wLists.pts c_w_wLists.round :=
  ⟨fun s => by
    obtain ⟨⟨r0, r1, _⟩, ⟨_, _, s12, s13, _⟩, ⟨_, _, _⟩⟩ := s
    refine Tail.eq (Y := fun g => w_wLists_t1 (fun r0 r1 s12 s13 => g.1 ((r0, r1, ()), ((), (), s12, s13, ()), ((), (), ()))) r0 r1 s12 s13) ?_ (fun g => by kernel_rfl)
    simp only [w_wLists_t1]; repeat (first | exact Tail.const _ | exact Tail.here _ | exact Tail.there (Tail.here _) | exact Tail.there (Tail.there (Tail.here _)) | exact Tail.there (Tail.there (Tail.there (Tail.here _))) | exact Tail.there (Tail.there (Tail.there (Tail.there (Tail.here _)))) | exact Tail.there (Tail.there (Tail.there (Tail.there (Tail.there (Tail.here _))))) | apply Tail.cond | (apply Tail.bind; intro _)), trivial⟩
theorem w_wLists_hs : ∀ x, Tail c_w_wLists.pts (fun g => c_w_wLists.start g x) := fun x => by
    obtain ⟨a0, b1, _⟩ := x
    refine Tail.eq (Y := fun g => w_wLists_t0 (fun r0 r1 s12 s13 => g.1 ((r0, r1, ()), ((), (), s12, s13, ()), ((), (), ()))) a0 b1) ?_ (fun g => by kernel_rfl)
    simp only [w_wLists_t0]; repeat (first | exact Tail.const _ | exact Tail.here _ | exact Tail.there (Tail.here _) | exact Tail.there (Tail.there (Tail.here _)) | exact Tail.there (Tail.there (Tail.there (Tail.here _))) | exact Tail.there (Tail.there (Tail.there (Tail.there (Tail.here _)))) | exact Tail.there (Tail.there (Tail.there (Tail.there (Tail.there (Tail.here _))))) | apply Tail.cond | (apply Tail.bind; intro _))
noncomputable def w_wLists_L1 (r0 : List ((Int × (List (Int) × List (Int))))) (r1 : List ((Int × (List (Int) × List (Int))))) (s12 : Int) (s13 : Int) : Option Bool := c_w_wLists.L.1 ((r0, r1, ()), ((), (), s12, s13, ()), ((), (), ()))
theorem w_wLists_u1 (r0 : List ((Int × (List (Int) × List (Int))))) (r1 : List ((Int × (List (Int) × List (Int))))) (s12 : Int) (s13 : Int) : w_wLists_L1 r0 r1 s12 s13 = w_wLists_t1 w_wLists_L1 r0 r1 s12 s13 :=
  (congrArg (fun g => g.1 ((r0, r1, ()), ((), (), s12, s13, ()), ((), (), ()))) (FnCx.L_eq w_wLists_ts)).trans (by kernel_rfl)
noncomputable def w_wLists (a0 : List ((Int × List Int × List Int))) (b1 : List ((Int × List Int × List Int))) : Option Bool := w_wLists_t0 w_wLists_L1 a0 b1
theorem w_wLists_e (a0 : List ((Int × List Int × List Int))) (b1 : List ((Int × List Int × List Int))) : c_w_wLists.start c_w_wLists.L (a0, b1, ()) = w_wLists a0 b1 := by kernel_rfl
noncomputable def F_w_wLists : Ins c_w_wLists.ins → Option Bool := fun x => w_wLists x.1 x.2.1
noncomputable def S_w_wLists : FSpec := mkF c_w_wLists.env.pre c_w_wLists.ins c_w_wLists.out c_w_wLists.inj F_w_wLists
theorem h_w_wLists : Cert Tryz.prog 23 S_w_wLists := FnCx.certF (c := c_w_wLists) F_w_wLists (tyOk _ _ _) (spOk ⟨h_w_wStairs, fun _ _ h => h, trivial⟩) (fun _ _ _ _ _ hs => evDr_ok (tyOk _ _ _) hs follows) Tryz.func23 rfl rfl Tryz.ntmps23 (by kernel_rfl) rfl rfl (fun _ => rfl) w_wLists_ts w_wLists_hs (fun x t hb ht => by
  obtain ⟨a0, b1, _⟩ := x
  exact (w_wLists_e a0 b1).trans ht)
/-! spec.IsPuzzle -/
noncomputable def c_s_IsPuzzle : FnCx := { env := env 5 [(40, S_s_pzGood)] [], body := bodyOf Tryz.f27, res := [.tmp 2], ins := [.ro kPuzzle], out := [(kbool, true)], T := Bool, fin := fun r => r.1.1, inj := fun t => ((t, ()), ((), ())), pts := [], fuel := 400, dr := noDr }
noncomputable def s_IsPuzzle (p0_Clues : List (Int × Int × Int)) : Bool :=
  s_pzGood_n p0_Clues
theorem s_IsPuzzle_e (p0_Clues : List (Int × Int × Int)) : c_s_IsPuzzle.start c_s_IsPuzzle.L (p0_Clues, ()) = some (s_IsPuzzle p0_Clues) := by kernel_rfl
noncomputable def F_s_IsPuzzle : Ins c_s_IsPuzzle.ins → Bool := fun x => s_IsPuzzle x.1
noncomputable def S_s_IsPuzzle : FSpec := mkT c_s_IsPuzzle.env.pre c_s_IsPuzzle.ins c_s_IsPuzzle.out c_s_IsPuzzle.inj F_s_IsPuzzle
theorem h_s_IsPuzzle : Cert Tryz.prog 27 S_s_IsPuzzle := FnCx.certT (c := c_s_IsPuzzle) F_s_IsPuzzle (tyOk _ _ _) (spOk ⟨h_s_pzGood, fun _ _ h => h, trivial⟩) (fun _ _ _ _ _ hs => noDr_ok) Tryz.func27 rfl rfl Tryz.ntmps27 (by kernel_rfl) rfl rfl (fun _ => rfl) trivial (fun x => .inl ⟨c_s_IsPuzzle.start () x, fun _ => rfl⟩) (fun x hb => by
  obtain ⟨p0_Clues, _⟩ := x
  exact s_IsPuzzle_e p0_Clues)
/-! laws.wRises -/
noncomputable def c_w_wRises : FnCx := { env := env 20 [] [], body := bodyOf Tryz.f28, res := [.tmp 2], ins := [.ro kSint], out := [(kbool, true)], T := Bool, fin := fun r => r.1.1, inj := fun t => ((t, ()), ((), ())), pts := [([.inLoop [1, 0, 1, 0, 0], .inBlock 0, .code [1, 1]], Shape.mk [Bs.row kint 3 false] [(0, Ss.one (Cs.sl 0)), (3, Ss.one (Cs.sc kint))] [Ss.one (Cs.any)])], fuel := 400, dr := evDr (env 20 [] []) }
noncomputable def w_wRises_t1 (g1 : List (Int) → Int → Option (Bool)) (r0 : List (Int)) (i3 : Int) : Option Bool :=
  bif decide (i3 < (↑(List.length r0) : Int)) then
    bif decide (0 ≤ IntKind.wrap IntKind.i64 (i3 - 1)) then
      bif decide (IntKind.wrap IntKind.i64 (i3 - 1) < (↑(List.length r0) : Int)) then
        bif decide (0 ≤ i3) then
          bif decide (i3 < (↑(List.length r0) : Int)) then
            bif decide (rdk kint r0 (IntKind.wrap IntKind.i64 (i3 - 1)) ≥ rdk kint r0 i3) then some false
            else g1 r0 (IntKind.wrap IntKind.i64 (i3 + 1))
          else none
        else none
      else none
    else none
  else some true
noncomputable def w_wRises_t0 (g1 : List (Int) → Int → Option (Bool)) (a0 : List Int) : Option Bool :=
  g1 a0 1
theorem w_wRises_ts : Tails c_w_wRises.pts c_w_wRises.round :=
  ⟨fun s => by
    obtain ⟨⟨r0, _⟩, ⟨_, i3, _⟩, ⟨_, _⟩⟩ := s
    refine Tail.eq (Y := fun g => w_wRises_t1 (fun r0 i3 => g.1 ((r0, ()), ((), i3, ()), ((), ()))) r0 i3) ?_ (fun g => by kernel_rfl)
    simp only [w_wRises_t1]; repeat (first | exact Tail.const _ | exact Tail.here _ | exact Tail.there (Tail.here _) | exact Tail.there (Tail.there (Tail.here _)) | exact Tail.there (Tail.there (Tail.there (Tail.here _))) | exact Tail.there (Tail.there (Tail.there (Tail.there (Tail.here _)))) | exact Tail.there (Tail.there (Tail.there (Tail.there (Tail.there (Tail.here _))))) | apply Tail.cond | (apply Tail.bind; intro _)), trivial⟩
theorem w_wRises_hs : ∀ x, Tail c_w_wRises.pts (fun g => c_w_wRises.start g x) := fun x => by
    obtain ⟨a0, _⟩ := x
    refine Tail.eq (Y := fun g => w_wRises_t0 (fun r0 i3 => g.1 ((r0, ()), ((), i3, ()), ((), ()))) a0) ?_ (fun g => by kernel_rfl)
    simp only [w_wRises_t0]; repeat (first | exact Tail.const _ | exact Tail.here _ | exact Tail.there (Tail.here _) | exact Tail.there (Tail.there (Tail.here _)) | exact Tail.there (Tail.there (Tail.there (Tail.here _))) | exact Tail.there (Tail.there (Tail.there (Tail.there (Tail.here _)))) | exact Tail.there (Tail.there (Tail.there (Tail.there (Tail.there (Tail.here _))))) | apply Tail.cond | (apply Tail.bind; intro _))
noncomputable def w_wRises_L1 (r0 : List (Int)) (i3 : Int) : Option Bool := c_w_wRises.L.1 ((r0, ()), ((), i3, ()), ((), ()))
theorem w_wRises_u1 (r0 : List (Int)) (i3 : Int) : w_wRises_L1 r0 i3 = w_wRises_t1 w_wRises_L1 r0 i3 :=
  (congrArg (fun g => g.1 ((r0, ()), ((), i3, ()), ((), ()))) (FnCx.L_eq w_wRises_ts)).trans (by kernel_rfl)
noncomputable def w_wRises (a0 : List Int) : Option Bool := w_wRises_t0 w_wRises_L1 a0
theorem w_wRises_e (a0 : List Int) : c_w_wRises.start c_w_wRises.L (a0, ()) = w_wRises a0 := by kernel_rfl
noncomputable def F_w_wRises : Ins c_w_wRises.ins → Option Bool := fun x => w_wRises x.1
noncomputable def S_w_wRises : FSpec := mkF c_w_wRises.env.pre c_w_wRises.ins c_w_wRises.out c_w_wRises.inj F_w_wRises
theorem h_w_wRises : Cert Tryz.prog 28 S_w_wRises := FnCx.certF (c := c_w_wRises) F_w_wRises (tyOk _ _ _) (spOk trivial) (fun _ _ _ _ _ hs => evDr_ok (tyOk _ _ _) hs follows) Tryz.func28 rfl rfl Tryz.ntmps28 (by kernel_rfl) rfl rfl (fun _ => rfl) w_wRises_ts w_wRises_hs (fun x t hb ht => by
  obtain ⟨a0, _⟩ := x
  exact (w_wRises_e a0).trans ht)
/-! laws.wHas -/
noncomputable def c_w_wHas : FnCx := { env := env 17 [] [], body := bodyOf Tryz.f30, res := [.tmp 4], ins := [.ro kSint, .ro kint], out := [(kbool, true)], T := Bool, fin := fun r => r.1.1, inj := fun t => ((t, ()), ((), (), ())), pts := [([.inLoop [1, 0, 1, 0, 0], .inBlock 0, .code [1, 1]], Shape.mk [Bs.row kint 3 false] [(1, Ss.one (Cs.sc kint)), (7, Ss.one (Cs.sl 0)), (8, Ss.one (Cs.sc kint)), (9, Ss.one (Cs.sc kint))] [Ss.one (Cs.any), Ss.one (Cs.any)])], fuel := 400, dr := noDr }
noncomputable def w_wHas_t1 (g1 : List (Int) → Int → Int → Int → Option (Bool)) (r0 : List (Int)) (n1 : Int) (s8 : Int) (s9 : Int) : Option Bool :=
  bif decide (s9 < s8) then
    bif decide (0 ≤ s9) then
      bif decide (s9 < (↑(List.length r0) : Int)) then
        bif rdk kint r0 s9 == n1 then some true else g1 r0 n1 s8 (IntKind.wrap IntKind.i64 (s9 + 1))
      else none
    else none
  else some false
noncomputable def w_wHas_t0 (g1 : List (Int) → Int → Int → Int → Option (Bool)) (a0 : List Int) (n1 : Int) : Option Bool :=
  g1 a0 n1 (↑(List.length a0) : Int) 0
theorem w_wHas_ts : Tails c_w_wHas.pts c_w_wHas.round :=
  ⟨fun s => by
    obtain ⟨⟨r0, _⟩, ⟨n1, _, s8, s9, _⟩, ⟨_, _, _⟩⟩ := s
    refine Tail.eq (Y := fun g => w_wHas_t1 (fun r0 n1 s8 s9 => g.1 ((r0, ()), (n1, (), s8, s9, ()), ((), (), ()))) r0 n1 s8 s9) ?_ (fun g => by kernel_rfl)
    simp only [w_wHas_t1]; repeat (first | exact Tail.const _ | exact Tail.here _ | exact Tail.there (Tail.here _) | exact Tail.there (Tail.there (Tail.here _)) | exact Tail.there (Tail.there (Tail.there (Tail.here _))) | exact Tail.there (Tail.there (Tail.there (Tail.there (Tail.here _)))) | exact Tail.there (Tail.there (Tail.there (Tail.there (Tail.there (Tail.here _))))) | apply Tail.cond | (apply Tail.bind; intro _)), trivial⟩
theorem w_wHas_hs : ∀ x, Tail c_w_wHas.pts (fun g => c_w_wHas.start g x) := fun x => by
    obtain ⟨a0, n1, _⟩ := x
    refine Tail.eq (Y := fun g => w_wHas_t0 (fun r0 n1 s8 s9 => g.1 ((r0, ()), (n1, (), s8, s9, ()), ((), (), ()))) a0 n1) ?_ (fun g => by kernel_rfl)
    simp only [w_wHas_t0]; repeat (first | exact Tail.const _ | exact Tail.here _ | exact Tail.there (Tail.here _) | exact Tail.there (Tail.there (Tail.here _)) | exact Tail.there (Tail.there (Tail.there (Tail.here _))) | exact Tail.there (Tail.there (Tail.there (Tail.there (Tail.here _)))) | exact Tail.there (Tail.there (Tail.there (Tail.there (Tail.there (Tail.here _))))) | apply Tail.cond | (apply Tail.bind; intro _))
noncomputable def w_wHas_L1 (r0 : List (Int)) (n1 : Int) (s8 : Int) (s9 : Int) : Option Bool := c_w_wHas.L.1 ((r0, ()), (n1, (), s8, s9, ()), ((), (), ()))
theorem w_wHas_u1 (r0 : List (Int)) (n1 : Int) (s8 : Int) (s9 : Int) : w_wHas_L1 r0 n1 s8 s9 = w_wHas_t1 w_wHas_L1 r0 n1 s8 s9 :=
  (congrArg (fun g => g.1 ((r0, ()), (n1, (), s8, s9, ()), ((), (), ()))) (FnCx.L_eq w_wHas_ts)).trans (by kernel_rfl)
noncomputable def w_wHas (a0 : List Int) (n1 : Int) : Option Bool := w_wHas_t0 w_wHas_L1 a0 n1
theorem w_wHas_e (a0 : List Int) (n1 : Int) : c_w_wHas.start c_w_wHas.L (a0, n1, ()) = w_wHas a0 n1 := by kernel_rfl
noncomputable def F_w_wHas : Ins c_w_wHas.ins → Option Bool := fun x => w_wHas x.1 x.2.1
noncomputable def S_w_wHas : FSpec := mkF c_w_wHas.env.pre c_w_wHas.ins c_w_wHas.out c_w_wHas.inj F_w_wHas
theorem h_w_wHas : Cert Tryz.prog 30 S_w_wHas := FnCx.certF (c := c_w_wHas) F_w_wHas (tyOk _ _ _) (spOk trivial) (fun _ _ _ _ _ hs => noDr_ok) Tryz.func30 rfl rfl Tryz.ntmps30 (by kernel_rfl) rfl rfl (fun _ => rfl) w_wHas_ts w_wHas_hs (fun x t hb ht => by
  obtain ⟨a0, n1, _⟩ := x
  exact (w_wHas_e a0 n1).trans ht)
/-! impl.DoesFit -/
noncomputable def c_i_DoesFit : FnCx := { env := env 17 [(52, S_i_IsClue), (55, S_i_isHidden), (56, S_i_fits)] [], body := bodyOf Tryz.f31, res := [.tmp 4, .tmp 5], ins := [.ro kClue, .ro kStairs], out := [(kbool, true), (kbool, true)], T := Bool × Bool, fin := fun r => (r.1.1, r.1.2.1), inj := fun t => ((t.1, t.2, ()), ((), (), ())), pts := [], fuel := 400, dr := noDr }
noncomputable def i_DoesFit (c0_Kind : Int) (c0_A : Int) (c0_B : Int) (s1_Steps : Int) (s1_Strides : List Int) (s1_Broken : List Int) : Option (Bool × Bool) :=
  bif !i_IsClue c0_Kind c0_A c0_B then some (false, false)
  else
    bif !i_isHidden s1_Steps s1_Strides s1_Broken then some (false, false)
    else Option.bind (i_fits c0_Kind c0_A c0_B s1_Steps s1_Strides s1_Broken) fun r => some (r, true)
theorem i_DoesFit_e (c0_Kind : Int) (c0_A : Int) (c0_B : Int) (s1_Steps : Int) (s1_Strides : List Int) (s1_Broken : List Int) : c_i_DoesFit.start c_i_DoesFit.L ((c0_Kind, c0_A, c0_B), (s1_Steps, s1_Strides, s1_Broken), ()) = i_DoesFit c0_Kind c0_A c0_B s1_Steps s1_Strides s1_Broken := by kernel_rfl
noncomputable def F_i_DoesFit : Ins c_i_DoesFit.ins → Option (Bool × Bool) := fun x => i_DoesFit x.1.1 x.1.2.1 x.1.2.2 x.2.1.1 x.2.1.2.1 x.2.1.2.2
noncomputable def S_i_DoesFit : FSpec := mkF c_i_DoesFit.env.pre c_i_DoesFit.ins c_i_DoesFit.out c_i_DoesFit.inj F_i_DoesFit
theorem h_i_DoesFit : Cert Tryz.prog 31 S_i_DoesFit := FnCx.certF (c := c_i_DoesFit) F_i_DoesFit (tyOk _ _ _) (spOk ⟨h_i_IsClue, fun _ _ h => h, ⟨h_i_isHidden, fun _ _ h => h, ⟨h_i_fits, fun _ _ h => h, trivial⟩⟩⟩) (fun _ _ _ _ _ hs => noDr_ok) Tryz.func31 rfl rfl Tryz.ntmps31 (by kernel_rfl) rfl rfl (fun _ => rfl) trivial (fun x => .inl ⟨c_i_DoesFit.start () x, fun _ => rfl⟩) (fun x t hb ht => by
  obtain ⟨⟨c0_Kind, c0_A, c0_B⟩, ⟨s1_Steps, s1_Strides, s1_Broken⟩, _⟩ := x
  exact (i_DoesFit_e c0_Kind c0_A c0_B s1_Steps s1_Strides s1_Broken).trans ht)
/-! impl.DropClue -/
noncomputable def c_i_DropClue : FnCx := { env := env 24 [(26, S_i_IsPuzzle), (53, S_i_within), (45, S_i_without)] [], body := bodyOf Tryz.f32, res := [.cell 4 24, .tmp 5], ins := [.ro kPuzzle, .ro kint], out := [(kPuzzle, true), (kbool, true)], T := List (Int × Int × Int) × Bool, fin := fun r => (r.1.1, r.1.2.1), inj := fun t => ((t.1, t.2, ()), ((), (), ())), pts := [], fuel := 400, dr := noDr }
noncomputable def i_DropClue (p0_Clues : List (Int × Int × Int)) (k1 : Int) : Option (List (Int × Int × Int) × Bool) :=
  bif !i_IsPuzzle p0_Clues then some ([], false)
  else
    bif !i_within k1 0 (IntKind.wrap IntKind.i64 ((↑(List.length p0_Clues) : Int) - 1)) then some ([], false)
    else Option.bind (i_without p0_Clues k1) fun r => some (r, true)
theorem i_DropClue_e (p0_Clues : List (Int × Int × Int)) (k1 : Int) : c_i_DropClue.start c_i_DropClue.L (p0_Clues, k1, ()) = i_DropClue p0_Clues k1 := by kernel_rfl
-- NICE tot
noncomputable def i_DropClue_n (p : List (Int × Int × Int)) (k : Int) : List (Int × Int × Int) × Bool := bif s_pzGood_n p && (decide (0 ≤ k) && decide (k < (p.length : Int))) then (p.take k.toNat ++ p.drop (k.toNat + 1), true) else ([], false)
theorem i_DropClue_ok (p : List (Int × Int × Int)) (k : Int) (hb : BdI c_i_DropClue.ins (p, k, ())) : i_DropClue p k = some (i_DropClue_n p k) := by
  unfold i_DropClue i_DropClue_n
  rw [IsPuzzle_eq]
  cases h1 : s_pzGood_n p
  · rfl
  · have hl := s_pzGood_len h1
    have hw : IntKind.wrap .i64 ((p.length : Int) - 1) = (p.length : Int) - 1 := by rw [wrapI (by omega) (by omega)]
    have hi : i_within k 0 ((p.length : Int) - 1) = (decide (0 ≤ k) && decide (k < (p.length : Int))) := by
      unfold i_within
      by_cases h : 0 ≤ k <;> by_cases h' : k < (p.length : Int) <;> simp [h, h'] <;> omega
    rw [hw, hi]
    cases hd : (decide (0 ≤ k) && decide (k < (p.length : Int)))
    · rfl
    · simp only [Bool.and_eq_true, decide_eq_true_eq] at hd
      obtain ⟨n, rfl⟩ : ∃ n : Nat, k = n := ⟨k.toNat, (Int.toNat_of_nonneg hd.1).symm⟩
      have := i_without_eq p n (by omega) hl
      simp [this]
noncomputable def F_i_DropClue : Ins c_i_DropClue.ins → (List (Int × Int × Int) × Bool) := fun x => i_DropClue_n x.1 x.2.1
noncomputable def S_i_DropClue : FSpec := mkT c_i_DropClue.env.pre c_i_DropClue.ins c_i_DropClue.out c_i_DropClue.inj F_i_DropClue
theorem h_i_DropClue : Cert Tryz.prog 32 S_i_DropClue := FnCx.certT (c := c_i_DropClue) F_i_DropClue (tyOk _ _ _) (spOk ⟨h_i_IsPuzzle, fun _ _ h => h, ⟨h_i_within, fun _ _ h => h, ⟨h_i_without, fun _ _ h => h, trivial⟩⟩⟩) (fun _ _ _ _ _ hs => noDr_ok) Tryz.func32 rfl rfl Tryz.ntmps32 (by kernel_rfl) rfl rfl (fun _ => rfl) trivial (fun x => .inl ⟨c_i_DropClue.start () x, fun _ => rfl⟩) (fun x hb => by
  obtain ⟨p0_Clues, k1, _⟩ := x
  exact (i_DropClue_e p0_Clues k1).trans (i_DropClue_ok p0_Clues k1 hb))
/-! strings.Split -/
noncomputable def strings_Split (s sep : ByteArray) : Option (List ByteArray) := splitF s sep
noncomputable def F_strings_Split : Ins [.ro kstring, .ro kstring] → Option (List ByteArray) := fun x => strings_Split x.1 x.2.1
noncomputable def S_strings_Split : FSpec := mkF (T := List ByteArray) textPre [.ro kstring, .ro kstring] [(kSstring, true)] (fun t => ((t, ()), ((), (), ()))) F_strings_Split
theorem h_strings_Split : Cert Tryz.prog 57 S_strings_Split := split_cert (show Lays.n146 Tryz.prog lsplit_ren from { lsplit with }) (by kernel_rfl) rfl rfl ⟨_, Tryz.func57, rfl, by kernel_rfl⟩ (by simp [textL]) (by kernel_rfl)
/-! strconv.Atoi -/
noncomputable def strconv_Atoi (s : ByteArray) : Option (Int × Bool) := atoiF s
noncomputable def F_strconv_Atoi : Ins [.ro kstring] → Option (Int × Bool) := fun x => strconv_Atoi x.1
noncomputable def S_strconv_Atoi : FSpec := mkF (T := Int × Bool) textPre [.ro kstring] [(.int .i64, true), (.err, true)] (fun t => ((t.1, t.2, ()), ((), ()))) F_strconv_Atoi
theorem h_strconv_Atoi : Cert Tryz.prog 113 S_strconv_Atoi := atoi_cert rfl latoi rfl ⟨_, Tryz.func113, rfl, by kernel_rfl⟩ (by simp [textL]) (by kernel_rfl) (by simp [textL]) (by kernel_rfl)
/-! impl.num -/
noncomputable def c_i_num : FnCx := { env := env 27 [(113, S_strconv_Atoi), (78, S_strconv_Itoa)] [], body := bodyOf Tryz.f86, res := [.tmp 2], ins := [.ro kstring], out := [(kint, true)], T := Int, fin := fun r => r.1.1, inj := fun t => ((t, ()), ((), ())), pts := [], fuel := 400, dr := noDr }
noncomputable def i_num (s0 : ByteArray) : Option Int :=
  Option.bind (strconv_Atoi s0) fun r =>
    bif !Prod.snd r then some (-1)
    else
      bif decide (Prod.fst r < 0) then some (-1)
      else
        bif decide (Prod.fst r > 999999) then some (-1)
        else Option.bind (strconv_Itoa (Prod.fst r)) fun r_1 => bif !ByteArray.toList r_1 == ByteArray.toList s0 then some (-1) else some (Prod.fst r)
theorem i_num_e (s0 : ByteArray) : c_i_num.start c_i_num.L (s0, ()) = i_num s0 := by kernel_rfl
noncomputable def F_i_num : Ins c_i_num.ins → Option Int := fun x => i_num x.1
noncomputable def S_i_num : FSpec := mkF c_i_num.env.pre c_i_num.ins c_i_num.out c_i_num.inj F_i_num
theorem h_i_num : Cert Tryz.prog 86 S_i_num := FnCx.certF (c := c_i_num) F_i_num (tyOk _ _ _) (spOk ⟨h_strconv_Atoi, fun _ _ h => h, ⟨h_strconv_Itoa, fun _ _ h => h, trivial⟩⟩) (fun _ _ _ _ _ hs => noDr_ok) Tryz.func86 rfl rfl Tryz.ntmps86 (by kernel_rfl) rfl rfl (fun _ => rfl) trivial (fun x => .inl ⟨c_i_num.start () x, fun _ => rfl⟩) (fun x t hb ht => by
  obtain ⟨s0, _⟩ := x
  exact (i_num_e s0).trans ht)
/-! impl.nums -/
noncomputable def c_i_nums : FnCx := { env := env 29 [(57, S_strings_Split), (86, S_i_num)] [], body := bodyOf Tryz.f58, res := [.tmp 4, .tmp 5], ins := [.ro kstring, .ro kstring], out := [(kSint, true), (kbool, true)], T := List Int × Bool, fin := fun r => (r.1.1, r.1.2.1), inj := fun t => ((t.1, t.2, ()), ((), (), ())), pts := [([.inLoop [1, 1, 0, 1, 0, 0], .inBlock 0, .code [1, 1, 1]], Shape.mk [Bs.row kint 3 true, Bs.row kstring 9 true] [(6, Ss.one (Cs.sl 0)), (13, Ss.one (Cs.sl 1)), (14, Ss.one (Cs.sc kint)), (15, Ss.one (Cs.sc kint))] [Ss.one (Cs.any), Ss.one (Cs.any)])], fuel := 400, dr := noDr }
noncomputable def i_nums_t1 (g1 : List (Int) → List (ByteArray) → Int → Int → Option (List Int × Bool)) (r0 : List (Int)) (r1 : List (ByteArray)) (s14 : Int) (s15 : Int) : Option (List Int × Bool) :=
  bif decide (s15 < s14) then
    bif decide (0 ≤ s15) then
      bif decide (s15 < (↑(List.length r1) : Int)) then
        Option.bind (i_num (rdk kstring r1 s15)) fun r =>
          bif decide (r < 0) then some ([], false)
          else bif Nat.ble (List.length r0 + 1) 4294967296 then g1 (r0 ++ [r]) r1 s14 (IntKind.wrap IntKind.i64 (s15 + 1)) else none
      else none
    else none
  else some (r0, true)
noncomputable def i_nums_t0 (g1 : List (Int) → List (ByteArray) → Int → Int → Option (List Int × Bool)) (s0 : ByteArray) (between1 : ByteArray) : Option (List Int × Bool) :=
  Option.bind (strings_Split s0 between1) fun r => g1 [] r (↑(List.length r) : Int) 0
theorem i_nums_ts : Tails c_i_nums.pts c_i_nums.round :=
  ⟨fun s => by
    obtain ⟨⟨r0, r1, _⟩, ⟨_, _, s14, s15, _⟩, ⟨_, _, _⟩⟩ := s
    refine Tail.eq (Y := fun g => i_nums_t1 (fun r0 r1 s14 s15 => g.1 ((r0, r1, ()), ((), (), s14, s15, ()), ((), (), ()))) r0 r1 s14 s15) ?_ (fun g => by kernel_rfl)
    simp only [i_nums_t1]; repeat (first | exact Tail.const _ | exact Tail.here _ | exact Tail.there (Tail.here _) | exact Tail.there (Tail.there (Tail.here _)) | exact Tail.there (Tail.there (Tail.there (Tail.here _))) | exact Tail.there (Tail.there (Tail.there (Tail.there (Tail.here _)))) | exact Tail.there (Tail.there (Tail.there (Tail.there (Tail.there (Tail.here _))))) | apply Tail.cond | (apply Tail.bind; intro _)), trivial⟩
theorem i_nums_hs : ∀ x, Tail c_i_nums.pts (fun g => c_i_nums.start g x) := fun x => by
    obtain ⟨s0, between1, _⟩ := x
    refine Tail.eq (Y := fun g => i_nums_t0 (fun r0 r1 s14 s15 => g.1 ((r0, r1, ()), ((), (), s14, s15, ()), ((), (), ()))) s0 between1) ?_ (fun g => by kernel_rfl)
    simp only [i_nums_t0]; repeat (first | exact Tail.const _ | exact Tail.here _ | exact Tail.there (Tail.here _) | exact Tail.there (Tail.there (Tail.here _)) | exact Tail.there (Tail.there (Tail.there (Tail.here _))) | exact Tail.there (Tail.there (Tail.there (Tail.there (Tail.here _)))) | exact Tail.there (Tail.there (Tail.there (Tail.there (Tail.there (Tail.here _))))) | apply Tail.cond | (apply Tail.bind; intro _))
noncomputable def i_nums_L1 (r0 : List (Int)) (r1 : List (ByteArray)) (s14 : Int) (s15 : Int) : Option (List Int × Bool) := c_i_nums.L.1 ((r0, r1, ()), ((), (), s14, s15, ()), ((), (), ()))
theorem i_nums_u1 (r0 : List (Int)) (r1 : List (ByteArray)) (s14 : Int) (s15 : Int) : i_nums_L1 r0 r1 s14 s15 = i_nums_t1 i_nums_L1 r0 r1 s14 s15 :=
  (congrArg (fun g => g.1 ((r0, r1, ()), ((), (), s14, s15, ()), ((), (), ()))) (FnCx.L_eq i_nums_ts)).trans (by kernel_rfl)
noncomputable def i_nums (s0 : ByteArray) (between1 : ByteArray) : Option (List Int × Bool) := i_nums_t0 i_nums_L1 s0 between1
theorem i_nums_e (s0 : ByteArray) (between1 : ByteArray) : c_i_nums.start c_i_nums.L (s0, between1, ()) = i_nums s0 between1 := by kernel_rfl
noncomputable def F_i_nums : Ins c_i_nums.ins → Option (List Int × Bool) := fun x => i_nums x.1 x.2.1
noncomputable def S_i_nums : FSpec := mkF c_i_nums.env.pre c_i_nums.ins c_i_nums.out c_i_nums.inj F_i_nums
theorem h_i_nums : Cert Tryz.prog 58 S_i_nums := FnCx.certF (c := c_i_nums) F_i_nums (tyOk _ _ _) (spOk ⟨h_strings_Split, fun _ _ h => h, ⟨h_i_num, fun _ _ h => h, trivial⟩⟩) (fun _ _ _ _ _ hs => noDr_ok) Tryz.func58 rfl rfl Tryz.ntmps58 (by kernel_rfl) rfl rfl (fun _ => rfl) i_nums_ts i_nums_hs (fun x t hb ht => by
  obtain ⟨s0, between1, _⟩ := x
  exact (i_nums_e s0 between1).trans ht)
/-! impl.ParsePuzzle -/
noncomputable def c_i_ParsePuzzle : FnCx := { env := env 54 [(57, S_strings_Split), (58, S_i_nums), (26, S_i_IsPuzzle)] [], body := bodyOf Tryz.f33, res := [.cell 2 24, .tmp 3], ins := [.ro kstring], out := [(kPuzzle, true), (kbool, true)], T := List (Int × Int × Int) × Bool, fin := fun r => (r.1.1, r.1.2.1), inj := fun t => ((t.1, t.2, ()), ((), ())), pts := [([.inLoop [1, 1, 1, 0, 1, 0, 0], .inBlock 0, .code [1, 1, 1, 1]], Shape.mk [Bs.box 24 [Cs.sl 3], Bs.box 24 [Cs.sl 4], Bs.row kstring 9 true, Bs.row kClue 51 true, Bs.row kClue 51 true] [(2, Ss.one (Cs.ptr 0 0)), (4, Ss.one (Cs.ptr 1 0)), (14, Ss.one (Cs.sl 2)), (15, Ss.one (Cs.sc kint)), (16, Ss.one (Cs.sc kint))] [Ss.one (Cs.any)])], fuel := 400, dr := evDr (env 54 [(57, S_strings_Split), (58, S_i_nums), (26, S_i_IsPuzzle)] []) }
noncomputable def i_ParsePuzzle_t1 (g1 : List (ByteArray) → List (Int × (Int × Int)) → List (Int × (Int × Int)) → Int → Int → Option (List (Int × Int × Int) × Bool)) (r2 : List (ByteArray)) (r3 : List (Int × (Int × Int))) (r4 : List (Int × (Int × Int))) (s15 : Int) (s16 : Int) : Option (List (Int × Int × Int) × Bool) :=
  bif decide (s16 < s15) then
    bif decide (0 ≤ s16) then
      bif decide (s16 < (↑(List.length r2) : Int)) then
        Option.bind (i_nums (rdk kstring r2 s16) { data := #[46] }) fun r =>
          bif !Prod.snd r then some ([], false)
          else
            bif (↑(List.length (Prod.fst r)) : Int) != 3 then some ([], false)
            else
              bif decide (0 < (↑(List.length (Prod.fst r)) : Int)) then
                bif decide (1 < (↑(List.length (Prod.fst r)) : Int)) then
                  bif decide (2 < (↑(List.length (Prod.fst r)) : Int)) then
                    bif Nat.ble (List.length r4 + 1) 4294967296 then
                      g1 r2 r3
                        (r4 ++ [(rdk kint (Prod.fst r) 0, rdk kint (Prod.fst r) 1, rdk kint (Prod.fst r) 2)]) s15
                        (IntKind.wrap IntKind.i64 (s16 + 1))
                    else none
                  else none
                else none
              else none
      else none
    else none
  else bif !i_IsPuzzle r4 then some ([], false) else some (r4, true)
noncomputable def i_ParsePuzzle_t0 (g1 : List (ByteArray) → List (Int × (Int × Int)) → List (Int × (Int × Int)) → Int → Int → Option (List (Int × Int × Int) × Bool)) (t0 : ByteArray) : Option (List (Int × Int × Int) × Bool) :=
  bif ByteArray.toList t0 == ByteArray.toList { data := #[] } then some ([], true)
  else Option.bind (strings_Split t0 { data := #[44] }) fun r => g1 r [] [] (↑(List.length r) : Int) 0
theorem i_ParsePuzzle_ts : Tails c_i_ParsePuzzle.pts c_i_ParsePuzzle.round :=
  ⟨fun s => by
    obtain ⟨⟨⟨_, _⟩, ⟨_, _⟩, r2, r3, r4, _⟩, ⟨_, _, _, s15, s16, _⟩, ⟨_, _⟩⟩ := s
    refine Tail.eq (Y := fun g => i_ParsePuzzle_t1 (fun r2 r3 r4 s15 s16 => g.1 ((((), ()), ((), ()), r2, r3, r4, ()), ((), (), (), s15, s16, ()), ((), ()))) r2 r3 r4 s15 s16) ?_ (fun g => by kernel_rfl)
    simp only [i_ParsePuzzle_t1]; repeat (first | apply Tail.cond | (apply Tail.bind; intro _) | exact Tail.here _ | exact Tail.there (Tail.here _) | exact Tail.there (Tail.there (Tail.here _)) | exact Tail.there (Tail.there (Tail.there (Tail.here _))) | exact Tail.there (Tail.there (Tail.there (Tail.there (Tail.here _)))) | exact Tail.there (Tail.there (Tail.there (Tail.there (Tail.there (Tail.here _))))) | exact Tail.const _), trivial⟩
theorem i_ParsePuzzle_hs : ∀ x, Tail c_i_ParsePuzzle.pts (fun g => c_i_ParsePuzzle.start g x) := fun x => by
    obtain ⟨t0, _⟩ := x
    refine Tail.eq (Y := fun g => i_ParsePuzzle_t0 (fun r2 r3 r4 s15 s16 => g.1 ((((), ()), ((), ()), r2, r3, r4, ()), ((), (), (), s15, s16, ()), ((), ()))) t0) ?_ (fun g => by kernel_rfl)
    simp only [i_ParsePuzzle_t0]; repeat (first | apply Tail.cond | (apply Tail.bind; intro _) | exact Tail.here _ | exact Tail.there (Tail.here _) | exact Tail.there (Tail.there (Tail.here _)) | exact Tail.there (Tail.there (Tail.there (Tail.here _))) | exact Tail.there (Tail.there (Tail.there (Tail.there (Tail.here _)))) | exact Tail.there (Tail.there (Tail.there (Tail.there (Tail.there (Tail.here _))))) | exact Tail.const _)
noncomputable def i_ParsePuzzle_L1 (r2 : List (ByteArray)) (r3 : List (Int × (Int × Int))) (r4 : List (Int × (Int × Int))) (s15 : Int) (s16 : Int) : Option (List (Int × Int × Int) × Bool) := c_i_ParsePuzzle.L.1 ((((), ()), ((), ()), r2, r3, r4, ()), ((), (), (), s15, s16, ()), ((), ()))
theorem i_ParsePuzzle_u1 (r2 : List (ByteArray)) (r3 : List (Int × (Int × Int))) (r4 : List (Int × (Int × Int))) (s15 : Int) (s16 : Int) : i_ParsePuzzle_L1 r2 r3 r4 s15 s16 = i_ParsePuzzle_t1 i_ParsePuzzle_L1 r2 r3 r4 s15 s16 :=
  (congrArg (fun g => g.1 ((((), ()), ((), ()), r2, r3, r4, ()), ((), (), (), s15, s16, ()), ((), ()))) (FnCx.L_eq i_ParsePuzzle_ts)).trans (by kernel_rfl)
noncomputable def i_ParsePuzzle (t0 : ByteArray) : Option (List (Int × Int × Int) × Bool) := i_ParsePuzzle_t0 i_ParsePuzzle_L1 t0
theorem i_ParsePuzzle_e (t0 : ByteArray) : c_i_ParsePuzzle.start c_i_ParsePuzzle.L (t0, ()) = i_ParsePuzzle t0 := by kernel_rfl
noncomputable def F_i_ParsePuzzle : Ins c_i_ParsePuzzle.ins → Option (List (Int × Int × Int) × Bool) := fun x => i_ParsePuzzle x.1
noncomputable def S_i_ParsePuzzle : FSpec := mkF c_i_ParsePuzzle.env.pre c_i_ParsePuzzle.ins c_i_ParsePuzzle.out c_i_ParsePuzzle.inj F_i_ParsePuzzle
theorem h_i_ParsePuzzle : Cert Tryz.prog 33 S_i_ParsePuzzle := FnCx.certF (c := c_i_ParsePuzzle) F_i_ParsePuzzle (tyOk _ _ _) (spOk ⟨h_strings_Split, fun _ _ h => h, ⟨h_i_nums, fun _ _ h => h, ⟨h_i_IsPuzzle, fun _ _ h => h, trivial⟩⟩⟩) (fun _ _ _ _ _ hs => evDr_ok (tyOk _ _ _) hs follows) Tryz.func33 rfl rfl Tryz.ntmps33 (by kernel_rfl) rfl rfl (fun _ => rfl) i_ParsePuzzle_ts i_ParsePuzzle_hs (fun x t hb ht => by
  obtain ⟨t0, _⟩ := x
  exact (i_ParsePuzzle_e t0).trans ht)
/-! spec.l1Split -/
noncomputable def c_s_l1Split : FnCx := { env := env 34 [] [], body := bodyOf Tryz.f87, res := [.tmp 4], ins := [.ro kstring, .ro kuint8], out := [(kSstring, true)], T := List ByteArray, fin := fun r => r.1.1, inj := fun t => ((t, ()), ((), (), ())), pts := [([.inLoop [1, 1, 1, 0, 1, 0, 0], .inBlock 0, .code [1, 1, 1, 1]], Shape.mk [Bs.row kstring 9 true] [(0, Ss.one (Cs.sc kstring)), (1, Ss.one (Cs.sc kuint8)), (5, Ss.one (Cs.sl 0)), (6, Ss.one (Cs.sc kint)), (7, Ss.one (Cs.sc kint))] [Ss.one (Cs.any), Ss.one (Cs.any)])], fuel := 400, dr := noDr }
noncomputable def s_l1Split_t1 (g1 : List (ByteArray) → ByteArray → Int → Int → Int → Option (List ByteArray)) (r0 : List (ByteArray)) (s0 : ByteArray) (b1 : Int) (from6 : Int) (i7 : Int) : Option (List ByteArray) :=
  bif decide (i7 < (↑(ByteArray.size s0) : Int)) then
    bif decide (0 ≤ i7) then
      bif decide (i7 < (↑(ByteArray.size s0) : Int)) then
        bif bt s0 i7 == b1 then
          bif decide (0 ≤ i7) then
            bif decide (i7 ≤ (↑(ByteArray.size s0) : Int)) then
              bif decide (0 ≤ from6) then
                bif decide (from6 ≤ i7) then
                  bif Nat.ble (List.length r0 + 1) 4294967296 then
                    g1 (r0 ++ [ByteArray.extract s0 (Int.toNat from6) (Int.toNat i7)]) s0 b1 (IntKind.wrap IntKind.i64 (i7 + 1))
                      (IntKind.wrap IntKind.i64 (i7 + 1))
                  else none
                else none
              else none
            else none
          else none
        else g1 r0 s0 b1 from6 (IntKind.wrap IntKind.i64 (i7 + 1))
      else none
    else none
  else
    bif decide (0 ≤ from6) then
      bif decide (from6 ≤ (↑(ByteArray.size s0) : Int)) then
        bif Nat.ble (List.length r0 + 1) 4294967296 then some (r0 ++ [ByteArray.extract s0 (Int.toNat from6) (Int.toNat (↑(ByteArray.size s0) : Int))]) else none
      else none
    else none
noncomputable def s_l1Split_t0 (g1 : List (ByteArray) → ByteArray → Int → Int → Int → Option (List ByteArray)) (s0 : ByteArray) (b1 : Int) : Option (List ByteArray) :=
  g1 [] s0 b1 0 0
theorem s_l1Split_ts : Tails c_s_l1Split.pts c_s_l1Split.round :=
  ⟨fun s => by
    obtain ⟨⟨r0, _⟩, ⟨s0, b1, _, from6, i7, _⟩, ⟨_, _, _⟩⟩ := s
    refine Tail.eq (Y := fun g => s_l1Split_t1 (fun r0 s0 b1 from6 i7 => g.1 ((r0, ()), (s0, b1, (), from6, i7, ()), ((), (), ()))) r0 s0 b1 from6 i7) ?_ (fun g => by kernel_rfl)
    simp only [s_l1Split_t1]; repeat (first | apply Tail.cond | (apply Tail.bind; intro _) | exact Tail.here _ | exact Tail.there (Tail.here _) | exact Tail.there (Tail.there (Tail.here _)) | exact Tail.there (Tail.there (Tail.there (Tail.here _))) | exact Tail.there (Tail.there (Tail.there (Tail.there (Tail.here _)))) | exact Tail.there (Tail.there (Tail.there (Tail.there (Tail.there (Tail.here _))))) | exact Tail.const _), trivial⟩
theorem s_l1Split_hs : ∀ x, Tail c_s_l1Split.pts (fun g => c_s_l1Split.start g x) := fun x => by
    obtain ⟨s0, b1, _⟩ := x
    refine Tail.eq (Y := fun g => s_l1Split_t0 (fun r0 s0 b1 from6 i7 => g.1 ((r0, ()), (s0, b1, (), from6, i7, ()), ((), (), ()))) s0 b1) ?_ (fun g => by kernel_rfl)
    simp only [s_l1Split_t0]; repeat (first | apply Tail.cond | (apply Tail.bind; intro _) | exact Tail.here _ | exact Tail.there (Tail.here _) | exact Tail.there (Tail.there (Tail.here _)) | exact Tail.there (Tail.there (Tail.there (Tail.here _))) | exact Tail.there (Tail.there (Tail.there (Tail.there (Tail.here _)))) | exact Tail.there (Tail.there (Tail.there (Tail.there (Tail.there (Tail.here _))))) | exact Tail.const _)
noncomputable def s_l1Split_L1 (r0 : List (ByteArray)) (s0 : ByteArray) (b1 : Int) (from6 : Int) (i7 : Int) : Option (List ByteArray) := c_s_l1Split.L.1 ((r0, ()), (s0, b1, (), from6, i7, ()), ((), (), ()))
theorem s_l1Split_u1 (r0 : List (ByteArray)) (s0 : ByteArray) (b1 : Int) (from6 : Int) (i7 : Int) : s_l1Split_L1 r0 s0 b1 from6 i7 = s_l1Split_t1 s_l1Split_L1 r0 s0 b1 from6 i7 :=
  (congrArg (fun g => g.1 ((r0, ()), (s0, b1, (), from6, i7, ()), ((), (), ()))) (FnCx.L_eq s_l1Split_ts)).trans (by kernel_rfl)
noncomputable def s_l1Split (s0 : ByteArray) (b1 : Int) : Option (List ByteArray) := s_l1Split_t0 s_l1Split_L1 s0 b1
theorem s_l1Split_e (s0 : ByteArray) (b1 : Int) : c_s_l1Split.start c_s_l1Split.L (s0, b1, ()) = s_l1Split s0 b1 := by kernel_rfl
noncomputable def F_s_l1Split : Ins c_s_l1Split.ins → Option (List ByteArray) := fun x => s_l1Split x.1 x.2.1
noncomputable def S_s_l1Split : FSpec := mkF c_s_l1Split.env.pre c_s_l1Split.ins c_s_l1Split.out c_s_l1Split.inj F_s_l1Split
theorem h_s_l1Split : Cert Tryz.prog 87 S_s_l1Split := FnCx.certF (c := c_s_l1Split) F_s_l1Split (tyOk _ _ _) (spOk trivial) (fun _ _ _ _ _ hs => noDr_ok) Tryz.func87 rfl rfl Tryz.ntmps87 (by kernel_rfl) rfl rfl (fun _ => rfl) s_l1Split_ts s_l1Split_hs (fun x t hb ht => by
  obtain ⟨s0, b1, _⟩ := x
  exact (s_l1Split_e s0 b1).trans ht)
/-! spec.l1Read -/
noncomputable def c_s_l1Read : FnCx := { env := env 44 [(95, S_s_l1In)] [], body := bodyOf Tryz.f88, res := [.tmp 2], ins := [.ro kstring], out := [(kint, true)], T := Int, fin := fun r => r.1.1, inj := fun t => ((t, ()), ((), ())), pts := [([.inLoop [1, 1, 1, 0, 1, 0, 0], .inBlock 0, .code [1, 1, 1, 1]], Shape.mk [] [(0, Ss.one (Cs.sc kstring)), (3, Ss.one (Cs.sc kint)), (4, Ss.one (Cs.sc kint))] [Ss.one (Cs.any)])], fuel := 400, dr := noDr }
noncomputable def s_l1Read_t1 (g1 : ByteArray → Int → Int → Option (Int)) (s0 : ByteArray) (n3 : Int) (i4 : Int) : Option Int :=
  bif decide (i4 < (↑(ByteArray.size s0) : Int)) then
    bif decide (0 ≤ i4) then
      bif decide (i4 < (↑(ByteArray.size s0) : Int)) then
        bif decide (bt s0 i4 < 48) then some (-1)
        else
          bif decide (0 ≤ i4) then
            bif decide (i4 < (↑(ByteArray.size s0) : Int)) then
              bif decide (bt s0 i4 > 57) then some (-1)
              else
                bif decide (0 ≤ i4) then
                  bif decide (i4 < (↑(ByteArray.size s0) : Int)) then
                    g1 s0 (IntKind.wrap IntKind.i64 (IntKind.wrap IntKind.i64 (10 * n3) + IntKind.wrap IntKind.i64 (IntKind.wrap IntKind.u8 (bt s0 i4 - 48))))
                      (IntKind.wrap IntKind.i64 (i4 + 1))
                  else none
                else none
            else none
          else none
      else none
    else none
  else some n3
noncomputable def s_l1Read_t0 (g1 : ByteArray → Int → Int → Option (Int)) (s0 : ByteArray) : Option Int :=
  bif !s_l1In (↑(ByteArray.size s0) : Int) 1 6 then some (-1)
  else
    bif decide (0 < (↑(ByteArray.size s0) : Int)) then
      bif bt s0 0 == 48 then bif decide ((↑(ByteArray.size s0) : Int) > 1) then some (-1) else g1 s0 0 0 else g1 s0 0 0
    else none
theorem s_l1Read_ts : Tails c_s_l1Read.pts c_s_l1Read.round :=
  ⟨fun s => by
    obtain ⟨_, ⟨s0, n3, i4, _⟩, ⟨_, _⟩⟩ := s
    refine Tail.eq (Y := fun g => s_l1Read_t1 (fun s0 n3 i4 => g.1 ((), (s0, n3, i4, ()), ((), ()))) s0 n3 i4) ?_ (fun g => by kernel_rfl)
    simp only [s_l1Read_t1]; repeat (first | apply Tail.cond | (apply Tail.bind; intro _) | exact Tail.here _ | exact Tail.there (Tail.here _) | exact Tail.there (Tail.there (Tail.here _)) | exact Tail.there (Tail.there (Tail.there (Tail.here _))) | exact Tail.there (Tail.there (Tail.there (Tail.there (Tail.here _)))) | exact Tail.there (Tail.there (Tail.there (Tail.there (Tail.there (Tail.here _))))) | exact Tail.const _), trivial⟩
theorem s_l1Read_hs : ∀ x, Tail c_s_l1Read.pts (fun g => c_s_l1Read.start g x) := fun x => by
    obtain ⟨s0, _⟩ := x
    refine Tail.eq (Y := fun g => s_l1Read_t0 (fun s0 n3 i4 => g.1 ((), (s0, n3, i4, ()), ((), ()))) s0) ?_ (fun g => by kernel_rfl)
    simp only [s_l1Read_t0]; repeat (first | apply Tail.cond | (apply Tail.bind; intro _) | exact Tail.here _ | exact Tail.there (Tail.here _) | exact Tail.there (Tail.there (Tail.here _)) | exact Tail.there (Tail.there (Tail.there (Tail.here _))) | exact Tail.there (Tail.there (Tail.there (Tail.there (Tail.here _)))) | exact Tail.there (Tail.there (Tail.there (Tail.there (Tail.there (Tail.here _))))) | exact Tail.const _)
noncomputable def s_l1Read_L1 (s0 : ByteArray) (n3 : Int) (i4 : Int) : Option Int := c_s_l1Read.L.1 ((), (s0, n3, i4, ()), ((), ()))
theorem s_l1Read_u1 (s0 : ByteArray) (n3 : Int) (i4 : Int) : s_l1Read_L1 s0 n3 i4 = s_l1Read_t1 s_l1Read_L1 s0 n3 i4 :=
  (congrArg (fun g => g.1 ((), (s0, n3, i4, ()), ((), ()))) (FnCx.L_eq s_l1Read_ts)).trans (by kernel_rfl)
noncomputable def s_l1Read (s0 : ByteArray) : Option Int := s_l1Read_t0 s_l1Read_L1 s0
theorem s_l1Read_e (s0 : ByteArray) : c_s_l1Read.start c_s_l1Read.L (s0, ()) = s_l1Read s0 := by kernel_rfl
noncomputable def F_s_l1Read : Ins c_s_l1Read.ins → Option Int := fun x => s_l1Read x.1
noncomputable def S_s_l1Read : FSpec := mkF c_s_l1Read.env.pre c_s_l1Read.ins c_s_l1Read.out c_s_l1Read.inj F_s_l1Read
theorem h_s_l1Read : Cert Tryz.prog 88 S_s_l1Read := FnCx.certF (c := c_s_l1Read) F_s_l1Read (tyOk _ _ _) (spOk ⟨h_s_l1In, fun _ _ h => h, trivial⟩) (fun _ _ _ _ _ hs => noDr_ok) Tryz.func88 rfl rfl Tryz.ntmps88 (by kernel_rfl) rfl rfl (fun _ => rfl) s_l1Read_ts s_l1Read_hs (fun x t hb ht => by
  obtain ⟨s0, _⟩ := x
  exact (s_l1Read_e s0).trans ht)
/-! spec.pzParse -/
noncomputable def c_s_pzParse : FnCx := { env := env 57 [(87, S_s_l1Split), (88, S_s_l1Read), (40, S_s_pzGood), (49, S_s_pzText)] [], body := bodyOf Tryz.f59, res := [.cell 2 24, .tmp 3], ins := [.ro kstring], out := [(kPuzzle, true), (kbool, true)], T := List (Int × Int × Int) × Bool, fin := fun r => (r.1.1, r.1.2.1), inj := fun t => ((t.1, t.2, ()), ((), ())), pts := [([.inLoop [1, 1, 1, 1, 0, 1, 0, 0], .inBlock 0, .code [1, 1, 1, 1, 1]], Shape.mk [Bs.box 24 [Cs.sl 3], Bs.box 24 [Cs.sl 4], Bs.row kstring 9 true, Bs.row kClue 51 true, Bs.row kClue 51 true] [(0, Ss.one (Cs.sc kstring)), (2, Ss.one (Cs.ptr 0 0)), (4, Ss.one (Cs.ptr 1 0)), (17, Ss.one (Cs.sl 2)), (18, Ss.one (Cs.sc kint)), (19, Ss.one (Cs.sc kint))] [Ss.one (Cs.any)])], fuel := 400, dr := evDr (env 57 [(87, S_s_l1Split), (88, S_s_l1Read), (40, S_s_pzGood), (49, S_s_pzText)] []) }
noncomputable def s_pzParse_t1 (g1 : List (ByteArray) → List (Int × (Int × Int)) → List (Int × (Int × Int)) → ByteArray → Int → Int → Option (List (Int × Int × Int) × Bool)) (r2 : List (ByteArray)) (r3 : List (Int × (Int × Int))) (r4 : List (Int × (Int × Int))) (t0 : ByteArray) (s18 : Int) (s19 : Int) : Option (List (Int × Int × Int) × Bool) :=
  bif decide (s19 < s18) then
    bif decide (0 ≤ s19) then
      bif decide (s19 < (↑(List.length r2) : Int)) then
        Option.bind (s_l1Split (rdk kstring r2 s19) 46) fun r =>
          bif (↑(List.length r) : Int) != 3 then some (r4, false)
          else
            bif decide (0 < (↑(List.length r) : Int)) then
              Option.bind (s_l1Read (rdk kstring r 0)) fun r_1 =>
                bif decide (1 < (↑(List.length r) : Int)) then
                  Option.bind (s_l1Read (rdk kstring r 1)) fun r_2 =>
                    bif decide (2 < (↑(List.length r) : Int)) then
                      Option.bind (s_l1Read (rdk kstring r 2)) fun r =>
                        bif Nat.ble (List.length r4 + 1) 4294967296 then g1 r2 r3 (r4 ++ [(r_1, r_2, r)]) t0 s18 (IntKind.wrap IntKind.i64 (s19 + 1)) else none
                    else none
                else none
            else none
      else none
    else none
  else bif s_pzGood_n r4 then Option.bind (s_pzText r4) fun r => some (r4, ByteArray.toList r == ByteArray.toList t0) else some (r4, false)
noncomputable def s_pzParse_t0 (g1 : List (ByteArray) → List (Int × (Int × Int)) → List (Int × (Int × Int)) → ByteArray → Int → Int → Option (List (Int × Int × Int) × Bool)) (t0 : ByteArray) : Option (List (Int × Int × Int) × Bool) :=
  bif decide ((↑(ByteArray.size t0) : Int) > 60) then some ([], false)
  else
    bif ByteArray.toList t0 == ByteArray.toList { data := #[] } then some ([], true)
    else Option.bind (s_l1Split t0 44) fun r => g1 r [] [] t0 (↑(List.length r) : Int) 0
theorem s_pzParse_ts : Tails c_s_pzParse.pts c_s_pzParse.round :=
  ⟨fun s => by
    obtain ⟨⟨⟨_, _⟩, ⟨_, _⟩, r2, r3, r4, _⟩, ⟨t0, _, _, _, s18, s19, _⟩, ⟨_, _⟩⟩ := s
    refine Tail.eq (Y := fun g => s_pzParse_t1 (fun r2 r3 r4 t0 s18 s19 => g.1 ((((), ()), ((), ()), r2, r3, r4, ()), (t0, (), (), (), s18, s19, ()), ((), ()))) r2 r3 r4 t0 s18 s19) ?_ (fun g => by kernel_rfl)
    simp only [s_pzParse_t1]; repeat (first | apply Tail.cond | (apply Tail.bind; intro _) | exact Tail.here _ | exact Tail.there (Tail.here _) | exact Tail.there (Tail.there (Tail.here _)) | exact Tail.there (Tail.there (Tail.there (Tail.here _))) | exact Tail.there (Tail.there (Tail.there (Tail.there (Tail.here _)))) | exact Tail.there (Tail.there (Tail.there (Tail.there (Tail.there (Tail.here _))))) | exact Tail.const _), trivial⟩
theorem s_pzParse_hs : ∀ x, Tail c_s_pzParse.pts (fun g => c_s_pzParse.start g x) := fun x => by
    obtain ⟨t0, _⟩ := x
    refine Tail.eq (Y := fun g => s_pzParse_t0 (fun r2 r3 r4 t0 s18 s19 => g.1 ((((), ()), ((), ()), r2, r3, r4, ()), (t0, (), (), (), s18, s19, ()), ((), ()))) t0) ?_ (fun g => by kernel_rfl)
    simp only [s_pzParse_t0]; repeat (first | apply Tail.cond | (apply Tail.bind; intro _) | exact Tail.here _ | exact Tail.there (Tail.here _) | exact Tail.there (Tail.there (Tail.here _)) | exact Tail.there (Tail.there (Tail.there (Tail.here _))) | exact Tail.there (Tail.there (Tail.there (Tail.there (Tail.here _)))) | exact Tail.there (Tail.there (Tail.there (Tail.there (Tail.there (Tail.here _))))) | exact Tail.const _)
noncomputable def s_pzParse_L1 (r2 : List (ByteArray)) (r3 : List (Int × (Int × Int))) (r4 : List (Int × (Int × Int))) (t0 : ByteArray) (s18 : Int) (s19 : Int) : Option (List (Int × Int × Int) × Bool) := c_s_pzParse.L.1 ((((), ()), ((), ()), r2, r3, r4, ()), (t0, (), (), (), s18, s19, ()), ((), ()))
theorem s_pzParse_u1 (r2 : List (ByteArray)) (r3 : List (Int × (Int × Int))) (r4 : List (Int × (Int × Int))) (t0 : ByteArray) (s18 : Int) (s19 : Int) : s_pzParse_L1 r2 r3 r4 t0 s18 s19 = s_pzParse_t1 s_pzParse_L1 r2 r3 r4 t0 s18 s19 :=
  (congrArg (fun g => g.1 ((((), ()), ((), ()), r2, r3, r4, ()), (t0, (), (), (), s18, s19, ()), ((), ()))) (FnCx.L_eq s_pzParse_ts)).trans (by kernel_rfl)
noncomputable def s_pzParse (t0 : ByteArray) : Option (List (Int × Int × Int) × Bool) := s_pzParse_t0 s_pzParse_L1 t0
theorem s_pzParse_e (t0 : ByteArray) : c_s_pzParse.start c_s_pzParse.L (t0, ()) = s_pzParse t0 := by kernel_rfl
noncomputable def F_s_pzParse : Ins c_s_pzParse.ins → Option (List (Int × Int × Int) × Bool) := fun x => s_pzParse x.1
noncomputable def S_s_pzParse : FSpec := mkF c_s_pzParse.env.pre c_s_pzParse.ins c_s_pzParse.out c_s_pzParse.inj F_s_pzParse
theorem h_s_pzParse : Cert Tryz.prog 59 S_s_pzParse := FnCx.certF (c := c_s_pzParse) F_s_pzParse (tyOk _ _ _) (spOk ⟨h_s_l1Split, fun _ _ h => h, ⟨h_s_l1Read, fun _ _ h => h, ⟨h_s_pzGood, fun _ _ h => h, ⟨h_s_pzText, fun _ _ h => h, trivial⟩⟩⟩⟩) (fun _ _ _ _ _ hs => evDr_ok (tyOk _ _ _) hs follows) Tryz.func59 rfl rfl Tryz.ntmps59 (by kernel_rfl) rfl rfl (fun _ => rfl) s_pzParse_ts s_pzParse_hs (fun x t hb ht => by
  obtain ⟨t0, _⟩ := x
  exact (s_pzParse_e t0).trans ht)
/-! spec.ParsePuzzle -/
noncomputable def c_s_ParsePuzzle : FnCx := { env := env 15 [(59, S_s_pzParse)] [], body := bodyOf Tryz.f35, res := [.cell 2 24, .tmp 3], ins := [.ro kstring], out := [(kPuzzle, true), (kbool, true)], T := List (Int × Int × Int) × Bool, fin := fun r => (r.1.1, r.1.2.1), inj := fun t => ((t.1, t.2, ()), ((), ())), pts := [], fuel := 400, dr := noDr }
noncomputable def s_ParsePuzzle (t0 : ByteArray) : Option (List (Int × Int × Int) × Bool) :=
  Option.bind (s_pzParse t0) fun r => bif !Prod.snd r then some ([], false) else some (Prod.fst r, true)
theorem s_ParsePuzzle_e (t0 : ByteArray) : c_s_ParsePuzzle.start c_s_ParsePuzzle.L (t0, ()) = s_ParsePuzzle t0 := by kernel_rfl
noncomputable def F_s_ParsePuzzle : Ins c_s_ParsePuzzle.ins → Option (List (Int × Int × Int) × Bool) := fun x => s_ParsePuzzle x.1
noncomputable def S_s_ParsePuzzle : FSpec := mkF c_s_ParsePuzzle.env.pre c_s_ParsePuzzle.ins c_s_ParsePuzzle.out c_s_ParsePuzzle.inj F_s_ParsePuzzle
theorem h_s_ParsePuzzle : Cert Tryz.prog 35 S_s_ParsePuzzle := FnCx.certF (c := c_s_ParsePuzzle) F_s_ParsePuzzle (tyOk _ _ _) (spOk ⟨h_s_pzParse, fun _ _ h => h, trivial⟩) (fun _ _ _ _ _ hs => noDr_ok) Tryz.func35 rfl rfl Tryz.ntmps35 (by kernel_rfl) rfl rfl (fun _ => rfl) trivial (fun x => .inl ⟨c_s_ParsePuzzle.start () x, fun _ => rfl⟩) (fun x t hb ht => by
  obtain ⟨t0, _⟩ := x
  exact (s_ParsePuzzle_e t0).trans ht)
/-! laws.wPuzzle -/
noncomputable def c_w_wPuzzle : FnCx := { env := env 31 [] [], body := bodyOf Tryz.f34, res := [.tmp 4], ins := [.ro kPuzzle, .ro kPuzzle], out := [(kbool, true)], T := Bool, fin := fun r => r.1.1, inj := fun t => ((t, ()), ((), (), ())), pts := [([.inLoop [1, 1, 0, 1, 0, 0], .inBlock 0, .code [1, 1, 1]], Shape.mk [Bs.box 24 [Cs.sl 2], Bs.box 24 [Cs.sl 3], Bs.row kClue 51 false, Bs.row kClue 51 false] [(2, Ss.one (Cs.ptr 0 0)), (3, Ss.one (Cs.ptr 1 0)), (15, Ss.one (Cs.sc kint)), (16, Ss.one (Cs.sc kint))] [Ss.one (Cs.any), Ss.one (Cs.any)])], fuel := 400, dr := evDr (env 31 [] []) }
noncomputable def w_wPuzzle_t1 (g1 : List (Int × (Int × Int)) → List (Int × (Int × Int)) → Int → Int → Option (Bool)) (r2 : List (Int × (Int × Int))) (r3 : List (Int × (Int × Int))) (s15 : Int) (s16 : Int) : Option Bool :=
  bif decide (s16 < s15) then
    bif decide (0 ≤ s16) then
      bif decide (s16 < (↑(List.length r2) : Int)) then
        bif decide (0 ≤ s16) then
          bif decide (s16 < (↑(List.length r3) : Int)) then
            bif
                !(Prod.fst (rdk kClue r2 s16) ==
                      Prod.fst (rdk kClue r3 s16) &&
                    (Prod.fst (Prod.snd (rdk kClue r2 s16)) ==
                        Prod.fst (Prod.snd (rdk kClue r3 s16)) &&
                      Prod.snd (Prod.snd (rdk kClue r2 s16)) ==
                        Prod.snd (Prod.snd (rdk kClue r3 s16)))) then
              some false
            else g1 r2 r3 s15 (IntKind.wrap IntKind.i64 (s16 + 1))
          else none
        else none
      else none
    else none
  else some true
noncomputable def w_wPuzzle_t0 (g1 : List (Int × (Int × Int)) → List (Int × (Int × Int)) → Int → Int → Option (Bool)) (a0_Clues : List (Int × Int × Int)) (b1_Clues : List (Int × Int × Int)) : Option Bool :=
  bif (↑(List.length a0_Clues) : Int) != (↑(List.length b1_Clues) : Int) then some false else g1 a0_Clues b1_Clues (↑(List.length a0_Clues) : Int) 0
theorem w_wPuzzle_ts : Tails c_w_wPuzzle.pts c_w_wPuzzle.round :=
  ⟨fun s => by
    obtain ⟨⟨⟨_, _⟩, ⟨_, _⟩, r2, r3, _⟩, ⟨_, _, s15, s16, _⟩, ⟨_, _, _⟩⟩ := s
    refine Tail.eq (Y := fun g => w_wPuzzle_t1 (fun r2 r3 s15 s16 => g.1 ((((), ()), ((), ()), r2, r3, ()), ((), (), s15, s16, ()), ((), (), ()))) r2 r3 s15 s16) ?_ (fun g => by kernel_rfl)
    simp only [w_wPuzzle_t1]; repeat (first | exact Tail.const _ | exact Tail.here _ | exact Tail.there (Tail.here _) | exact Tail.there (Tail.there (Tail.here _)) | exact Tail.there (Tail.there (Tail.there (Tail.here _))) | exact Tail.there (Tail.there (Tail.there (Tail.there (Tail.here _)))) | exact Tail.there (Tail.there (Tail.there (Tail.there (Tail.there (Tail.here _))))) | apply Tail.cond | (apply Tail.bind; intro _)), trivial⟩
theorem w_wPuzzle_hs : ∀ x, Tail c_w_wPuzzle.pts (fun g => c_w_wPuzzle.start g x) := fun x => by
    obtain ⟨a0_Clues, b1_Clues, _⟩ := x
    refine Tail.eq (Y := fun g => w_wPuzzle_t0 (fun r2 r3 s15 s16 => g.1 ((((), ()), ((), ()), r2, r3, ()), ((), (), s15, s16, ()), ((), (), ()))) a0_Clues b1_Clues) ?_ (fun g => by kernel_rfl)
    simp only [w_wPuzzle_t0]; repeat (first | exact Tail.const _ | exact Tail.here _ | exact Tail.there (Tail.here _) | exact Tail.there (Tail.there (Tail.here _)) | exact Tail.there (Tail.there (Tail.there (Tail.here _))) | exact Tail.there (Tail.there (Tail.there (Tail.there (Tail.here _)))) | exact Tail.there (Tail.there (Tail.there (Tail.there (Tail.there (Tail.here _))))) | apply Tail.cond | (apply Tail.bind; intro _))
noncomputable def w_wPuzzle_L1 (r2 : List (Int × (Int × Int))) (r3 : List (Int × (Int × Int))) (s15 : Int) (s16 : Int) : Option Bool := c_w_wPuzzle.L.1 ((((), ()), ((), ()), r2, r3, ()), ((), (), s15, s16, ()), ((), (), ()))
theorem w_wPuzzle_u1 (r2 : List (Int × (Int × Int))) (r3 : List (Int × (Int × Int))) (s15 : Int) (s16 : Int) : w_wPuzzle_L1 r2 r3 s15 s16 = w_wPuzzle_t1 w_wPuzzle_L1 r2 r3 s15 s16 :=
  (congrArg (fun g => g.1 ((((), ()), ((), ()), r2, r3, ()), ((), (), s15, s16, ()), ((), (), ()))) (FnCx.L_eq w_wPuzzle_ts)).trans (by kernel_rfl)
noncomputable def w_wPuzzle (a0_Clues : List (Int × Int × Int)) (b1_Clues : List (Int × Int × Int)) : Option Bool := w_wPuzzle_t0 w_wPuzzle_L1 a0_Clues b1_Clues
theorem w_wPuzzle_e (a0_Clues : List (Int × Int × Int)) (b1_Clues : List (Int × Int × Int)) : c_w_wPuzzle.start c_w_wPuzzle.L (a0_Clues, b1_Clues, ()) = w_wPuzzle a0_Clues b1_Clues := by kernel_rfl
noncomputable def F_w_wPuzzle : Ins c_w_wPuzzle.ins → Option Bool := fun x => w_wPuzzle x.1 x.2.1
noncomputable def S_w_wPuzzle : FSpec := mkF c_w_wPuzzle.env.pre c_w_wPuzzle.ins c_w_wPuzzle.out c_w_wPuzzle.inj F_w_wPuzzle
theorem h_w_wPuzzle : Cert Tryz.prog 34 S_w_wPuzzle := FnCx.certF (c := c_w_wPuzzle) F_w_wPuzzle (tyOk _ _ _) (spOk trivial) (fun _ _ _ _ _ hs => evDr_ok (tyOk _ _ _) hs follows) Tryz.func34 rfl rfl Tryz.ntmps34 (by kernel_rfl) rfl rfl (fun _ => rfl) w_wPuzzle_ts w_wPuzzle_hs (fun x t hb ht => by
  obtain ⟨a0_Clues, b1_Clues, _⟩ := x
  exact (w_wPuzzle_e a0_Clues b1_Clues).trans ht)
end Go.Proofs.YtoldoplpnkojdaaGreatDoor.V
