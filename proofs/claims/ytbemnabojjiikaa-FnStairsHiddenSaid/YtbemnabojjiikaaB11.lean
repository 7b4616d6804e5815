/- Functions of the program, as plain functions. No condition. -/
import Derived.Test.YtbemnabojjiikaaB9
set_option linter.unusedVariables false
set_option linter.unusedSimpArgs false
set_option maxRecDepth 100000
namespace Go.Proofs.Ytbemnabojjiikaa.V
open Go Go.Ev Go.Proofs
/-! spec.pzNext -/
noncomputable def c_s_pzNext : FnCx := { env := env 7 [] [], body := bodyOf Try.f75, res := [.tmp 2], ins := [.ro kint], out := [(kint, true)], T := Int, fin := fun r => r.1.1, inj := fun t => ((t, ()), ((), ())), pts := [], fuel := 400, dr := noDr }
noncomputable def s_pzNext (z0 : Int) : Int :=
  Int.tmod (IntKind.wrap IntKind.i64 (IntKind.wrap IntKind.i64 (293 * z0) + 907)) 10007
theorem s_pzNext_e (z0 : Int) : c_s_pzNext.start c_s_pzNext.L (z0, ()) = some (s_pzNext z0) := by kernel_rfl
noncomputable def F_s_pzNext : Ins c_s_pzNext.ins → Int := fun x => s_pzNext x.1
noncomputable def S_s_pzNext : FSpec := mkT c_s_pzNext.env.pre c_s_pzNext.ins c_s_pzNext.out c_s_pzNext.inj F_s_pzNext
theorem h_s_pzNext : Cert Try.prog 75 S_s_pzNext := FnCx.certT (c := c_s_pzNext) F_s_pzNext (tyOk _ _ _) (spOk trivial) (fun _ _ _ _ _ hs => noDr_ok) Try.func75 rfl rfl Try.ntmps75 (by kernel_rfl) rfl rfl (fun _ => rfl) trivial (fun x => .inl ⟨c_s_pzNext.start () x, fun _ => rfl⟩) (fun x hb => by
  obtain ⟨z0, _⟩ := x
  exact s_pzNext_e z0)
/-! spec.pzOf -/
noncomputable def c_s_pzOf : FnCx := { env := env 26 [(91, S_s_pzValue)] [], body := bodyOf Try.f76, res := [.cell 6 63], ins := [.ro kint, .ro kint, .ro kStairs], out := [(kClue, true)], T := (Int × Int × Int), fin := fun r => r.1.1, inj := fun t => ((t, ()), ((), (), (), ())), pts := [], fuel := 400, dr := noDr }
noncomputable def s_pzOf (kind0 : Int) (y1 : Int) (s2_Steps : Int) (s2_Strides : List Int) (s2_Broken : List Int) : Option (Int × Int × Int) :=
  bif kind0 == 2 then
    Option.bind (s_pzValue kind0 (IntKind.wrap IntKind.i64 (Int.tmod y1 3 + 1)) s2_Steps s2_Strides s2_Broken) fun r =>
      some (kind0, IntKind.wrap IntKind.i64 (Int.tmod y1 3 + 1), r)
  else
    bif kind0 == 3 then
      Option.bind (s_pzValue kind0 (IntKind.wrap IntKind.i64 (Int.tmod y1 7 + 1)) s2_Steps s2_Strides s2_Broken) fun r =>
        some (kind0, IntKind.wrap IntKind.i64 (Int.tmod y1 7 + 1), r)
    else Option.bind (s_pzValue kind0 0 s2_Steps s2_Strides s2_Broken) fun r => some (kind0, 0, r)
theorem s_pzOf_e (kind0 : Int) (y1 : Int) (s2_Steps : Int) (s2_Strides : List Int) (s2_Broken : List Int) : c_s_pzOf.start c_s_pzOf.L (kind0, y1, (s2_Steps, s2_Strides, s2_Broken), ()) = s_pzOf kind0 y1 s2_Steps s2_Strides s2_Broken := by kernel_rfl
noncomputable def F_s_pzOf : Ins c_s_pzOf.ins → Option (Int × Int × Int) := fun x => s_pzOf x.1 x.2.1 x.2.2.1.1 x.2.2.1.2.1 x.2.2.1.2.2
noncomputable def S_s_pzOf : FSpec := mkF c_s_pzOf.env.pre c_s_pzOf.ins c_s_pzOf.out c_s_pzOf.inj F_s_pzOf
theorem h_s_pzOf : Cert Try.prog 76 S_s_pzOf := FnCx.certF (c := c_s_pzOf) F_s_pzOf (tyOk _ _ _) (spOk ⟨h_s_pzValue, fun _ _ _ => trivial, trivial⟩) (fun _ _ _ _ _ hs => noDr_ok) Try.func76 rfl rfl Try.ntmps76 (by kernel_rfl) rfl rfl (fun _ => rfl) trivial (fun x => .inl ⟨c_s_pzOf.start () x, fun _ => rfl⟩) (fun x t hb ht => by
  obtain ⟨kind0, y1, ⟨s2_Steps, s2_Strides, s2_Broken⟩, _⟩ := x
  exact (s_pzOf_e kind0 y1 s2_Steps s2_Strides s2_Broken).trans ht)
/-! spec.MakePuzzle -/
noncomputable def c_s_MakePuzzle : FnCx := { env := env 47 [(73, S_s_pzHidden), (74, S_s_l1In), (75, S_s_pzNext), (76, S_s_pzOf)] [], body := bodyOf Try.f16, res := [.cell 6 28, .tmp 7], ins := [.ro kStairs, .ro kint, .ro kint], out := [(kPuzzle, true), (kbool, true)], T := List (Int × Int × Int) × Bool, fin := fun r => (r.1.1, r.1.2.1), inj := fun t => ((t.1, t.2, ()), ((), (), (), ())), pts := [([.inLoop [1, 1, 1, 1, 0, 0, 0], .inBlock 0, .code [1, 1, 1, 1, 1]], Shape.mk [Bs.box 31 [Cs.sc kint, Cs.sl 3, Cs.sl 4], Bs.box 28 [Cs.sl 5], Bs.box 28 [Cs.sl 6], Bs.row kint 3 false, Bs.row kint 3 false, Bs.row kClue 63 true, Bs.row kClue 63 true] [(1, Ss.one (Cs.sc kint)), (3, Ss.one (Cs.ptr 0 0)), (6, Ss.one (Cs.ptr 1 0)), (8, Ss.one (Cs.ptr 2 0)), (9, Ss.one (Cs.sc kint))] [Ss.one (Cs.any), Ss.one (Cs.any), Ss.one (Cs.any)])], fuel := 400, dr := evDr (env 47 [(73, S_s_pzHidden), (74, S_s_l1In), (75, S_s_pzNext), (76, S_s_pzOf)] []) }
noncomputable def s_MakePuzzle_t1 (g1 : Int → List (Int) → List (Int) → List (Int × (Int × Int)) → List (Int × (Int × Int)) → Int → Int → Option (List (Int × Int × Int) × Bool)) (b0_0 : Int) (r3 : List (Int)) (r4 : List (Int)) (r5 : List (Int × (Int × Int))) (r6 : List (Int × (Int × Int))) (clues1 : Int) (z9 : Int) : Option (List (Int × Int × Int) × Bool) :=
  bif decide (clues1 > 0) then
    Option.bind (s_pzOf (Int.tmod (s_pzNext z9) 6) (s_pzNext (s_pzNext z9)) b0_0 r3 r4) fun r =>
      bif Nat.ble (List.length r6 + 1) 4294967296 then
        g1 b0_0 r3 r4 r5 (r6 ++ [(Prod.fst r, Prod.fst (Prod.snd r), Prod.snd (Prod.snd r))]) (IntKind.wrap IntKind.i64 (clues1 - 1)) (s_pzNext (s_pzNext z9))
      else none
  else some (r6, true)
noncomputable def s_MakePuzzle_t0 (g1 : Int → List (Int) → List (Int) → List (Int × (Int × Int)) → List (Int × (Int × Int)) → Int → Int → Option (List (Int × Int × Int) × Bool)) (s0_Steps : Int) (s0_Strides : List Int) (s0_Broken : List Int) (clues1 : Int) (seed2 : Int) : Option (List (Int × Int × Int) × Bool) :=
  Option.bind (s_pzHidden s0_Steps s0_Strides s0_Broken) fun r =>
    bif !r then some ([], false)
    else bif !s_l1In clues1 0 6 then some ([], false) else bif !s_l1In seed2 0 9999 then some ([], false) else g1 s0_Steps s0_Strides s0_Broken [] [] clues1 seed2
theorem s_MakePuzzle_ts : Tails c_s_MakePuzzle.pts c_s_MakePuzzle.round :=
  ⟨fun s => by
    obtain ⟨⟨⟨b0_0, _, _, _⟩, ⟨_, _⟩, ⟨_, _⟩, r3, r4, r5, r6, _⟩, ⟨clues1, _, _, _, z9, _⟩, ⟨_, _, _, _⟩⟩ := s
    refine Tail.eq (Y := fun g => s_MakePuzzle_t1 (fun b0_0 r3 r4 r5 r6 clues1 z9 => g.1 (((b0_0, (), (), ()), ((), ()), ((), ()), r3, r4, r5, r6, ()), (clues1, (), (), (), z9, ()), ((), (), (), ()))) b0_0 r3 r4 r5 r6 clues1 z9) ?_ (fun g => by kernel_rfl)
    simp only [s_MakePuzzle_t1]; repeat (first | exact Tail.const _ | exact Tail.here _ | exact Tail.there (Tail.here _) | exact Tail.there (Tail.there (Tail.here _)) | exact Tail.there (Tail.there (Tail.there (Tail.here _))) | exact Tail.there (Tail.there (Tail.there (Tail.there (Tail.here _)))) | exact Tail.there (Tail.there (Tail.there (Tail.there (Tail.there (Tail.here _))))) | apply Tail.cond | (apply Tail.bind; intro _)), trivial⟩
theorem s_MakePuzzle_hs : ∀ x, Tail c_s_MakePuzzle.pts (fun g => c_s_MakePuzzle.start g x) := fun x => by
    obtain ⟨⟨s0_Steps, s0_Strides, s0_Broken⟩, clues1, seed2, _⟩ := x
    refine Tail.eq (Y := fun g => s_MakePuzzle_t0 (fun b0_0 r3 r4 r5 r6 clues1 z9 => g.1 (((b0_0, (), (), ()), ((), ()), ((), ()), r3, r4, r5, r6, ()), (clues1, (), (), (), z9, ()), ((), (), (), ()))) s0_Steps s0_Strides s0_Broken clues1 seed2) ?_ (fun g => by kernel_rfl)
    simp only [s_MakePuzzle_t0]; repeat (first | exact Tail.const _ | exact Tail.here _ | exact Tail.there (Tail.here _) | exact Tail.there (Tail.there (Tail.here _)) | exact Tail.there (Tail.there (Tail.there (Tail.here _))) | exact Tail.there (Tail.there (Tail.there (Tail.there (Tail.here _)))) | exact Tail.there (Tail.there (Tail.there (Tail.there (Tail.there (Tail.here _))))) | apply Tail.cond | (apply Tail.bind; intro _))
noncomputable def s_MakePuzzle_L1 (b0_0 : Int) (r3 : List (Int)) (r4 : List (Int)) (r5 : List (Int × (Int × Int))) (r6 : List (Int × (Int × Int))) (clues1 : Int) (z9 : Int) : Option (List (Int × Int × Int) × Bool) := c_s_MakePuzzle.L.1 (((b0_0, (), (), ()), ((), ()), ((), ()), r3, r4, r5, r6, ()), (clues1, (), (), (), z9, ()), ((), (), (), ()))
theorem s_MakePuzzle_u1 (b0_0 : Int) (r3 : List (Int)) (r4 : List (Int)) (r5 : List (Int × (Int × Int))) (r6 : List (Int × (Int × Int))) (clues1 : Int) (z9 : Int) : s_MakePuzzle_L1 b0_0 r3 r4 r5 r6 clues1 z9 = s_MakePuzzle_t1 s_MakePuzzle_L1 b0_0 r3 r4 r5 r6 clues1 z9 :=
  (congrArg (fun g => g.1 (((b0_0, (), (), ()), ((), ()), ((), ()), r3, r4, r5, r6, ()), (clues1, (), (), (), z9, ()), ((), (), (), ()))) (FnCx.L_eq s_MakePuzzle_ts)).trans (by kernel_rfl)
noncomputable def s_MakePuzzle (s0_Steps : Int) (s0_Strides : List Int) (s0_Broken : List Int) (clues1 : Int) (seed2 : Int) : Option (List (Int × Int × Int) × Bool) := s_MakePuzzle_t0 s_MakePuzzle_L1 s0_Steps s0_Strides s0_Broken clues1 seed2
theorem s_MakePuzzle_e (s0_Steps : Int) (s0_Strides : List Int) (s0_Broken : List Int) (clues1 : Int) (seed2 : Int) : c_s_MakePuzzle.start c_s_MakePuzzle.L ((s0_Steps, s0_Strides, s0_Broken), clues1, seed2, ()) = s_MakePuzzle s0_Steps s0_Strides s0_Broken clues1 seed2 := by kernel_rfl
noncomputable def F_s_MakePuzzle : Ins c_s_MakePuzzle.ins → Option (List (Int × Int × Int) × Bool) := fun x => s_MakePuzzle x.1.1 x.1.2.1 x.1.2.2 x.2.1 x.2.2.1
noncomputable def S_s_MakePuzzle : FSpec := mkF c_s_MakePuzzle.env.pre c_s_MakePuzzle.ins c_s_MakePuzzle.out c_s_MakePuzzle.inj F_s_MakePuzzle
theorem h_s_MakePuzzle : Cert Try.prog 16 S_s_MakePuzzle := FnCx.certF (c := c_s_MakePuzzle) F_s_MakePuzzle (tyOk _ _ _) (spOk ⟨h_s_pzHidden, fun _ _ _ => trivial, ⟨h_s_l1In, fun _ _ _ => trivial, ⟨h_s_pzNext, fun _ _ _ => trivial, ⟨h_s_pzOf, fun _ _ _ => trivial, trivial⟩⟩⟩⟩) (fun _ _ _ _ _ hs => evDr_ok (tyOk _ _ _) hs follows) Try.func16 rfl rfl Try.ntmps16 (by kernel_rfl) rfl rfl (fun _ => rfl) s_MakePuzzle_ts s_MakePuzzle_hs (fun x t hb ht => by
  obtain ⟨⟨s0_Steps, s0_Strides, s0_Broken⟩, clues1, seed2, _⟩ := x
  exact (s_MakePuzzle_e s0_Steps s0_Strides s0_Broken clues1 seed2).trans ht)
/-! impl.MakePuzzle$1 -/
noncomputable def c_i_MakePuzzle_c1 : FnCx := { env := env 7 [] [], body := bodyOf Try.f80, res := [.tmp 1], ins := [.ptr 3 kint], out := [(kint, true)], T := Int × Int, fin := fun r => (r.1.1, r.2.1), inj := fun t => ((t.1, ()), (t.2, ())), pts := [], fuel := 400, dr := noDr }
noncomputable def i_MakePuzzle_c1 (x0 : Int) : (Int × Int) :=
  (Int.tmod (IntKind.wrap IntKind.i64 (IntKind.wrap IntKind.i64 (x0 * 293) + 907)) 10007,
    Int.tmod (IntKind.wrap IntKind.i64 (IntKind.wrap IntKind.i64 (x0 * 293) + 907)) 10007)
theorem i_MakePuzzle_c1_e (x0 : Int) : c_i_MakePuzzle_c1.start c_i_MakePuzzle_c1.L (x0, ()) = some (i_MakePuzzle_c1 x0) := by kernel_rfl
noncomputable def F_i_MakePuzzle_c1 : Ins c_i_MakePuzzle_c1.ins → (Int × Int) := fun x => i_MakePuzzle_c1 x.1
noncomputable def S_i_MakePuzzle_c1 : FSpec := mkT c_i_MakePuzzle_c1.env.pre c_i_MakePuzzle_c1.ins c_i_MakePuzzle_c1.out c_i_MakePuzzle_c1.inj F_i_MakePuzzle_c1
theorem h_i_MakePuzzle_c1 : Cert Try.prog 80 S_i_MakePuzzle_c1 := FnCx.certT (c := c_i_MakePuzzle_c1) F_i_MakePuzzle_c1 (tyOk _ _ _) (spOk trivial) (fun _ _ _ _ _ hs => noDr_ok) Try.func80 rfl rfl Try.ntmps80 (by kernel_rfl) rfl rfl (fun _ => rfl) trivial (fun x => .inl ⟨c_i_MakePuzzle_c1.start () x, fun _ => rfl⟩) (fun x hb => by
  obtain ⟨x0, _⟩ := x
  exact i_MakePuzzle_c1_e x0)
/-! impl.MakePuzzle -/
noncomputable def c_i_MakePuzzle : FnCx := { env := env 68 [(78, S_i_isHidden), (79, S_i_within), (80, S_i_MakePuzzle_c1), (81, S_i_bOf)] [], body := bodyOf Try.f18, res := [.cell 6 28, .tmp 7], ins := [.ro kStairs, .ro kint, .ro kint], out := [(kPuzzle, true), (kbool, true)], T := List (Int × Int × Int) × Bool, fin := fun r => (r.1.1, r.1.2.1), inj := fun t => ((t.1, t.2, ()), ((), (), (), ())), pts := [([.inLoop [1, 1, 1, 1, 0, 1, 0, 0], .inBlock 0, .code [1, 1, 1, 1, 1]], Shape.mk [Bs.box 31 [Cs.sc kint, Cs.sl 4, Cs.sl 5], Bs.box 28 [Cs.sl 6], Bs.box 28 [Cs.sl 7], Bs.box 3 [Cs.sc kint], Bs.row kint 3 false, Bs.row kint 3 false, Bs.row kClue 63 true, Bs.row kClue 63 true] [(3, Ss.one (Cs.ptr 0 0)), (6, Ss.one (Cs.ptr 1 0)), (9, Ss.one (Cs.ptr 2 0)), (10, Ss.fn 80 [Cs.ptr 3 0]), (30, Ss.one (Cs.sc kint)), (31, Ss.one (Cs.sc kint))] [Ss.one (Cs.any), Ss.one (Cs.any), Ss.one (Cs.any)])], fuel := 400, dr := noDr }
noncomputable def i_MakePuzzle_t1 (g1 : Int → Int → List (Int) → List (Int) → List (Int × (Int × Int)) → List (Int × (Int × Int)) → Int → Int → Option (List (Int × Int × Int) × Bool)) (b0_0 : Int) (b3_0 : Int) (r4 : List (Int)) (r5 : List (Int)) (r6 : List (Int × (Int × Int))) (r7 : List (Int × (Int × Int))) (s30 : Int) (s31 : Int) : Option (List (Int × Int × Int) × Bool) :=
  bif decide (s31 < s30) then
    bif Int.tmod (Int.tmod (IntKind.wrap IntKind.i64 (IntKind.wrap IntKind.i64 (b3_0 * 293) + 907)) 10007) 6 == 2 then
      Option.bind
        (i_bOf b0_0 r4 r5 (Int.tmod (Int.tmod (IntKind.wrap IntKind.i64 (IntKind.wrap IntKind.i64 (b3_0 * 293) + 907)) 10007) 6)
          (IntKind.wrap IntKind.i64
            (Int.tmod
                (Int.tmod
                  (IntKind.wrap IntKind.i64
                    (IntKind.wrap IntKind.i64 (Int.tmod (IntKind.wrap IntKind.i64 (IntKind.wrap IntKind.i64 (b3_0 * 293) + 907)) 10007 * 293) + 907))
                  10007)
                3 +
              1)))
        fun r =>
        bif Nat.ble (List.length r7 + 1) 4294967296 then
          g1 b0_0
            (Int.tmod
              (IntKind.wrap IntKind.i64
                (IntKind.wrap IntKind.i64 (Int.tmod (IntKind.wrap IntKind.i64 (IntKind.wrap IntKind.i64 (b3_0 * 293) + 907)) 10007 * 293) + 907))
              10007)
            r4 r5 r6
            (r7 ++
              [(Int.tmod (Int.tmod (IntKind.wrap IntKind.i64 (IntKind.wrap IntKind.i64 (b3_0 * 293) + 907)) 10007) 6,
                  IntKind.wrap IntKind.i64
                    (Int.tmod
                        (Int.tmod
                          (IntKind.wrap IntKind.i64
                            (IntKind.wrap IntKind.i64 (Int.tmod (IntKind.wrap IntKind.i64 (IntKind.wrap IntKind.i64 (b3_0 * 293) + 907)) 10007 * 293) + 907))
                          10007)
                        3 +
                      1),
                  r)])
            s30 (IntKind.wrap IntKind.i64 (s31 + 1))
        else none
    else
      bif Int.tmod (Int.tmod (IntKind.wrap IntKind.i64 (IntKind.wrap IntKind.i64 (b3_0 * 293) + 907)) 10007) 6 == 3 then
        Option.bind
          (i_bOf b0_0 r4 r5 (Int.tmod (Int.tmod (IntKind.wrap IntKind.i64 (IntKind.wrap IntKind.i64 (b3_0 * 293) + 907)) 10007) 6)
            (IntKind.wrap IntKind.i64
              (Int.tmod
                  (Int.tmod
                    (IntKind.wrap IntKind.i64
                      (IntKind.wrap IntKind.i64 (Int.tmod (IntKind.wrap IntKind.i64 (IntKind.wrap IntKind.i64 (b3_0 * 293) + 907)) 10007 * 293) + 907))
                    10007)
                  7 +
                1)))
          fun r =>
          bif Nat.ble (List.length r7 + 1) 4294967296 then
            g1 b0_0
              (Int.tmod
                (IntKind.wrap IntKind.i64
                  (IntKind.wrap IntKind.i64 (Int.tmod (IntKind.wrap IntKind.i64 (IntKind.wrap IntKind.i64 (b3_0 * 293) + 907)) 10007 * 293) + 907))
                10007)
              r4 r5 r6
              (r7 ++
                [(Int.tmod (Int.tmod (IntKind.wrap IntKind.i64 (IntKind.wrap IntKind.i64 (b3_0 * 293) + 907)) 10007) 6,
                    IntKind.wrap IntKind.i64
                      (Int.tmod
                          (Int.tmod
                            (IntKind.wrap IntKind.i64
                              (IntKind.wrap IntKind.i64 (Int.tmod (IntKind.wrap IntKind.i64 (IntKind.wrap IntKind.i64 (b3_0 * 293) + 907)) 10007 * 293) + 907))
                            10007)
                          7 +
                        1),
                    r)])
              s30 (IntKind.wrap IntKind.i64 (s31 + 1))
          else none
      else
        Option.bind (i_bOf b0_0 r4 r5 (Int.tmod (Int.tmod (IntKind.wrap IntKind.i64 (IntKind.wrap IntKind.i64 (b3_0 * 293) + 907)) 10007) 6) 0) fun r =>
          bif Nat.ble (List.length r7 + 1) 4294967296 then
            g1 b0_0
              (Int.tmod
                (IntKind.wrap IntKind.i64
                  (IntKind.wrap IntKind.i64 (Int.tmod (IntKind.wrap IntKind.i64 (IntKind.wrap IntKind.i64 (b3_0 * 293) + 907)) 10007 * 293) + 907))
                10007)
              r4 r5 r6 (r7 ++ [(Int.tmod (Int.tmod (IntKind.wrap IntKind.i64 (IntKind.wrap IntKind.i64 (b3_0 * 293) + 907)) 10007) 6, 0, r)]) s30
              (IntKind.wrap IntKind.i64 (s31 + 1))
          else none
  else some (r7, true)
noncomputable def i_MakePuzzle_t0 (g1 : Int → Int → List (Int) → List (Int) → List (Int × (Int × Int)) → List (Int × (Int × Int)) → Int → Int → Option (List (Int × Int × Int) × Bool)) (s0_Steps : Int) (s0_Strides : List Int) (s0_Broken : List Int) (clues1 : Int) (seed2 : Int) : Option (List (Int × Int × Int) × Bool) :=
  bif !i_isHidden s0_Steps s0_Strides s0_Broken then some ([], false)
  else
    bif !i_within clues1 0 6 then some ([], false)
    else bif !i_within seed2 0 9999 then some ([], false) else g1 s0_Steps seed2 s0_Strides s0_Broken [] [] clues1 0
theorem i_MakePuzzle_ts : Tails c_i_MakePuzzle.pts c_i_MakePuzzle.round :=
  ⟨fun s => by
    obtain ⟨⟨⟨b0_0, _, _, _⟩, ⟨_, _⟩, ⟨_, _⟩, ⟨b3_0, _⟩, r4, r5, r6, r7, _⟩, ⟨_, _, _, ⟨_, _⟩, s30, s31, _⟩, ⟨_, _, _, _⟩⟩ := s
    refine Tail.eq (Y := fun g => i_MakePuzzle_t1 (fun b0_0 b3_0 r4 r5 r6 r7 s30 s31 => g.1 (((b0_0, (), (), ()), ((), ()), ((), ()), (b3_0, ()), r4, r5, r6, r7, ()), ((), (), (), ((), ()), s30, s31, ()), ((), (), (), ()))) b0_0 b3_0 r4 r5 r6 r7 s30 s31) ?_ (fun g => by kernel_rfl)
    simp only [i_MakePuzzle_t1]; repeat (first | exact Tail.const _ | exact Tail.here _ | exact Tail.there (Tail.here _) | exact Tail.there (Tail.there (Tail.here _)) | exact Tail.there (Tail.there (Tail.there (Tail.here _))) | exact Tail.there (Tail.there (Tail.there (Tail.there (Tail.here _)))) | exact Tail.there (Tail.there (Tail.there (Tail.there (Tail.there (Tail.here _))))) | apply Tail.cond | (apply Tail.bind; intro _)), trivial⟩
theorem i_MakePuzzle_hs : ∀ x, Tail c_i_MakePuzzle.pts (fun g => c_i_MakePuzzle.start g x) := fun x => by
    obtain ⟨⟨s0_Steps, s0_Strides, s0_Broken⟩, clues1, seed2, _⟩ := x
    refine Tail.eq (Y := fun g => i_MakePuzzle_t0 (fun b0_0 b3_0 r4 r5 r6 r7 s30 s31 => g.1 (((b0_0, (), (), ()), ((), ()), ((), ()), (b3_0, ()), r4, r5, r6, r7, ()), ((), (), (), ((), ()), s30, s31, ()), ((), (), (), ()))) s0_Steps s0_Strides s0_Broken clues1 seed2) ?_ (fun g => by kernel_rfl)
    simp only [i_MakePuzzle_t0]; repeat (first | exact Tail.const _ | exact Tail.here _ | exact Tail.there (Tail.here _) | exact Tail.there (Tail.there (Tail.here _)) | exact Tail.there (Tail.there (Tail.there (Tail.here _))) | exact Tail.there (Tail.there (Tail.there (Tail.there (Tail.here _)))) | exact Tail.there (Tail.there (Tail.there (Tail.there (Tail.there (Tail.here _))))) | apply Tail.cond | (apply Tail.bind; intro _))
noncomputable def i_MakePuzzle_L1 (b0_0 : Int) (b3_0 : Int) (r4 : List (Int)) (r5 : List (Int)) (r6 : List (Int × (Int × Int))) (r7 : List (Int × (Int × Int))) (s30 : Int) (s31 : Int) : Option (List (Int × Int × Int) × Bool) := c_i_MakePuzzle.L.1 (((b0_0, (), (), ()), ((), ()), ((), ()), (b3_0, ()), r4, r5, r6, r7, ()), ((), (), (), ((), ()), s30, s31, ()), ((), (), (), ()))
theorem i_MakePuzzle_u1 (b0_0 : Int) (b3_0 : Int) (r4 : List (Int)) (r5 : List (Int)) (r6 : List (Int × (Int × Int))) (r7 : List (Int × (Int × Int))) (s30 : Int) (s31 : Int) : i_MakePuzzle_L1 b0_0 b3_0 r4 r5 r6 r7 s30 s31 = i_MakePuzzle_t1 i_MakePuzzle_L1 b0_0 b3_0 r4 r5 r6 r7 s30 s31 :=
  (congrArg (fun g => g.1 (((b0_0, (), (), ()), ((), ()), ((), ()), (b3_0, ()), r4, r5, r6, r7, ()), ((), (), (), ((), ()), s30, s31, ()), ((), (), (), ()))) (FnCx.L_eq i_MakePuzzle_ts)).trans (by kernel_rfl)
noncomputable def i_MakePuzzle (s0_Steps : Int) (s0_Strides : List Int) (s0_Broken : List Int) (clues1 : Int) (seed2 : Int) : Option (List (Int × Int × Int) × Bool) := i_MakePuzzle_t0 i_MakePuzzle_L1 s0_Steps s0_Strides s0_Broken clues1 seed2
theorem i_MakePuzzle_e (s0_Steps : Int) (s0_Strides : List Int) (s0_Broken : List Int) (clues1 : Int) (seed2 : Int) : c_i_MakePuzzle.start c_i_MakePuzzle.L ((s0_Steps, s0_Strides, s0_Broken), clues1, seed2, ()) = i_MakePuzzle s0_Steps s0_Strides s0_Broken clues1 seed2 := by kernel_rfl
noncomputable def F_i_MakePuzzle : Ins c_i_MakePuzzle.ins → Option (List (Int × Int × Int) × Bool) := fun x => i_MakePuzzle x.1.1 x.1.2.1 x.1.2.2 x.2.1 x.2.2.1
noncomputable def S_i_MakePuzzle : FSpec := mkF c_i_MakePuzzle.env.pre c_i_MakePuzzle.ins c_i_MakePuzzle.out c_i_MakePuzzle.inj F_i_MakePuzzle
theorem h_i_MakePuzzle : Cert Try.prog 18 S_i_MakePuzzle := FnCx.certF (c := c_i_MakePuzzle) F_i_MakePuzzle (tyOk _ _ _) (spOk ⟨h_i_isHidden, fun _ _ _ => trivial, ⟨h_i_within, fun _ _ _ => trivial, ⟨h_i_MakePuzzle_c1, fun _ _ _ => trivial, ⟨h_i_bOf, fun _ _ _ => trivial, trivial⟩⟩⟩⟩) (fun _ _ _ _ _ hs => noDr_ok) Try.func18 rfl rfl Try.ntmps18 (by kernel_rfl) rfl rfl (fun _ => rfl) i_MakePuzzle_ts i_MakePuzzle_hs (fun x t hb ht => by
  obtain ⟨⟨s0_Steps, s0_Strides, s0_Broken⟩, clues1, seed2, _⟩ := x
  exact (i_MakePuzzle_e s0_Steps s0_Strides s0_Broken clues1 seed2).trans ht)
/-! laws.FnExactMakePuzzle -/
noncomputable def c_w_FnExactMakePuzzle : FnCx := { env := env 106 [(15, S_w_szStairs), (17, S_w_toStairs), (16, S_s_MakePuzzle), (18, S_i_MakePuzzle), (19, S_w_eqPuzzle), (20, S_w_eqStairs), (21, S_w_markStairs), (22, S_w_markPuzzle), (23, S_w_heldPuzzle)] [], body := bodyOf Try.f3, res := [.tmp 6], ins := [.ro kwStairs, .ro kint, .ro kint], out := [(kbool, true)], T := Bool, fin := fun r => r.1.1, inj := fun t => ((t, ()), ((), (), (), ())), pts := [], fuel := 400, dr := evDr (env 106 [(15, S_w_szStairs), (17, S_w_toStairs), (16, S_s_MakePuzzle), (18, S_i_MakePuzzle), (19, S_w_eqPuzzle), (20, S_w_eqStairs), (21, S_w_markStairs), (22, S_w_markPuzzle), (23, S_w_heldPuzzle)] []) }
noncomputable def w_FnExactMakePuzzle (aS0_Steps : Int) (aS0_Strides : List Int) (aS0_Broken : List Int) (aClues1 : Int) (aSeed2 : Int) : Option Bool :=
  bif decide (w_szStairs aS0_Steps aS0_Strides aS0_Broken 1048576 < 0) then some true
  else
    Option.bind (w_toStairs aS0_Steps aS0_Strides aS0_Broken) fun r =>
      Option.bind (s_MakePuzzle (Prod.fst r) (Prod.fst (Prod.snd r)) (Prod.snd (Prod.snd r)) aClues1 aSeed2) fun r =>
        Option.bind (w_toStairs aS0_Steps aS0_Strides aS0_Broken) fun r_1 =>
          Option.bind (i_MakePuzzle (Prod.fst r_1) (Prod.fst (Prod.snd r_1)) (Prod.snd (Prod.snd r_1)) aClues1 aSeed2) fun r_2 =>
            bif !w_eqPuzzle (Prod.fst r_2) (Prod.fst r) then some false
            else
              bif !Prod.snd r_2 == Prod.snd r then some false
              else
                Option.bind (w_toStairs aS0_Steps aS0_Strides aS0_Broken) fun r_3 =>
                  bif
                      !w_eqStairs (Prod.fst r_1) (Prod.fst (Prod.snd r_1)) (Prod.snd (Prod.snd r_1)) (Prod.fst r_3) (Prod.fst (Prod.snd r_3))
                          (Prod.snd (Prod.snd r_3)) then
                    some false
                  else
                    bif decide (markK (Prod.snd (Prod.snd r_1)) (markK (Prod.fst (Prod.snd r_1)) 1) < 0) then some false
                    else
                      bif !w_eqPuzzle (Prod.fst r_2) (Prod.fst r) then some false
                      else
                        bif !Prod.snd r_2 == Prod.snd r then some false
                        else
                          bif decide (w_heldPuzzle (markGL mkClue nxClue (Prod.fst r_2) 1) 1 < 0) then some false
                          else
                            bif w_heldPuzzle (markGL mkClue nxClue (Prod.fst r_2) 1) 1 != markGK nxClue (Prod.fst r_2) 1 then some false
                            else
                              Option.bind (w_toStairs aS0_Steps aS0_Strides aS0_Broken) fun r_4 =>
                                Option.bind (i_MakePuzzle (Prod.fst r_4) (Prod.fst (Prod.snd r_4)) (Prod.snd (Prod.snd r_4)) aClues1 aSeed2) fun r_5 =>
                                  bif !w_eqPuzzle (Prod.fst r_5) (Prod.fst r) then some false
                                  else
                                    bif !Prod.snd r_5 == Prod.snd r then some false
                                    else
                                      bif decide (w_heldPuzzle (markGL mkClue nxClue (Prod.fst r_2) 1) 1 < 0) then some false
                                      else
                                        bif w_heldPuzzle (markGL mkClue nxClue (Prod.fst r_2) 1) 1 != markGK nxClue (Prod.fst r_2) 1 then some false
                                        else some true
theorem w_FnExactMakePuzzle_e (aS0_Steps : Int) (aS0_Strides : List Int) (aS0_Broken : List Int) (aClues1 : Int) (aSeed2 : Int) : c_w_FnExactMakePuzzle.start c_w_FnExactMakePuzzle.L ((aS0_Steps, aS0_Strides, aS0_Broken), aClues1, aSeed2, ()) = w_FnExactMakePuzzle aS0_Steps aS0_Strides aS0_Broken aClues1 aSeed2 := by kernel_rfl
noncomputable def F_w_FnExactMakePuzzle : Ins c_w_FnExactMakePuzzle.ins → Option Bool := fun x => w_FnExactMakePuzzle x.1.1 x.1.2.1 x.1.2.2 x.2.1 x.2.2.1
noncomputable def S_w_FnExactMakePuzzle : FSpec := mkF c_w_FnExactMakePuzzle.env.pre c_w_FnExactMakePuzzle.ins c_w_FnExactMakePuzzle.out c_w_FnExactMakePuzzle.inj F_w_FnExactMakePuzzle
theorem h_w_FnExactMakePuzzle : Cert Try.prog 3 S_w_FnExactMakePuzzle := FnCx.certF (c := c_w_FnExactMakePuzzle) F_w_FnExactMakePuzzle (tyOk _ _ _) (spOk ⟨h_w_szStairs, fun _ _ _ => trivial, ⟨h_w_toStairs, fun _ _ _ => trivial, ⟨h_s_MakePuzzle, fun _ _ _ => trivial, ⟨h_i_MakePuzzle, fun _ _ _ => trivial, ⟨h_w_eqPuzzle, fun _ _ _ => trivial, ⟨h_w_eqStairs, fun _ _ _ => trivial, ⟨h_w_markStairs, fun _ _ _ => trivial, ⟨h_w_markPuzzle, fun _ _ _ => trivial, ⟨h_w_heldPuzzle, fun _ _ _ => trivial, trivial⟩⟩⟩⟩⟩⟩⟩⟩⟩) (fun _ _ _ _ _ hs => evDr_ok (tyOk _ _ _) hs follows) Try.func3 rfl rfl Try.ntmps3 (by kernel_rfl) rfl rfl (fun _ => rfl) trivial (fun x => .inl ⟨c_w_FnExactMakePuzzle.start () x, fun _ => rfl⟩) (fun x t hb ht => by
  obtain ⟨⟨aS0_Steps, aS0_Strides, aS0_Broken⟩, aClues1, aSeed2, _⟩ := x
  exact (w_FnExactMakePuzzle_e aS0_Steps aS0_Strides aS0_Broken aClues1 aSeed2).trans ht)
end Go.Proofs.Ytbemnabojjiikaa.V
