import Derived.Test.YtinmfblemgkboaaTy
/- Functions of the program, as plain functions. -/
set_option linter.unusedVariables false
set_option linter.unusedSimpArgs false
set_option maxRecDepth 100000
namespace Go.Proofs.Ytinmfblemgkboaa.V
open Go Go.Ev Go.Proofs
/-! spec.l1In -/
noncomputable def c132 : FnCx := { env := env 15 [], body := bodyOf Try.f132, res := [.tmp 6], ins := [.ro k3, .ro k3, .ro k3], out := [(k4, true)], pts := [], fuel := 400, dr := noDr }
theorem e132 (n0 : Int) (lo1 : Int) (hi2 : Int) : c132.start () (n0, lo1, hi2, ()) =
  bif decide (n0 ≥ lo1) then some ((bif true then decide (n0 ≤ hi2) else false, ()), (), (), (), ()) else some ((false, ()), (), (), (), ()) := by kernel_rfl
noncomputable def f132 (n0 : Int) (lo1 : Int) (hi2 : Int) : Bool :=
  bif decide (n0 ≥ lo1) then bif true then decide (n0 ≤ hi2) else false else false
noncomputable def F132 : Ins c132.ins → Outs c132.out := fun x => (f132 x.1 x.2.1 x.2.2.1, ())
noncomputable def S132 : FSpec := mkTot c132.ins c132.out ((), (), (), ()) F132
theorem h132 : Cert Try.prog 132 S132 := FnCx.certT (c := c132) ((), (), (), ()) F132 (tyOk _ _) (spOk trivial) (fun _ _ _ _ _ => noDr_ok) Try.func132 rfl rfl Try.ntmps132 (by kernel_rfl) rfl rfl (fun x => by
  obtain ⟨n0, lo1, hi2, _⟩ := x
  refine ⟨0, (e132 n0 lo1 hi2).trans ?_⟩
  show _ = some ((f132 n0 lo1 hi2, ()), ((), (), (), ()))
  unfold f132
  repeat (first | rfl | apply cs1))
/-! spec.pzClue -/
noncomputable def c99 : FnCx := { env := env 37 [(132, S132)], body := bodyOf Try.f99, res := [.tmp 2], ins := [.ro k25], out := [(k4, true)], pts := [], fuel := 400, dr := noDr }
theorem e99 (c0_Kind : Int) (c0_A : Int) (c0_B : Int) : c99.start () ((c0_Kind, c0_A, c0_B), ()) =
  bif !f132 c0_B 0 60 then some ((false, ()), (), ())
  else
    bif c0_Kind == 0 then some ((c0_A == 0, ()), (), ())
    else
      bif c0_Kind == 1 then some ((c0_A == 0, ()), (), ())
      else
        bif c0_Kind == 4 then some ((c0_A == 0, ()), (), ())
        else
          bif c0_Kind == 5 then some ((c0_A == 0, ()), (), ())
          else
            bif c0_Kind == 2 then bif f132 c0_A 1 3 then some ((bif true then decide (c0_B < 2) else false, ()), (), ()) else some ((false, ()), (), ())
            else
              bif c0_Kind == 3 then bif f132 c0_A 1 7 then some ((bif true then decide (c0_B < 2) else false, ()), (), ()) else some ((false, ()), (), ())
              else some ((false, ()), (), ()) := by kernel_rfl
noncomputable def f99 (c0_Kind : Int) (c0_A : Int) (c0_B : Int) : Bool :=
  bif !f132 c0_B 0 60 then false
  else
    bif c0_Kind == 0 then c0_A == 0
    else
      bif c0_Kind == 1 then c0_A == 0
      else
        bif c0_Kind == 4 then c0_A == 0
        else
          bif c0_Kind == 5 then c0_A == 0
          else
            bif c0_Kind == 2 then bif f132 c0_A 1 3 then bif true then decide (c0_B < 2) else false else false
            else bif c0_Kind == 3 then bif f132 c0_A 1 7 then bif true then decide (c0_B < 2) else false else false else false
noncomputable def F99 : Ins c99.ins → Outs c99.out := fun x => (f99 x.1.1 x.1.2.1 x.1.2.2, ())
noncomputable def S99 : FSpec := mkTot c99.ins c99.out ((), ()) F99
theorem h99 : Cert Try.prog 99 S99 := FnCx.certT (c := c99) ((), ()) F99 (tyOk _ _) (spOk ⟨h132, trivial⟩) (fun _ _ _ _ _ => noDr_ok) Try.func99 rfl rfl Try.ntmps99 (by kernel_rfl) rfl rfl (fun x => by
  obtain ⟨⟨c0_Kind, c0_A, c0_B⟩, _⟩ := x
  refine ⟨0, (e99 c0_Kind c0_A c0_B).trans ?_⟩
  show _ = some ((f99 c0_Kind c0_A c0_B, ()), ((), ()))
  unfold f99
  repeat (first | rfl | apply cs1))
/-! spec.IsClue -/
noncomputable def c15 : FnCx := { env := env 5 [(99, S99)], body := bodyOf Try.f15, res := [.tmp 2], ins := [.ro k25], out := [(k4, true)], pts := [], fuel := 400, dr := noDr }
theorem e15 (c0_Kind : Int) (c0_A : Int) (c0_B : Int) : c15.start () ((c0_Kind, c0_A, c0_B), ()) =
  some ((f99 c0_Kind c0_A c0_B, ()), (), ()) := by kernel_rfl
noncomputable def f15 (c0_Kind : Int) (c0_A : Int) (c0_B : Int) : Bool :=
  f99 c0_Kind c0_A c0_B
noncomputable def F15 : Ins c15.ins → Outs c15.out := fun x => (f15 x.1.1 x.1.2.1 x.1.2.2, ())
noncomputable def S15 : FSpec := mkTot c15.ins c15.out ((), ()) F15
theorem h15 : Cert Try.prog 15 S15 := FnCx.certT (c := c15) ((), ()) F15 (tyOk _ _) (spOk ⟨h99, trivial⟩) (fun _ _ _ _ _ => noDr_ok) Try.func15 rfl rfl Try.ntmps15 (by kernel_rfl) rfl rfl (fun x => by
  obtain ⟨⟨c0_Kind, c0_A, c0_B⟩, _⟩ := x
  refine ⟨0, (e15 c0_Kind c0_A c0_B).trans ?_⟩
  show _ = some ((f15 c0_Kind c0_A c0_B, ()), ((), ()))
  unfold f15
  repeat (first | rfl | apply cs1))
/-! laws.toClue -/
noncomputable def c16 : FnCx := { env := env 14 [], body := bodyOf Try.f16, res := [.cell 2 25], ins := [.ro k23], out := [(k25, true)], pts := [], fuel := 400, dr := noDr }
theorem e16 (a0_Kind : Int) (a0_A : Int) (a0_B : Int) : c16.start () ((a0_Kind, a0_A, a0_B), ()) =
  some (((a0_Kind, a0_A, a0_B), ()), (), ()) := by kernel_rfl
noncomputable def f16 (a0_Kind : Int) (a0_A : Int) (a0_B : Int) : (Int × Int × Int) :=
  (a0_Kind, a0_A, a0_B)
noncomputable def F16 : Ins c16.ins → Outs c16.out := fun x => (f16 x.1.1 x.1.2.1 x.1.2.2, ())
noncomputable def S16 : FSpec := mkTot c16.ins c16.out ((), ()) F16
theorem h16 : Cert Try.prog 16 S16 := FnCx.certT (c := c16) ((), ()) F16 (tyOk _ _) (spOk trivial) (fun _ _ _ _ _ => noDr_ok) Try.func16 rfl rfl Try.ntmps16 (by kernel_rfl) rfl rfl (fun x => by
  obtain ⟨⟨a0_Kind, a0_A, a0_B⟩, _⟩ := x
  refine ⟨0, (e16 a0_Kind a0_A a0_B).trans ?_⟩
  show _ = some ((f16 a0_Kind a0_A a0_B, ()), ((), ()))
  unfold f16
  repeat (first | rfl | apply cs1))
/-! impl.within -/
noncomputable def c100 : FnCx := { env := env 15 [], body := bodyOf Try.f100, res := [.tmp 6], ins := [.ro k3, .ro k3, .ro k3], out := [(k4, true)], pts := [], fuel := 400, dr := noDr }
theorem e100 (n0 : Int) (low1 : Int) (high2 : Int) : c100.start () (n0, low1, high2, ()) =
  bif decide (low1 ≤ n0) then some ((bif true then decide (n0 ≤ high2) else false, ()), (), (), (), ()) else some ((false, ()), (), (), (), ()) := by kernel_rfl
noncomputable def f100 (n0 : Int) (low1 : Int) (high2 : Int) : Bool :=
  bif decide (low1 ≤ n0) then bif true then decide (n0 ≤ high2) else false else false
noncomputable def F100 : Ins c100.ins → Outs c100.out := fun x => (f100 x.1 x.2.1 x.2.2.1, ())
noncomputable def S100 : FSpec := mkTot c100.ins c100.out ((), (), (), ()) F100
theorem h100 : Cert Try.prog 100 S100 := FnCx.certT (c := c100) ((), (), (), ()) F100 (tyOk _ _) (spOk trivial) (fun _ _ _ _ _ => noDr_ok) Try.func100 rfl rfl Try.ntmps100 (by kernel_rfl) rfl rfl (fun x => by
  obtain ⟨n0, low1, high2, _⟩ := x
  refine ⟨0, (e100 n0 low1 high2).trans ?_⟩
  show _ = some ((f100 n0 low1 high2, ()), ((), (), (), ()))
  unfold f100
  repeat (first | rfl | apply cs1))
/-! impl.IsClue -/
noncomputable def c17 : FnCx := { env := env 38 [(100, S100)], body := bodyOf Try.f17, res := [.tmp 2], ins := [.ro k25], out := [(k4, true)], pts := [], fuel := 400, dr := noDr }
theorem e17 (c0_Kind : Int) (c0_A : Int) (c0_B : Int) : c17.start () ((c0_Kind, c0_A, c0_B), ()) =
  bif !f100 c0_Kind 0 5 then some ((false, ()), (), ())
  else
    bif bif false then true else !f100 c0_B 0 60 then some ((false, ()), (), ())
    else
      bif c0_Kind == 2 then bif f100 c0_A 1 3 then some ((bif true then decide (c0_B ≤ 1) else false, ()), (), ()) else some ((false, ()), (), ())
      else
        bif c0_Kind == 3 then bif f100 c0_A 1 7 then some ((bif true then decide (c0_B ≤ 1) else false, ()), (), ()) else some ((false, ()), (), ())
        else some ((c0_A == 0, ()), (), ()) := by kernel_rfl
noncomputable def f17 (c0_Kind : Int) (c0_A : Int) (c0_B : Int) : Bool :=
  bif !f100 c0_Kind 0 5 then false
  else
    bif bif false then true else !f100 c0_B 0 60 then false
    else
      bif c0_Kind == 2 then bif f100 c0_A 1 3 then bif true then decide (c0_B ≤ 1) else false else false
      else bif c0_Kind == 3 then bif f100 c0_A 1 7 then bif true then decide (c0_B ≤ 1) else false else false else c0_A == 0
noncomputable def F17 : Ins c17.ins → Outs c17.out := fun x => (f17 x.1.1 x.1.2.1 x.1.2.2, ())
noncomputable def S17 : FSpec := mkTot c17.ins c17.out ((), ()) F17
theorem h17 : Cert Try.prog 17 S17 := FnCx.certT (c := c17) ((), ()) F17 (tyOk _ _) (spOk ⟨h100, trivial⟩) (fun _ _ _ _ _ => noDr_ok) Try.func17 rfl rfl Try.ntmps17 (by kernel_rfl) rfl rfl (fun x => by
  obtain ⟨⟨c0_Kind, c0_A, c0_B⟩, _⟩ := x
  refine ⟨0, (e17 c0_Kind c0_A c0_B).trans ?_⟩
  show _ = some ((f17 c0_Kind c0_A c0_B, ()), ((), ()))
  unfold f17
  repeat (first | rfl | apply cs1))
/-! laws.FnExactIsClue -/
noncomputable def c3 : FnCx := { env := env 14 [(15, S15), (16, S16), (17, S17)], body := bodyOf Try.f3, res := [.tmp 2], ins := [.ro k23], out := [(k4, true)], pts := [], fuel := 400, dr := noDr }
theorem e3 (aC0_Kind : Int) (aC0_A : Int) (aC0_B : Int) : c3.start () ((aC0_Kind, aC0_A, aC0_B), ()) =
  bif !f17 aC0_Kind aC0_A aC0_B == f15 aC0_Kind aC0_A aC0_B then some ((false, ()), (), ()) else some ((true, ()), (), ()) := by kernel_rfl
noncomputable def f3 (aC0_Kind : Int) (aC0_A : Int) (aC0_B : Int) : Bool :=
  bif !f17 aC0_Kind aC0_A aC0_B == f15 aC0_Kind aC0_A aC0_B then false else true
noncomputable def F3 : Ins c3.ins → Outs c3.out := fun x => (f3 x.1.1 x.1.2.1 x.1.2.2, ())
noncomputable def S3 : FSpec := mkTot c3.ins c3.out ((), ()) F3
theorem h3 : Cert Try.prog 3 S3 := FnCx.certT (c := c3) ((), ()) F3 (tyOk _ _) (spOk ⟨h15, ⟨h16, ⟨h17, trivial⟩⟩⟩) (fun _ _ _ _ _ => noDr_ok) Try.func3 rfl rfl Try.ntmps3 (by kernel_rfl) rfl rfl (fun x => by
  obtain ⟨⟨aC0_Kind, aC0_A, aC0_B⟩, _⟩ := x
  refine ⟨0, (e3 aC0_Kind aC0_A aC0_B).trans ?_⟩
  show _ = some ((f3 aC0_Kind aC0_A aC0_B, ()), ((), ()))
  unfold f3
  repeat (first | rfl | apply cs1))
theorem tf3_0 : (TF Try.prog k23).1 23 := ⟨_, Try.underlying23, by kernel_rfl, rfl, by kernel_rfl, Try.underlying3, rfl, by kernel_rfl, Try.underlying3, rfl, by kernel_rfl, Try.underlying3⟩
end Go.Proofs.Ytinmfblemgkboaa.V
