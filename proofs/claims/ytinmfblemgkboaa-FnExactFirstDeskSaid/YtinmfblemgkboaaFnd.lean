import Derived.Test.YtinmfblemgkboaaTy
/- Functions of the program, as plain functions. -/
set_option linter.unusedVariables false
set_option linter.unusedSimpArgs false
set_option maxRecDepth 100000
namespace Go.Proofs.Ytinmfblemgkboaa.V
open Go Go.Ev Go.Proofs
/-! spec.FirstDesk -/
noncomputable def c18 : FnCx := { env := env 8 [], body := bodyOf Try.f18, res := [.cell 0 36], ins := [], out := [(k36, true)], pts := [], fuel := 400, dr := noDr }
theorem e18  : c18.start () () =
  some ((((5, [1, 2], [3]), (60, 2), (4, 3, 4), [2, -1, 2, 1, -3, 0]), ()), ()) := by kernel_rfl
noncomputable def f18  : ((Int × List (Int) × List (Int)) × (Int × Int) × (Int × Int × Int) × List (Int)) :=
  ((5, [1, 2], [3]), (60, 2), (4, 3, 4), [2, -1, 2, 1, -3, 0])
noncomputable def F18 : Ins c18.ins → Outs c18.out := fun x => (f18, ())
noncomputable def S18 : FSpec := mkTot c18.ins c18.out () F18
theorem h18 : Cert Try.prog 18 S18 := FnCx.certT (c := c18) () F18 (tyOk _ _) (spOk trivial) (fun _ _ _ _ _ => noDr_ok) Try.func18 rfl rfl Try.ntmps18 (by kernel_rfl) rfl rfl (fun x hb => by
  obtain _ := x
  refine ⟨0, (e18 ).trans ?_⟩
  show _ = some ((f18 , ()), ())
  unfold f18
  repeat (first | rfl | apply cs1))
/-! impl.FirstDesk -/
noncomputable def c19 : FnCx := { env := env 8 [], body := bodyOf Try.f19, res := [.cell 0 36], ins := [], out := [(k36, true)], pts := [], fuel := 400, dr := noDr }
theorem e19  : c19.start () () =
  some ((((5, [1, 2], [3]), (60, 2), (4, 3, 4), [2, -1, 2, 1, -3, 0]), ()), ()) := by kernel_rfl
noncomputable def f19  : ((Int × List (Int) × List (Int)) × (Int × Int) × (Int × Int × Int) × List (Int)) :=
  ((5, [1, 2], [3]), (60, 2), (4, 3, 4), [2, -1, 2, 1, -3, 0])
noncomputable def F19 : Ins c19.ins → Outs c19.out := fun x => (f19, ())
noncomputable def S19 : FSpec := mkTot c19.ins c19.out () F19
theorem h19 : Cert Try.prog 19 S19 := FnCx.certT (c := c19) () F19 (tyOk _ _) (spOk trivial) (fun _ _ _ _ _ => noDr_ok) Try.func19 rfl rfl Try.ntmps19 (by kernel_rfl) rfl rfl (fun x hb => by
  obtain _ := x
  refine ⟨0, (e19 ).trans ?_⟩
  show _ = some ((f19 , ()), ())
  unfold f19
  repeat (first | rfl | apply cs1))
/-! laws.eqIntS -/
noncomputable def c103 : FnCx := { env := env 26 [], body := bodyOf Try.f103, res := [.tmp 4], ins := [.ro k28, .ro k28], out := [(k4, true)], pts := [([.inLoop [1, 1, 0, 1, 0, 0], .inBlock 0, .code [1, 1, 1]], Shape.mk [Bs.row (Kd.int IntKind.i64) 3 false, Bs.row (Kd.int IntKind.i64) 3 false] [(0, Ss.one (Cs.sl 0)), (1, Ss.one (Cs.sl 1)), (5, Ss.one (Cs.sc (Kd.int IntKind.i64)))] [Ss.one (Cs.any), Ss.one (Cs.any)])], fuel := 400, dr := evDr (env 26 []) }
theorem e103 (g : Gs c103.R c103.pts) (a0 : List (Int)) (b1 : List (Int)) : c103.start g (a0, b1, ()) =
  bif (↑(List.length a0) : Int) != (↑(List.length b1) : Int) then some ((false, ()), (), (), ()) else g.1 ((a0, b1, ()), ((), (), 0, ()), (), (), ()) := by kernel_rfl
theorem r103_1 (g : Gs c103.R c103.pts) (r0 : List (Int)) (r1 : List (Int)) (i5 : Int) : (c103.round g).1 ((r0, r1, ()), ((), (), i5, ()), ((), (), ())) =
  bif decide (i5 < (↑(List.length r0) : Int)) then
    bif decide (0 ≤ i5) then
      bif decide (i5 < (↑(List.length r0) : Int)) then
        bif decide (0 ≤ i5) then
          bif decide (i5 < (↑(List.length r1) : Int)) then
            bif rdk (Kd.int IntKind.i64) r0 i5 != rdk (Kd.int IntKind.i64) r1 i5 then some ((false, ()), (), (), ())
            else g.1 ((r0, r1, ()), ((), (), IntKind.wrap IntKind.i64 (i5 + 1), ()), (), (), ())
          else none
        else none
      else none
    else none
  else some ((true, ()), (), (), ()) := by kernel_rfl
noncomputable def f103 (a b : List Int) : Bool := decide (a = b)
theorem l103 (a b : List Int) (hb : a.length ≤ maxLen) (hl : a.length = b.length) : ∀ (m i : Nat), a.length - i ≤ m → i ≤ a.length → ∀ k, m < k →
    (c103.G k).1 ((a, b, ()), ((), (), (i : Int), ()), ((), (), ())) = some ((decide (a.drop i = b.drop i), ()), ((), (), ())) := by
  intro m
  induction m with
  | zero =>
    intro i h1 h2 k hk
    obtain ⟨k, rfl⟩ : ∃ k', k = k' + 1 := ⟨k - 1, by omega⟩
    rw [G_succ, r103_1]
    have : i = a.length := by omega
    subst this
    simp [hl]
    rfl
  | succ m ih =>
    intro i h1 h2 k hk
    obtain ⟨k, rfl⟩ : ∃ k', k = k' + 1 := ⟨k - 1, by omega⟩
    rw [G_succ, r103_1]
    by_cases h : i < a.length
    · have h' : i < b.length := by omega
      have e1 : decide ((i : Int) < (a.length : Int)) = true := decide_eq_true (by omega)
      have e3 : decide ((i : Int) < (b.length : Int)) = true := decide_eq_true (by omega)
      have e2 : decide ((0 : Int) ≤ (i : Int)) = true := decide_eq_true (by omega)
      have hw : IntKind.wrap .i64 ((i : Int) + 1) = ((i + 1 : Nat) : Int) := by rw [wrap64 (by omega) (by rw [maxLen_eq] at hb; omega)]; rfl
      rw [e1, e2, e3, rdk_get (k := .int .i64) h, rdk_get (k := .int .i64) h', hw, ih (i + 1) (by omega) (by omega) k (by omega), List.drop_eq_getElem_cons h, List.drop_eq_getElem_cons h']
      simp only [cond_true, List.cons.injEq]
      by_cases hn : a[i] = b[i]
      · simp [hn]; rfl
      · have : (a[i] != b[i]) = true := by simpa using hn
        rw [this]; simp [hn]; rfl
    · have : i = a.length := by omega
      subst this
      simp [hl]
      rfl
theorem p103 (x : Ins c103.ins) (hb : BdI c103.ins x) : ∃ n, c103.start (c103.G n) x = some ((f103 x.1 x.2.1, ()), ((), (), ())) := by
  obtain ⟨a, b, _⟩ := x
  refine ⟨a.length + 1, (e103 _ a b).trans ?_⟩
  by_cases h : a.length = b.length
  · have e : ((a.length : Int) != (b.length : Int)) = false := by simp [h]
    rw [e]
    exact l103 a b hb.1.1 h a.length 0 (by omega) (by omega) _ (by omega)
  · have e : ((a.length : Int) != (b.length : Int)) = true := by simp; omega
    rw [e]
    have hab : a ≠ b := fun e => h (by rw [e])
    simp [f103, hab]
    rfl
noncomputable def F103 : Ins c103.ins → Outs c103.out := fun x => (f103 x.1 x.2.1, ())
noncomputable def S103 : FSpec := mkTot c103.ins c103.out ((), (), ()) F103
theorem h103 : Cert Try.prog 103 S103 := FnCx.certT (c := c103) ((), (), ()) F103 (tyOk _ _) (spOk trivial) (fun _ _ _ _ _ => evDr_ok (tyOk _ _) (spOk trivial) follows) Try.func103 rfl rfl Try.ntmps103 (by kernel_rfl) rfl rfl p103
/-! laws.eqStairs -/
noncomputable def c32 : FnCx := { env := env 22 [(103, S103)], body := bodyOf Try.f32, res := [.tmp 4], ins := [.ro k30, .ro k30], out := [(k4, true)], pts := [], fuel := 400, dr := noDr }
theorem e32 (a0_Steps : Int) (a0_Strides : List (Int)) (a0_Broken : List (Int)) (b1_Steps : Int) (b1_Strides : List (Int)) (b1_Broken : List (Int)) : c32.start () ((a0_Steps, a0_Strides, a0_Broken), (b1_Steps, b1_Strides, b1_Broken), ()) =
  bif a0_Steps != b1_Steps then some ((false, ()), (), (), ())
  else
    bif !f103 a0_Strides b1_Strides then some ((false, ()), (), (), ())
    else bif !f103 a0_Broken b1_Broken then some ((false, ()), (), (), ()) else some ((true, ()), (), (), ()) := by kernel_rfl
noncomputable def f32 (a0_Steps : Int) (a0_Strides : List (Int)) (a0_Broken : List (Int)) (b1_Steps : Int) (b1_Strides : List (Int)) (b1_Broken : List (Int)) : Bool :=
  bif a0_Steps != b1_Steps then false else bif !f103 a0_Strides b1_Strides then false else bif !f103 a0_Broken b1_Broken then false else true
noncomputable def F32 : Ins c32.ins → Outs c32.out := fun x => (f32 x.1.1 x.1.2.1 x.1.2.2 x.2.1.1 x.2.1.2.1 x.2.1.2.2, ())
noncomputable def S32 : FSpec := mkTot c32.ins c32.out ((), (), ()) F32
theorem h32 : Cert Try.prog 32 S32 := FnCx.certT (c := c32) ((), (), ()) F32 (tyOk _ _) (spOk ⟨h103, trivial⟩) (fun _ _ _ _ _ => noDr_ok) Try.func32 rfl rfl Try.ntmps32 (by kernel_rfl) rfl rfl (fun x hb => by
  obtain ⟨⟨a0_Steps, a0_Strides, a0_Broken⟩, ⟨b1_Steps, b1_Strides, b1_Broken⟩, _⟩ := x
  refine ⟨0, (e32 a0_Steps a0_Strides a0_Broken b1_Steps b1_Strides b1_Broken).trans ?_⟩
  show _ = some ((f32 a0_Steps a0_Strides a0_Broken b1_Steps b1_Strides b1_Broken, ()), ((), (), ()))
  unfold f32
  repeat (first | rfl | apply cs1))
/-! laws.eqMoving -/
noncomputable def c101 : FnCx := { env := env 15 [], body := bodyOf Try.f101, res := [.tmp 4], ins := [.ro k32, .ro k32], out := [(k4, true)], pts := [], fuel := 400, dr := noDr }
theorem e101 (a0_Visible : Int) (a0_Speed : Int) (b1_Visible : Int) (b1_Speed : Int) : c101.start () ((a0_Visible, a0_Speed), (b1_Visible, b1_Speed), ()) =
  bif a0_Visible != b1_Visible then some ((false, ()), (), (), ())
  else bif a0_Speed != b1_Speed then some ((false, ()), (), (), ()) else some ((true, ()), (), (), ()) := by kernel_rfl
noncomputable def f101 (a0_Visible : Int) (a0_Speed : Int) (b1_Visible : Int) (b1_Speed : Int) : Bool :=
  bif a0_Visible != b1_Visible then false else bif a0_Speed != b1_Speed then false else true
noncomputable def F101 : Ins c101.ins → Outs c101.out := fun x => (f101 x.1.1 x.1.2 x.2.1.1 x.2.1.2, ())
noncomputable def S101 : FSpec := mkTot c101.ins c101.out ((), (), ()) F101
theorem h101 : Cert Try.prog 101 S101 := FnCx.certT (c := c101) ((), (), ()) F101 (tyOk _ _) (spOk trivial) (fun _ _ _ _ _ => noDr_ok) Try.func101 rfl rfl Try.ntmps101 (by kernel_rfl) rfl rfl (fun x hb => by
  obtain ⟨⟨a0_Visible, a0_Speed⟩, ⟨b1_Visible, b1_Speed⟩, _⟩ := x
  refine ⟨0, (e101 a0_Visible a0_Speed b1_Visible b1_Speed).trans ?_⟩
  show _ = some ((f101 a0_Visible a0_Speed b1_Visible b1_Speed, ()), ((), (), ()))
  unfold f101
  repeat (first | rfl | apply cs1))
/-! laws.eqFlight -/
noncomputable def c102 : FnCx := { env := env 20 [], body := bodyOf Try.f102, res := [.tmp 4], ins := [.ro k34, .ro k34], out := [(k4, true)], pts := [], fuel := 400, dr := noDr }
theorem e102 (a0_Risers : Int) (a0_Rise : Int) (a0_Tread : Int) (b1_Risers : Int) (b1_Rise : Int) (b1_Tread : Int) : c102.start () ((a0_Risers, a0_Rise, a0_Tread), (b1_Risers, b1_Rise, b1_Tread), ()) =
  bif a0_Risers != b1_Risers then some ((false, ()), (), (), ())
  else
    bif a0_Rise != b1_Rise then some ((false, ()), (), (), ())
    else bif a0_Tread != b1_Tread then some ((false, ()), (), (), ()) else some ((true, ()), (), (), ()) := by kernel_rfl
noncomputable def f102 (a0_Risers : Int) (a0_Rise : Int) (a0_Tread : Int) (b1_Risers : Int) (b1_Rise : Int) (b1_Tread : Int) : Bool :=
  bif a0_Risers != b1_Risers then false else bif a0_Rise != b1_Rise then false else bif a0_Tread != b1_Tread then false else true
noncomputable def F102 : Ins c102.ins → Outs c102.out := fun x => (f102 x.1.1 x.1.2.1 x.1.2.2 x.2.1.1 x.2.1.2.1 x.2.1.2.2, ())
noncomputable def S102 : FSpec := mkTot c102.ins c102.out ((), (), ()) F102
theorem h102 : Cert Try.prog 102 S102 := FnCx.certT (c := c102) ((), (), ()) F102 (tyOk _ _) (spOk trivial) (fun _ _ _ _ _ => noDr_ok) Try.func102 rfl rfl Try.ntmps102 (by kernel_rfl) rfl rfl (fun x hb => by
  obtain ⟨⟨a0_Risers, a0_Rise, a0_Tread⟩, ⟨b1_Risers, b1_Rise, b1_Tread⟩, _⟩ := x
  refine ⟨0, (e102 a0_Risers a0_Rise a0_Tread b1_Risers b1_Rise b1_Tread).trans ?_⟩
  show _ = some ((f102 a0_Risers a0_Rise a0_Tread b1_Risers b1_Rise b1_Tread, ()), ((), (), ()))
  unfold f102
  repeat (first | rfl | apply cs1))
/-! laws.eqDesk -/
noncomputable def c20 : FnCx := { env := env 29 [(32, S32), (101, S101), (102, S102), (103, S103)], body := bodyOf Try.f20, res := [.tmp 4], ins := [.ro k36, .ro k36], out := [(k4, true)], pts := [], fuel := 400, dr := noDr }
theorem e20 (a0_Stairs_Steps : Int) (a0_Stairs_Strides : List (Int)) (a0_Stairs_Broken : List (Int)) (a0_Moving_Visible : Int) (a0_Moving_Speed : Int) (a0_Flight_Risers : Int) (a0_Flight_Rise : Int) (a0_Flight_Tread : Int) (a0_Jumps : List (Int)) (b1_Stairs_Steps : Int) (b1_Stairs_Strides : List (Int)) (b1_Stairs_Broken : List (Int)) (b1_Moving_Visible : Int) (b1_Moving_Speed : Int) (b1_Flight_Risers : Int) (b1_Flight_Rise : Int) (b1_Flight_Tread : Int) (b1_Jumps : List (Int)) : c20.start () (((a0_Stairs_Steps, a0_Stairs_Strides, a0_Stairs_Broken), (a0_Moving_Visible, a0_Moving_Speed), (a0_Flight_Risers, a0_Flight_Rise, a0_Flight_Tread), a0_Jumps), ((b1_Stairs_Steps, b1_Stairs_Strides, b1_Stairs_Broken), (b1_Moving_Visible, b1_Moving_Speed), (b1_Flight_Risers, b1_Flight_Rise, b1_Flight_Tread), b1_Jumps), ()) =
  bif !f32 a0_Stairs_Steps a0_Stairs_Strides a0_Stairs_Broken b1_Stairs_Steps b1_Stairs_Strides b1_Stairs_Broken then some ((false, ()), (), (), ())
  else
    bif !f101 a0_Moving_Visible a0_Moving_Speed b1_Moving_Visible b1_Moving_Speed then some ((false, ()), (), (), ())
    else
      bif !f102 a0_Flight_Risers a0_Flight_Rise a0_Flight_Tread b1_Flight_Risers b1_Flight_Rise b1_Flight_Tread then some ((false, ()), (), (), ())
      else bif !f103 a0_Jumps b1_Jumps then some ((false, ()), (), (), ()) else some ((true, ()), (), (), ()) := by kernel_rfl
noncomputable def f20 (a0_Stairs_Steps : Int) (a0_Stairs_Strides : List (Int)) (a0_Stairs_Broken : List (Int)) (a0_Moving_Visible : Int) (a0_Moving_Speed : Int) (a0_Flight_Risers : Int) (a0_Flight_Rise : Int) (a0_Flight_Tread : Int) (a0_Jumps : List (Int)) (b1_Stairs_Steps : Int) (b1_Stairs_Strides : List (Int)) (b1_Stairs_Broken : List (Int)) (b1_Moving_Visible : Int) (b1_Moving_Speed : Int) (b1_Flight_Risers : Int) (b1_Flight_Rise : Int) (b1_Flight_Tread : Int) (b1_Jumps : List (Int)) : Bool :=
  bif !f32 a0_Stairs_Steps a0_Stairs_Strides a0_Stairs_Broken b1_Stairs_Steps b1_Stairs_Strides b1_Stairs_Broken then false
  else
    bif !f101 a0_Moving_Visible a0_Moving_Speed b1_Moving_Visible b1_Moving_Speed then false
    else
      bif !f102 a0_Flight_Risers a0_Flight_Rise a0_Flight_Tread b1_Flight_Risers b1_Flight_Rise b1_Flight_Tread then false
      else bif !f103 a0_Jumps b1_Jumps then false else true
noncomputable def F20 : Ins c20.ins → Outs c20.out := fun x => (f20 x.1.1.1 x.1.1.2.1 x.1.1.2.2 x.1.2.1.1 x.1.2.1.2 x.1.2.2.1.1 x.1.2.2.1.2.1 x.1.2.2.1.2.2 x.1.2.2.2 x.2.1.1.1 x.2.1.1.2.1 x.2.1.1.2.2 x.2.1.2.1.1 x.2.1.2.1.2 x.2.1.2.2.1.1 x.2.1.2.2.1.2.1 x.2.1.2.2.1.2.2 x.2.1.2.2.2, ())
noncomputable def S20 : FSpec := mkTot c20.ins c20.out ((), (), ()) F20
theorem h20 : Cert Try.prog 20 S20 := FnCx.certT (c := c20) ((), (), ()) F20 (tyOk _ _) (spOk ⟨h32, ⟨h101, ⟨h102, ⟨h103, trivial⟩⟩⟩⟩) (fun _ _ _ _ _ => noDr_ok) Try.func20 rfl rfl Try.ntmps20 (by kernel_rfl) rfl rfl (fun x hb => by
  obtain ⟨⟨⟨a0_Stairs_Steps, a0_Stairs_Strides, a0_Stairs_Broken⟩, ⟨a0_Moving_Visible, a0_Moving_Speed⟩, ⟨a0_Flight_Risers, a0_Flight_Rise, a0_Flight_Tread⟩, a0_Jumps⟩, ⟨⟨b1_Stairs_Steps, b1_Stairs_Strides, b1_Stairs_Broken⟩, ⟨b1_Moving_Visible, b1_Moving_Speed⟩, ⟨b1_Flight_Risers, b1_Flight_Rise, b1_Flight_Tread⟩, b1_Jumps⟩, _⟩ := x
  refine ⟨0, (e20 a0_Stairs_Steps a0_Stairs_Strides a0_Stairs_Broken a0_Moving_Visible a0_Moving_Speed a0_Flight_Risers a0_Flight_Rise a0_Flight_Tread a0_Jumps b1_Stairs_Steps b1_Stairs_Strides b1_Stairs_Broken b1_Moving_Visible b1_Moving_Speed b1_Flight_Risers b1_Flight_Rise b1_Flight_Tread b1_Jumps).trans ?_⟩
  show _ = some ((f20 a0_Stairs_Steps a0_Stairs_Strides a0_Stairs_Broken a0_Moving_Visible a0_Moving_Speed a0_Flight_Risers a0_Flight_Rise a0_Flight_Tread a0_Jumps b1_Stairs_Steps b1_Stairs_Strides b1_Stairs_Broken b1_Moving_Visible b1_Moving_Speed b1_Flight_Risers b1_Flight_Rise b1_Flight_Tread b1_Jumps, ()), ((), (), ()))
  unfold f20
  repeat (first | rfl | apply cs1))
/-! laws.markIntS -/
noncomputable def c104 : FnCx := { env := env 19 [], body := bodyOf Try.f104, res := [.tmp 4], ins := [.wr k28, .ro k3], out := [(k3, true)], pts := [([.inLoop [1, 0, 1, 0, 0], .inBlock 0, .code [1, 1]], Shape.mk [Bs.row (Kd.int IntKind.i64) 3 true] [(0, Ss.one (Cs.sl 0)), (1, Ss.one (Cs.sc (Kd.int IntKind.i64))), (5, Ss.one (Cs.sc (Kd.int IntKind.i64)))] [Ss.one (Cs.sl 0), Ss.one (Cs.any)])], fuel := 400, dr := noDr }
theorem e104 (g : Gs c104.R c104.pts) (a0 : List (Int)) (k1 : Int) : c104.start g (a0, k1, ()) =
  g.1 ((a0, ()), ((), k1, 0, ()), (), (), ()) := by kernel_rfl
theorem r104_1 (g : Gs c104.R c104.pts) (r0 : List (Int)) (k1 : Int) (i5 : Int) : (c104.round g).1 ((r0, ()), ((), k1, i5, ()), ((), (), ())) =
  bif decide (i5 < (↑(List.length r0) : Int)) then
    bif decide (0 ≤ i5) then
      bif decide (i5 < (↑(List.length r0) : Int)) then
        g.1 ((List.set r0 (Int.toNat i5) k1, ()), ((), IntKind.wrap IntKind.i64 (k1 + 1), IntKind.wrap IntKind.i64 (i5 + 1), ()), (), (), ())
      else none
    else none
  else some ((k1, ()), r0, (), ()) := by kernel_rfl
noncomputable def mkL : List Int → Int → List Int
  | [], _ => []
  | _ :: l, k => k :: mkL l (IntKind.wrap .i64 (k + 1))
noncomputable def mkN : List Int → Int → Int
  | [], k => k
  | _ :: l, k => mkN l (IntKind.wrap .i64 (k + 1))
noncomputable def f104 (a : List Int) (k : Int) : Int := mkN a k
noncomputable def U104 : Ins c104.ins → Ups c104.ins := fun x => (mkL x.1 x.2.1, (), ())
theorem l104 : ∀ (m : Nat) (a : List Int) (i : Nat) (k : Int), a.length ≤ maxLen → a.length - i ≤ m → i ≤ a.length → ∀ n, m < n →
    (c104.G n).1 ((a, ()), ((), k, (i : Int), ()), ((), (), ())) = some ((mkN (a.drop i) k, ()), (a.take i ++ mkL (a.drop i) k, (), ())) := by
  intro m
  induction m with
  | zero =>
    intro a i k hb h1 h2 n hn
    obtain ⟨n, rfl⟩ : ∃ k', n = k' + 1 := ⟨n - 1, by omega⟩
    rw [G_succ, r104_1]
    have : i = a.length := by omega
    subst this
    simp [mkN, mkL]
    rfl
  | succ m ih =>
    intro a i k hb h1 h2 n hn
    obtain ⟨n, rfl⟩ : ∃ k', n = k' + 1 := ⟨n - 1, by omega⟩
    rw [G_succ, r104_1]
    by_cases h : i < a.length
    · have e1 : decide ((i : Int) < (a.length : Int)) = true := decide_eq_true (by omega)
      have e2 : decide ((0 : Int) ≤ (i : Int)) = true := decide_eq_true (by omega)
      have hw : IntKind.wrap .i64 ((i : Int) + 1) = ((i + 1 : Nat) : Int) := by rw [wrap64 (by omega) (by rw [maxLen_eq] at hb; omega)]; rfl
      rw [e1, e2, hw, Int.toNat_natCast]
      simp only [cond_true]
      rw [ih (a.set i k) (i + 1) _ (by simpa using hb) (by simp; omega) (by simp; omega) n (by omega)]
      have e5 : (a.set i k).drop (i + 1) = a.drop (i + 1) := by rw [List.drop_set]; simp
      have e6 : (a.set i k).take (i + 1) = a.take i ++ [k] := by
        rw [List.take_set, List.take_succ_eq_append_getElem h, List.set_append_right _ _ (by simp; omega)]
        simp [Nat.min_eq_left (Nat.le_of_lt h)]
      rw [e5, e6, List.drop_eq_getElem_cons h]
      simp [mkN, mkL]
      rfl
    · have : i = a.length := by omega
      subst this
      simp [mkN, mkL]
      rfl
theorem p104 (x : Ins c104.ins) (hb : BdI c104.ins x) : ∃ n, c104.start (c104.G n) x = some ((f104 x.1 x.2.1, ()), U104 x) := by
  obtain ⟨a, k, _⟩ := x
  refine ⟨a.length + 1, (e104 _ a k).trans ?_⟩
  have := l104 a.length a 0 k hb.1.1 (by omega) (by omega) (a.length + 1) (by omega)
  exact this
noncomputable def F104 : Ins c104.ins → Outs c104.out := fun x => (f104 x.1 x.2.1, ())
noncomputable def S104 : FSpec := mkTotU c104.ins c104.out U104 F104
theorem h104 : Cert Try.prog 104 S104 := FnCx.certTU (c := c104) U104 F104 (tyOk _ _) (spOk trivial) (fun _ _ _ _ _ => noDr_ok) Try.func104 rfl rfl Try.ntmps104 (by kernel_rfl) rfl rfl p104
/-! laws.markStairs -/
noncomputable def c33 : FnCx := { env := env 14 [(104, S104)], body := bodyOf Try.f33, res := [.tmp 4], ins := [.wr k30, .ro k3], out := [(k3, true)], pts := [], fuel := 400, dr := noDr }
theorem e33 (a0_Steps : Int) (a0_Strides : List (Int)) (a0_Broken : List (Int)) (k1 : Int) : c33.start () ((a0_Steps, a0_Strides, a0_Broken), k1, ()) =
  some ((f104 a0_Broken (f104 a0_Strides k1), ()), (a0_Steps, mkL a0_Strides k1, mkL a0_Broken (f104 a0_Strides k1)), (), ()) := by kernel_rfl
noncomputable def f33 (a0_Steps : Int) (a0_Strides : List (Int)) (a0_Broken : List (Int)) (k1 : Int) : Int :=
  f104 a0_Broken (f104 a0_Strides k1)
noncomputable def u33 (a0_Steps : Int) (a0_Strides : List (Int)) (a0_Broken : List (Int)) (k1 : Int) : Ups c33.ins :=
  ((a0_Steps, mkL a0_Strides k1, mkL a0_Broken (f104 a0_Strides k1)), (), ())
noncomputable def F33 : Ins c33.ins → Outs c33.out := fun x => (f33 x.1.1 x.1.2.1 x.1.2.2 x.2.1, ())
noncomputable def U33 : Ins c33.ins → Ups c33.ins := fun x => u33 x.1.1 x.1.2.1 x.1.2.2 x.2.1
noncomputable def S33 : FSpec := mkTotU c33.ins c33.out U33 F33
theorem h33 : Cert Try.prog 33 S33 := FnCx.certTU (c := c33) U33 F33 (tyOk _ _) (spOk ⟨h104, trivial⟩) (fun _ _ _ _ _ => noDr_ok) Try.func33 rfl rfl Try.ntmps33 (by kernel_rfl) rfl rfl (fun x hb => by
  obtain ⟨⟨a0_Steps, a0_Strides, a0_Broken⟩, k1, _⟩ := x
  refine ⟨0, (e33 a0_Steps a0_Strides a0_Broken k1).trans ?_⟩
  show _ = some ((f33 a0_Steps a0_Strides a0_Broken k1, ()), u33 a0_Steps a0_Strides a0_Broken k1)
  unfold f33 u33
  repeat (first | rfl | apply cu1 | apply cs1))
/-! laws.markDesk -/
noncomputable def c21 : FnCx := { env := env 14 [(33, S33), (104, S104)], body := bodyOf Try.f21, res := [.tmp 4], ins := [.wr k36, .ro k3], out := [(k3, true)], pts := [], fuel := 400, dr := noDr }
theorem e21 (a0_Stairs_Steps : Int) (a0_Stairs_Strides : List (Int)) (a0_Stairs_Broken : List (Int)) (a0_Moving_Visible : Int) (a0_Moving_Speed : Int) (a0_Flight_Risers : Int) (a0_Flight_Rise : Int) (a0_Flight_Tread : Int) (a0_Jumps : List (Int)) (k1 : Int) : c21.start () (((a0_Stairs_Steps, a0_Stairs_Strides, a0_Stairs_Broken), (a0_Moving_Visible, a0_Moving_Speed), (a0_Flight_Risers, a0_Flight_Rise, a0_Flight_Tread), a0_Jumps), k1, ()) =
  some
    ((f104 a0_Jumps (f33 a0_Stairs_Steps a0_Stairs_Strides a0_Stairs_Broken k1), ()),
      ((a0_Stairs_Steps, mkL a0_Stairs_Strides k1, mkL a0_Stairs_Broken (f104 a0_Stairs_Strides k1)), (a0_Moving_Visible, a0_Moving_Speed),
        (a0_Flight_Risers, a0_Flight_Rise, a0_Flight_Tread), mkL a0_Jumps (f33 a0_Stairs_Steps a0_Stairs_Strides a0_Stairs_Broken k1)),
      (), ()) := by kernel_rfl
noncomputable def f21 (a0_Stairs_Steps : Int) (a0_Stairs_Strides : List (Int)) (a0_Stairs_Broken : List (Int)) (a0_Moving_Visible : Int) (a0_Moving_Speed : Int) (a0_Flight_Risers : Int) (a0_Flight_Rise : Int) (a0_Flight_Tread : Int) (a0_Jumps : List (Int)) (k1 : Int) : Int :=
  f104 a0_Jumps (f33 a0_Stairs_Steps a0_Stairs_Strides a0_Stairs_Broken k1)
noncomputable def u21 (a0_Stairs_Steps : Int) (a0_Stairs_Strides : List (Int)) (a0_Stairs_Broken : List (Int)) (a0_Moving_Visible : Int) (a0_Moving_Speed : Int) (a0_Flight_Risers : Int) (a0_Flight_Rise : Int) (a0_Flight_Tread : Int) (a0_Jumps : List (Int)) (k1 : Int) : Ups c21.ins :=
  (((a0_Stairs_Steps, mkL a0_Stairs_Strides k1, mkL a0_Stairs_Broken (f104 a0_Stairs_Strides k1)), (a0_Moving_Visible, a0_Moving_Speed),
      (a0_Flight_Risers, a0_Flight_Rise, a0_Flight_Tread), mkL a0_Jumps (f33 a0_Stairs_Steps a0_Stairs_Strides a0_Stairs_Broken k1)),
    (), ())
noncomputable def F21 : Ins c21.ins → Outs c21.out := fun x => (f21 x.1.1.1 x.1.1.2.1 x.1.1.2.2 x.1.2.1.1 x.1.2.1.2 x.1.2.2.1.1 x.1.2.2.1.2.1 x.1.2.2.1.2.2 x.1.2.2.2 x.2.1, ())
noncomputable def U21 : Ins c21.ins → Ups c21.ins := fun x => u21 x.1.1.1 x.1.1.2.1 x.1.1.2.2 x.1.2.1.1 x.1.2.1.2 x.1.2.2.1.1 x.1.2.2.1.2.1 x.1.2.2.1.2.2 x.1.2.2.2 x.2.1
noncomputable def S21 : FSpec := mkTotU c21.ins c21.out U21 F21
theorem h21 : Cert Try.prog 21 S21 := FnCx.certTU (c := c21) U21 F21 (tyOk _ _) (spOk ⟨h33, ⟨h104, trivial⟩⟩) (fun _ _ _ _ _ => noDr_ok) Try.func21 rfl rfl Try.ntmps21 (by kernel_rfl) rfl rfl (fun x hb => by
  obtain ⟨⟨⟨a0_Stairs_Steps, a0_Stairs_Strides, a0_Stairs_Broken⟩, ⟨a0_Moving_Visible, a0_Moving_Speed⟩, ⟨a0_Flight_Risers, a0_Flight_Rise, a0_Flight_Tread⟩, a0_Jumps⟩, k1, _⟩ := x
  refine ⟨0, (e21 a0_Stairs_Steps a0_Stairs_Strides a0_Stairs_Broken a0_Moving_Visible a0_Moving_Speed a0_Flight_Risers a0_Flight_Rise a0_Flight_Tread a0_Jumps k1).trans ?_⟩
  show _ = some ((f21 a0_Stairs_Steps a0_Stairs_Strides a0_Stairs_Broken a0_Moving_Visible a0_Moving_Speed a0_Flight_Risers a0_Flight_Rise a0_Flight_Tread a0_Jumps k1, ()), u21 a0_Stairs_Steps a0_Stairs_Strides a0_Stairs_Broken a0_Moving_Visible a0_Moving_Speed a0_Flight_Risers a0_Flight_Rise a0_Flight_Tread a0_Jumps k1)
  unfold f21 u21
  repeat (first | rfl | apply cu1 | apply cs1))
/-! laws.heldIntS -/
noncomputable def c105 : FnCx := { env := env 21 [], body := bodyOf Try.f105, res := [.tmp 4], ins := [.ro k28, .ro k3], out := [(k3, true)], pts := [([.inLoop [1, 0, 1, 0, 0], .inBlock 0, .code [1, 1]], Shape.mk [Bs.row (Kd.int IntKind.i64) 3 false] [(0, Ss.one (Cs.sl 0)), (1, Ss.one (Cs.sc (Kd.int IntKind.i64))), (5, Ss.one (Cs.sc (Kd.int IntKind.i64)))] [Ss.one (Cs.any), Ss.one (Cs.any)])], fuel := 400, dr := noDr }
theorem e105 (g : Gs c105.R c105.pts) (a0 : List (Int)) (k1 : Int) : c105.start g (a0, k1, ()) =
  g.1 ((a0, ()), ((), k1, 0, ()), (), (), ()) := by kernel_rfl
theorem r105_1 (g : Gs c105.R c105.pts) (r0 : List (Int)) (k1 : Int) (i5 : Int) : (c105.round g).1 ((r0, ()), ((), k1, i5, ()), ((), (), ())) =
  bif decide (i5 < (↑(List.length r0) : Int)) then
    bif decide (0 ≤ i5) then
      bif decide (i5 < (↑(List.length r0) : Int)) then
        bif rdk (Kd.int IntKind.i64) r0 i5 != k1 then some ((-1, ()), (), (), ())
        else g.1 ((r0, ()), ((), IntKind.wrap IntKind.i64 (k1 + 1), IntKind.wrap IntKind.i64 (i5 + 1), ()), (), (), ())
      else none
    else none
  else some ((k1, ()), (), (), ()) := by kernel_rfl
noncomputable def hdL : List Int → Int → Int
  | [], k => k
  | x :: l, k => cond (x != k) (-1) (hdL l (IntKind.wrap .i64 (k + 1)))
noncomputable def f105 (a : List Int) (k : Int) : Int := hdL a k
theorem l105 (a : List Int) (hb : a.length ≤ maxLen) : ∀ (m : Nat) (i : Nat) (k : Int), a.length - i ≤ m → i ≤ a.length → ∀ n, m < n →
    (c105.G n).1 ((a, ()), ((), k, (i : Int), ()), ((), (), ())) = some ((hdL (a.drop i) k, ()), ((), (), ())) := by
  intro m
  induction m with
  | zero =>
    intro i k h1 h2 n hn
    obtain ⟨n, rfl⟩ : ∃ k', n = k' + 1 := ⟨n - 1, by omega⟩
    rw [G_succ, r105_1]
    have : i = a.length := by omega
    subst this
    simp [hdL]
    rfl
  | succ m ih =>
    intro i k h1 h2 n hn
    obtain ⟨n, rfl⟩ : ∃ k', n = k' + 1 := ⟨n - 1, by omega⟩
    rw [G_succ, r105_1]
    by_cases h : i < a.length
    · have e1 : decide ((i : Int) < (a.length : Int)) = true := decide_eq_true (by omega)
      have e2 : decide ((0 : Int) ≤ (i : Int)) = true := decide_eq_true (by omega)
      have hw : IntKind.wrap .i64 ((i : Int) + 1) = ((i + 1 : Nat) : Int) := by rw [wrap64 (by omega) (by rw [maxLen_eq] at hb; omega)]; rfl
      rw [e1, e2, hw, rdk_get (k := .int .i64) h, ih (i + 1) _ (by omega) (by omega) n (by omega), List.drop_eq_getElem_cons h]
      simp only [cond_true, hdL]
      cases (a[i] != k) <;> rfl
    · have : i = a.length := by omega
      subst this
      simp [hdL]
      rfl
theorem p105 (x : Ins c105.ins) (hb : BdI c105.ins x) : ∃ n, c105.start (c105.G n) x = some ((f105 x.1 x.2.1, ()), ((), (), ())) := by
  obtain ⟨a, k, _⟩ := x
  refine ⟨a.length + 1, (e105 _ a k).trans ?_⟩
  exact l105 a hb.1.1 a.length 0 k (by omega) (by omega) _ (by omega)
noncomputable def F105 : Ins c105.ins → Outs c105.out := fun x => (f105 x.1 x.2.1, ())
noncomputable def S105 : FSpec := mkTot c105.ins c105.out ((), (), ()) F105
theorem h105 : Cert Try.prog 105 S105 := FnCx.certT (c := c105) ((), (), ()) F105 (tyOk _ _) (spOk trivial) (fun _ _ _ _ _ => noDr_ok) Try.func105 rfl rfl Try.ntmps105 (by kernel_rfl) rfl rfl p105
/-! laws.heldStairs -/
noncomputable def c34 : FnCx := { env := env 18 [(105, S105)], body := bodyOf Try.f34, res := [.tmp 4], ins := [.ro k30, .ro k3], out := [(k3, true)], pts := [], fuel := 400, dr := noDr }
theorem e34 (a0_Steps : Int) (a0_Strides : List (Int)) (a0_Broken : List (Int)) (k1 : Int) : c34.start () ((a0_Steps, a0_Strides, a0_Broken), k1, ()) =
  bif decide (f105 a0_Strides k1 < 0) then some ((-1, ()), (), (), ())
  else bif decide (f105 a0_Broken (f105 a0_Strides k1) < 0) then some ((-1, ()), (), (), ()) else some ((f105 a0_Broken (f105 a0_Strides k1), ()), (), (), ()) := by kernel_rfl
noncomputable def f34 (a0_Steps : Int) (a0_Strides : List (Int)) (a0_Broken : List (Int)) (k1 : Int) : Int :=
  bif decide (f105 a0_Strides k1 < 0) then -1 else bif decide (f105 a0_Broken (f105 a0_Strides k1) < 0) then -1 else f105 a0_Broken (f105 a0_Strides k1)
noncomputable def F34 : Ins c34.ins → Outs c34.out := fun x => (f34 x.1.1 x.1.2.1 x.1.2.2 x.2.1, ())
noncomputable def S34 : FSpec := mkTot c34.ins c34.out ((), (), ()) F34
theorem h34 : Cert Try.prog 34 S34 := FnCx.certT (c := c34) ((), (), ()) F34 (tyOk _ _) (spOk ⟨h105, trivial⟩) (fun _ _ _ _ _ => noDr_ok) Try.func34 rfl rfl Try.ntmps34 (by kernel_rfl) rfl rfl (fun x hb => by
  obtain ⟨⟨a0_Steps, a0_Strides, a0_Broken⟩, k1, _⟩ := x
  refine ⟨0, (e34 a0_Steps a0_Strides a0_Broken k1).trans ?_⟩
  show _ = some ((f34 a0_Steps a0_Strides a0_Broken k1, ()), ((), (), ()))
  unfold f34
  repeat (first | rfl | apply cs1))
/-! laws.heldDesk -/
noncomputable def c22 : FnCx := { env := env 18 [(34, S34), (105, S105)], body := bodyOf Try.f22, res := [.tmp 4], ins := [.ro k36, .ro k3], out := [(k3, true)], pts := [], fuel := 400, dr := noDr }
theorem e22 (a0_Stairs_Steps : Int) (a0_Stairs_Strides : List (Int)) (a0_Stairs_Broken : List (Int)) (a0_Moving_Visible : Int) (a0_Moving_Speed : Int) (a0_Flight_Risers : Int) (a0_Flight_Rise : Int) (a0_Flight_Tread : Int) (a0_Jumps : List (Int)) (k1 : Int) : c22.start () (((a0_Stairs_Steps, a0_Stairs_Strides, a0_Stairs_Broken), (a0_Moving_Visible, a0_Moving_Speed), (a0_Flight_Risers, a0_Flight_Rise, a0_Flight_Tread), a0_Jumps), k1, ()) =
  bif decide (f34 a0_Stairs_Steps a0_Stairs_Strides a0_Stairs_Broken k1 < 0) then some ((-1, ()), (), (), ())
  else
    bif decide (f105 a0_Jumps (f34 a0_Stairs_Steps a0_Stairs_Strides a0_Stairs_Broken k1) < 0) then some ((-1, ()), (), (), ())
    else some ((f105 a0_Jumps (f34 a0_Stairs_Steps a0_Stairs_Strides a0_Stairs_Broken k1), ()), (), (), ()) := by kernel_rfl
noncomputable def f22 (a0_Stairs_Steps : Int) (a0_Stairs_Strides : List (Int)) (a0_Stairs_Broken : List (Int)) (a0_Moving_Visible : Int) (a0_Moving_Speed : Int) (a0_Flight_Risers : Int) (a0_Flight_Rise : Int) (a0_Flight_Tread : Int) (a0_Jumps : List (Int)) (k1 : Int) : Int :=
  bif decide (f34 a0_Stairs_Steps a0_Stairs_Strides a0_Stairs_Broken k1 < 0) then -1
  else
    bif decide (f105 a0_Jumps (f34 a0_Stairs_Steps a0_Stairs_Strides a0_Stairs_Broken k1) < 0) then -1
    else f105 a0_Jumps (f34 a0_Stairs_Steps a0_Stairs_Strides a0_Stairs_Broken k1)
noncomputable def F22 : Ins c22.ins → Outs c22.out := fun x => (f22 x.1.1.1 x.1.1.2.1 x.1.1.2.2 x.1.2.1.1 x.1.2.1.2 x.1.2.2.1.1 x.1.2.2.1.2.1 x.1.2.2.1.2.2 x.1.2.2.2 x.2.1, ())
noncomputable def S22 : FSpec := mkTot c22.ins c22.out ((), (), ()) F22
theorem h22 : Cert Try.prog 22 S22 := FnCx.certT (c := c22) ((), (), ()) F22 (tyOk _ _) (spOk ⟨h34, ⟨h105, trivial⟩⟩) (fun _ _ _ _ _ => noDr_ok) Try.func22 rfl rfl Try.ntmps22 (by kernel_rfl) rfl rfl (fun x hb => by
  obtain ⟨⟨⟨a0_Stairs_Steps, a0_Stairs_Strides, a0_Stairs_Broken⟩, ⟨a0_Moving_Visible, a0_Moving_Speed⟩, ⟨a0_Flight_Risers, a0_Flight_Rise, a0_Flight_Tread⟩, a0_Jumps⟩, k1, _⟩ := x
  refine ⟨0, (e22 a0_Stairs_Steps a0_Stairs_Strides a0_Stairs_Broken a0_Moving_Visible a0_Moving_Speed a0_Flight_Risers a0_Flight_Rise a0_Flight_Tread a0_Jumps k1).trans ?_⟩
  show _ = some ((f22 a0_Stairs_Steps a0_Stairs_Strides a0_Stairs_Broken a0_Moving_Visible a0_Moving_Speed a0_Flight_Risers a0_Flight_Rise a0_Flight_Tread a0_Jumps k1, ()), ((), (), ()))
  unfold f22
  repeat (first | rfl | apply cs1))
/-! laws.FnExactFirstDesk -/
noncomputable def c4 : FnCx := { env := env 36 [(18, S18), (19, S19), (20, S20), (21, S21), (22, S22)], body := bodyOf Try.f4, res := [.tmp 0], ins := [], out := [(k4, true)], pts := [], fuel := 400, dr := noDr }
theorem e4  : c4.start () () =
  some ((true, ()), ()) := by kernel_rfl
noncomputable def f4  : Bool :=
  true
noncomputable def F4 : Ins c4.ins → Outs c4.out := fun x => (f4, ())
noncomputable def S4 : FSpec := mkTot c4.ins c4.out () F4
theorem h4 : Cert Try.prog 4 S4 := FnCx.certT (c := c4) () F4 (tyOk _ _) (spOk ⟨h18, ⟨h19, ⟨h20, ⟨h21, ⟨h22, trivial⟩⟩⟩⟩⟩) (fun _ _ _ _ _ => noDr_ok) Try.func4 rfl rfl Try.ntmps4 (by kernel_rfl) rfl rfl (fun x hb => by
  obtain _ := x
  refine ⟨0, (e4 ).trans ?_⟩
  show _ = some ((f4 , ()), ())
  unfold f4
  repeat (first | rfl | apply cs1))
end Go.Proofs.Ytinmfblemgkboaa.V
