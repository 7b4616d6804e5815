/- Functions of the program, as plain functions. No condition. -/
import Derived.Test.YthenlapjhlljnaaC2
set_option linter.unusedVariables false
set_option linter.unusedSimpArgs false
set_option maxRecDepth 100000
namespace Go.Proofs.Ythenlapjhlljnaa.V
open Go Go.Ev Go.Proofs
/-! (*spec.l1Cur).covered -/
noncomputable def c_s_l1Cur_covered : FnCx := { env := env 11 [(182, S_s_l1Cur_one), (180, S_s_l1Cur_among), (183, S_s_l1Cur_pick)] [], body := bodyOf Try.f178, res := [.tmp 2], ins := [.ptr 128 ksl1Cur], out := [(kint, true)], T := Int × (List Int × Int × Int), fin := fun r => (r.1.1, r.2.1), inj := fun t => ((t.1, ()), (t.2, ())), pts := [], fuel := 400, dr := noDr }
noncomputable def s_l1Cur_covered (c0_code : List Int) (c0_at : Int) (c0_seed : Int) : Option (Int × (List Int × Int × Int)) :=
  Option.bind (s_l1Cur_one c0_code c0_at c0_seed 10) fun r =>
    bif Prod.fst r then
      Option.bind
        (s_l1Cur_among (Prod.fst (Prod.snd r)) (Prod.fst (Prod.snd (Prod.snd r))) (Prod.snd (Prod.snd (Prod.snd r))) [-1, 0, 1, 100, 101, 4611686018427387904])
        fun r => some (Prod.fst r, Prod.fst (Prod.snd r), Prod.fst (Prod.snd (Prod.snd r)), Prod.snd (Prod.snd (Prod.snd r)))
    else
      Option.bind (s_l1Cur_pick (Prod.fst (Prod.snd r)) (Prod.fst (Prod.snd (Prod.snd r))) (Prod.snd (Prod.snd (Prod.snd r))) 20) fun r =>
        some (IntKind.wrap IntKind.i64 (1 + Prod.fst r), Prod.fst (Prod.snd r), Prod.fst (Prod.snd (Prod.snd r)), Prod.snd (Prod.snd (Prod.snd r)))
theorem s_l1Cur_covered_e (c0_code : List Int) (c0_at : Int) (c0_seed : Int) : c_s_l1Cur_covered.start c_s_l1Cur_covered.L ((c0_code, c0_at, c0_seed), ()) = s_l1Cur_covered c0_code c0_at c0_seed := by kernel_rfl
noncomputable def F_s_l1Cur_covered : Ins c_s_l1Cur_covered.ins → Option (Int × (List Int × Int × Int)) := fun x => s_l1Cur_covered x.1.1 x.1.2.1 x.1.2.2
noncomputable def S_s_l1Cur_covered : FSpec := mkF c_s_l1Cur_covered.env.pre c_s_l1Cur_covered.ins c_s_l1Cur_covered.out c_s_l1Cur_covered.inj F_s_l1Cur_covered
theorem h_s_l1Cur_covered : Cert Try.prog 178 S_s_l1Cur_covered := FnCx.certF (c := c_s_l1Cur_covered) F_s_l1Cur_covered (tyOk _ _ _) (spOk ⟨h_s_l1Cur_one, fun _ _ _ => trivial, ⟨h_s_l1Cur_among, fun _ _ _ => trivial, ⟨h_s_l1Cur_pick, fun _ _ _ => trivial, trivial⟩⟩⟩) (fun _ _ _ _ _ hs => noDr_ok) Try.func178 rfl rfl Try.ntmps178 (by kernel_rfl) rfl rfl (fun _ => rfl) trivial (fun x => .inl ⟨c_s_l1Cur_covered.start () x, fun _ => rfl⟩) (fun x t hb ht => by
  obtain ⟨⟨c0_code, c0_at, c0_seed⟩, _⟩ := x
  exact (s_l1Cur_covered_e c0_code c0_at c0_seed).trans ht)
/-! (*spec.l1Cur).need -/
noncomputable def c_s_l1Cur_need : FnCx := { env := env 11 [(182, S_s_l1Cur_one), (180, S_s_l1Cur_among), (183, S_s_l1Cur_pick)] [], body := bodyOf Try.f179, res := [.tmp 2], ins := [.ptr 128 ksl1Cur], out := [(kint, true)], T := Int × (List Int × Int × Int), fin := fun r => (r.1.1, r.2.1), inj := fun t => ((t.1, ()), (t.2, ())), pts := [], fuel := 400, dr := noDr }
noncomputable def s_l1Cur_need (c0_code : List Int) (c0_at : Int) (c0_seed : Int) : Option (Int × (List Int × Int × Int)) :=
  Option.bind (s_l1Cur_one c0_code c0_at c0_seed 10) fun r =>
    bif Prod.fst r then
      Option.bind
        (s_l1Cur_among (Prod.fst (Prod.snd r)) (Prod.fst (Prod.snd (Prod.snd r))) (Prod.snd (Prod.snd (Prod.snd r))) [-1, 0, 1, 100, 101, 4611686018427387904])
        fun r => some (Prod.fst r, Prod.fst (Prod.snd r), Prod.fst (Prod.snd (Prod.snd r)), Prod.snd (Prod.snd (Prod.snd r)))
    else
      Option.bind (s_l1Cur_pick (Prod.fst (Prod.snd r)) (Prod.fst (Prod.snd (Prod.snd r))) (Prod.snd (Prod.snd (Prod.snd r))) 30) fun r =>
        some (IntKind.wrap IntKind.i64 (1 + Prod.fst r), Prod.fst (Prod.snd r), Prod.fst (Prod.snd (Prod.snd r)), Prod.snd (Prod.snd (Prod.snd r)))
theorem s_l1Cur_need_e (c0_code : List Int) (c0_at : Int) (c0_seed : Int) : c_s_l1Cur_need.start c_s_l1Cur_need.L ((c0_code, c0_at, c0_seed), ()) = s_l1Cur_need c0_code c0_at c0_seed := by kernel_rfl
noncomputable def F_s_l1Cur_need : Ins c_s_l1Cur_need.ins → Option (Int × (List Int × Int × Int)) := fun x => s_l1Cur_need x.1.1 x.1.2.1 x.1.2.2
noncomputable def S_s_l1Cur_need : FSpec := mkF c_s_l1Cur_need.env.pre c_s_l1Cur_need.ins c_s_l1Cur_need.out c_s_l1Cur_need.inj F_s_l1Cur_need
theorem h_s_l1Cur_need : Cert Try.prog 179 S_s_l1Cur_need := FnCx.certF (c := c_s_l1Cur_need) F_s_l1Cur_need (tyOk _ _ _) (spOk ⟨h_s_l1Cur_one, fun _ _ _ => trivial, ⟨h_s_l1Cur_among, fun _ _ _ => trivial, ⟨h_s_l1Cur_pick, fun _ _ _ => trivial, trivial⟩⟩⟩) (fun _ _ _ _ _ hs => noDr_ok) Try.func179 rfl rfl Try.ntmps179 (by kernel_rfl) rfl rfl (fun _ => rfl) trivial (fun x => .inl ⟨c_s_l1Cur_need.start () x, fun _ => rfl⟩) (fun x t hb ht => by
  obtain ⟨⟨c0_code, c0_at, c0_seed⟩, _⟩ := x
  exact (s_l1Cur_need_e c0_code c0_at c0_seed).trans ht)
/-! spec.DrawPatternStarts -/
noncomputable def c_s_DrawPatternStarts : FnCx := { env := env 16 [(178, S_s_l1Cur_covered), (179, S_s_l1Cur_need), (180, S_s_l1Cur_among)] [], body := bodyOf Try.f35, res := [.tmp 2, .tmp 3, .tmp 4], ins := [.ro kSuint8], out := [(kint, true), (kint, true), (kint, true)], T := Int × Int × Int, fin := fun r => (r.1.1, r.1.2.1, r.1.2.2.1), inj := fun t => ((t.1, t.2.1, t.2.2, ()), ((), ())), pts := [], fuel := 400, dr := noDr }
noncomputable def s_DrawPatternStarts (code0 : List Int) : Option (Int × Int × Int) :=
  Option.bind (s_l1Cur_covered code0 0 0) fun r =>
    Option.bind (s_l1Cur_need (Prod.fst (Prod.snd r)) (Prod.fst (Prod.snd (Prod.snd r))) (Prod.snd (Prod.snd (Prod.snd r)))) fun r_1 =>
      Option.bind
        (s_l1Cur_among (Prod.fst (Prod.snd r_1)) (Prod.fst (Prod.snd (Prod.snd r_1))) (Prod.snd (Prod.snd (Prod.snd r_1)))
          [1, 2, 3, 4, 5, 6, 8, 10, 12, 16, 25, 2000, 2001, 0])
        fun r_2 => some (Prod.fst r, Prod.fst r_1, Prod.fst r_2)
theorem s_DrawPatternStarts_e (code0 : List Int) : c_s_DrawPatternStarts.start c_s_DrawPatternStarts.L (code0, ()) = s_DrawPatternStarts code0 := by kernel_rfl
noncomputable def F_s_DrawPatternStarts : Ins c_s_DrawPatternStarts.ins → Option (Int × Int × Int) := fun x => s_DrawPatternStarts x.1
noncomputable def S_s_DrawPatternStarts : FSpec := mkF c_s_DrawPatternStarts.env.pre c_s_DrawPatternStarts.ins c_s_DrawPatternStarts.out c_s_DrawPatternStarts.inj F_s_DrawPatternStarts
theorem h_s_DrawPatternStarts : Cert Try.prog 35 S_s_DrawPatternStarts := FnCx.certF (c := c_s_DrawPatternStarts) F_s_DrawPatternStarts (tyOk _ _ _) (spOk ⟨h_s_l1Cur_covered, fun _ _ _ => trivial, ⟨h_s_l1Cur_need, fun _ _ _ => trivial, ⟨h_s_l1Cur_among, fun _ _ _ => trivial, trivial⟩⟩⟩) (fun _ _ _ _ _ hs => noDr_ok) Try.func35 rfl rfl Try.ntmps35 (by kernel_rfl) rfl rfl (fun _ => rfl) trivial (fun x => .inl ⟨c_s_DrawPatternStarts.start () x, fun _ => rfl⟩) (fun x t hb ht => by
  obtain ⟨code0, _⟩ := x
  exact (s_DrawPatternStarts_e code0).trans ht)
/-! (*spec.l1Cur).of -/
noncomputable def c_s_l1Cur_of : FnCx := { env := env 12 [(183, S_s_l1Cur_pick)] [], body := bodyOf Try.f235, res := [.tmp 4], ins := [.ptr 128 ksl1Cur, .ro kSstring], out := [(kstring, true)], T := ByteArray × (List Int × Int × Int), fin := fun r => (r.1.1, r.2.1), inj := fun t => ((t.1, ()), (t.2, (), ())), pts := [], fuel := 400, dr := noDr }
noncomputable def s_l1Cur_of (c0_code : List Int) (c0_at : Int) (c0_seed : Int) (list1 : List ByteArray) : Option (ByteArray × (List Int × Int × Int)) :=
  Option.bind (s_l1Cur_pick c0_code c0_at c0_seed (↑(List.length list1) : Int)) fun r =>
    bif decide (0 ≤ Prod.fst r) then
      bif decide (Prod.fst r < (↑(List.length list1) : Int)) then
        some (rdk kstring list1 (Prod.fst r), Prod.fst (Prod.snd r), Prod.fst (Prod.snd (Prod.snd r)), Prod.snd (Prod.snd (Prod.snd r)))
      else none
    else none
theorem s_l1Cur_of_e (c0_code : List Int) (c0_at : Int) (c0_seed : Int) (list1 : List ByteArray) : c_s_l1Cur_of.start c_s_l1Cur_of.L ((c0_code, c0_at, c0_seed), list1, ()) = s_l1Cur_of c0_code c0_at c0_seed list1 := by kernel_rfl
noncomputable def F_s_l1Cur_of : Ins c_s_l1Cur_of.ins → Option (ByteArray × (List Int × Int × Int)) := fun x => s_l1Cur_of x.1.1 x.1.2.1 x.1.2.2 x.2.1
noncomputable def S_s_l1Cur_of : FSpec := mkF c_s_l1Cur_of.env.pre c_s_l1Cur_of.ins c_s_l1Cur_of.out c_s_l1Cur_of.inj F_s_l1Cur_of
theorem h_s_l1Cur_of : Cert Try.prog 235 S_s_l1Cur_of := FnCx.certF (c := c_s_l1Cur_of) F_s_l1Cur_of (tyOk _ _ _) (spOk ⟨h_s_l1Cur_pick, fun _ _ _ => trivial, trivial⟩) (fun _ _ _ _ _ hs => noDr_ok) Try.func235 rfl rfl Try.ntmps235 (by kernel_rfl) rfl rfl (fun _ => rfl) trivial (fun x => .inl ⟨c_s_l1Cur_of.start () x, fun _ => rfl⟩) (fun x t hb ht => by
  obtain ⟨⟨c0_code, c0_at, c0_seed⟩, list1, _⟩ := x
  exact (s_l1Cur_of_e c0_code c0_at c0_seed list1).trans ht)
/-! (*spec.l1Cur).stripes -/
noncomputable def c_s_l1Cur_stripes : FnCx := { env := env 6 [(235, S_s_l1Cur_of)] [], body := bodyOf Try.f181, res := [.tmp 2], ins := [.ptr 128 ksl1Cur], out := [(kstring, true)], T := ByteArray × (List Int × Int × Int), fin := fun r => (r.1.1, r.2.1), inj := fun t => ((t.1, ()), (t.2, ())), pts := [], fuel := 400, dr := noDr }
noncomputable def s_l1Cur_stripes (c0_code : List Int) (c0_at : Int) (c0_seed : Int) : Option (ByteArray × (List Int × Int × Int)) :=
  Option.bind
    (s_l1Cur_of c0_code c0_at c0_seed
      [{ data := #[97] }, { data := #[97, 98] }, { data := #[97, 98] }, { data := #[97, 98, 99] }, { data := #[97, 97, 98] }, { data := #[97, 98, 97, 99] },
        { data := #[97, 98, 99, 100, 101, 102, 103, 104, 105, 106] }, { data := #[97, 98, 99, 100, 101, 102, 103, 104, 105, 106, 107] }, { data := #[] },
        { data := #[97, 66] }])
    fun r => some (Prod.fst r, Prod.fst (Prod.snd r), Prod.fst (Prod.snd (Prod.snd r)), Prod.snd (Prod.snd (Prod.snd r)))
theorem s_l1Cur_stripes_e (c0_code : List Int) (c0_at : Int) (c0_seed : Int) : c_s_l1Cur_stripes.start c_s_l1Cur_stripes.L ((c0_code, c0_at, c0_seed), ()) = s_l1Cur_stripes c0_code c0_at c0_seed := by kernel_rfl
noncomputable def F_s_l1Cur_stripes : Ins c_s_l1Cur_stripes.ins → Option (ByteArray × (List Int × Int × Int)) := fun x => s_l1Cur_stripes x.1.1 x.1.2.1 x.1.2.2
noncomputable def S_s_l1Cur_stripes : FSpec := mkF c_s_l1Cur_stripes.env.pre c_s_l1Cur_stripes.ins c_s_l1Cur_stripes.out c_s_l1Cur_stripes.inj F_s_l1Cur_stripes
theorem h_s_l1Cur_stripes : Cert Try.prog 181 S_s_l1Cur_stripes := FnCx.certF (c := c_s_l1Cur_stripes) F_s_l1Cur_stripes (tyOk _ _ _) (spOk ⟨h_s_l1Cur_of, fun _ _ _ => trivial, trivial⟩) (fun _ _ _ _ _ hs => noDr_ok) Try.func181 rfl rfl Try.ntmps181 (by kernel_rfl) rfl rfl (fun _ => rfl) trivial (fun x => .inl ⟨c_s_l1Cur_stripes.start () x, fun _ => rfl⟩) (fun x t hb ht => by
  obtain ⟨⟨c0_code, c0_at, c0_seed⟩, _⟩ := x
  exact (s_l1Cur_stripes_e c0_code c0_at c0_seed).trans ht)
/-! spec.DrawColoursOfStep -/
noncomputable def c_s_DrawColoursOfStep : FnCx := { env := env 18 [(181, S_s_l1Cur_stripes), (179, S_s_l1Cur_need), (178, S_s_l1Cur_covered)] [], body := bodyOf Try.f36, res := [.tmp 2, .tmp 3, .tmp 4, .tmp 5], ins := [.ro kSuint8], out := [(kstring, true), (kint, true), (kint, true), (kint, true)], T := ByteArray × Int × Int × Int, fin := fun r => (r.1.1, r.1.2.1, r.1.2.2.1, r.1.2.2.2.1), inj := fun t => ((t.1, t.2.1, t.2.2.1, t.2.2.2, ()), ((), ())), pts := [], fuel := 400, dr := noDr }
noncomputable def s_DrawColoursOfStep (code0 : List Int) : Option (ByteArray × Int × Int × Int) :=
  Option.bind (s_l1Cur_stripes code0 0 0) fun r =>
    Option.bind (s_l1Cur_need (Prod.fst (Prod.snd r)) (Prod.fst (Prod.snd (Prod.snd r))) (Prod.snd (Prod.snd (Prod.snd r)))) fun r_1 =>
      Option.bind (s_l1Cur_need (Prod.fst (Prod.snd r_1)) (Prod.fst (Prod.snd (Prod.snd r_1))) (Prod.snd (Prod.snd (Prod.snd r_1)))) fun r_2 =>
        Option.bind (s_l1Cur_covered (Prod.fst (Prod.snd r_2)) (Prod.fst (Prod.snd (Prod.snd r_2))) (Prod.snd (Prod.snd (Prod.snd r_2)))) fun r_3 =>
          some (Prod.fst r, Prod.fst r_1, Prod.fst r_2, Prod.fst r_3)
theorem s_DrawColoursOfStep_e (code0 : List Int) : c_s_DrawColoursOfStep.start c_s_DrawColoursOfStep.L (code0, ()) = s_DrawColoursOfStep code0 := by kernel_rfl
noncomputable def F_s_DrawColoursOfStep : Ins c_s_DrawColoursOfStep.ins → Option (ByteArray × Int × Int × Int) := fun x => s_DrawColoursOfStep x.1
noncomputable def S_s_DrawColoursOfStep : FSpec := mkF c_s_DrawColoursOfStep.env.pre c_s_DrawColoursOfStep.ins c_s_DrawColoursOfStep.out c_s_DrawColoursOfStep.inj F_s_DrawColoursOfStep
theorem h_s_DrawColoursOfStep : Cert Try.prog 36 S_s_DrawColoursOfStep := FnCx.certF (c := c_s_DrawColoursOfStep) F_s_DrawColoursOfStep (tyOk _ _ _) (spOk ⟨h_s_l1Cur_stripes, fun _ _ _ => trivial, ⟨h_s_l1Cur_need, fun _ _ _ => trivial, ⟨h_s_l1Cur_covered, fun _ _ _ => trivial, trivial⟩⟩⟩) (fun _ _ _ _ _ hs => noDr_ok) Try.func36 rfl rfl Try.ntmps36 (by kernel_rfl) rfl rfl (fun _ => rfl) trivial (fun x => .inl ⟨c_s_DrawColoursOfStep.start () x, fun _ => rfl⟩) (fun x t hb ht => by
  obtain ⟨code0, _⟩ := x
  exact (s_DrawColoursOfStep_e code0).trans ht)
/-! spec.DrawColourAt -/
noncomputable def c_s_DrawColourAt : FnCx := { env := env 24 [(182, S_s_l1Cur_one), (181, S_s_l1Cur_stripes), (179, S_s_l1Cur_need), (180, S_s_l1Cur_among), (183, S_s_l1Cur_pick)] [], body := bodyOf Try.f37, res := [.tmp 2, .tmp 3, .tmp 4], ins := [.ro kSuint8], out := [(kstring, true), (kint, true), (kint, true)], T := ByteArray × Int × Int, fin := fun r => (r.1.1, r.1.2.1, r.1.2.2.1), inj := fun t => ((t.1, t.2.1, t.2.2, ()), ((), ())), pts := [], fuel := 400, dr := noDr }
noncomputable def s_DrawColourAt (code0 : List Int) : Option (ByteArray × Int × Int) :=
  Option.bind (s_l1Cur_one code0 0 0 8) fun r =>
    bif Prod.fst r then
      Option.bind (s_l1Cur_stripes (Prod.fst (Prod.snd r)) (Prod.fst (Prod.snd (Prod.snd r))) (Prod.snd (Prod.snd (Prod.snd r)))) fun r =>
        Option.bind (s_l1Cur_need (Prod.fst (Prod.snd r)) (Prod.fst (Prod.snd (Prod.snd r))) (Prod.snd (Prod.snd (Prod.snd r)))) fun r_1 =>
          Option.bind
            (s_l1Cur_among (Prod.fst (Prod.snd r_1)) (Prod.fst (Prod.snd (Prod.snd r_1))) (Prod.snd (Prod.snd (Prod.snd r_1))) [-1, 0, 1999, 2000, 2001])
            fun r_2 => some (Prod.fst r, Prod.fst r_1, Prod.fst r_2)
    else
      Option.bind (s_l1Cur_stripes (Prod.fst (Prod.snd r)) (Prod.fst (Prod.snd (Prod.snd r))) (Prod.snd (Prod.snd (Prod.snd r)))) fun r =>
        Option.bind (s_l1Cur_need (Prod.fst (Prod.snd r)) (Prod.fst (Prod.snd (Prod.snd r))) (Prod.snd (Prod.snd (Prod.snd r)))) fun r_1 =>
          Option.bind (s_l1Cur_pick (Prod.fst (Prod.snd r_1)) (Prod.fst (Prod.snd (Prod.snd r_1))) (Prod.snd (Prod.snd (Prod.snd r_1))) 100) fun r_2 =>
            some (Prod.fst r, Prod.fst r_1, Prod.fst r_2)
theorem s_DrawColourAt_e (code0 : List Int) : c_s_DrawColourAt.start c_s_DrawColourAt.L (code0, ()) = s_DrawColourAt code0 := by kernel_rfl
noncomputable def F_s_DrawColourAt : Ins c_s_DrawColourAt.ins → Option (ByteArray × Int × Int) := fun x => s_DrawColourAt x.1
noncomputable def S_s_DrawColourAt : FSpec := mkF c_s_DrawColourAt.env.pre c_s_DrawColourAt.ins c_s_DrawColourAt.out c_s_DrawColourAt.inj F_s_DrawColourAt
theorem h_s_DrawColourAt : Cert Try.prog 37 S_s_DrawColourAt := FnCx.certF (c := c_s_DrawColourAt) F_s_DrawColourAt (tyOk _ _ _) (spOk ⟨h_s_l1Cur_one, fun _ _ _ => trivial, ⟨h_s_l1Cur_stripes, fun _ _ _ => trivial, ⟨h_s_l1Cur_need, fun _ _ _ => trivial, ⟨h_s_l1Cur_among, fun _ _ _ => trivial, ⟨h_s_l1Cur_pick, fun _ _ _ => trivial, trivial⟩⟩⟩⟩⟩) (fun _ _ _ _ _ hs => noDr_ok) Try.func37 rfl rfl Try.ntmps37 (by kernel_rfl) rfl rfl (fun _ => rfl) trivial (fun x => .inl ⟨c_s_DrawColourAt.start () x, fun _ => rfl⟩) (fun x t hb ht => by
  obtain ⟨code0, _⟩ := x
  exact (s_DrawColourAt_e code0).trans ht)
/-! laws.FnCarpetsLook -/
noncomputable def c_w_FnCarpetsLook : FnCx := { env := env 577 [(34, S_w_big), (35, S_s_DrawPatternStarts), (15, S_i_PatternStarts), (16, S_s_PatternStarts), (17, S_i_WholeStarts), (18, S_s_WholeStarts), (19, S_i_PatternPeriod), (20, S_s_PatternPeriod), (21, S_i_WithPattern), (22, S_s_WithPattern), (23, S_w_wSame), (24, S_w_wRises), (25, S_w_wHas), (36, S_s_DrawColoursOfStep), (26, S_i_ColoursOfStep), (27, S_s_ColoursOfStep), (28, S_i_AlikeSteps), (29, S_s_AlikeSteps), (37, S_s_DrawColourAt), (30, S_i_ColourAt), (31, S_s_ColourAt), (32, S_i_IsStriped), (33, S_s_IsStriped)] [], body := bodyOf Try.f4, res := [.tmp 4], ins := [.ro kSuint8, .ro kSuint8], out := [(kbool, true)], T := Bool, fin := fun r => r.1.1, inj := fun t => ((t, ()), ((), (), ())), pts := [([.code [1, 1, 1, 1, 1, 1, 1, 1, 1, 1, 1, 1]], Shape.mk [Bs.row kuint8 5 false, Bs.row kint 3 true, Bs.row kint 3 true] [(1, Ss.one (Cs.sl 0)), (5, Ss.one (Cs.sc kint)), (6, Ss.one (Cs.sc kint)), (7, Ss.one (Cs.sc kint)), (8, Ss.one (Cs.sl 1)), (9, Ss.one (Cs.sc kbool)), (12, Ss.one (Cs.sl 2)), (16, Ss.one (Cs.sc kint)), (17, Ss.one (Cs.sc kbool)), (20, Ss.one (Cs.sc kint)), (21, Ss.one (Cs.sc kint))] [Ss.one (Cs.any), Ss.one (Cs.any)]), ([.code [1, 1, 1, 1, 1, 1, 1, 1, 1, 1, 1, 1, 1]], Shape.mk [Bs.row kuint8 5 false] [(1, Ss.one (Cs.sl 0)), (6, Ss.one (Cs.sc kint)), (7, Ss.one (Cs.sc kint)), (16, Ss.one (Cs.sc kint)), (17, Ss.one (Cs.sc kbool)), (20, Ss.one (Cs.sc kint)), (21, Ss.one (Cs.sc kint))] [Ss.one (Cs.any), Ss.one (Cs.any)]), ([.code [1, 1, 1, 1, 1, 1, 1, 1, 1, 1, 1, 1, 1, 1]], Shape.mk [Bs.row kuint8 5 false] [(1, Ss.one (Cs.sl 0))] [Ss.one (Cs.any), Ss.one (Cs.any)]), ([.code [1, 1, 1, 1, 1, 1, 1, 1, 1, 1, 1, 1, 1, 1, 1, 1, 1, 1, 1, 1, 1, 1, 1]], Shape.mk [Bs.row kint 3 true] [(28, Ss.one (Cs.sc kstring)), (29, Ss.one (Cs.sc kint)), (30, Ss.one (Cs.sc kint)), (31, Ss.one (Cs.sc kint)), (32, Ss.one (Cs.sc kstring)), (33, Ss.one (Cs.sc kbool)), (36, Ss.one (Cs.sl 0)), (40, Ss.one (Cs.sc kstring)), (41, Ss.one (Cs.sc kint)), (42, Ss.one (Cs.sc kint)), (43, Ss.one (Cs.sc kstring)), (44, Ss.one (Cs.sc kbool))] [Ss.one (Cs.any), Ss.one (Cs.any)]), ([.code [1, 1, 1, 1, 1, 1, 1, 1, 1, 1, 1, 1, 1, 1, 1, 1, 1, 1, 1, 1, 1, 1, 1, 1]], Shape.mk [] [(40, Ss.one (Cs.sc kstring)), (41, Ss.one (Cs.sc kint)), (42, Ss.one (Cs.sc kint)), (43, Ss.one (Cs.sc kstring)), (44, Ss.one (Cs.sc kbool))] [Ss.one (Cs.any), Ss.one (Cs.any)]), ([.code [1, 1, 1, 1, 1, 1, 1, 1, 1, 1, 1, 1, 1, 1, 1, 1, 1, 1, 1, 1, 1, 1, 1, 1, 1]], Shape.mk [] [] [Ss.one (Cs.any), Ss.one (Cs.any)]), ([.inLoop [1, 1, 1, 1, 1, 1, 1, 1, 1, 1, 1, 1, 0, 1, 0, 1, 1, 0, 0], .inBlock 0, .code [1, 1, 1, 1, 1, 1, 1, 1, 1, 1, 1, 1, 1]], Shape.mk [Bs.row kuint8 5 false, Bs.row kint 3 true, Bs.row kint 3 true] [(1, Ss.one (Cs.sl 0)), (6, Ss.one (Cs.sc kint)), (7, Ss.one (Cs.sc kint)), (8, Ss.one (Cs.sl 1)), (12, Ss.one (Cs.sl 2)), (16, Ss.one (Cs.sc kint)), (17, Ss.one (Cs.sc kbool)), (20, Ss.one (Cs.sc kint)), (21, Ss.one (Cs.sc kint)), (203, Ss.one (Cs.sl 1)), (204, Ss.one (Cs.sc kint)), (205, Ss.one (Cs.sc kint))] [Ss.one (Cs.any), Ss.one (Cs.any)]), ([.inLoop [1, 1, 1, 1, 1, 1, 1, 1, 1, 1, 1, 1, 1, 1, 1, 1, 1, 1, 1, 1, 1, 1, 1, 0, 1, 0, 1, 1, 1, 0, 1, 1, 1, 1, 0, 0], .inBlock 2, .code [1, 1, 1, 1, 1, 1, 1, 1, 1, 1, 1, 1, 1, 1, 1, 1, 1, 1, 1, 1, 1, 1, 1, 1]], Shape.mk [Bs.row kint 3 true] [(28, Ss.one (Cs.sc kstring)), (29, Ss.one (Cs.sc kint)), (30, Ss.one (Cs.sc kint)), (31, Ss.one (Cs.sc kint)), (40, Ss.one (Cs.sc kstring)), (41, Ss.one (Cs.sc kint)), (42, Ss.one (Cs.sc kint)), (43, Ss.one (Cs.sc kstring)), (44, Ss.one (Cs.sc kbool)), (491, Ss.one (Cs.sl 0)), (492, Ss.one (Cs.sc kint)), (493, Ss.one (Cs.sc kint))] [Ss.one (Cs.any), Ss.one (Cs.any)]), ([.inLoop [1, 1, 1, 1, 1, 1, 1, 1, 1, 1, 1, 1, 1, 1, 1, 1, 1, 1, 1, 1, 1, 1, 1, 0, 1, 0, 1, 1, 1, 0, 1, 1, 1, 1, 0, 0, 1, 1, 0, 0, 1, 1, 1, 0, 0], .inBlock 4, .inBlock 3, .code [1, 1, 1, 1, 1, 1, 1, 1, 1, 1, 1, 1, 1, 1, 1, 1, 1, 1, 1, 1, 1, 1, 1, 0, 1, 0, 1, 1, 1, 0, 1, 1, 1, 1, 0, 0, 1, 1, 1], .inLoop [1, 1, 1, 1, 1, 1, 1, 1, 1, 1, 1, 1, 1, 1, 1, 1, 1, 1, 1, 1, 1, 1, 1, 0, 1, 0, 1, 1, 1, 0, 1, 1, 1, 1, 0, 0], .inBlock 2, .code [1, 1, 1, 1, 1, 1, 1, 1, 1, 1, 1, 1, 1, 1, 1, 1, 1, 1, 1, 1, 1, 1, 1, 1]], Shape.mk [Bs.row kint 3 true] [(28, Ss.one (Cs.sc kstring)), (29, Ss.one (Cs.sc kint)), (30, Ss.one (Cs.sc kint)), (31, Ss.one (Cs.sc kint)), (40, Ss.one (Cs.sc kstring)), (41, Ss.one (Cs.sc kint)), (42, Ss.one (Cs.sc kint)), (43, Ss.one (Cs.sc kstring)), (44, Ss.one (Cs.sc kbool)), (54, Ss.one (Cs.sc kint)), (55, Ss.one (Cs.sc kint)), (491, Ss.one (Cs.sl 0)), (492, Ss.one (Cs.sc kint)), (493, Ss.one (Cs.sc kint))] [Ss.one (Cs.any), Ss.one (Cs.any)])], fuel := 400, dr := evDr (env 577 [(34, S_w_big), (35, S_s_DrawPatternStarts), (15, S_i_PatternStarts), (16, S_s_PatternStarts), (17, S_i_WholeStarts), (18, S_s_WholeStarts), (19, S_i_PatternPeriod), (20, S_s_PatternPeriod), (21, S_i_WithPattern), (22, S_s_WithPattern), (23, S_w_wSame), (24, S_w_wRises), (25, S_w_wHas), (36, S_s_DrawColoursOfStep), (26, S_i_ColoursOfStep), (27, S_s_ColoursOfStep), (28, S_i_AlikeSteps), (29, S_s_AlikeSteps), (37, S_s_DrawColourAt), (30, S_i_ColourAt), (31, S_s_ColourAt), (32, S_i_IsStriped), (33, S_s_IsStriped)] []) }
noncomputable def w_FnCarpetsLook_t1 (g1 : List (Int) → List (Int) → List (Int) → Int → Int → Int → Bool → Int → Bool → Int → Int → Option (Bool)) (g2 : List (Int) → Int → Int → Int → Bool → Int → Int → Option (Bool)) (g3 : List (Int) → Option (Bool)) (g4 : List (Int) → ByteArray → Int → Int → Int → ByteArray → Bool → ByteArray → Int → Int → ByteArray → Bool → Option (Bool)) (g5 : ByteArray → Int → Int → ByteArray → Bool → Option (Bool)) (g6 : Option (Bool)) (g7 : List (Int) → List (Int) → List (Int) → Int → Int → Int → Bool → Int → Int → Int → Int → Option (Bool)) (g8 : List (Int) → ByteArray → Int → Int → Int → ByteArray → Int → Int → ByteArray → Bool → Int → Int → Option (Bool)) (g9 : List (Int) → ByteArray → Int → Int → Int → ByteArray → Int → Int → ByteArray → Bool → Int → Int → Int → Int → Option (Bool)) (r0 : List (Int)) (r1 : List (Int)) (r2 : List (Int)) (steps5 : Int) (need6 : Int) (pattern7 : Int) (ok9 : Bool) (period16 : Int) (three17 : Bool) (whole20 : Int) (cut21 : Int) : Option Bool :=
  bif ok9 then
    bif (↑(List.length r1) : Int) != steps5 then some false
    else
      Option.bind (w_wRises r2) fun r =>
        bif !r then some false
        else
          bif decide (0 < (↑(List.length r1) : Int)) then
            bif rdk kint r1 0 != 0 then some false else g7 r0 r1 r2 need6 pattern7 period16 three17 whole20 cut21 (↑(List.length r1) : Int) 0
          else none
  else g2 r0 need6 pattern7 period16 three17 whole20 cut21
noncomputable def w_FnCarpetsLook_t2 (g1 : List (Int) → List (Int) → List (Int) → Int → Int → Int → Bool → Int → Bool → Int → Int → Option (Bool)) (g2 : List (Int) → Int → Int → Int → Bool → Int → Int → Option (Bool)) (g3 : List (Int) → Option (Bool)) (g4 : List (Int) → ByteArray → Int → Int → Int → ByteArray → Bool → ByteArray → Int → Int → ByteArray → Bool → Option (Bool)) (g5 : ByteArray → Int → Int → ByteArray → Bool → Option (Bool)) (g6 : Option (Bool)) (g7 : List (Int) → List (Int) → List (Int) → Int → Int → Int → Bool → Int → Int → Int → Int → Option (Bool)) (g8 : List (Int) → ByteArray → Int → Int → Int → ByteArray → Int → Int → ByteArray → Bool → Int → Int → Option (Bool)) (g9 : List (Int) → ByteArray → Int → Int → Int → ByteArray → Int → Int → ByteArray → Bool → Int → Int → Int → Int → Option (Bool)) (r0 : List (Int)) (need6 : Int) (pattern7 : Int) (period16 : Int) (three17 : Bool) (whole20 : Int) (cut21 : Int) : Option Bool :=
  bif three17 then
    bif decide (period16 < 1) then some false
    else
      bif decide (period16 > pattern7) then some false
      else
        bif pattern7 == 0 then none
        else
          bif Int.tmod (IntKind.wrap IntKind.i64 (period16 * need6)) pattern7 != 0 then some false
          else
            bif decide (whole20 < need6) then some false
            else
              bif cut21 != IntKind.wrap IntKind.i64 (whole20 - need6) then some false
              else
                bif decide (cut21 < 0) then some false
                else
                  bif decide (cut21 ≥ pattern7) then some false
                  else bif pattern7 == 0 then none else bif Int.tmod whole20 pattern7 != 0 then some false else g3 r0
  else g3 r0
noncomputable def w_FnCarpetsLook_t3 (g1 : List (Int) → List (Int) → List (Int) → Int → Int → Int → Bool → Int → Bool → Int → Int → Option (Bool)) (g2 : List (Int) → Int → Int → Int → Bool → Int → Int → Option (Bool)) (g3 : List (Int) → Option (Bool)) (g4 : List (Int) → ByteArray → Int → Int → Int → ByteArray → Bool → ByteArray → Int → Int → ByteArray → Bool → Option (Bool)) (g5 : ByteArray → Int → Int → ByteArray → Bool → Option (Bool)) (g6 : Option (Bool)) (g7 : List (Int) → List (Int) → List (Int) → Int → Int → Int → Bool → Int → Int → Int → Int → Option (Bool)) (g8 : List (Int) → ByteArray → Int → Int → Int → ByteArray → Int → Int → ByteArray → Bool → Int → Int → Option (Bool)) (g9 : List (Int) → ByteArray → Int → Int → Int → ByteArray → Int → Int → ByteArray → Bool → Int → Int → Int → Int → Option (Bool)) (r0 : List (Int)) : Option Bool :=
  Option.bind (s_DrawColoursOfStep r0) fun r =>
    Option.bind (i_ColoursOfStep (Prod.fst r) (Prod.fst (Prod.snd r)) (Prod.fst (Prod.snd (Prod.snd r))) (Prod.snd (Prod.snd (Prod.snd r)))) fun r_1 =>
      Option.bind (s_ColoursOfStep (Prod.fst r) (Prod.fst (Prod.snd r)) (Prod.fst (Prod.snd (Prod.snd r))) (Prod.snd (Prod.snd (Prod.snd r)))) fun r_2 =>
        Option.bind (i_AlikeSteps (Prod.fst r) (Prod.fst (Prod.snd r)) (Prod.fst (Prod.snd (Prod.snd r))) (Prod.snd (Prod.snd (Prod.snd r)))) fun r_3 =>
          Option.bind (s_AlikeSteps (Prod.fst r) (Prod.fst (Prod.snd r)) (Prod.fst (Prod.snd (Prod.snd r))) (Prod.snd (Prod.snd (Prod.snd r)))) fun r_4 =>
            Option.bind (s_DrawColourAt r0) fun r_5 =>
              Option.bind (i_ColourAt (Prod.fst r_5) (Prod.fst (Prod.snd r_5)) (Prod.snd (Prod.snd r_5))) fun r_6 =>
                Option.bind (s_ColourAt (Prod.fst r_5) (Prod.fst (Prod.snd r_5)) (Prod.snd (Prod.snd r_5))) fun r_7 =>
                  bif !Prod.snd r_1 == Prod.snd r_2 then some false
                  else
                    bif !ByteArray.toList (Prod.fst r_1) == ByteArray.toList (Prod.fst r_2) then some false
                    else
                      bif !Prod.snd r_3 == Prod.snd r_4 then some false
                      else
                        Option.bind (w_wSame (Prod.fst r_3) (Prod.fst r_4)) fun r_8 =>
                          bif !r_8 then some false
                          else
                            bif !Prod.snd r_6 == Prod.snd r_7 then some false
                            else
                              bif !ByteArray.toList (Prod.fst r_6) == ByteArray.toList (Prod.fst r_7) then some false
                              else
                                bif !Prod.snd r_3 == Prod.snd r_1 then some false
                                else
                                  bif Prod.snd r_1 then
                                    Option.bind (i_IsStriped (Prod.fst r)) fun r_9 =>
                                      bif !r_9 then some false
                                      else
                                        Option.bind (i_IsStriped (Prod.fst r)) fun r_10 =>
                                          Option.bind (s_IsStriped (Prod.fst r)) fun r_11 =>
                                            bif !r_10 == r_11 then some false
                                            else
                                              Option.bind (i_IsStriped (Prod.fst r_5)) fun r_12 =>
                                                Option.bind (s_IsStriped (Prod.fst r_5)) fun r_13 =>
                                                  bif !r_12 == r_13 then some false
                                                  else
                                                    g4 (Prod.fst r_3) (Prod.fst r) (Prod.fst (Prod.snd r)) (Prod.fst (Prod.snd (Prod.snd r)))
                                                      (Prod.snd (Prod.snd (Prod.snd r))) (Prod.fst r_1) (Prod.snd r_1) (Prod.fst r_5) (Prod.fst (Prod.snd r_5))
                                                      (Prod.snd (Prod.snd r_5)) (Prod.fst r_6) (Prod.snd r_6)
                                  else
                                    Option.bind (i_IsStriped (Prod.fst r)) fun r_9 =>
                                      Option.bind (s_IsStriped (Prod.fst r)) fun r_10 =>
                                        bif !r_9 == r_10 then some false
                                        else
                                          Option.bind (i_IsStriped (Prod.fst r_5)) fun r_11 =>
                                            Option.bind (s_IsStriped (Prod.fst r_5)) fun r_12 =>
                                              bif !r_11 == r_12 then some false
                                              else
                                                g4 (Prod.fst r_3) (Prod.fst r) (Prod.fst (Prod.snd r)) (Prod.fst (Prod.snd (Prod.snd r)))
                                                  (Prod.snd (Prod.snd (Prod.snd r))) (Prod.fst r_1) (Prod.snd r_1) (Prod.fst r_5) (Prod.fst (Prod.snd r_5))
                                                  (Prod.snd (Prod.snd r_5)) (Prod.fst r_6) (Prod.snd r_6)
noncomputable def w_FnCarpetsLook_t4 (g1 : List (Int) → List (Int) → List (Int) → Int → Int → Int → Bool → Int → Bool → Int → Int → Option (Bool)) (g2 : List (Int) → Int → Int → Int → Bool → Int → Int → Option (Bool)) (g3 : List (Int) → Option (Bool)) (g4 : List (Int) → ByteArray → Int → Int → Int → ByteArray → Bool → ByteArray → Int → Int → ByteArray → Bool → Option (Bool)) (g5 : ByteArray → Int → Int → ByteArray → Bool → Option (Bool)) (g6 : Option (Bool)) (g7 : List (Int) → List (Int) → List (Int) → Int → Int → Int → Bool → Int → Int → Int → Int → Option (Bool)) (g8 : List (Int) → ByteArray → Int → Int → Int → ByteArray → Int → Int → ByteArray → Bool → Int → Int → Option (Bool)) (g9 : List (Int) → ByteArray → Int → Int → Int → ByteArray → Int → Int → ByteArray → Bool → Int → Int → Int → Int → Option (Bool)) (r0 : List (Int)) (stripes28 : ByteArray) (wide29 : Int) (each30 : Int) (step31 : Int) (colours32 : ByteArray) (seven33 : Bool) (text40 : ByteArray) (w41 : Int) (place42 : Int) (colour43 : ByteArray) (eleven44 : Bool) : Option Bool :=
  bif seven33 then
    bif wide29 == 0 then none
    else
      bif wide29 == 0 then none
      else
        bif
            (↑(ByteArray.size colours32) : Int) !=
              IntKind.wrap IntKind.i64
                (IntKind.wrap IntKind.i64
                    (IntKind.wrap IntKind.i64 (Int.tdiv (IntKind.wrap IntKind.i64 (IntKind.wrap IntKind.i64 (step31 * each30) - 1)) wide29) -
                      IntKind.wrap IntKind.i64 (Int.tdiv (IntKind.wrap IntKind.i64 (IntKind.wrap IntKind.i64 (step31 - 1) * each30)) wide29)) +
                  1) then
          some false
        else
          Option.bind (w_wRises r0) fun r =>
            bif !r then some false
            else
              bif decide (IntKind.wrap IntKind.i64 (IntKind.wrap IntKind.i64 (step31 * each30) - 1) ≤ 2000) then
                Option.bind (i_ColourAt stripes28 wide29 (IntKind.wrap IntKind.i64 (IntKind.wrap IntKind.i64 (step31 - 1) * each30))) fun r =>
                  Option.bind (i_ColourAt stripes28 wide29 (IntKind.wrap IntKind.i64 (IntKind.wrap IntKind.i64 (step31 * each30) - 1))) fun r_1 =>
                    bif !Prod.snd r then some false
                    else
                      bif decide (1 ≤ (↑(ByteArray.size colours32) : Int)) then
                        bif !ByteArray.toList (ByteArray.extract colours32 (Int.toNat 0) (Int.toNat 1)) == ByteArray.toList (Prod.fst r) then some false
                        else
                          bif !Prod.snd r_1 then some false
                          else
                            bif decide (0 ≤ IntKind.wrap IntKind.i64 ((↑(ByteArray.size colours32) : Int) - 1)) then
                              bif decide (IntKind.wrap IntKind.i64 ((↑(ByteArray.size colours32) : Int) - 1) ≤ (↑(ByteArray.size colours32) : Int)) then
                                bif
                                    !ByteArray.toList
                                          (ByteArray.extract colours32 (Int.toNat (IntKind.wrap IntKind.i64 ((↑(ByteArray.size colours32) : Int) - 1)))
                                            (Int.toNat (↑(ByteArray.size colours32) : Int))) ==
                                        ByteArray.toList (Prod.fst r_1) then
                                  some false
                                else g8 r0 stripes28 wide29 each30 step31 text40 w41 place42 colour43 eleven44 (↑(List.length r0) : Int) 0
                              else none
                            else none
                      else none
              else g5 text40 w41 place42 colour43 eleven44
  else g5 text40 w41 place42 colour43 eleven44
noncomputable def w_FnCarpetsLook_t5 (g1 : List (Int) → List (Int) → List (Int) → Int → Int → Int → Bool → Int → Bool → Int → Int → Option (Bool)) (g2 : List (Int) → Int → Int → Int → Bool → Int → Int → Option (Bool)) (g3 : List (Int) → Option (Bool)) (g4 : List (Int) → ByteArray → Int → Int → Int → ByteArray → Bool → ByteArray → Int → Int → ByteArray → Bool → Option (Bool)) (g5 : ByteArray → Int → Int → ByteArray → Bool → Option (Bool)) (g6 : Option (Bool)) (g7 : List (Int) → List (Int) → List (Int) → Int → Int → Int → Bool → Int → Int → Int → Int → Option (Bool)) (g8 : List (Int) → ByteArray → Int → Int → Int → ByteArray → Int → Int → ByteArray → Bool → Int → Int → Option (Bool)) (g9 : List (Int) → ByteArray → Int → Int → Int → ByteArray → Int → Int → ByteArray → Bool → Int → Int → Int → Int → Option (Bool)) (text40 : ByteArray) (w41 : Int) (place42 : Int) (colour43 : ByteArray) (eleven44 : Bool) : Option Bool :=
  bif eleven44 then
    bif IntKind.wrap IntKind.i64 (w41 * (↑(ByteArray.size text40) : Int)) == 0 then none
    else
      Option.bind (i_ColourAt text40 w41 (Int.tmod place42 (IntKind.wrap IntKind.i64 (w41 * (↑(ByteArray.size text40) : Int))))) fun r =>
        bif (↑(ByteArray.size colour43) : Int) != 1 then some false
        else bif !Prod.snd r then some false else bif !ByteArray.toList (Prod.fst r) == ByteArray.toList colour43 then some false else g6
  else g6
noncomputable def w_FnCarpetsLook_t6 (g1 : List (Int) → List (Int) → List (Int) → Int → Int → Int → Bool → Int → Bool → Int → Int → Option (Bool)) (g2 : List (Int) → Int → Int → Int → Bool → Int → Int → Option (Bool)) (g3 : List (Int) → Option (Bool)) (g4 : List (Int) → ByteArray → Int → Int → Int → ByteArray → Bool → ByteArray → Int → Int → ByteArray → Bool → Option (Bool)) (g5 : ByteArray → Int → Int → ByteArray → Bool → Option (Bool)) (g6 : Option (Bool)) (g7 : List (Int) → List (Int) → List (Int) → Int → Int → Int → Bool → Int → Int → Int → Int → Option (Bool)) (g8 : List (Int) → ByteArray → Int → Int → Int → ByteArray → Int → Int → ByteArray → Bool → Int → Int → Option (Bool)) (g9 : List (Int) → ByteArray → Int → Int → Int → ByteArray → Int → Int → ByteArray → Bool → Int → Int → Int → Int → Option (Bool))  : Option Bool :=
  some true
noncomputable def w_FnCarpetsLook_t7 (g1 : List (Int) → List (Int) → List (Int) → Int → Int → Int → Bool → Int → Bool → Int → Int → Option (Bool)) (g2 : List (Int) → Int → Int → Int → Bool → Int → Int → Option (Bool)) (g3 : List (Int) → Option (Bool)) (g4 : List (Int) → ByteArray → Int → Int → Int → ByteArray → Bool → ByteArray → Int → Int → ByteArray → Bool → Option (Bool)) (g5 : ByteArray → Int → Int → ByteArray → Bool → Option (Bool)) (g6 : Option (Bool)) (g7 : List (Int) → List (Int) → List (Int) → Int → Int → Int → Bool → Int → Int → Int → Int → Option (Bool)) (g8 : List (Int) → ByteArray → Int → Int → Int → ByteArray → Int → Int → ByteArray → Bool → Int → Int → Option (Bool)) (g9 : List (Int) → ByteArray → Int → Int → Int → ByteArray → Int → Int → ByteArray → Bool → Int → Int → Int → Int → Option (Bool)) (r0 : List (Int)) (r1 : List (Int)) (r2 : List (Int)) (need6 : Int) (pattern7 : Int) (period16 : Int) (three17 : Bool) (whole20 : Int) (cut21 : Int) (s204 : Int) (s205 : Int) : Option Bool :=
  bif decide (s205 < s204) then
    bif decide (0 ≤ s205) then
      bif decide (s205 < (↑(List.length r1) : Int)) then
        bif decide (rdk kint r1 s205 < 0) then some false
        else
          bif decide (rdk kint r1 s205 ≥ pattern7) then some false
          else
            bif decide (s205 > 0) then
              bif decide (0 ≤ IntKind.wrap IntKind.i64 (s205 - 1)) then
                bif decide (IntKind.wrap IntKind.i64 (s205 - 1) < (↑(List.length r1) : Int)) then
                  bif pattern7 == 0 then none
                  else
                    bif
                        Int.tmod
                            (IntKind.wrap IntKind.i64
                              (IntKind.wrap IntKind.i64 (rdk kint r1 s205 - rdk kint r1 (IntKind.wrap IntKind.i64 (s205 - 1))) -
                                need6))
                            pattern7 !=
                          0 then
                      some false
                    else
                      Option.bind (w_wHas r2 (IntKind.wrap IntKind.i64 (s205 + 1))) fun r =>
                        bif !r == (rdk kint r1 s205 == 0) then some false
                        else
                          bif period16 == 0 then none
                          else
                            bif !(rdk kint r1 s205 == 0) == (Int.tmod s205 period16 == 0) then some false
                            else
                              bif decide (s205 ≥ period16) then
                                bif decide (0 ≤ IntKind.wrap IntKind.i64 (s205 - period16)) then
                                  bif decide (IntKind.wrap IntKind.i64 (s205 - period16) < (↑(List.length r1) : Int)) then
                                    bif rdk kint r1 s205 != rdk kint r1 (IntKind.wrap IntKind.i64 (s205 - period16)) then
                                      some false
                                    else g7 r0 r1 r2 need6 pattern7 period16 three17 whole20 cut21 s204 (IntKind.wrap IntKind.i64 (s205 + 1))
                                  else none
                                else none
                              else g7 r0 r1 r2 need6 pattern7 period16 three17 whole20 cut21 s204 (IntKind.wrap IntKind.i64 (s205 + 1))
                else none
              else none
            else
              Option.bind (w_wHas r2 (IntKind.wrap IntKind.i64 (s205 + 1))) fun r =>
                bif !r == (rdk kint r1 s205 == 0) then some false
                else
                  bif period16 == 0 then none
                  else
                    bif !(rdk kint r1 s205 == 0) == (Int.tmod s205 period16 == 0) then some false
                    else
                      bif decide (s205 ≥ period16) then
                        bif decide (0 ≤ IntKind.wrap IntKind.i64 (s205 - period16)) then
                          bif decide (IntKind.wrap IntKind.i64 (s205 - period16) < (↑(List.length r1) : Int)) then
                            bif rdk kint r1 s205 != rdk kint r1 (IntKind.wrap IntKind.i64 (s205 - period16)) then some false
                            else g7 r0 r1 r2 need6 pattern7 period16 three17 whole20 cut21 s204 (IntKind.wrap IntKind.i64 (s205 + 1))
                          else none
                        else none
                      else g7 r0 r1 r2 need6 pattern7 period16 three17 whole20 cut21 s204 (IntKind.wrap IntKind.i64 (s205 + 1))
      else none
    else none
  else g2 r0 need6 pattern7 period16 three17 whole20 cut21
noncomputable def w_FnCarpetsLook_t8 (g1 : List (Int) → List (Int) → List (Int) → Int → Int → Int → Bool → Int → Bool → Int → Int → Option (Bool)) (g2 : List (Int) → Int → Int → Int → Bool → Int → Int → Option (Bool)) (g3 : List (Int) → Option (Bool)) (g4 : List (Int) → ByteArray → Int → Int → Int → ByteArray → Bool → ByteArray → Int → Int → ByteArray → Bool → Option (Bool)) (g5 : ByteArray → Int → Int → ByteArray → Bool → Option (Bool)) (g6 : Option (Bool)) (g7 : List (Int) → List (Int) → List (Int) → Int → Int → Int → Bool → Int → Int → Int → Int → Option (Bool)) (g8 : List (Int) → ByteArray → Int → Int → Int → ByteArray → Int → Int → ByteArray → Bool → Int → Int → Option (Bool)) (g9 : List (Int) → ByteArray → Int → Int → Int → ByteArray → Int → Int → ByteArray → Bool → Int → Int → Int → Int → Option (Bool)) (r0 : List (Int)) (stripes28 : ByteArray) (wide29 : Int) (each30 : Int) (step31 : Int) (text40 : ByteArray) (w41 : Int) (place42 : Int) (colour43 : ByteArray) (eleven44 : Bool) (s492 : Int) (s493 : Int) : Option Bool :=
  bif decide (s493 < s492) then
    bif decide (0 ≤ s493) then
      bif decide (s493 < (↑(List.length r0) : Int)) then
        bif decide (rdk kint r0 s493 < 2) then
          bif decide (rdk kint r0 s493 ≥ 2) then some (decide (rdk kint r0 s493 ≤ step31)) else some false
        else
          bif decide (rdk kint r0 s493 > step31) then
            bif decide (rdk kint r0 s493 ≥ 2) then some (decide (rdk kint r0 s493 ≤ step31)) else some false
          else
            bif decide (s493 > 20) then
              bif decide (rdk kint r0 s493 ≥ 2) then some (decide (rdk kint r0 s493 ≤ step31)) else some false
            else g9 r0 stripes28 wide29 each30 step31 text40 w41 place42 colour43 eleven44 (rdk kint r0 s493) 0 s492 s493
      else none
    else none
  else g5 text40 w41 place42 colour43 eleven44
noncomputable def w_FnCarpetsLook_t9 (g1 : List (Int) → List (Int) → List (Int) → Int → Int → Int → Bool → Int → Bool → Int → Int → Option (Bool)) (g2 : List (Int) → Int → Int → Int → Bool → Int → Int → Option (Bool)) (g3 : List (Int) → Option (Bool)) (g4 : List (Int) → ByteArray → Int → Int → Int → ByteArray → Bool → ByteArray → Int → Int → ByteArray → Bool → Option (Bool)) (g5 : ByteArray → Int → Int → ByteArray → Bool → Option (Bool)) (g6 : Option (Bool)) (g7 : List (Int) → List (Int) → List (Int) → Int → Int → Int → Bool → Int → Int → Int → Int → Option (Bool)) (g8 : List (Int) → ByteArray → Int → Int → Int → ByteArray → Int → Int → ByteArray → Bool → Int → Int → Option (Bool)) (g9 : List (Int) → ByteArray → Int → Int → Int → ByteArray → Int → Int → ByteArray → Bool → Int → Int → Int → Int → Option (Bool)) (r0 : List (Int)) (stripes28 : ByteArray) (wide29 : Int) (each30 : Int) (step31 : Int) (text40 : ByteArray) (w41 : Int) (place42 : Int) (colour43 : ByteArray) (eleven44 : Bool) (k54 : Int) (n55 : Int) (s492 : Int) (s493 : Int) : Option Bool :=
  bif decide (n55 < each30) then
    Option.bind (i_ColourAt stripes28 wide29 n55) fun r =>
      Option.bind (i_ColourAt stripes28 wide29 (IntKind.wrap IntKind.i64 (IntKind.wrap IntKind.i64 (IntKind.wrap IntKind.i64 (k54 - 1) * each30) + n55)))
        fun r_1 =>
        bif !Prod.snd r then some false
        else
          bif !Prod.snd r_1 then some false
          else
            bif !ByteArray.toList (Prod.fst r) == ByteArray.toList (Prod.fst r_1) then some false
            else g9 r0 stripes28 wide29 each30 step31 text40 w41 place42 colour43 eleven44 k54 (IntKind.wrap IntKind.i64 (n55 + 1)) s492 s493
  else g8 r0 stripes28 wide29 each30 step31 text40 w41 place42 colour43 eleven44 s492 (IntKind.wrap IntKind.i64 (s493 + 1))
noncomputable def w_FnCarpetsLook_t0 (g1 : List (Int) → List (Int) → List (Int) → Int → Int → Int → Bool → Int → Bool → Int → Int → Option (Bool)) (g2 : List (Int) → Int → Int → Int → Bool → Int → Int → Option (Bool)) (g3 : List (Int) → Option (Bool)) (g4 : List (Int) → ByteArray → Int → Int → Int → ByteArray → Bool → ByteArray → Int → Int → ByteArray → Bool → Option (Bool)) (g5 : ByteArray → Int → Int → ByteArray → Bool → Option (Bool)) (g6 : Option (Bool)) (g7 : List (Int) → List (Int) → List (Int) → Int → Int → Int → Bool → Int → Int → Int → Int → Option (Bool)) (g8 : List (Int) → ByteArray → Int → Int → Int → ByteArray → Int → Int → ByteArray → Bool → Int → Int → Option (Bool)) (g9 : List (Int) → ByteArray → Int → Int → Int → ByteArray → Int → Int → ByteArray → Bool → Int → Int → Int → Int → Option (Bool)) (code0 : List Int) (more1 : List Int) : Option Bool :=
  bif w_big code0 more1 then some true
  else
    Option.bind (s_DrawPatternStarts code0) fun r =>
      Option.bind (i_PatternStarts (Prod.fst r) (Prod.fst (Prod.snd r)) (Prod.snd (Prod.snd r))) fun r_1 =>
        Option.bind (s_PatternStarts (Prod.fst r) (Prod.fst (Prod.snd r)) (Prod.snd (Prod.snd r))) fun r_2 =>
          Option.bind (i_WholeStarts (Prod.fst r) (Prod.fst (Prod.snd r)) (Prod.snd (Prod.snd r))) fun r_3 =>
            Option.bind (s_WholeStarts (Prod.fst r) (Prod.fst (Prod.snd r)) (Prod.snd (Prod.snd r))) fun r_4 =>
              Option.bind (i_PatternPeriod (Prod.fst (Prod.snd r)) (Prod.snd (Prod.snd r))) fun r_5 =>
                Option.bind (s_PatternPeriod (Prod.fst (Prod.snd r)) (Prod.snd (Prod.snd r))) fun r_6 =>
                  Option.bind (i_WithPattern (Prod.fst (Prod.snd r)) (Prod.snd (Prod.snd r))) fun r_7 =>
                    Option.bind (s_WithPattern (Prod.fst (Prod.snd r)) (Prod.snd (Prod.snd r))) fun r_8 =>
                      bif !Prod.snd r_1 == Prod.snd r_2 then some false
                      else
                        Option.bind (w_wSame (Prod.fst r_1) (Prod.fst r_2)) fun r_9 =>
                          bif !r_9 then some false
                          else
                            bif !Prod.snd r_3 == Prod.snd r_4 then some false
                            else
                              Option.bind (w_wSame (Prod.fst r_3) (Prod.fst r_4)) fun r_10 =>
                                bif !r_10 then some false
                                else
                                  bif !Prod.snd r_5 == Prod.snd r_6 then some false
                                  else
                                    bif Prod.fst r_5 != Prod.fst r_6 then some false
                                    else
                                      bif !Prod.snd (Prod.snd r_7) == Prod.snd (Prod.snd r_8) then some false
                                      else
                                        bif Prod.fst r_7 != Prod.fst r_8 then some false
                                        else
                                          bif Prod.fst (Prod.snd r_7) != Prod.fst (Prod.snd r_8) then some false
                                          else
                                            bif !Prod.snd r_3 == Prod.snd r_1 then some false
                                            else
                                              bif !Prod.snd (Prod.snd r_7) == Prod.snd r_5 then some false
                                              else
                                                bif Prod.snd r_1 then
                                                  bif !Prod.snd r_5 then some false
                                                  else
                                                    g1 more1 (Prod.fst r_1) (Prod.fst r_3) (Prod.fst r) (Prod.fst (Prod.snd r)) (Prod.snd (Prod.snd r))
                                                      (Prod.snd r_1) (Prod.fst r_5) (Prod.snd r_5) (Prod.fst r_7) (Prod.fst (Prod.snd r_7))
                                                else
                                                  g1 more1 (Prod.fst r_1) (Prod.fst r_3) (Prod.fst r) (Prod.fst (Prod.snd r)) (Prod.snd (Prod.snd r))
                                                    (Prod.snd r_1) (Prod.fst r_5) (Prod.snd r_5) (Prod.fst r_7) (Prod.fst (Prod.snd r_7))
theorem w_FnCarpetsLook_ts : Tails c_w_FnCarpetsLook.pts c_w_FnCarpetsLook.round :=
  ⟨fun s => by
    obtain ⟨⟨r0, r1, r2, _⟩, ⟨_, steps5, need6, pattern7, _, ok9, _, period16, three17, whole20, cut21, _⟩, ⟨_, _, _⟩⟩ := s
    refine Tail.eq (Y := fun g => w_FnCarpetsLook_t1 (fun r0 r1 r2 steps5 need6 pattern7 ok9 period16 three17 whole20 cut21 => g.1 ((r0, r1, r2, ()), ((), steps5, need6, pattern7, (), ok9, (), period16, three17, whole20, cut21, ()), ((), (), ()))) (fun r0 need6 pattern7 period16 three17 whole20 cut21 => g.2.1 ((r0, ()), ((), need6, pattern7, period16, three17, whole20, cut21, ()), ((), (), ()))) (fun r0 => g.2.2.1 ((r0, ()), ((), ()), ((), (), ()))) (fun r0 stripes28 wide29 each30 step31 colours32 seven33 text40 w41 place42 colour43 eleven44 => g.2.2.2.1 ((r0, ()), (stripes28, wide29, each30, step31, colours32, seven33, (), text40, w41, place42, colour43, eleven44, ()), ((), (), ()))) (fun text40 w41 place42 colour43 eleven44 => g.2.2.2.2.1 ((), (text40, w41, place42, colour43, eleven44, ()), ((), (), ()))) (g.2.2.2.2.2.1 ((), (), ((), (), ()))) (fun r0 r1 r2 need6 pattern7 period16 three17 whole20 cut21 s204 s205 => g.2.2.2.2.2.2.1 ((r0, r1, r2, ()), ((), need6, pattern7, (), (), period16, three17, whole20, cut21, (), s204, s205, ()), ((), (), ()))) (fun r0 stripes28 wide29 each30 step31 text40 w41 place42 colour43 eleven44 s492 s493 => g.2.2.2.2.2.2.2.1 ((r0, ()), (stripes28, wide29, each30, step31, text40, w41, place42, colour43, eleven44, (), s492, s493, ()), ((), (), ()))) (fun r0 stripes28 wide29 each30 step31 text40 w41 place42 colour43 eleven44 k54 n55 s492 s493 => g.2.2.2.2.2.2.2.2.1 ((r0, ()), (stripes28, wide29, each30, step31, text40, w41, place42, colour43, eleven44, k54, n55, (), s492, s493, ()), ((), (), ()))) r0 r1 r2 steps5 need6 pattern7 ok9 period16 three17 whole20 cut21) ?_ (fun g => by kernel_rfl)
    simp only [w_FnCarpetsLook_t1]; repeat (first | apply Tail.cond | (apply Tail.bind; intro _) | exact Tail.here _ | exact Tail.there (Tail.here _) | exact Tail.there (Tail.there (Tail.here _)) | exact Tail.there (Tail.there (Tail.there (Tail.here _))) | exact Tail.there (Tail.there (Tail.there (Tail.there (Tail.here _)))) | exact Tail.there (Tail.there (Tail.there (Tail.there (Tail.there (Tail.here _))))) | exact Tail.there (Tail.there (Tail.there (Tail.there (Tail.there (Tail.there (Tail.here _)))))) | exact Tail.there (Tail.there (Tail.there (Tail.there (Tail.there (Tail.there (Tail.there (Tail.here _))))))) | exact Tail.there (Tail.there (Tail.there (Tail.there (Tail.there (Tail.there (Tail.there (Tail.there (Tail.here _)))))))) | exact Tail.const _),
  fun s => by
    obtain ⟨⟨r0, _⟩, ⟨_, need6, pattern7, period16, three17, whole20, cut21, _⟩, ⟨_, _, _⟩⟩ := s
    refine Tail.eq (Y := fun g => w_FnCarpetsLook_t2 (fun r0 r1 r2 steps5 need6 pattern7 ok9 period16 three17 whole20 cut21 => g.1 ((r0, r1, r2, ()), ((), steps5, need6, pattern7, (), ok9, (), period16, three17, whole20, cut21, ()), ((), (), ()))) (fun r0 need6 pattern7 period16 three17 whole20 cut21 => g.2.1 ((r0, ()), ((), need6, pattern7, period16, three17, whole20, cut21, ()), ((), (), ()))) (fun r0 => g.2.2.1 ((r0, ()), ((), ()), ((), (), ()))) (fun r0 stripes28 wide29 each30 step31 colours32 seven33 text40 w41 place42 colour43 eleven44 => g.2.2.2.1 ((r0, ()), (stripes28, wide29, each30, step31, colours32, seven33, (), text40, w41, place42, colour43, eleven44, ()), ((), (), ()))) (fun text40 w41 place42 colour43 eleven44 => g.2.2.2.2.1 ((), (text40, w41, place42, colour43, eleven44, ()), ((), (), ()))) (g.2.2.2.2.2.1 ((), (), ((), (), ()))) (fun r0 r1 r2 need6 pattern7 period16 three17 whole20 cut21 s204 s205 => g.2.2.2.2.2.2.1 ((r0, r1, r2, ()), ((), need6, pattern7, (), (), period16, three17, whole20, cut21, (), s204, s205, ()), ((), (), ()))) (fun r0 stripes28 wide29 each30 step31 text40 w41 place42 colour43 eleven44 s492 s493 => g.2.2.2.2.2.2.2.1 ((r0, ()), (stripes28, wide29, each30, step31, text40, w41, place42, colour43, eleven44, (), s492, s493, ()), ((), (), ()))) (fun r0 stripes28 wide29 each30 step31 text40 w41 place42 colour43 eleven44 k54 n55 s492 s493 => g.2.2.2.2.2.2.2.2.1 ((r0, ()), (stripes28, wide29, each30, step31, text40, w41, place42, colour43, eleven44, k54, n55, (), s492, s493, ()), ((), (), ()))) r0 need6 pattern7 period16 three17 whole20 cut21) ?_ (fun g => by kernel_rfl)
    simp only [w_FnCarpetsLook_t2]; repeat (first | apply Tail.cond | (apply Tail.bind; intro _) | exact Tail.here _ | exact Tail.there (Tail.here _) | exact Tail.there (Tail.there (Tail.here _)) | exact Tail.there (Tail.there (Tail.there (Tail.here _))) | exact Tail.there (Tail.there (Tail.there (Tail.there (Tail.here _)))) | exact Tail.there (Tail.there (Tail.there (Tail.there (Tail.there (Tail.here _))))) | exact Tail.there (Tail.there (Tail.there (Tail.there (Tail.there (Tail.there (Tail.here _)))))) | exact Tail.there (Tail.there (Tail.there (Tail.there (Tail.there (Tail.there (Tail.there (Tail.here _))))))) | exact Tail.there (Tail.there (Tail.there (Tail.there (Tail.there (Tail.there (Tail.there (Tail.there (Tail.here _)))))))) | exact Tail.const _),
  fun s => by
    obtain ⟨⟨r0, _⟩, ⟨_, _⟩, ⟨_, _, _⟩⟩ := s
    refine Tail.eq (Y := fun g => w_FnCarpetsLook_t3 (fun r0 r1 r2 steps5 need6 pattern7 ok9 period16 three17 whole20 cut21 => g.1 ((r0, r1, r2, ()), ((), steps5, need6, pattern7, (), ok9, (), period16, three17, whole20, cut21, ()), ((), (), ()))) (fun r0 need6 pattern7 period16 three17 whole20 cut21 => g.2.1 ((r0, ()), ((), need6, pattern7, period16, three17, whole20, cut21, ()), ((), (), ()))) (fun r0 => g.2.2.1 ((r0, ()), ((), ()), ((), (), ()))) (fun r0 stripes28 wide29 each30 step31 colours32 seven33 text40 w41 place42 colour43 eleven44 => g.2.2.2.1 ((r0, ()), (stripes28, wide29, each30, step31, colours32, seven33, (), text40, w41, place42, colour43, eleven44, ()), ((), (), ()))) (fun text40 w41 place42 colour43 eleven44 => g.2.2.2.2.1 ((), (text40, w41, place42, colour43, eleven44, ()), ((), (), ()))) (g.2.2.2.2.2.1 ((), (), ((), (), ()))) (fun r0 r1 r2 need6 pattern7 period16 three17 whole20 cut21 s204 s205 => g.2.2.2.2.2.2.1 ((r0, r1, r2, ()), ((), need6, pattern7, (), (), period16, three17, whole20, cut21, (), s204, s205, ()), ((), (), ()))) (fun r0 stripes28 wide29 each30 step31 text40 w41 place42 colour43 eleven44 s492 s493 => g.2.2.2.2.2.2.2.1 ((r0, ()), (stripes28, wide29, each30, step31, text40, w41, place42, colour43, eleven44, (), s492, s493, ()), ((), (), ()))) (fun r0 stripes28 wide29 each30 step31 text40 w41 place42 colour43 eleven44 k54 n55 s492 s493 => g.2.2.2.2.2.2.2.2.1 ((r0, ()), (stripes28, wide29, each30, step31, text40, w41, place42, colour43, eleven44, k54, n55, (), s492, s493, ()), ((), (), ()))) r0) ?_ (fun g => by kernel_rfl)
    simp only [w_FnCarpetsLook_t3]; repeat (first | apply Tail.cond | (apply Tail.bind; intro _) | exact Tail.here _ | exact Tail.there (Tail.here _) | exact Tail.there (Tail.there (Tail.here _)) | exact Tail.there (Tail.there (Tail.there (Tail.here _))) | exact Tail.there (Tail.there (Tail.there (Tail.there (Tail.here _)))) | exact Tail.there (Tail.there (Tail.there (Tail.there (Tail.there (Tail.here _))))) | exact Tail.there (Tail.there (Tail.there (Tail.there (Tail.there (Tail.there (Tail.here _)))))) | exact Tail.there (Tail.there (Tail.there (Tail.there (Tail.there (Tail.there (Tail.there (Tail.here _))))))) | exact Tail.there (Tail.there (Tail.there (Tail.there (Tail.there (Tail.there (Tail.there (Tail.there (Tail.here _)))))))) | exact Tail.const _),
  fun s => by
    obtain ⟨⟨r0, _⟩, ⟨stripes28, wide29, each30, step31, colours32, seven33, _, text40, w41, place42, colour43, eleven44, _⟩, ⟨_, _, _⟩⟩ := s
    refine Tail.eq (Y := fun g => w_FnCarpetsLook_t4 (fun r0 r1 r2 steps5 need6 pattern7 ok9 period16 three17 whole20 cut21 => g.1 ((r0, r1, r2, ()), ((), steps5, need6, pattern7, (), ok9, (), period16, three17, whole20, cut21, ()), ((), (), ()))) (fun r0 need6 pattern7 period16 three17 whole20 cut21 => g.2.1 ((r0, ()), ((), need6, pattern7, period16, three17, whole20, cut21, ()), ((), (), ()))) (fun r0 => g.2.2.1 ((r0, ()), ((), ()), ((), (), ()))) (fun r0 stripes28 wide29 each30 step31 colours32 seven33 text40 w41 place42 colour43 eleven44 => g.2.2.2.1 ((r0, ()), (stripes28, wide29, each30, step31, colours32, seven33, (), text40, w41, place42, colour43, eleven44, ()), ((), (), ()))) (fun text40 w41 place42 colour43 eleven44 => g.2.2.2.2.1 ((), (text40, w41, place42, colour43, eleven44, ()), ((), (), ()))) (g.2.2.2.2.2.1 ((), (), ((), (), ()))) (fun r0 r1 r2 need6 pattern7 period16 three17 whole20 cut21 s204 s205 => g.2.2.2.2.2.2.1 ((r0, r1, r2, ()), ((), need6, pattern7, (), (), period16, three17, whole20, cut21, (), s204, s205, ()), ((), (), ()))) (fun r0 stripes28 wide29 each30 step31 text40 w41 place42 colour43 eleven44 s492 s493 => g.2.2.2.2.2.2.2.1 ((r0, ()), (stripes28, wide29, each30, step31, text40, w41, place42, colour43, eleven44, (), s492, s493, ()), ((), (), ()))) (fun r0 stripes28 wide29 each30 step31 text40 w41 place42 colour43 eleven44 k54 n55 s492 s493 => g.2.2.2.2.2.2.2.2.1 ((r0, ()), (stripes28, wide29, each30, step31, text40, w41, place42, colour43, eleven44, k54, n55, (), s492, s493, ()), ((), (), ()))) r0 stripes28 wide29 each30 step31 colours32 seven33 text40 w41 place42 colour43 eleven44) ?_ (fun g => by kernel_rfl)
    simp only [w_FnCarpetsLook_t4]; repeat (first | apply Tail.cond | (apply Tail.bind; intro _) | exact Tail.here _ | exact Tail.there (Tail.here _) | exact Tail.there (Tail.there (Tail.here _)) | exact Tail.there (Tail.there (Tail.there (Tail.here _))) | exact Tail.there (Tail.there (Tail.there (Tail.there (Tail.here _)))) | exact Tail.there (Tail.there (Tail.there (Tail.there (Tail.there (Tail.here _))))) | exact Tail.there (Tail.there (Tail.there (Tail.there (Tail.there (Tail.there (Tail.here _)))))) | exact Tail.there (Tail.there (Tail.there (Tail.there (Tail.there (Tail.there (Tail.there (Tail.here _))))))) | exact Tail.there (Tail.there (Tail.there (Tail.there (Tail.there (Tail.there (Tail.there (Tail.there (Tail.here _)))))))) | exact Tail.const _),
  fun s => by
    obtain ⟨_, ⟨text40, w41, place42, colour43, eleven44, _⟩, ⟨_, _, _⟩⟩ := s
    refine Tail.eq (Y := fun g => w_FnCarpetsLook_t5 (fun r0 r1 r2 steps5 need6 pattern7 ok9 period16 three17 whole20 cut21 => g.1 ((r0, r1, r2, ()), ((), steps5, need6, pattern7, (), ok9, (), period16, three17, whole20, cut21, ()), ((), (), ()))) (fun r0 need6 pattern7 period16 three17 whole20 cut21 => g.2.1 ((r0, ()), ((), need6, pattern7, period16, three17, whole20, cut21, ()), ((), (), ()))) (fun r0 => g.2.2.1 ((r0, ()), ((), ()), ((), (), ()))) (fun r0 stripes28 wide29 each30 step31 colours32 seven33 text40 w41 place42 colour43 eleven44 => g.2.2.2.1 ((r0, ()), (stripes28, wide29, each30, step31, colours32, seven33, (), text40, w41, place42, colour43, eleven44, ()), ((), (), ()))) (fun text40 w41 place42 colour43 eleven44 => g.2.2.2.2.1 ((), (text40, w41, place42, colour43, eleven44, ()), ((), (), ()))) (g.2.2.2.2.2.1 ((), (), ((), (), ()))) (fun r0 r1 r2 need6 pattern7 period16 three17 whole20 cut21 s204 s205 => g.2.2.2.2.2.2.1 ((r0, r1, r2, ()), ((), need6, pattern7, (), (), period16, three17, whole20, cut21, (), s204, s205, ()), ((), (), ()))) (fun r0 stripes28 wide29 each30 step31 text40 w41 place42 colour43 eleven44 s492 s493 => g.2.2.2.2.2.2.2.1 ((r0, ()), (stripes28, wide29, each30, step31, text40, w41, place42, colour43, eleven44, (), s492, s493, ()), ((), (), ()))) (fun r0 stripes28 wide29 each30 step31 text40 w41 place42 colour43 eleven44 k54 n55 s492 s493 => g.2.2.2.2.2.2.2.2.1 ((r0, ()), (stripes28, wide29, each30, step31, text40, w41, place42, colour43, eleven44, k54, n55, (), s492, s493, ()), ((), (), ()))) text40 w41 place42 colour43 eleven44) ?_ (fun g => by kernel_rfl)
    simp only [w_FnCarpetsLook_t5]; repeat (first | apply Tail.cond | (apply Tail.bind; intro _) | exact Tail.here _ | exact Tail.there (Tail.here _) | exact Tail.there (Tail.there (Tail.here _)) | exact Tail.there (Tail.there (Tail.there (Tail.here _))) | exact Tail.there (Tail.there (Tail.there (Tail.there (Tail.here _)))) | exact Tail.there (Tail.there (Tail.there (Tail.there (Tail.there (Tail.here _))))) | exact Tail.there (Tail.there (Tail.there (Tail.there (Tail.there (Tail.there (Tail.here _)))))) | exact Tail.there (Tail.there (Tail.there (Tail.there (Tail.there (Tail.there (Tail.there (Tail.here _))))))) | exact Tail.there (Tail.there (Tail.there (Tail.there (Tail.there (Tail.there (Tail.there (Tail.there (Tail.here _)))))))) | exact Tail.const _),
  fun s => by
    obtain ⟨_, _, ⟨_, _, _⟩⟩ := s
    refine Tail.eq (Y := fun g => w_FnCarpetsLook_t6 (fun r0 r1 r2 steps5 need6 pattern7 ok9 period16 three17 whole20 cut21 => g.1 ((r0, r1, r2, ()), ((), steps5, need6, pattern7, (), ok9, (), period16, three17, whole20, cut21, ()), ((), (), ()))) (fun r0 need6 pattern7 period16 three17 whole20 cut21 => g.2.1 ((r0, ()), ((), need6, pattern7, period16, three17, whole20, cut21, ()), ((), (), ()))) (fun r0 => g.2.2.1 ((r0, ()), ((), ()), ((), (), ()))) (fun r0 stripes28 wide29 each30 step31 colours32 seven33 text40 w41 place42 colour43 eleven44 => g.2.2.2.1 ((r0, ()), (stripes28, wide29, each30, step31, colours32, seven33, (), text40, w41, place42, colour43, eleven44, ()), ((), (), ()))) (fun text40 w41 place42 colour43 eleven44 => g.2.2.2.2.1 ((), (text40, w41, place42, colour43, eleven44, ()), ((), (), ()))) (g.2.2.2.2.2.1 ((), (), ((), (), ()))) (fun r0 r1 r2 need6 pattern7 period16 three17 whole20 cut21 s204 s205 => g.2.2.2.2.2.2.1 ((r0, r1, r2, ()), ((), need6, pattern7, (), (), period16, three17, whole20, cut21, (), s204, s205, ()), ((), (), ()))) (fun r0 stripes28 wide29 each30 step31 text40 w41 place42 colour43 eleven44 s492 s493 => g.2.2.2.2.2.2.2.1 ((r0, ()), (stripes28, wide29, each30, step31, text40, w41, place42, colour43, eleven44, (), s492, s493, ()), ((), (), ()))) (fun r0 stripes28 wide29 each30 step31 text40 w41 place42 colour43 eleven44 k54 n55 s492 s493 => g.2.2.2.2.2.2.2.2.1 ((r0, ()), (stripes28, wide29, each30, step31, text40, w41, place42, colour43, eleven44, k54, n55, (), s492, s493, ()), ((), (), ()))) ) ?_ (fun g => by kernel_rfl)
    simp only [w_FnCarpetsLook_t6]; repeat (first | apply Tail.cond | (apply Tail.bind; intro _) | exact Tail.here _ | exact Tail.there (Tail.here _) | exact Tail.there (Tail.there (Tail.here _)) | exact Tail.there (Tail.there (Tail.there (Tail.here _))) | exact Tail.there (Tail.there (Tail.there (Tail.there (Tail.here _)))) | exact Tail.there (Tail.there (Tail.there (Tail.there (Tail.there (Tail.here _))))) | exact Tail.there (Tail.there (Tail.there (Tail.there (Tail.there (Tail.there (Tail.here _)))))) | exact Tail.there (Tail.there (Tail.there (Tail.there (Tail.there (Tail.there (Tail.there (Tail.here _))))))) | exact Tail.there (Tail.there (Tail.there (Tail.there (Tail.there (Tail.there (Tail.there (Tail.there (Tail.here _)))))))) | exact Tail.const _),
  fun s => by
    obtain ⟨⟨r0, r1, r2, _⟩, ⟨_, need6, pattern7, _, _, period16, three17, whole20, cut21, _, s204, s205, _⟩, ⟨_, _, _⟩⟩ := s
    refine Tail.eq (Y := fun g => w_FnCarpetsLook_t7 (fun r0 r1 r2 steps5 need6 pattern7 ok9 period16 three17 whole20 cut21 => g.1 ((r0, r1, r2, ()), ((), steps5, need6, pattern7, (), ok9, (), period16, three17, whole20, cut21, ()), ((), (), ()))) (fun r0 need6 pattern7 period16 three17 whole20 cut21 => g.2.1 ((r0, ()), ((), need6, pattern7, period16, three17, whole20, cut21, ()), ((), (), ()))) (fun r0 => g.2.2.1 ((r0, ()), ((), ()), ((), (), ()))) (fun r0 stripes28 wide29 each30 step31 colours32 seven33 text40 w41 place42 colour43 eleven44 => g.2.2.2.1 ((r0, ()), (stripes28, wide29, each30, step31, colours32, seven33, (), text40, w41, place42, colour43, eleven44, ()), ((), (), ()))) (fun text40 w41 place42 colour43 eleven44 => g.2.2.2.2.1 ((), (text40, w41, place42, colour43, eleven44, ()), ((), (), ()))) (g.2.2.2.2.2.1 ((), (), ((), (), ()))) (fun r0 r1 r2 need6 pattern7 period16 three17 whole20 cut21 s204 s205 => g.2.2.2.2.2.2.1 ((r0, r1, r2, ()), ((), need6, pattern7, (), (), period16, three17, whole20, cut21, (), s204, s205, ()), ((), (), ()))) (fun r0 stripes28 wide29 each30 step31 text40 w41 place42 colour43 eleven44 s492 s493 => g.2.2.2.2.2.2.2.1 ((r0, ()), (stripes28, wide29, each30, step31, text40, w41, place42, colour43, eleven44, (), s492, s493, ()), ((), (), ()))) (fun r0 stripes28 wide29 each30 step31 text40 w41 place42 colour43 eleven44 k54 n55 s492 s493 => g.2.2.2.2.2.2.2.2.1 ((r0, ()), (stripes28, wide29, each30, step31, text40, w41, place42, colour43, eleven44, k54, n55, (), s492, s493, ()), ((), (), ()))) r0 r1 r2 need6 pattern7 period16 three17 whole20 cut21 s204 s205) ?_ (fun g => by kernel_rfl)
    simp only [w_FnCarpetsLook_t7]; repeat (first | apply Tail.cond | (apply Tail.bind; intro _) | exact Tail.here _ | exact Tail.there (Tail.here _) | exact Tail.there (Tail.there (Tail.here _)) | exact Tail.there (Tail.there (Tail.there (Tail.here _))) | exact Tail.there (Tail.there (Tail.there (Tail.there (Tail.here _)))) | exact Tail.there (Tail.there (Tail.there (Tail.there (Tail.there (Tail.here _))))) | exact Tail.there (Tail.there (Tail.there (Tail.there (Tail.there (Tail.there (Tail.here _)))))) | exact Tail.there (Tail.there (Tail.there (Tail.there (Tail.there (Tail.there (Tail.there (Tail.here _))))))) | exact Tail.there (Tail.there (Tail.there (Tail.there (Tail.there (Tail.there (Tail.there (Tail.there (Tail.here _)))))))) | exact Tail.const _),
  fun s => by
    obtain ⟨⟨r0, _⟩, ⟨stripes28, wide29, each30, step31, text40, w41, place42, colour43, eleven44, _, s492, s493, _⟩, ⟨_, _, _⟩⟩ := s
    refine Tail.eq (Y := fun g => w_FnCarpetsLook_t8 (fun r0 r1 r2 steps5 need6 pattern7 ok9 period16 three17 whole20 cut21 => g.1 ((r0, r1, r2, ()), ((), steps5, need6, pattern7, (), ok9, (), period16, three17, whole20, cut21, ()), ((), (), ()))) (fun r0 need6 pattern7 period16 three17 whole20 cut21 => g.2.1 ((r0, ()), ((), need6, pattern7, period16, three17, whole20, cut21, ()), ((), (), ()))) (fun r0 => g.2.2.1 ((r0, ()), ((), ()), ((), (), ()))) (fun r0 stripes28 wide29 each30 step31 colours32 seven33 text40 w41 place42 colour43 eleven44 => g.2.2.2.1 ((r0, ()), (stripes28, wide29, each30, step31, colours32, seven33, (), text40, w41, place42, colour43, eleven44, ()), ((), (), ()))) (fun text40 w41 place42 colour43 eleven44 => g.2.2.2.2.1 ((), (text40, w41, place42, colour43, eleven44, ()), ((), (), ()))) (g.2.2.2.2.2.1 ((), (), ((), (), ()))) (fun r0 r1 r2 need6 pattern7 period16 three17 whole20 cut21 s204 s205 => g.2.2.2.2.2.2.1 ((r0, r1, r2, ()), ((), need6, pattern7, (), (), period16, three17, whole20, cut21, (), s204, s205, ()), ((), (), ()))) (fun r0 stripes28 wide29 each30 step31 text40 w41 place42 colour43 eleven44 s492 s493 => g.2.2.2.2.2.2.2.1 ((r0, ()), (stripes28, wide29, each30, step31, text40, w41, place42, colour43, eleven44, (), s492, s493, ()), ((), (), ()))) (fun r0 stripes28 wide29 each30 step31 text40 w41 place42 colour43 eleven44 k54 n55 s492 s493 => g.2.2.2.2.2.2.2.2.1 ((r0, ()), (stripes28, wide29, each30, step31, text40, w41, place42, colour43, eleven44, k54, n55, (), s492, s493, ()), ((), (), ()))) r0 stripes28 wide29 each30 step31 text40 w41 place42 colour43 eleven44 s492 s493) ?_ (fun g => by kernel_rfl)
    simp only [w_FnCarpetsLook_t8]; repeat (first | apply Tail.cond | (apply Tail.bind; intro _) | exact Tail.here _ | exact Tail.there (Tail.here _) | exact Tail.there (Tail.there (Tail.here _)) | exact Tail.there (Tail.there (Tail.there (Tail.here _))) | exact Tail.there (Tail.there (Tail.there (Tail.there (Tail.here _)))) | exact Tail.there (Tail.there (Tail.there (Tail.there (Tail.there (Tail.here _))))) | exact Tail.there (Tail.there (Tail.there (Tail.there (Tail.there (Tail.there (Tail.here _)))))) | exact Tail.there (Tail.there (Tail.there (Tail.there (Tail.there (Tail.there (Tail.there (Tail.here _))))))) | exact Tail.there (Tail.there (Tail.there (Tail.there (Tail.there (Tail.there (Tail.there (Tail.there (Tail.here _)))))))) | exact Tail.const _),
  fun s => by
    obtain ⟨⟨r0, _⟩, ⟨stripes28, wide29, each30, step31, text40, w41, place42, colour43, eleven44, k54, n55, _, s492, s493, _⟩, ⟨_, _, _⟩⟩ := s
    refine Tail.eq (Y := fun g => w_FnCarpetsLook_t9 (fun r0 r1 r2 steps5 need6 pattern7 ok9 period16 three17 whole20 cut21 => g.1 ((r0, r1, r2, ()), ((), steps5, need6, pattern7, (), ok9, (), period16, three17, whole20, cut21, ()), ((), (), ()))) (fun r0 need6 pattern7 period16 three17 whole20 cut21 => g.2.1 ((r0, ()), ((), need6, pattern7, period16, three17, whole20, cut21, ()), ((), (), ()))) (fun r0 => g.2.2.1 ((r0, ()), ((), ()), ((), (), ()))) (fun r0 stripes28 wide29 each30 step31 colours32 seven33 text40 w41 place42 colour43 eleven44 => g.2.2.2.1 ((r0, ()), (stripes28, wide29, each30, step31, colours32, seven33, (), text40, w41, place42, colour43, eleven44, ()), ((), (), ()))) (fun text40 w41 place42 colour43 eleven44 => g.2.2.2.2.1 ((), (text40, w41, place42, colour43, eleven44, ()), ((), (), ()))) (g.2.2.2.2.2.1 ((), (), ((), (), ()))) (fun r0 r1 r2 need6 pattern7 period16 three17 whole20 cut21 s204 s205 => g.2.2.2.2.2.2.1 ((r0, r1, r2, ()), ((), need6, pattern7, (), (), period16, three17, whole20, cut21, (), s204, s205, ()), ((), (), ()))) (fun r0 stripes28 wide29 each30 step31 text40 w41 place42 colour43 eleven44 s492 s493 => g.2.2.2.2.2.2.2.1 ((r0, ()), (stripes28, wide29, each30, step31, text40, w41, place42, colour43, eleven44, (), s492, s493, ()), ((), (), ()))) (fun r0 stripes28 wide29 each30 step31 text40 w41 place42 colour43 eleven44 k54 n55 s492 s493 => g.2.2.2.2.2.2.2.2.1 ((r0, ()), (stripes28, wide29, each30, step31, text40, w41, place42, colour43, eleven44, k54, n55, (), s492, s493, ()), ((), (), ()))) r0 stripes28 wide29 each30 step31 text40 w41 place42 colour43 eleven44 k54 n55 s492 s493) ?_ (fun g => by kernel_rfl)
    simp only [w_FnCarpetsLook_t9]; repeat (first | apply Tail.cond | (apply Tail.bind; intro _) | exact Tail.here _ | exact Tail.there (Tail.here _) | exact Tail.there (Tail.there (Tail.here _)) | exact Tail.there (Tail.there (Tail.there (Tail.here _))) | exact Tail.there (Tail.there (Tail.there (Tail.there (Tail.here _)))) | exact Tail.there (Tail.there (Tail.there (Tail.there (Tail.there (Tail.here _))))) | exact Tail.there (Tail.there (Tail.there (Tail.there (Tail.there (Tail.there (Tail.here _)))))) | exact Tail.there (Tail.there (Tail.there (Tail.there (Tail.there (Tail.there (Tail.there (Tail.here _))))))) | exact Tail.there (Tail.there (Tail.there (Tail.there (Tail.there (Tail.there (Tail.there (Tail.there (Tail.here _)))))))) | exact Tail.const _), trivial⟩
theorem w_FnCarpetsLook_hs : ∀ x, Tail c_w_FnCarpetsLook.pts (fun g => c_w_FnCarpetsLook.start g x) := fun x => by
    obtain ⟨code0, more1, _⟩ := x
    refine Tail.eq (Y := fun g => w_FnCarpetsLook_t0 (fun r0 r1 r2 steps5 need6 pattern7 ok9 period16 three17 whole20 cut21 => g.1 ((r0, r1, r2, ()), ((), steps5, need6, pattern7, (), ok9, (), period16, three17, whole20, cut21, ()), ((), (), ()))) (fun r0 need6 pattern7 period16 three17 whole20 cut21 => g.2.1 ((r0, ()), ((), need6, pattern7, period16, three17, whole20, cut21, ()), ((), (), ()))) (fun r0 => g.2.2.1 ((r0, ()), ((), ()), ((), (), ()))) (fun r0 stripes28 wide29 each30 step31 colours32 seven33 text40 w41 place42 colour43 eleven44 => g.2.2.2.1 ((r0, ()), (stripes28, wide29, each30, step31, colours32, seven33, (), text40, w41, place42, colour43, eleven44, ()), ((), (), ()))) (fun text40 w41 place42 colour43 eleven44 => g.2.2.2.2.1 ((), (text40, w41, place42, colour43, eleven44, ()), ((), (), ()))) (g.2.2.2.2.2.1 ((), (), ((), (), ()))) (fun r0 r1 r2 need6 pattern7 period16 three17 whole20 cut21 s204 s205 => g.2.2.2.2.2.2.1 ((r0, r1, r2, ()), ((), need6, pattern7, (), (), period16, three17, whole20, cut21, (), s204, s205, ()), ((), (), ()))) (fun r0 stripes28 wide29 each30 step31 text40 w41 place42 colour43 eleven44 s492 s493 => g.2.2.2.2.2.2.2.1 ((r0, ()), (stripes28, wide29, each30, step31, text40, w41, place42, colour43, eleven44, (), s492, s493, ()), ((), (), ()))) (fun r0 stripes28 wide29 each30 step31 text40 w41 place42 colour43 eleven44 k54 n55 s492 s493 => g.2.2.2.2.2.2.2.2.1 ((r0, ()), (stripes28, wide29, each30, step31, text40, w41, place42, colour43, eleven44, k54, n55, (), s492, s493, ()), ((), (), ()))) code0 more1) ?_ (fun g => by kernel_rfl)
    simp only [w_FnCarpetsLook_t0]; repeat (first | apply Tail.cond | (apply Tail.bind; intro _) | exact Tail.here _ | exact Tail.there (Tail.here _) | exact Tail.there (Tail.there (Tail.here _)) | exact Tail.there (Tail.there (Tail.there (Tail.here _))) | exact Tail.there (Tail.there (Tail.there (Tail.there (Tail.here _)))) | exact Tail.there (Tail.there (Tail.there (Tail.there (Tail.there (Tail.here _))))) | exact Tail.there (Tail.there (Tail.there (Tail.there (Tail.there (Tail.there (Tail.here _)))))) | exact Tail.there (Tail.there (Tail.there (Tail.there (Tail.there (Tail.there (Tail.there (Tail.here _))))))) | exact Tail.there (Tail.there (Tail.there (Tail.there (Tail.there (Tail.there (Tail.there (Tail.there (Tail.here _)))))))) | exact Tail.const _)
noncomputable def w_FnCarpetsLook_L1 (r0 : List (Int)) (r1 : List (Int)) (r2 : List (Int)) (steps5 : Int) (need6 : Int) (pattern7 : Int) (ok9 : Bool) (period16 : Int) (three17 : Bool) (whole20 : Int) (cut21 : Int) : Option Bool := c_w_FnCarpetsLook.L.1 ((r0, r1, r2, ()), ((), steps5, need6, pattern7, (), ok9, (), period16, three17, whole20, cut21, ()), ((), (), ()))
noncomputable def w_FnCarpetsLook_L2 (r0 : List (Int)) (need6 : Int) (pattern7 : Int) (period16 : Int) (three17 : Bool) (whole20 : Int) (cut21 : Int) : Option Bool := c_w_FnCarpetsLook.L.2.1 ((r0, ()), ((), need6, pattern7, period16, three17, whole20, cut21, ()), ((), (), ()))
noncomputable def w_FnCarpetsLook_L3 (r0 : List (Int)) : Option Bool := c_w_FnCarpetsLook.L.2.2.1 ((r0, ()), ((), ()), ((), (), ()))
noncomputable def w_FnCarpetsLook_L4 (r0 : List (Int)) (stripes28 : ByteArray) (wide29 : Int) (each30 : Int) (step31 : Int) (colours32 : ByteArray) (seven33 : Bool) (text40 : ByteArray) (w41 : Int) (place42 : Int) (colour43 : ByteArray) (eleven44 : Bool) : Option Bool := c_w_FnCarpetsLook.L.2.2.2.1 ((r0, ()), (stripes28, wide29, each30, step31, colours32, seven33, (), text40, w41, place42, colour43, eleven44, ()), ((), (), ()))
noncomputable def w_FnCarpetsLook_L5 (text40 : ByteArray) (w41 : Int) (place42 : Int) (colour43 : ByteArray) (eleven44 : Bool) : Option Bool := c_w_FnCarpetsLook.L.2.2.2.2.1 ((), (text40, w41, place42, colour43, eleven44, ()), ((), (), ()))
noncomputable def w_FnCarpetsLook_L6  : Option Bool := c_w_FnCarpetsLook.L.2.2.2.2.2.1 ((), (), ((), (), ()))
noncomputable def w_FnCarpetsLook_L7 (r0 : List (Int)) (r1 : List (Int)) (r2 : List (Int)) (need6 : Int) (pattern7 : Int) (period16 : Int) (three17 : Bool) (whole20 : Int) (cut21 : Int) (s204 : Int) (s205 : Int) : Option Bool := c_w_FnCarpetsLook.L.2.2.2.2.2.2.1 ((r0, r1, r2, ()), ((), need6, pattern7, (), (), period16, three17, whole20, cut21, (), s204, s205, ()), ((), (), ()))
noncomputable def w_FnCarpetsLook_L8 (r0 : List (Int)) (stripes28 : ByteArray) (wide29 : Int) (each30 : Int) (step31 : Int) (text40 : ByteArray) (w41 : Int) (place42 : Int) (colour43 : ByteArray) (eleven44 : Bool) (s492 : Int) (s493 : Int) : Option Bool := c_w_FnCarpetsLook.L.2.2.2.2.2.2.2.1 ((r0, ()), (stripes28, wide29, each30, step31, text40, w41, place42, colour43, eleven44, (), s492, s493, ()), ((), (), ()))
noncomputable def w_FnCarpetsLook_L9 (r0 : List (Int)) (stripes28 : ByteArray) (wide29 : Int) (each30 : Int) (step31 : Int) (text40 : ByteArray) (w41 : Int) (place42 : Int) (colour43 : ByteArray) (eleven44 : Bool) (k54 : Int) (n55 : Int) (s492 : Int) (s493 : Int) : Option Bool := c_w_FnCarpetsLook.L.2.2.2.2.2.2.2.2.1 ((r0, ()), (stripes28, wide29, each30, step31, text40, w41, place42, colour43, eleven44, k54, n55, (), s492, s493, ()), ((), (), ()))
theorem w_FnCarpetsLook_u1 (r0 : List (Int)) (r1 : List (Int)) (r2 : List (Int)) (steps5 : Int) (need6 : Int) (pattern7 : Int) (ok9 : Bool) (period16 : Int) (three17 : Bool) (whole20 : Int) (cut21 : Int) : w_FnCarpetsLook_L1 r0 r1 r2 steps5 need6 pattern7 ok9 period16 three17 whole20 cut21 = w_FnCarpetsLook_t1 w_FnCarpetsLook_L1 w_FnCarpetsLook_L2 w_FnCarpetsLook_L3 w_FnCarpetsLook_L4 w_FnCarpetsLook_L5 w_FnCarpetsLook_L6 w_FnCarpetsLook_L7 w_FnCarpetsLook_L8 w_FnCarpetsLook_L9 r0 r1 r2 steps5 need6 pattern7 ok9 period16 three17 whole20 cut21 :=
  (congrArg (fun g => g.1 ((r0, r1, r2, ()), ((), steps5, need6, pattern7, (), ok9, (), period16, three17, whole20, cut21, ()), ((), (), ()))) (FnCx.L_eq w_FnCarpetsLook_ts)).trans (by kernel_rfl)
theorem w_FnCarpetsLook_u2 (r0 : List (Int)) (need6 : Int) (pattern7 : Int) (period16 : Int) (three17 : Bool) (whole20 : Int) (cut21 : Int) : w_FnCarpetsLook_L2 r0 need6 pattern7 period16 three17 whole20 cut21 = w_FnCarpetsLook_t2 w_FnCarpetsLook_L1 w_FnCarpetsLook_L2 w_FnCarpetsLook_L3 w_FnCarpetsLook_L4 w_FnCarpetsLook_L5 w_FnCarpetsLook_L6 w_FnCarpetsLook_L7 w_FnCarpetsLook_L8 w_FnCarpetsLook_L9 r0 need6 pattern7 period16 three17 whole20 cut21 :=
  (congrArg (fun g => g.2.1 ((r0, ()), ((), need6, pattern7, period16, three17, whole20, cut21, ()), ((), (), ()))) (FnCx.L_eq w_FnCarpetsLook_ts)).trans (by kernel_rfl)
theorem w_FnCarpetsLook_u3 (r0 : List (Int)) : w_FnCarpetsLook_L3 r0 = w_FnCarpetsLook_t3 w_FnCarpetsLook_L1 w_FnCarpetsLook_L2 w_FnCarpetsLook_L3 w_FnCarpetsLook_L4 w_FnCarpetsLook_L5 w_FnCarpetsLook_L6 w_FnCarpetsLook_L7 w_FnCarpetsLook_L8 w_FnCarpetsLook_L9 r0 :=
  (congrArg (fun g => g.2.2.1 ((r0, ()), ((), ()), ((), (), ()))) (FnCx.L_eq w_FnCarpetsLook_ts)).trans (by kernel_rfl)
theorem w_FnCarpetsLook_u4 (r0 : List (Int)) (stripes28 : ByteArray) (wide29 : Int) (each30 : Int) (step31 : Int) (colours32 : ByteArray) (seven33 : Bool) (text40 : ByteArray) (w41 : Int) (place42 : Int) (colour43 : ByteArray) (eleven44 : Bool) : w_FnCarpetsLook_L4 r0 stripes28 wide29 each30 step31 colours32 seven33 text40 w41 place42 colour43 eleven44 = w_FnCarpetsLook_t4 w_FnCarpetsLook_L1 w_FnCarpetsLook_L2 w_FnCarpetsLook_L3 w_FnCarpetsLook_L4 w_FnCarpetsLook_L5 w_FnCarpetsLook_L6 w_FnCarpetsLook_L7 w_FnCarpetsLook_L8 w_FnCarpetsLook_L9 r0 stripes28 wide29 each30 step31 colours32 seven33 text40 w41 place42 colour43 eleven44 :=
  (congrArg (fun g => g.2.2.2.1 ((r0, ()), (stripes28, wide29, each30, step31, colours32, seven33, (), text40, w41, place42, colour43, eleven44, ()), ((), (), ()))) (FnCx.L_eq w_FnCarpetsLook_ts)).trans (by kernel_rfl)
theorem w_FnCarpetsLook_u5 (text40 : ByteArray) (w41 : Int) (place42 : Int) (colour43 : ByteArray) (eleven44 : Bool) : w_FnCarpetsLook_L5 text40 w41 place42 colour43 eleven44 = w_FnCarpetsLook_t5 w_FnCarpetsLook_L1 w_FnCarpetsLook_L2 w_FnCarpetsLook_L3 w_FnCarpetsLook_L4 w_FnCarpetsLook_L5 w_FnCarpetsLook_L6 w_FnCarpetsLook_L7 w_FnCarpetsLook_L8 w_FnCarpetsLook_L9 text40 w41 place42 colour43 eleven44 :=
  (congrArg (fun g => g.2.2.2.2.1 ((), (text40, w41, place42, colour43, eleven44, ()), ((), (), ()))) (FnCx.L_eq w_FnCarpetsLook_ts)).trans (by kernel_rfl)
theorem w_FnCarpetsLook_u6  : w_FnCarpetsLook_L6  = w_FnCarpetsLook_t6 w_FnCarpetsLook_L1 w_FnCarpetsLook_L2 w_FnCarpetsLook_L3 w_FnCarpetsLook_L4 w_FnCarpetsLook_L5 w_FnCarpetsLook_L6 w_FnCarpetsLook_L7 w_FnCarpetsLook_L8 w_FnCarpetsLook_L9  :=
  (congrArg (fun g => g.2.2.2.2.2.1 ((), (), ((), (), ()))) (FnCx.L_eq w_FnCarpetsLook_ts)).trans (by kernel_rfl)
theorem w_FnCarpetsLook_u7 (r0 : List (Int)) (r1 : List (Int)) (r2 : List (Int)) (need6 : Int) (pattern7 : Int) (period16 : Int) (three17 : Bool) (whole20 : Int) (cut21 : Int) (s204 : Int) (s205 : Int) : w_FnCarpetsLook_L7 r0 r1 r2 need6 pattern7 period16 three17 whole20 cut21 s204 s205 = w_FnCarpetsLook_t7 w_FnCarpetsLook_L1 w_FnCarpetsLook_L2 w_FnCarpetsLook_L3 w_FnCarpetsLook_L4 w_FnCarpetsLook_L5 w_FnCarpetsLook_L6 w_FnCarpetsLook_L7 w_FnCarpetsLook_L8 w_FnCarpetsLook_L9 r0 r1 r2 need6 pattern7 period16 three17 whole20 cut21 s204 s205 :=
  (congrArg (fun g => g.2.2.2.2.2.2.1 ((r0, r1, r2, ()), ((), need6, pattern7, (), (), period16, three17, whole20, cut21, (), s204, s205, ()), ((), (), ()))) (FnCx.L_eq w_FnCarpetsLook_ts)).trans (by kernel_rfl)
theorem w_FnCarpetsLook_u8 (r0 : List (Int)) (stripes28 : ByteArray) (wide29 : Int) (each30 : Int) (step31 : Int) (text40 : ByteArray) (w41 : Int) (place42 : Int) (colour43 : ByteArray) (eleven44 : Bool) (s492 : Int) (s493 : Int) : w_FnCarpetsLook_L8 r0 stripes28 wide29 each30 step31 text40 w41 place42 colour43 eleven44 s492 s493 = w_FnCarpetsLook_t8 w_FnCarpetsLook_L1 w_FnCarpetsLook_L2 w_FnCarpetsLook_L3 w_FnCarpetsLook_L4 w_FnCarpetsLook_L5 w_FnCarpetsLook_L6 w_FnCarpetsLook_L7 w_FnCarpetsLook_L8 w_FnCarpetsLook_L9 r0 stripes28 wide29 each30 step31 text40 w41 place42 colour43 eleven44 s492 s493 :=
  (congrArg (fun g => g.2.2.2.2.2.2.2.1 ((r0, ()), (stripes28, wide29, each30, step31, text40, w41, place42, colour43, eleven44, (), s492, s493, ()), ((), (), ()))) (FnCx.L_eq w_FnCarpetsLook_ts)).trans (by kernel_rfl)
theorem w_FnCarpetsLook_u9 (r0 : List (Int)) (stripes28 : ByteArray) (wide29 : Int) (each30 : Int) (step31 : Int) (text40 : ByteArray) (w41 : Int) (place42 : Int) (colour43 : ByteArray) (eleven44 : Bool) (k54 : Int) (n55 : Int) (s492 : Int) (s493 : Int) : w_FnCarpetsLook_L9 r0 stripes28 wide29 each30 step31 text40 w41 place42 colour43 eleven44 k54 n55 s492 s493 = w_FnCarpetsLook_t9 w_FnCarpetsLook_L1 w_FnCarpetsLook_L2 w_FnCarpetsLook_L3 w_FnCarpetsLook_L4 w_FnCarpetsLook_L5 w_FnCarpetsLook_L6 w_FnCarpetsLook_L7 w_FnCarpetsLook_L8 w_FnCarpetsLook_L9 r0 stripes28 wide29 each30 step31 text40 w41 place42 colour43 eleven44 k54 n55 s492 s493 :=
  (congrArg (fun g => g.2.2.2.2.2.2.2.2.1 ((r0, ()), (stripes28, wide29, each30, step31, text40, w41, place42, colour43, eleven44, k54, n55, (), s492, s493, ()), ((), (), ()))) (FnCx.L_eq w_FnCarpetsLook_ts)).trans (by kernel_rfl)
noncomputable def w_FnCarpetsLook (code0 : List Int) (more1 : List Int) : Option Bool := w_FnCarpetsLook_t0 w_FnCarpetsLook_L1 w_FnCarpetsLook_L2 w_FnCarpetsLook_L3 w_FnCarpetsLook_L4 w_FnCarpetsLook_L5 w_FnCarpetsLook_L6 w_FnCarpetsLook_L7 w_FnCarpetsLook_L8 w_FnCarpetsLook_L9 code0 more1
theorem w_FnCarpetsLook_e (code0 : List Int) (more1 : List Int) : c_w_FnCarpetsLook.start c_w_FnCarpetsLook.L (code0, more1, ()) = w_FnCarpetsLook code0 more1 := by kernel_rfl
noncomputable def F_w_FnCarpetsLook : Ins c_w_FnCarpetsLook.ins → Option Bool := fun x => w_FnCarpetsLook x.1 x.2.1
noncomputable def S_w_FnCarpetsLook : FSpec := mkF c_w_FnCarpetsLook.env.pre c_w_FnCarpetsLook.ins c_w_FnCarpetsLook.out c_w_FnCarpetsLook.inj F_w_FnCarpetsLook
theorem h_w_FnCarpetsLook : Cert Try.prog 4 S_w_FnCarpetsLook := FnCx.certF (c := c_w_FnCarpetsLook) F_w_FnCarpetsLook (tyOk _ _ _) (spOk ⟨h_w_big, fun _ _ _ => trivial, ⟨h_s_DrawPatternStarts, fun _ _ _ => trivial, ⟨h_i_PatternStarts, fun _ _ _ => trivial, ⟨h_s_PatternStarts, fun _ _ _ => trivial, ⟨h_i_WholeStarts, fun _ _ _ => trivial, ⟨h_s_WholeStarts, fun _ _ _ => trivial, ⟨h_i_PatternPeriod, fun _ _ _ => trivial, ⟨h_s_PatternPeriod, fun _ _ _ => trivial, ⟨h_i_WithPattern, fun _ _ _ => trivial, ⟨h_s_WithPattern, fun _ _ _ => trivial, ⟨h_w_wSame, fun _ _ _ => trivial, ⟨h_w_wRises, fun _ _ _ => trivial, ⟨h_w_wHas, fun _ _ _ => trivial, ⟨h_s_DrawColoursOfStep, fun _ _ _ => trivial, ⟨h_i_ColoursOfStep, fun _ _ _ => trivial, ⟨h_s_ColoursOfStep, fun _ _ _ => trivial, ⟨h_i_AlikeSteps, fun _ _ _ => trivial, ⟨h_s_AlikeSteps, fun _ _ _ => trivial, ⟨h_s_DrawColourAt, fun _ _ _ => trivial, ⟨h_i_ColourAt, fun _ _ _ => trivial, ⟨h_s_ColourAt, fun _ _ _ => trivial, ⟨h_i_IsStriped, fun _ _ _ => trivial, ⟨h_s_IsStriped, fun _ _ _ => trivial, trivial⟩⟩⟩⟩⟩⟩⟩⟩⟩⟩⟩⟩⟩⟩⟩⟩⟩⟩⟩⟩⟩⟩⟩) (fun _ _ _ _ _ hs => evDr_ok (tyOk _ _ _) hs follows) Try.func4 rfl rfl Try.ntmps4 (by kernel_rfl) rfl rfl (fun _ => rfl) w_FnCarpetsLook_ts w_FnCarpetsLook_hs (fun x t hb ht => by
  obtain ⟨code0, more1, _⟩ := x
  exact (w_FnCarpetsLook_e code0 more1).trans ht)
end Go.Proofs.Ythenlapjhlljnaa.V
