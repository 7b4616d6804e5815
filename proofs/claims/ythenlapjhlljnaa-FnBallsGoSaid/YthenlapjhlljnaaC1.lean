/- Functions of the program, as plain functions. No condition. -/
import Derived.Test.YthenlapjhlljnaaC0
set_option linter.unusedVariables false
set_option linter.unusedSimpArgs false
set_option maxRecDepth 100000
namespace Go.Proofs.Ythenlapjhlljnaa.V
open Go Go.Ev Go.Proofs
/-! laws.big -/
noncomputable def c_w_big : FnCx := { env := env 16 [] [], body := bodyOf Try.f34, res := [.tmp 4], ins := [.ro kSuint8, .ro kSuint8], out := [(kbool, true)], T := Bool, fin := fun r => r.1.1, inj := fun t => ((t, ()), ((), (), ())), pts := [], fuel := 400, dr := noDr }
noncomputable def w_big (code0 : List Int) (more1 : List Int) : Bool :=
  bif decide ((↑(List.length code0) : Int) > 1048576) then true
  else decide ((↑(List.length more1) : Int) > IntKind.wrap IntKind.i64 (1048576 - (↑(List.length code0) : Int)))
theorem w_big_e (code0 : List Int) (more1 : List Int) : c_w_big.start c_w_big.L (code0, more1, ()) = some (w_big code0 more1) := by
  refine Eq.trans (b := (bif decide ((↑(List.length code0) : Int) > 1048576) then some true else some (decide ((↑(List.length more1) : Int) > IntKind.wrap IntKind.i64 (1048576 - (↑(List.length code0) : Int)))) : Option Bool)) (by kernel_rfl) ?_
  unfold w_big
  repeat (first | rfl | apply condS)
noncomputable def F_w_big : Ins c_w_big.ins → Bool := fun x => w_big x.1 x.2.1
noncomputable def S_w_big : FSpec := mkT c_w_big.env.pre c_w_big.ins c_w_big.out c_w_big.inj F_w_big
theorem h_w_big : Cert Try.prog 34 S_w_big := FnCx.certT (c := c_w_big) F_w_big (tyOk _ _ _) (spOk trivial) (fun _ _ _ _ _ hs => noDr_ok) Try.func34 rfl rfl Try.ntmps34 (by kernel_rfl) rfl rfl (fun _ => rfl) trivial (fun x => .inl ⟨c_w_big.start () x, fun _ => rfl⟩) (fun x hb => by
  obtain ⟨code0, more1, _⟩ := x
  exact w_big_e code0 more1)
/-! (impl.Flight).high -/
noncomputable def c_i_Flight_high : FnCx := { env := env 8 [] [], body := bodyOf Try.f189, res := [.tmp 2], ins := [.ro kFlight], out := [(kint, true)], T := Int, fin := fun r => r.1.1, inj := fun t => ((t, ()), ((), ())), pts := [], fuel := 400, dr := noDr }
noncomputable def i_Flight_high (f0_Risers : Int) (f0_Rise : Int) (f0_Tread : Int) : Int :=
  IntKind.wrap IntKind.i64 (f0_Risers * f0_Rise)
theorem i_Flight_high_e (f0_Risers : Int) (f0_Rise : Int) (f0_Tread : Int) : c_i_Flight_high.start c_i_Flight_high.L ((f0_Risers, f0_Rise, f0_Tread), ()) = some (i_Flight_high f0_Risers f0_Rise f0_Tread) := by kernel_rfl
noncomputable def F_i_Flight_high : Ins c_i_Flight_high.ins → Int := fun x => i_Flight_high x.1.1 x.1.2.1 x.1.2.2
noncomputable def S_i_Flight_high : FSpec := mkT c_i_Flight_high.env.pre c_i_Flight_high.ins c_i_Flight_high.out c_i_Flight_high.inj F_i_Flight_high
theorem h_i_Flight_high : Cert Try.prog 189 S_i_Flight_high := FnCx.certT (c := c_i_Flight_high) F_i_Flight_high (tyOk _ _ _) (spOk trivial) (fun _ _ _ _ _ hs => noDr_ok) Try.func189 rfl rfl Try.ntmps189 (by kernel_rfl) rfl rfl (fun _ => rfl) trivial (fun x => .inl ⟨c_i_Flight_high.start () x, fun _ => rfl⟩) (fun x hb => by
  obtain ⟨⟨f0_Risers, f0_Rise, f0_Tread⟩, _⟩ := x
  exact i_Flight_high_e f0_Risers f0_Rise f0_Tread)
/-! impl.HeightOf -/
noncomputable def c_i_HeightOf : FnCx := { env := env 9 [(185, S_i_IsFlight), (189, S_i_Flight_high)] [], body := bodyOf Try.f41, res := [.tmp 2, .tmp 3], ins := [.ro kFlight], out := [(kint, true), (kbool, true)], T := Int × Bool, fin := fun r => (r.1.1, r.1.2.1), inj := fun t => ((t.1, t.2, ()), ((), ())), pts := [], fuel := 400, dr := noDr }
noncomputable def i_HeightOf (f0_Risers : Int) (f0_Rise : Int) (f0_Tread : Int) : (Int × Bool) :=
  bif !i_IsFlight f0_Risers f0_Rise f0_Tread then (0, false) else (i_Flight_high f0_Risers f0_Rise f0_Tread, true)
theorem i_HeightOf_e (f0_Risers : Int) (f0_Rise : Int) (f0_Tread : Int) : c_i_HeightOf.start c_i_HeightOf.L ((f0_Risers, f0_Rise, f0_Tread), ()) = some (i_HeightOf f0_Risers f0_Rise f0_Tread) := by
  refine Eq.trans (b := (bif !i_IsFlight f0_Risers f0_Rise f0_Tread then some (0, false) else some (i_Flight_high f0_Risers f0_Rise f0_Tread, true) : Option (Int × Bool))) (by kernel_rfl) ?_
  unfold i_HeightOf
  repeat (first | rfl | apply condS)
noncomputable def F_i_HeightOf : Ins c_i_HeightOf.ins → (Int × Bool) := fun x => i_HeightOf x.1.1 x.1.2.1 x.1.2.2
noncomputable def S_i_HeightOf : FSpec := mkT c_i_HeightOf.env.pre c_i_HeightOf.ins c_i_HeightOf.out c_i_HeightOf.inj F_i_HeightOf
theorem h_i_HeightOf : Cert Try.prog 41 S_i_HeightOf := FnCx.certT (c := c_i_HeightOf) F_i_HeightOf (tyOk _ _ _) (spOk ⟨h_i_IsFlight, fun _ _ _ => trivial, ⟨h_i_Flight_high, fun _ _ _ => trivial, trivial⟩⟩) (fun _ _ _ _ _ hs => noDr_ok) Try.func41 rfl rfl Try.ntmps41 (by kernel_rfl) rfl rfl (fun _ => rfl) trivial (fun x => .inl ⟨c_i_HeightOf.start () x, fun _ => rfl⟩) (fun x hb => by
  obtain ⟨⟨f0_Risers, f0_Rise, f0_Tread⟩, _⟩ := x
  exact i_HeightOf_e f0_Risers f0_Rise f0_Tread)
/-! spec.DrawHeadRoom -/
noncomputable def c_s_DrawHeadRoom : FnCx := { env := env 21 [(184, S_s_l1Cur_flight), (180, S_s_l1Cur_among), (183, S_s_l1Cur_pick)] [], body := bodyOf Try.f42, res := [.cell 2 47, .tmp 3, .tmp 4], ins := [.ro kSuint8], out := [(kFlight, true), (kint, true), (kint, true)], T := (Int × Int × Int) × Int × Int, fin := fun r => (r.1.1, r.1.2.1, r.1.2.2.1), inj := fun t => ((t.1, t.2.1, t.2.2, ()), ((), ())), pts := [], fuel := 400, dr := evDr (env 21 [(184, S_s_l1Cur_flight), (180, S_s_l1Cur_among), (183, S_s_l1Cur_pick)] []) }
noncomputable def s_DrawHeadRoom (code0 : List Int) : Option ((Int × Int × Int) × Int × Int) :=
  Option.bind (s_l1Cur_flight code0 0 0) fun r =>
    Option.bind (s_l1Cur_among (Prod.fst (Prod.snd r)) (Prod.fst (Prod.snd (Prod.snd r))) (Prod.snd (Prod.snd (Prod.snd r))) [1, 5, 10, 20, 60, 20000, 20001, 0])
      fun r_1 =>
      Option.bind (s_l1Cur_pick (Prod.fst (Prod.snd r_1)) (Prod.fst (Prod.snd (Prod.snd r_1))) (Prod.snd (Prod.snd (Prod.snd r_1))) 20) fun r_2 =>
        some
          ((Prod.fst (Prod.fst r), Prod.fst (Prod.snd (Prod.fst r)), Prod.snd (Prod.snd (Prod.fst r))), Prod.fst r_1, IntKind.wrap IntKind.i64 (Prod.fst r_2 - 2))
theorem s_DrawHeadRoom_e (code0 : List Int) : c_s_DrawHeadRoom.start c_s_DrawHeadRoom.L (code0, ()) = s_DrawHeadRoom code0 := by kernel_rfl
noncomputable def F_s_DrawHeadRoom : Ins c_s_DrawHeadRoom.ins → Option ((Int × Int × Int) × Int × Int) := fun x => s_DrawHeadRoom x.1
noncomputable def S_s_DrawHeadRoom : FSpec := mkF c_s_DrawHeadRoom.env.pre c_s_DrawHeadRoom.ins c_s_DrawHeadRoom.out c_s_DrawHeadRoom.inj F_s_DrawHeadRoom
theorem h_s_DrawHeadRoom : Cert Try.prog 42 S_s_DrawHeadRoom := FnCx.certF (c := c_s_DrawHeadRoom) F_s_DrawHeadRoom (tyOk _ _ _) (spOk ⟨h_s_l1Cur_flight, fun _ _ _ => trivial, ⟨h_s_l1Cur_among, fun _ _ _ => trivial, ⟨h_s_l1Cur_pick, fun _ _ _ => trivial, trivial⟩⟩⟩) (fun _ _ _ _ _ hs => evDr_ok (tyOk _ _ _) hs follows) Try.func42 rfl rfl Try.ntmps42 (by kernel_rfl) rfl rfl (fun _ => rfl) trivial (fun x => .inl ⟨c_s_DrawHeadRoom.start () x, fun _ => rfl⟩) (fun x t hb ht => by
  obtain ⟨code0, _⟩ := x
  exact (s_DrawHeadRoom_e code0).trans ht)
/-! impl.HeadRoom -/
noncomputable def c_i_HeadRoom : FnCx := { env := env 31 [(39, S_i_HeightAtRun), (175, S_i_within)] [], body := bodyOf Try.f43, res := [.tmp 6, .tmp 7], ins := [.ro kFlight, .ro kint, .ro kint], out := [(kint, true), (kbool, true)], T := Int × Bool, fin := fun r => (r.1.1, r.1.2.1), inj := fun t => ((t.1, t.2, ()), ((), (), (), ())), pts := [], fuel := 400, dr := noDr }
noncomputable def i_HeadRoom (f0_Risers : Int) (f0_Rise : Int) (f0_Tread : Int) (ceiling1 : Int) (place2 : Int) : Option (Int × Bool) :=
  Option.bind (i_HeightAtRun f0_Risers f0_Rise f0_Tread place2) fun r =>
    bif !Prod.snd r then some (0, false)
    else
      bif !i_within ceiling1 1 20000 then some (0, false)
      else bif decide (Prod.fst r ≥ ceiling1) then some (0, false) else some (IntKind.wrap IntKind.i64 (ceiling1 - Prod.fst r), true)
theorem i_HeadRoom_e (f0_Risers : Int) (f0_Rise : Int) (f0_Tread : Int) (ceiling1 : Int) (place2 : Int) : c_i_HeadRoom.start c_i_HeadRoom.L ((f0_Risers, f0_Rise, f0_Tread), ceiling1, place2, ()) = i_HeadRoom f0_Risers f0_Rise f0_Tread ceiling1 place2 := by kernel_rfl
noncomputable def F_i_HeadRoom : Ins c_i_HeadRoom.ins → Option (Int × Bool) := fun x => i_HeadRoom x.1.1 x.1.2.1 x.1.2.2 x.2.1 x.2.2.1
noncomputable def S_i_HeadRoom : FSpec := mkF c_i_HeadRoom.env.pre c_i_HeadRoom.ins c_i_HeadRoom.out c_i_HeadRoom.inj F_i_HeadRoom
theorem h_i_HeadRoom : Cert Try.prog 43 S_i_HeadRoom := FnCx.certF (c := c_i_HeadRoom) F_i_HeadRoom (tyOk _ _ _) (spOk ⟨h_i_HeightAtRun, fun _ _ _ => trivial, ⟨h_i_within, fun _ _ _ => trivial, trivial⟩⟩) (fun _ _ _ _ _ hs => noDr_ok) Try.func43 rfl rfl Try.ntmps43 (by kernel_rfl) rfl rfl (fun _ => rfl) trivial (fun x => .inl ⟨c_i_HeadRoom.start () x, fun _ => rfl⟩) (fun x t hb ht => by
  obtain ⟨⟨f0_Risers, f0_Rise, f0_Tread⟩, ceiling1, place2, _⟩ := x
  exact (i_HeadRoom_e f0_Risers f0_Rise f0_Tread ceiling1 place2).trans ht)
/-! spec.HeadRoom -/
noncomputable def c_s_HeadRoom : FnCx := { env := env 29 [(187, S_s_riPlace), (176, S_s_l1In), (188, S_s_riAt)] [], body := bodyOf Try.f44, res := [.tmp 6, .tmp 7], ins := [.ro kFlight, .ro kint, .ro kint], out := [(kint, true), (kbool, true)], T := Int × Bool, fin := fun r => (r.1.1, r.1.2.1), inj := fun t => ((t.1, t.2, ()), ((), (), (), ())), pts := [], fuel := 400, dr := noDr }
noncomputable def s_HeadRoom (f0_Risers : Int) (f0_Rise : Int) (f0_Tread : Int) (ceiling1 : Int) (place2 : Int) : Option (Int × Bool) :=
  bif !s_riPlace f0_Risers f0_Rise f0_Tread place2 then some (0, false)
  else
    bif !s_l1In ceiling1 1 20000 then some (0, false)
    else
      Option.bind (s_riAt f0_Risers f0_Rise f0_Tread place2) fun r =>
        bif decide (r ≥ ceiling1) then some (0, false)
        else Option.bind (s_riAt f0_Risers f0_Rise f0_Tread place2) fun r => some (IntKind.wrap IntKind.i64 (ceiling1 - r), true)
theorem s_HeadRoom_e (f0_Risers : Int) (f0_Rise : Int) (f0_Tread : Int) (ceiling1 : Int) (place2 : Int) : c_s_HeadRoom.start c_s_HeadRoom.L ((f0_Risers, f0_Rise, f0_Tread), ceiling1, place2, ()) = s_HeadRoom f0_Risers f0_Rise f0_Tread ceiling1 place2 := by kernel_rfl
noncomputable def F_s_HeadRoom : Ins c_s_HeadRoom.ins → Option (Int × Bool) := fun x => s_HeadRoom x.1.1 x.1.2.1 x.1.2.2 x.2.1 x.2.2.1
noncomputable def S_s_HeadRoom : FSpec := mkF c_s_HeadRoom.env.pre c_s_HeadRoom.ins c_s_HeadRoom.out c_s_HeadRoom.inj F_s_HeadRoom
theorem h_s_HeadRoom : Cert Try.prog 44 S_s_HeadRoom := FnCx.certF (c := c_s_HeadRoom) F_s_HeadRoom (tyOk _ _ _) (spOk ⟨h_s_riPlace, fun _ _ _ => trivial, ⟨h_s_l1In, fun _ _ _ => trivial, ⟨h_s_riAt, fun _ _ _ => trivial, trivial⟩⟩⟩) (fun _ _ _ _ _ hs => noDr_ok) Try.func44 rfl rfl Try.ntmps44 (by kernel_rfl) rfl rfl (fun _ => rfl) trivial (fun x => .inl ⟨c_s_HeadRoom.start () x, fun _ => rfl⟩) (fun x t hb ht => by
  obtain ⟨⟨f0_Risers, f0_Rise, f0_Tread⟩, ceiling1, place2, _⟩ := x
  exact (s_HeadRoom_e f0_Risers f0_Rise f0_Tread ceiling1 place2).trans ht)
/-! spec.DrawSplitFlight -/
noncomputable def c_s_DrawSplitFlight : FnCx := { env := env 23 [(184, S_s_l1Cur_flight), (191, S_s_l1Most), (190, S_s_l1Least), (183, S_s_l1Cur_pick)] [], body := bodyOf Try.f45, res := [.cell 2 47, .tmp 3], ins := [.ro kSuint8], out := [(kFlight, true), (kint, true)], T := (Int × Int × Int) × Int, fin := fun r => (r.1.1, r.1.2.1), inj := fun t => ((t.1, t.2, ()), ((), ())), pts := [], fuel := 400, dr := evDr (env 23 [(184, S_s_l1Cur_flight), (191, S_s_l1Most), (190, S_s_l1Least), (183, S_s_l1Cur_pick)] []) }
noncomputable def s_DrawSplitFlight (code0 : List Int) : Option ((Int × Int × Int) × Int) :=
  Option.bind (s_l1Cur_flight code0 0 0) fun r =>
    Option.bind
      (s_l1Cur_pick (Prod.fst (Prod.snd r)) (Prod.fst (Prod.snd (Prod.snd r))) (Prod.snd (Prod.snd (Prod.snd r)))
        (IntKind.wrap IntKind.i64 (s_l1Least (s_l1Most (Prod.fst (Prod.fst r)) 0) 20 + 2)))
      fun r_1 =>
      Option.bind (s_l1Cur_pick (Prod.fst (Prod.snd r_1)) (Prod.fst (Prod.snd (Prod.snd r_1))) (Prod.snd (Prod.snd (Prod.snd r_1))) 9) fun r_2 =>
        some
          ((Prod.fst (Prod.fst r), Prod.fst (Prod.snd (Prod.fst r)), Prod.snd (Prod.snd (Prod.fst r))),
            IntKind.wrap IntKind.i64 (Prod.fst r_1 - IntKind.wrap IntKind.i64 (Int.tdiv (Prod.fst r_2) 8)))
theorem s_DrawSplitFlight_e (code0 : List Int) : c_s_DrawSplitFlight.start c_s_DrawSplitFlight.L (code0, ()) = s_DrawSplitFlight code0 := by kernel_rfl
noncomputable def F_s_DrawSplitFlight : Ins c_s_DrawSplitFlight.ins → Option ((Int × Int × Int) × Int) := fun x => s_DrawSplitFlight x.1
noncomputable def S_s_DrawSplitFlight : FSpec := mkF c_s_DrawSplitFlight.env.pre c_s_DrawSplitFlight.ins c_s_DrawSplitFlight.out c_s_DrawSplitFlight.inj F_s_DrawSplitFlight
theorem h_s_DrawSplitFlight : Cert Try.prog 45 S_s_DrawSplitFlight := FnCx.certF (c := c_s_DrawSplitFlight) F_s_DrawSplitFlight (tyOk _ _ _) (spOk ⟨h_s_l1Cur_flight, fun _ _ _ => trivial, ⟨h_s_l1Most, fun _ _ _ => trivial, ⟨h_s_l1Least, fun _ _ _ => trivial, ⟨h_s_l1Cur_pick, fun _ _ _ => trivial, trivial⟩⟩⟩⟩) (fun _ _ _ _ _ hs => evDr_ok (tyOk _ _ _) hs follows) Try.func45 rfl rfl Try.ntmps45 (by kernel_rfl) rfl rfl (fun _ => rfl) trivial (fun x => .inl ⟨c_s_DrawSplitFlight.start () x, fun _ => rfl⟩) (fun x t hb ht => by
  obtain ⟨code0, _⟩ := x
  exact (s_DrawSplitFlight_e code0).trans ht)
/-! impl.SplitFlight -/
noncomputable def c_i_SplitFlight : FnCx := { env := env 35 [(185, S_i_IsFlight), (175, S_i_within)] [], body := bodyOf Try.f46, res := [.cell 4 47, .cell 5 47, .tmp 6], ins := [.ro kFlight, .ro kint], out := [(kFlight, true), (kFlight, true), (kbool, true)], T := (Int × Int × Int) × (Int × Int × Int) × Bool, fin := fun r => (r.1.1, r.1.2.1, r.1.2.2.1), inj := fun t => ((t.1, t.2.1, t.2.2, ()), ((), (), ())), pts := [], fuel := 400, dr := evDr (env 35 [(185, S_i_IsFlight), (175, S_i_within)] []) }
noncomputable def i_SplitFlight (f0_Risers : Int) (f0_Rise : Int) (f0_Tread : Int) (landing1 : Int) : ((Int × Int × Int) × (Int × Int × Int) × Bool) :=
  bif !i_IsFlight f0_Risers f0_Rise f0_Tread then ((0, 0, 0), (0, 0, 0), false)
  else
    bif !i_within landing1 1 (IntKind.wrap IntKind.i64 (f0_Risers - 1)) then ((0, 0, 0), (0, 0, 0), false)
    else ((landing1, f0_Rise, f0_Tread), (IntKind.wrap IntKind.i64 (f0_Risers - landing1), f0_Rise, f0_Tread), true)
theorem i_SplitFlight_e (f0_Risers : Int) (f0_Rise : Int) (f0_Tread : Int) (landing1 : Int) : c_i_SplitFlight.start c_i_SplitFlight.L ((f0_Risers, f0_Rise, f0_Tread), landing1, ()) = some (i_SplitFlight f0_Risers f0_Rise f0_Tread landing1) := by
  refine Eq.trans (b := (bif !i_IsFlight f0_Risers f0_Rise f0_Tread then some ((0, 0, 0), (0, 0, 0), false) else bif !i_within landing1 1 (IntKind.wrap IntKind.i64 (f0_Risers - 1)) then some ((0, 0, 0), (0, 0, 0), false) else some ((landing1, f0_Rise, f0_Tread), (IntKind.wrap IntKind.i64 (f0_Risers - landing1), f0_Rise, f0_Tread), true) : Option ((Int × Int × Int) × (Int × Int × Int) × Bool))) (by kernel_rfl) ?_
  unfold i_SplitFlight
  repeat (first | rfl | apply condS)
noncomputable def F_i_SplitFlight : Ins c_i_SplitFlight.ins → ((Int × Int × Int) × (Int × Int × Int) × Bool) := fun x => i_SplitFlight x.1.1 x.1.2.1 x.1.2.2 x.2.1
noncomputable def S_i_SplitFlight : FSpec := mkT c_i_SplitFlight.env.pre c_i_SplitFlight.ins c_i_SplitFlight.out c_i_SplitFlight.inj F_i_SplitFlight
theorem h_i_SplitFlight : Cert Try.prog 46 S_i_SplitFlight := FnCx.certT (c := c_i_SplitFlight) F_i_SplitFlight (tyOk _ _ _) (spOk ⟨h_i_IsFlight, fun _ _ _ => trivial, ⟨h_i_within, fun _ _ _ => trivial, trivial⟩⟩) (fun _ _ _ _ _ hs => evDr_ok (tyOk _ _ _) hs follows) Try.func46 rfl rfl Try.ntmps46 (by kernel_rfl) rfl rfl (fun _ => rfl) trivial (fun x => .inl ⟨c_i_SplitFlight.start () x, fun _ => rfl⟩) (fun x hb => by
  obtain ⟨⟨f0_Risers, f0_Rise, f0_Tread⟩, landing1, _⟩ := x
  exact i_SplitFlight_e f0_Risers f0_Rise f0_Tread landing1)
/-! spec.SplitFlight -/
noncomputable def c_s_SplitFlight : FnCx := { env := env 35 [(192, S_s_riGood), (176, S_s_l1In)] [], body := bodyOf Try.f47, res := [.cell 4 47, .cell 5 47, .tmp 6], ins := [.ro kFlight, .ro kint], out := [(kFlight, true), (kFlight, true), (kbool, true)], T := (Int × Int × Int) × (Int × Int × Int) × Bool, fin := fun r => (r.1.1, r.1.2.1, r.1.2.2.1), inj := fun t => ((t.1, t.2.1, t.2.2, ()), ((), (), ())), pts := [], fuel := 400, dr := evDr (env 35 [(192, S_s_riGood), (176, S_s_l1In)] []) }
noncomputable def s_SplitFlight (f0_Risers : Int) (f0_Rise : Int) (f0_Tread : Int) (landing1 : Int) : ((Int × Int × Int) × (Int × Int × Int) × Bool) :=
  bif !s_riGood f0_Risers f0_Rise f0_Tread then ((0, 0, 0), (0, 0, 0), false)
  else
    bif !s_l1In landing1 1 (IntKind.wrap IntKind.i64 (f0_Risers - 1)) then ((0, 0, 0), (0, 0, 0), false)
    else ((landing1, f0_Rise, f0_Tread), (IntKind.wrap IntKind.i64 (f0_Risers - landing1), f0_Rise, f0_Tread), true)
theorem s_SplitFlight_e (f0_Risers : Int) (f0_Rise : Int) (f0_Tread : Int) (landing1 : Int) : c_s_SplitFlight.start c_s_SplitFlight.L ((f0_Risers, f0_Rise, f0_Tread), landing1, ()) = some (s_SplitFlight f0_Risers f0_Rise f0_Tread landing1) := by
  refine Eq.trans (b := (bif !s_riGood f0_Risers f0_Rise f0_Tread then some ((0, 0, 0), (0, 0, 0), false) else bif !s_l1In landing1 1 (IntKind.wrap IntKind.i64 (f0_Risers - 1)) then some ((0, 0, 0), (0, 0, 0), false) else some ((landing1, f0_Rise, f0_Tread), (IntKind.wrap IntKind.i64 (f0_Risers - landing1), f0_Rise, f0_Tread), true) : Option ((Int × Int × Int) × (Int × Int × Int) × Bool))) (by kernel_rfl) ?_
  unfold s_SplitFlight
  repeat (first | rfl | apply condS)
noncomputable def F_s_SplitFlight : Ins c_s_SplitFlight.ins → ((Int × Int × Int) × (Int × Int × Int) × Bool) := fun x => s_SplitFlight x.1.1 x.1.2.1 x.1.2.2 x.2.1
noncomputable def S_s_SplitFlight : FSpec := mkT c_s_SplitFlight.env.pre c_s_SplitFlight.ins c_s_SplitFlight.out c_s_SplitFlight.inj F_s_SplitFlight
theorem h_s_SplitFlight : Cert Try.prog 47 S_s_SplitFlight := FnCx.certT (c := c_s_SplitFlight) F_s_SplitFlight (tyOk _ _ _) (spOk ⟨h_s_riGood, fun _ _ _ => trivial, ⟨h_s_l1In, fun _ _ _ => trivial, trivial⟩⟩) (fun _ _ _ _ _ hs => evDr_ok (tyOk _ _ _) hs follows) Try.func47 rfl rfl Try.ntmps47 (by kernel_rfl) rfl rfl (fun _ => rfl) trivial (fun x => .inl ⟨c_s_SplitFlight.start () x, fun _ => rfl⟩) (fun x hb => by
  obtain ⟨⟨f0_Risers, f0_Rise, f0_Tread⟩, landing1, _⟩ := x
  exact s_SplitFlight_e f0_Risers f0_Rise f0_Tread landing1)
/-! spec.DrawTimesFlight -/
noncomputable def c_s_DrawTimesFlight : FnCx := { env := env 15 [(184, S_s_l1Cur_flight), (180, S_s_l1Cur_among)] [], body := bodyOf Try.f48, res := [.cell 2 47, .tmp 3], ins := [.ro kSuint8], out := [(kFlight, true), (kint, true)], T := (Int × Int × Int) × Int, fin := fun r => (r.1.1, r.1.2.1), inj := fun t => ((t.1, t.2, ()), ((), ())), pts := [], fuel := 400, dr := evDr (env 15 [(184, S_s_l1Cur_flight), (180, S_s_l1Cur_among)] []) }
noncomputable def s_DrawTimesFlight (code0 : List Int) : Option ((Int × Int × Int) × Int) :=
  Option.bind (s_l1Cur_flight code0 0 0) fun r =>
    Option.bind (s_l1Cur_among (Prod.fst (Prod.snd r)) (Prod.fst (Prod.snd (Prod.snd r))) (Prod.snd (Prod.snd (Prod.snd r))) [1, 2, 3, 10, 100, 500, 501, 0])
      fun r_1 => some ((Prod.fst (Prod.fst r), Prod.fst (Prod.snd (Prod.fst r)), Prod.snd (Prod.snd (Prod.fst r))), Prod.fst r_1)
theorem s_DrawTimesFlight_e (code0 : List Int) : c_s_DrawTimesFlight.start c_s_DrawTimesFlight.L (code0, ()) = s_DrawTimesFlight code0 := by kernel_rfl
noncomputable def F_s_DrawTimesFlight : Ins c_s_DrawTimesFlight.ins → Option ((Int × Int × Int) × Int) := fun x => s_DrawTimesFlight x.1
noncomputable def S_s_DrawTimesFlight : FSpec := mkF c_s_DrawTimesFlight.env.pre c_s_DrawTimesFlight.ins c_s_DrawTimesFlight.out c_s_DrawTimesFlight.inj F_s_DrawTimesFlight
theorem h_s_DrawTimesFlight : Cert Try.prog 48 S_s_DrawTimesFlight := FnCx.certF (c := c_s_DrawTimesFlight) F_s_DrawTimesFlight (tyOk _ _ _) (spOk ⟨h_s_l1Cur_flight, fun _ _ _ => trivial, ⟨h_s_l1Cur_among, fun _ _ _ => trivial, trivial⟩⟩) (fun _ _ _ _ _ hs => evDr_ok (tyOk _ _ _) hs follows) Try.func48 rfl rfl Try.ntmps48 (by kernel_rfl) rfl rfl (fun _ => rfl) trivial (fun x => .inl ⟨c_s_DrawTimesFlight.start () x, fun _ => rfl⟩) (fun x t hb ht => by
  obtain ⟨code0, _⟩ := x
  exact (s_DrawTimesFlight_e code0).trans ht)
/-! impl.TimesFlight -/
noncomputable def c_i_TimesFlight : FnCx := { env := env 32 [(185, S_i_IsFlight), (175, S_i_within)] [], body := bodyOf Try.f49, res := [.cell 4 47, .tmp 5], ins := [.ro kFlight, .ro kint], out := [(kFlight, true), (kbool, true)], T := (Int × Int × Int) × Bool, fin := fun r => (r.1.1, r.1.2.1), inj := fun t => ((t.1, t.2, ()), ((), (), ())), pts := [], fuel := 400, dr := noDr }
noncomputable def i_TimesFlight (f0_Risers : Int) (f0_Rise : Int) (f0_Tread : Int) (by1 : Int) : ((Int × Int × Int) × Bool) :=
  bif !i_IsFlight f0_Risers f0_Rise f0_Tread then ((0, 0, 0), false)
  else
    bif !i_within by1 1 500 then ((0, 0, 0), false)
    else
      bif !i_IsFlight f0_Risers (IntKind.wrap IntKind.i64 (f0_Rise * by1)) (IntKind.wrap IntKind.i64 (f0_Tread * by1)) then ((0, 0, 0), false)
      else ((f0_Risers, IntKind.wrap IntKind.i64 (f0_Rise * by1), IntKind.wrap IntKind.i64 (f0_Tread * by1)), true)
theorem i_TimesFlight_e (f0_Risers : Int) (f0_Rise : Int) (f0_Tread : Int) (by1 : Int) : c_i_TimesFlight.start c_i_TimesFlight.L ((f0_Risers, f0_Rise, f0_Tread), by1, ()) = some (i_TimesFlight f0_Risers f0_Rise f0_Tread by1) := by
  refine Eq.trans (b := (bif !i_IsFlight f0_Risers f0_Rise f0_Tread then some ((0, 0, 0), false) else bif !i_within by1 1 500 then some ((0, 0, 0), false) else bif !i_IsFlight f0_Risers (IntKind.wrap IntKind.i64 (f0_Rise * by1)) (IntKind.wrap IntKind.i64 (f0_Tread * by1)) then some ((0, 0, 0), false) else some ((f0_Risers, IntKind.wrap IntKind.i64 (f0_Rise * by1), IntKind.wrap IntKind.i64 (f0_Tread * by1)), true) : Option ((Int × Int × Int) × Bool))) (by kernel_rfl) ?_
  unfold i_TimesFlight
  repeat (first | rfl | apply condS)
noncomputable def F_i_TimesFlight : Ins c_i_TimesFlight.ins → ((Int × Int × Int) × Bool) := fun x => i_TimesFlight x.1.1 x.1.2.1 x.1.2.2 x.2.1
noncomputable def S_i_TimesFlight : FSpec := mkT c_i_TimesFlight.env.pre c_i_TimesFlight.ins c_i_TimesFlight.out c_i_TimesFlight.inj F_i_TimesFlight
theorem h_i_TimesFlight : Cert Try.prog 49 S_i_TimesFlight := FnCx.certT (c := c_i_TimesFlight) F_i_TimesFlight (tyOk _ _ _) (spOk ⟨h_i_IsFlight, fun _ _ _ => trivial, ⟨h_i_within, fun _ _ _ => trivial, trivial⟩⟩) (fun _ _ _ _ _ hs => noDr_ok) Try.func49 rfl rfl Try.ntmps49 (by kernel_rfl) rfl rfl (fun _ => rfl) trivial (fun x => .inl ⟨c_i_TimesFlight.start () x, fun _ => rfl⟩) (fun x hb => by
  obtain ⟨⟨f0_Risers, f0_Rise, f0_Tread⟩, by1, _⟩ := x
  exact i_TimesFlight_e f0_Risers f0_Rise f0_Tread by1)
/-! spec.TimesFlight -/
noncomputable def c_s_TimesFlight : FnCx := { env := env 32 [(192, S_s_riGood), (176, S_s_l1In)] [], body := bodyOf Try.f50, res := [.cell 4 47, .tmp 5], ins := [.ro kFlight, .ro kint], out := [(kFlight, true), (kbool, true)], T := (Int × Int × Int) × Bool, fin := fun r => (r.1.1, r.1.2.1), inj := fun t => ((t.1, t.2, ()), ((), (), ())), pts := [], fuel := 400, dr := noDr }
noncomputable def s_TimesFlight (f0_Risers : Int) (f0_Rise : Int) (f0_Tread : Int) (by1 : Int) : ((Int × Int × Int) × Bool) :=
  bif !s_riGood f0_Risers f0_Rise f0_Tread then ((0, 0, 0), false)
  else
    bif !s_l1In by1 1 500 then ((0, 0, 0), false)
    else
      bif !s_riGood f0_Risers (IntKind.wrap IntKind.i64 (f0_Rise * by1)) (IntKind.wrap IntKind.i64 (f0_Tread * by1)) then ((0, 0, 0), false)
      else ((f0_Risers, IntKind.wrap IntKind.i64 (f0_Rise * by1), IntKind.wrap IntKind.i64 (f0_Tread * by1)), true)
theorem s_TimesFlight_e (f0_Risers : Int) (f0_Rise : Int) (f0_Tread : Int) (by1 : Int) : c_s_TimesFlight.start c_s_TimesFlight.L ((f0_Risers, f0_Rise, f0_Tread), by1, ()) = some (s_TimesFlight f0_Risers f0_Rise f0_Tread by1) := by
  refine Eq.trans (b := (bif !s_riGood f0_Risers f0_Rise f0_Tread then some ((0, 0, 0), false) else bif !s_l1In by1 1 500 then some ((0, 0, 0), false) else bif !s_riGood f0_Risers (IntKind.wrap IntKind.i64 (f0_Rise * by1)) (IntKind.wrap IntKind.i64 (f0_Tread * by1)) then some ((0, 0, 0), false) else some ((f0_Risers, IntKind.wrap IntKind.i64 (f0_Rise * by1), IntKind.wrap IntKind.i64 (f0_Tread * by1)), true) : Option ((Int × Int × Int) × Bool))) (by kernel_rfl) ?_
  unfold s_TimesFlight
  repeat (first | rfl | apply condS)
noncomputable def F_s_TimesFlight : Ins c_s_TimesFlight.ins → ((Int × Int × Int) × Bool) := fun x => s_TimesFlight x.1.1 x.1.2.1 x.1.2.2 x.2.1
noncomputable def S_s_TimesFlight : FSpec := mkT c_s_TimesFlight.env.pre c_s_TimesFlight.ins c_s_TimesFlight.out c_s_TimesFlight.inj F_s_TimesFlight
theorem h_s_TimesFlight : Cert Try.prog 50 S_s_TimesFlight := FnCx.certT (c := c_s_TimesFlight) F_s_TimesFlight (tyOk _ _ _) (spOk ⟨h_s_riGood, fun _ _ _ => trivial, ⟨h_s_l1In, fun _ _ _ => trivial, trivial⟩⟩) (fun _ _ _ _ _ hs => noDr_ok) Try.func50 rfl rfl Try.ntmps50 (by kernel_rfl) rfl rfl (fun _ => rfl) trivial (fun x => .inl ⟨c_s_TimesFlight.start () x, fun _ => rfl⟩) (fun x hb => by
  obtain ⟨⟨f0_Risers, f0_Rise, f0_Tread⟩, by1, _⟩ := x
  exact s_TimesFlight_e f0_Risers f0_Rise f0_Tread by1)
/-! spec.DrawFewestRisers -/
noncomputable def c_s_DrawFewestRisers : FnCx := { env := env 15 [(193, S_s_l1Cur_high), (180, S_s_l1Cur_among)] [], body := bodyOf Try.f51, res := [.tmp 2, .tmp 3], ins := [.ro kSuint8], out := [(kint, true), (kint, true)], T := Int × Int, fin := fun r => (r.1.1, r.1.2.1), inj := fun t => ((t.1, t.2, ()), ((), ())), pts := [], fuel := 400, dr := noDr }
noncomputable def s_DrawFewestRisers (code0 : List Int) : Option (Int × Int) :=
  Option.bind (s_l1Cur_high code0 0 0) fun r =>
    Option.bind (s_l1Cur_among (Prod.fst (Prod.snd r)) (Prod.fst (Prod.snd (Prod.snd r))) (Prod.snd (Prod.snd (Prod.snd r))) [1, 2, 5, 18, 250, 251, 0])
      fun r_1 => some (Prod.fst r, Prod.fst r_1)
theorem s_DrawFewestRisers_e (code0 : List Int) : c_s_DrawFewestRisers.start c_s_DrawFewestRisers.L (code0, ()) = s_DrawFewestRisers code0 := by kernel_rfl
noncomputable def F_s_DrawFewestRisers : Ins c_s_DrawFewestRisers.ins → Option (Int × Int) := fun x => s_DrawFewestRisers x.1
noncomputable def S_s_DrawFewestRisers : FSpec := mkF c_s_DrawFewestRisers.env.pre c_s_DrawFewestRisers.ins c_s_DrawFewestRisers.out c_s_DrawFewestRisers.inj F_s_DrawFewestRisers
theorem h_s_DrawFewestRisers : Cert Try.prog 51 S_s_DrawFewestRisers := FnCx.certF (c := c_s_DrawFewestRisers) F_s_DrawFewestRisers (tyOk _ _ _) (spOk ⟨h_s_l1Cur_high, fun _ _ _ => trivial, ⟨h_s_l1Cur_among, fun _ _ _ => trivial, trivial⟩⟩) (fun _ _ _ _ _ hs => noDr_ok) Try.func51 rfl rfl Try.ntmps51 (by kernel_rfl) rfl rfl (fun _ => rfl) trivial (fun x => .inl ⟨c_s_DrawFewestRisers.start () x, fun _ => rfl⟩) (fun x t hb ht => by
  obtain ⟨code0, _⟩ := x
  exact (s_DrawFewestRisers_e code0).trans ht)
/-! impl.FewestRisers -/
noncomputable def c_i_FewestRisers : FnCx := { env := env 20 [(194, S_i_isHigh), (175, S_i_within)] [], body := bodyOf Try.f52, res := [.tmp 4, .tmp 5], ins := [.ro kint, .ro kint], out := [(kint, true), (kbool, true)], T := Int × Bool, fin := fun r => (r.1.1, r.1.2.1), inj := fun t => ((t.1, t.2, ()), ((), (), ())), pts := [], fuel := 400, dr := noDr }
noncomputable def i_FewestRisers (high0 : Int) (most1 : Int) : Option (Int × Bool) :=
  bif !i_isHigh high0 then some (0, false)
  else
    bif !i_within most1 1 250 then some (0, false)
    else
      bif most1 == 0 then none
      else some (IntKind.wrap IntKind.i64 (Int.tdiv (IntKind.wrap IntKind.i64 (IntKind.wrap IntKind.i64 (high0 + most1) - 1)) most1), true)
theorem i_FewestRisers_e (high0 : Int) (most1 : Int) : c_i_FewestRisers.start c_i_FewestRisers.L (high0, most1, ()) = i_FewestRisers high0 most1 := by kernel_rfl
noncomputable def F_i_FewestRisers : Ins c_i_FewestRisers.ins → Option (Int × Bool) := fun x => i_FewestRisers x.1 x.2.1
noncomputable def S_i_FewestRisers : FSpec := mkF c_i_FewestRisers.env.pre c_i_FewestRisers.ins c_i_FewestRisers.out c_i_FewestRisers.inj F_i_FewestRisers
theorem h_i_FewestRisers : Cert Try.prog 52 S_i_FewestRisers := FnCx.certF (c := c_i_FewestRisers) F_i_FewestRisers (tyOk _ _ _) (spOk ⟨h_i_isHigh, fun _ _ _ => trivial, ⟨h_i_within, fun _ _ _ => trivial, trivial⟩⟩) (fun _ _ _ _ _ hs => noDr_ok) Try.func52 rfl rfl Try.ntmps52 (by kernel_rfl) rfl rfl (fun _ => rfl) trivial (fun x => .inl ⟨c_i_FewestRisers.start () x, fun _ => rfl⟩) (fun x t hb ht => by
  obtain ⟨high0, most1, _⟩ := x
  exact (i_FewestRisers_e high0 most1).trans ht)
/-! spec.FewestRisers -/
noncomputable def c_s_FewestRisers : FnCx := { env := env 20 [(195, S_s_riHigh), (176, S_s_l1In)] [], body := bodyOf Try.f53, res := [.tmp 4, .tmp 5], ins := [.ro kint, .ro kint], out := [(kint, true), (kbool, true)], T := Int × Bool, fin := fun r => (r.1.1, r.1.2.1), inj := fun t => ((t.1, t.2, ()), ((), (), ())), pts := [], fuel := 400, dr := noDr }
noncomputable def s_FewestRisers (high0 : Int) (most1 : Int) : Option (Int × Bool) :=
  bif !s_riHigh high0 then some (0, false)
  else
    bif !s_l1In most1 1 250 then some (0, false)
    else
      bif most1 == 0 then none
      else some (IntKind.wrap IntKind.i64 (Int.tdiv (IntKind.wrap IntKind.i64 (IntKind.wrap IntKind.i64 (high0 + most1) - 1)) most1), true)
theorem s_FewestRisers_e (high0 : Int) (most1 : Int) : c_s_FewestRisers.start c_s_FewestRisers.L (high0, most1, ()) = s_FewestRisers high0 most1 := by kernel_rfl
noncomputable def F_s_FewestRisers : Ins c_s_FewestRisers.ins → Option (Int × Bool) := fun x => s_FewestRisers x.1 x.2.1
noncomputable def S_s_FewestRisers : FSpec := mkF c_s_FewestRisers.env.pre c_s_FewestRisers.ins c_s_FewestRisers.out c_s_FewestRisers.inj F_s_FewestRisers
theorem h_s_FewestRisers : Cert Try.prog 53 S_s_FewestRisers := FnCx.certF (c := c_s_FewestRisers) F_s_FewestRisers (tyOk _ _ _) (spOk ⟨h_s_riHigh, fun _ _ _ => trivial, ⟨h_s_l1In, fun _ _ _ => trivial, trivial⟩⟩) (fun _ _ _ _ _ hs => noDr_ok) Try.func53 rfl rfl Try.ntmps53 (by kernel_rfl) rfl rfl (fun _ => rfl) trivial (fun x => .inl ⟨c_s_FewestRisers.start () x, fun _ => rfl⟩) (fun x t hb ht => by
  obtain ⟨high0, most1, _⟩ := x
  exact (s_FewestRisers_e high0 most1).trans ht)
/-! spec.DrawMostRisers -/
noncomputable def c_s_DrawMostRisers : FnCx := { env := env 14 [(180, S_s_l1Cur_among)] [], body := bodyOf Try.f54, res := [.tmp 2, .tmp 3], ins := [.ro kSuint8], out := [(kint, true), (kint, true)], T := Int × Int, fin := fun r => (r.1.1, r.1.2.1), inj := fun t => ((t.1, t.2, ()), ((), ())), pts := [], fuel := 400, dr := noDr }
noncomputable def s_DrawMostRisers (code0 : List Int) : Option (Int × Int) :=
  Option.bind (s_l1Cur_among code0 0 0 [0, 1, 5, 12, 100, 50000, 50001, -1]) fun r =>
    Option.bind (s_l1Cur_among (Prod.fst (Prod.snd r)) (Prod.fst (Prod.snd (Prod.snd r))) (Prod.snd (Prod.snd (Prod.snd r))) [1, 2, 5, 29, 500, 501, 0])
      fun r_1 => some (Prod.fst r, Prod.fst r_1)
theorem s_DrawMostRisers_e (code0 : List Int) : c_s_DrawMostRisers.start c_s_DrawMostRisers.L (code0, ()) = s_DrawMostRisers code0 := by kernel_rfl
noncomputable def F_s_DrawMostRisers : Ins c_s_DrawMostRisers.ins → Option (Int × Int) := fun x => s_DrawMostRisers x.1
noncomputable def S_s_DrawMostRisers : FSpec := mkF c_s_DrawMostRisers.env.pre c_s_DrawMostRisers.ins c_s_DrawMostRisers.out c_s_DrawMostRisers.inj F_s_DrawMostRisers
theorem h_s_DrawMostRisers : Cert Try.prog 54 S_s_DrawMostRisers := FnCx.certF (c := c_s_DrawMostRisers) F_s_DrawMostRisers (tyOk _ _ _) (spOk ⟨h_s_l1Cur_among, fun _ _ _ => trivial, trivial⟩) (fun _ _ _ _ _ hs => noDr_ok) Try.func54 rfl rfl Try.ntmps54 (by kernel_rfl) rfl rfl (fun _ => rfl) trivial (fun x => .inl ⟨c_s_DrawMostRisers.start () x, fun _ => rfl⟩) (fun x t hb ht => by
  obtain ⟨code0, _⟩ := x
  exact (s_DrawMostRisers_e code0).trans ht)
/-! impl.MostRisers -/
noncomputable def c_i_MostRisers : FnCx := { env := env 19 [(175, S_i_within)] [], body := bodyOf Try.f55, res := [.tmp 4, .tmp 5], ins := [.ro kint, .ro kint], out := [(kint, true), (kbool, true)], T := Int × Bool, fin := fun r => (r.1.1, r.1.2.1), inj := fun t => ((t.1, t.2, ()), ((), (), ())), pts := [], fuel := 400, dr := noDr }
noncomputable def i_MostRisers (run0 : Int) (tread1 : Int) : Option (Int × Bool) :=
  bif !i_within run0 0 50000 then some (0, false)
  else
    bif !i_within tread1 1 500 then some (0, false)
    else
      bif tread1 == 0 then none
      else
        some
          (bif decide (IntKind.wrap IntKind.i64 (IntKind.wrap IntKind.i64 (Int.tdiv run0 tread1) + 1) < 100) then
              IntKind.wrap IntKind.i64 (IntKind.wrap IntKind.i64 (Int.tdiv run0 tread1) + 1)
            else 100,
            true)
theorem i_MostRisers_e (run0 : Int) (tread1 : Int) : c_i_MostRisers.start c_i_MostRisers.L (run0, tread1, ()) = i_MostRisers run0 tread1 := by kernel_rfl
noncomputable def F_i_MostRisers : Ins c_i_MostRisers.ins → Option (Int × Bool) := fun x => i_MostRisers x.1 x.2.1
noncomputable def S_i_MostRisers : FSpec := mkF c_i_MostRisers.env.pre c_i_MostRisers.ins c_i_MostRisers.out c_i_MostRisers.inj F_i_MostRisers
theorem h_i_MostRisers : Cert Try.prog 55 S_i_MostRisers := FnCx.certF (c := c_i_MostRisers) F_i_MostRisers (tyOk _ _ _) (spOk ⟨h_i_within, fun _ _ _ => trivial, trivial⟩) (fun _ _ _ _ _ hs => noDr_ok) Try.func55 rfl rfl Try.ntmps55 (by kernel_rfl) rfl rfl (fun _ => rfl) trivial (fun x => .inl ⟨c_i_MostRisers.start () x, fun _ => rfl⟩) (fun x t hb ht => by
  obtain ⟨run0, tread1, _⟩ := x
  exact (i_MostRisers_e run0 tread1).trans ht)
/-! spec.MostRisers -/
noncomputable def c_s_MostRisers : FnCx := { env := env 19 [(176, S_s_l1In), (190, S_s_l1Least)] [], body := bodyOf Try.f56, res := [.tmp 4, .tmp 5], ins := [.ro kint, .ro kint], out := [(kint, true), (kbool, true)], T := Int × Bool, fin := fun r => (r.1.1, r.1.2.1), inj := fun t => ((t.1, t.2, ()), ((), (), ())), pts := [], fuel := 400, dr := noDr }
noncomputable def s_MostRisers (run0 : Int) (tread1 : Int) : Option (Int × Bool) :=
  bif !s_l1In run0 0 50000 then some (0, false)
  else
    bif !s_l1In tread1 1 500 then some (0, false)
    else bif tread1 == 0 then none else some (s_l1Least 100 (IntKind.wrap IntKind.i64 (IntKind.wrap IntKind.i64 (Int.tdiv run0 tread1) + 1)), true)
theorem s_MostRisers_e (run0 : Int) (tread1 : Int) : c_s_MostRisers.start c_s_MostRisers.L (run0, tread1, ()) = s_MostRisers run0 tread1 := by kernel_rfl
noncomputable def F_s_MostRisers : Ins c_s_MostRisers.ins → Option (Int × Bool) := fun x => s_MostRisers x.1 x.2.1
noncomputable def S_s_MostRisers : FSpec := mkF c_s_MostRisers.env.pre c_s_MostRisers.ins c_s_MostRisers.out c_s_MostRisers.inj F_s_MostRisers
theorem h_s_MostRisers : Cert Try.prog 56 S_s_MostRisers := FnCx.certF (c := c_s_MostRisers) F_s_MostRisers (tyOk _ _ _) (spOk ⟨h_s_l1In, fun _ _ _ => trivial, ⟨h_s_l1Least, fun _ _ _ => trivial, trivial⟩⟩) (fun _ _ _ _ _ hs => noDr_ok) Try.func56 rfl rfl Try.ntmps56 (by kernel_rfl) rfl rfl (fun _ => rfl) trivial (fun x => .inl ⟨c_s_MostRisers.start () x, fun _ => rfl⟩) (fun x t hb ht => by
  obtain ⟨run0, tread1, _⟩ := x
  exact (s_MostRisers_e run0 tread1).trans ht)
/-! spec.DrawTreadFor -/
noncomputable def c_s_DrawTreadFor : FnCx := { env := env 14 [(180, S_s_l1Cur_among)] [], body := bodyOf Try.f60, res := [.tmp 2, .tmp 3], ins := [.ro kSuint8], out := [(kint, true), (kint, true)], T := Int × Int, fin := fun r => (r.1.1, r.1.2.1), inj := fun t => ((t.1, t.2, ()), ((), ())), pts := [], fuel := 400, dr := noDr }
noncomputable def s_DrawTreadFor (code0 : List Int) : Option (Int × Int) :=
  Option.bind (s_l1Cur_among code0 0 0 [1, 2, 5, 17, 250, 251, 0]) fun r =>
    Option.bind (s_l1Cur_among (Prod.fst (Prod.snd r)) (Prod.fst (Prod.snd (Prod.snd r))) (Prod.snd (Prod.snd (Prod.snd r))) [10, 14, 20, 63, 2000, 2001, 0])
      fun r_1 => some (Prod.fst r, Prod.fst r_1)
theorem s_DrawTreadFor_e (code0 : List Int) : c_s_DrawTreadFor.start c_s_DrawTreadFor.L (code0, ()) = s_DrawTreadFor code0 := by kernel_rfl
noncomputable def F_s_DrawTreadFor : Ins c_s_DrawTreadFor.ins → Option (Int × Int) := fun x => s_DrawTreadFor x.1
noncomputable def S_s_DrawTreadFor : FSpec := mkF c_s_DrawTreadFor.env.pre c_s_DrawTreadFor.ins c_s_DrawTreadFor.out c_s_DrawTreadFor.inj F_s_DrawTreadFor
theorem h_s_DrawTreadFor : Cert Try.prog 60 S_s_DrawTreadFor := FnCx.certF (c := c_s_DrawTreadFor) F_s_DrawTreadFor (tyOk _ _ _) (spOk ⟨h_s_l1Cur_among, fun _ _ _ => trivial, trivial⟩) (fun _ _ _ _ _ hs => noDr_ok) Try.func60 rfl rfl Try.ntmps60 (by kernel_rfl) rfl rfl (fun _ => rfl) trivial (fun x => .inl ⟨c_s_DrawTreadFor.start () x, fun _ => rfl⟩) (fun x t hb ht => by
  obtain ⟨code0, _⟩ := x
  exact (s_DrawTreadFor_e code0).trans ht)
/-! impl.RunOf -/
noncomputable def c_i_RunOf : FnCx := { env := env 9 [(185, S_i_IsFlight), (186, S_i_Flight_run)] [], body := bodyOf Try.f63, res := [.tmp 2, .tmp 3], ins := [.ro kFlight], out := [(kint, true), (kbool, true)], T := Int × Bool, fin := fun r => (r.1.1, r.1.2.1), inj := fun t => ((t.1, t.2, ()), ((), ())), pts := [], fuel := 400, dr := noDr }
noncomputable def i_RunOf (f0_Risers : Int) (f0_Rise : Int) (f0_Tread : Int) : (Int × Bool) :=
  bif !i_IsFlight f0_Risers f0_Rise f0_Tread then (0, false) else (i_Flight_run f0_Risers f0_Rise f0_Tread, true)
theorem i_RunOf_e (f0_Risers : Int) (f0_Rise : Int) (f0_Tread : Int) : c_i_RunOf.start c_i_RunOf.L ((f0_Risers, f0_Rise, f0_Tread), ()) = some (i_RunOf f0_Risers f0_Rise f0_Tread) := by
  refine Eq.trans (b := (bif !i_IsFlight f0_Risers f0_Rise f0_Tread then some (0, false) else some (i_Flight_run f0_Risers f0_Rise f0_Tread, true) : Option (Int × Bool))) (by kernel_rfl) ?_
  unfold i_RunOf
  repeat (first | rfl | apply condS)
noncomputable def F_i_RunOf : Ins c_i_RunOf.ins → (Int × Bool) := fun x => i_RunOf x.1.1 x.1.2.1 x.1.2.2
noncomputable def S_i_RunOf : FSpec := mkT c_i_RunOf.env.pre c_i_RunOf.ins c_i_RunOf.out c_i_RunOf.inj F_i_RunOf
theorem h_i_RunOf : Cert Try.prog 63 S_i_RunOf := FnCx.certT (c := c_i_RunOf) F_i_RunOf (tyOk _ _ _) (spOk ⟨h_i_IsFlight, fun _ _ _ => trivial, ⟨h_i_Flight_run, fun _ _ _ => trivial, trivial⟩⟩) (fun _ _ _ _ _ hs => noDr_ok) Try.func63 rfl rfl Try.ntmps63 (by kernel_rfl) rfl rfl (fun _ => rfl) trivial (fun x => .inl ⟨c_i_RunOf.start () x, fun _ => rfl⟩) (fun x hb => by
  obtain ⟨⟨f0_Risers, f0_Rise, f0_Tread⟩, _⟩ := x
  exact i_RunOf_e f0_Risers f0_Rise f0_Tread)
/-! impl.gcd -/
noncomputable def c_i_gcd : FnCx := { env := env 12 [] [], body := bodyOf Try.f171, res := [.tmp 4], ins := [.ro kint, .ro kint], out := [(kint, true)], T := Int, fin := fun r => r.1.1, inj := fun t => ((t, ()), ((), (), ())), pts := [([.inLoop [1, 0, 0, 0], .inBlock 0, .code [1, 1]], Shape.mk [] [(0, Ss.one (Cs.sc kint)), (1, Ss.one (Cs.sc kint))] [Ss.one (Cs.any), Ss.one (Cs.any)])], fuel := 400, dr := evDr (env 12 [] []) }
noncomputable def i_gcd_t1 (g1 : Int → Int → Option (Int)) (a0 : Int) (b1 : Int) : Option Int :=
  bif b1 != 0 then bif b1 == 0 then none else g1 b1 (Int.tmod a0 b1) else some a0
noncomputable def i_gcd_t0 (g1 : Int → Int → Option (Int)) (a0 : Int) (b1 : Int) : Option Int :=
  g1 a0 b1
theorem i_gcd_ts : Tails c_i_gcd.pts c_i_gcd.round :=
  ⟨fun s => by
    obtain ⟨_, ⟨a0, b1, _⟩, ⟨_, _, _⟩⟩ := s
    refine Tail.eq (Y := fun g => i_gcd_t1 (fun a0 b1 => g.1 ((), (a0, b1, ()), ((), (), ()))) a0 b1) ?_ (fun g => by kernel_rfl)
    simp only [i_gcd_t1]; repeat (first | exact Tail.const _ | exact Tail.here _ | exact Tail.there (Tail.here _) | exact Tail.there (Tail.there (Tail.here _)) | exact Tail.there (Tail.there (Tail.there (Tail.here _))) | exact Tail.there (Tail.there (Tail.there (Tail.there (Tail.here _)))) | exact Tail.there (Tail.there (Tail.there (Tail.there (Tail.there (Tail.here _))))) | apply Tail.cond | (apply Tail.bind; intro _)), trivial⟩
theorem i_gcd_hs : ∀ x, Tail c_i_gcd.pts (fun g => c_i_gcd.start g x) := fun x => by
    obtain ⟨a0, b1, _⟩ := x
    refine Tail.eq (Y := fun g => i_gcd_t0 (fun a0 b1 => g.1 ((), (a0, b1, ()), ((), (), ()))) a0 b1) ?_ (fun g => by kernel_rfl)
    simp only [i_gcd_t0]; repeat (first | exact Tail.const _ | exact Tail.here _ | exact Tail.there (Tail.here _) | exact Tail.there (Tail.there (Tail.here _)) | exact Tail.there (Tail.there (Tail.there (Tail.here _))) | exact Tail.there (Tail.there (Tail.there (Tail.there (Tail.here _)))) | exact Tail.there (Tail.there (Tail.there (Tail.there (Tail.there (Tail.here _))))) | apply Tail.cond | (apply Tail.bind; intro _))
noncomputable def i_gcd_L1 (a0 : Int) (b1 : Int) : Option Int := c_i_gcd.L.1 ((), (a0, b1, ()), ((), (), ()))
theorem i_gcd_u1 (a0 : Int) (b1 : Int) : i_gcd_L1 a0 b1 = i_gcd_t1 i_gcd_L1 a0 b1 :=
  (congrArg (fun g => g.1 ((), (a0, b1, ()), ((), (), ()))) (FnCx.L_eq i_gcd_ts)).trans (by kernel_rfl)
noncomputable def i_gcd (a0 : Int) (b1 : Int) : Option Int := i_gcd_t0 i_gcd_L1 a0 b1
theorem i_gcd_e (a0 : Int) (b1 : Int) : c_i_gcd.start c_i_gcd.L (a0, b1, ()) = i_gcd a0 b1 := by kernel_rfl
noncomputable def F_i_gcd : Ins c_i_gcd.ins → Option Int := fun x => i_gcd x.1 x.2.1
noncomputable def S_i_gcd : FSpec := mkF c_i_gcd.env.pre c_i_gcd.ins c_i_gcd.out c_i_gcd.inj F_i_gcd
theorem h_i_gcd : Cert Try.prog 171 S_i_gcd := FnCx.certF (c := c_i_gcd) F_i_gcd (tyOk _ _ _) (spOk trivial) (fun _ _ _ _ _ hs => evDr_ok (tyOk _ _ _) hs follows) Try.func171 rfl rfl Try.ntmps171 (by kernel_rfl) rfl rfl (fun _ => rfl) i_gcd_ts i_gcd_hs (fun x t hb ht => by
  obtain ⟨a0, b1, _⟩ := x
  exact (i_gcd_e a0 b1).trans ht)
/-! impl.part -/
noncomputable def c_i_part : FnCx := { env := env 19 [(171, S_i_gcd)] [], body := bodyOf Try.f199, res := [.tmp 4, .tmp 5, .tmp 6], ins := [.ro kint, .ro kint], out := [(kint, true), (kint, true), (kbool, true)], T := Int × Int × Bool, fin := fun r => (r.1.1, r.1.2.1, r.1.2.2.1), inj := fun t => ((t.1, t.2.1, t.2.2, ()), ((), (), ())), pts := [], fuel := 400, dr := evDr (env 19 [(171, S_i_gcd)] []) }
noncomputable def i_part (n0 : Int) (d1 : Int) : Option (Int × Int × Bool) :=
  bif decide (d1 ≤ 0) then some (0, 0, false)
  else
    Option.bind (i_gcd n0 d1) fun r =>
      bif r == 0 then none else bif r == 0 then none else some (IntKind.wrap IntKind.i64 (Int.tdiv n0 r), IntKind.wrap IntKind.i64 (Int.tdiv d1 r), true)
theorem i_part_e (n0 : Int) (d1 : Int) : c_i_part.start c_i_part.L (n0, d1, ()) = i_part n0 d1 := by kernel_rfl
noncomputable def F_i_part : Ins c_i_part.ins → Option (Int × Int × Bool) := fun x => i_part x.1 x.2.1
noncomputable def S_i_part : FSpec := mkF c_i_part.env.pre c_i_part.ins c_i_part.out c_i_part.inj F_i_part
theorem h_i_part : Cert Try.prog 199 S_i_part := FnCx.certF (c := c_i_part) F_i_part (tyOk _ _ _) (spOk ⟨h_i_gcd, fun _ _ _ => trivial, trivial⟩) (fun _ _ _ _ _ hs => evDr_ok (tyOk _ _ _) hs follows) Try.func199 rfl rfl Try.ntmps199 (by kernel_rfl) rfl rfl (fun _ => rfl) trivial (fun x => .inl ⟨c_i_part.start () x, fun _ => rfl⟩) (fun x t hb ht => by
  obtain ⟨n0, d1, _⟩ := x
  exact (i_part_e n0 d1).trans ht)
/-! impl.SlopeOf -/
noncomputable def c_i_SlopeOf : FnCx := { env := env 16 [(185, S_i_IsFlight), (199, S_i_part)] [], body := bodyOf Try.f64, res := [.tmp 2, .tmp 3, .tmp 4], ins := [.ro kFlight], out := [(kint, true), (kint, true), (kbool, true)], T := Int × Int × Bool, fin := fun r => (r.1.1, r.1.2.1, r.1.2.2.1), inj := fun t => ((t.1, t.2.1, t.2.2, ()), ((), ())), pts := [], fuel := 400, dr := noDr }
noncomputable def i_SlopeOf (f0_Risers : Int) (f0_Rise : Int) (f0_Tread : Int) : Option (Int × Int × Bool) :=
  bif !i_IsFlight f0_Risers f0_Rise f0_Tread then some (0, 0, false)
  else Option.bind (i_part f0_Rise f0_Tread) fun r => some (Prod.fst r, Prod.fst (Prod.snd r), Prod.snd (Prod.snd r))
theorem i_SlopeOf_e (f0_Risers : Int) (f0_Rise : Int) (f0_Tread : Int) : c_i_SlopeOf.start c_i_SlopeOf.L ((f0_Risers, f0_Rise, f0_Tread), ()) = i_SlopeOf f0_Risers f0_Rise f0_Tread := by kernel_rfl
noncomputable def F_i_SlopeOf : Ins c_i_SlopeOf.ins → Option (Int × Int × Bool) := fun x => i_SlopeOf x.1.1 x.1.2.1 x.1.2.2
noncomputable def S_i_SlopeOf : FSpec := mkF c_i_SlopeOf.env.pre c_i_SlopeOf.ins c_i_SlopeOf.out c_i_SlopeOf.inj F_i_SlopeOf
theorem h_i_SlopeOf : Cert Try.prog 64 S_i_SlopeOf := FnCx.certF (c := c_i_SlopeOf) F_i_SlopeOf (tyOk _ _ _) (spOk ⟨h_i_IsFlight, fun _ _ _ => trivial, ⟨h_i_part, fun _ _ _ => trivial, trivial⟩⟩) (fun _ _ _ _ _ hs => noDr_ok) Try.func64 rfl rfl Try.ntmps64 (by kernel_rfl) rfl rfl (fun _ => rfl) trivial (fun x => .inl ⟨c_i_SlopeOf.start () x, fun _ => rfl⟩) (fun x t hb ht => by
  obtain ⟨⟨f0_Risers, f0_Rise, f0_Tread⟩, _⟩ := x
  exact (i_SlopeOf_e f0_Risers f0_Rise f0_Tread).trans ht)
/-! laws.FnRisersPlaced -/
noncomputable def c_w_FnRisersPlaced : FnCx := { env := env 638 [(34, S_w_big), (38, S_s_DrawHeightAtRun), (39, S_i_HeightAtRun), (40, S_s_HeightAtRun), (41, S_i_HeightOf), (42, S_s_DrawHeadRoom), (43, S_i_HeadRoom), (44, S_s_HeadRoom), (45, S_s_DrawSplitFlight), (46, S_i_SplitFlight), (47, S_s_SplitFlight), (48, S_s_DrawTimesFlight), (49, S_i_TimesFlight), (50, S_s_TimesFlight), (51, S_s_DrawFewestRisers), (52, S_i_FewestRisers), (53, S_s_FewestRisers), (54, S_s_DrawMostRisers), (55, S_i_MostRisers), (56, S_s_MostRisers), (57, S_s_DrawBestRisers), (58, S_i_BestRisers), (59, S_s_BestRisers), (60, S_s_DrawTreadFor), (61, S_i_TreadFor), (62, S_s_TreadFor), (63, S_i_RunOf), (64, S_i_SlopeOf)] [], body := bodyOf Try.f5, res := [.tmp 4], ins := [.ro kSuint8, .ro kSuint8], out := [(kbool, true)], T := Bool, fin := fun r => r.1.1, inj := fun t => ((t, ()), ((), (), ())), pts := [([.code [1, 1, 1, 1, 1, 1, 1]], Shape.mk [Bs.row kuint8 5 false] [(1, Ss.one (Cs.sl 0))] [Ss.one (Cs.any), Ss.one (Cs.any)]), ([.code [1, 1, 1, 1, 1, 1, 1, 1, 1, 1, 1, 1, 1, 1, 1, 1, 1, 1, 1, 1, 1, 1, 1, 1, 1, 1, 1, 1, 1, 1]], Shape.mk [Bs.box 47 [Cs.sc kint, Cs.sc kint, Cs.sc kint], Bs.box 47 [Cs.sc kint, Cs.sc kint, Cs.sc kint], Bs.box 47 [Cs.sc kint, Cs.sc kint, Cs.sc kint], Bs.box 47 [Cs.sc kint, Cs.sc kint, Cs.sc kint], Bs.box 47 [Cs.sc kint, Cs.sc kint, Cs.sc kint]] [(22, Ss.one (Cs.ptr 0 0)), (23, Ss.one (Cs.sc kint)), (24, Ss.one (Cs.ptr 1 0)), (25, Ss.one (Cs.ptr 2 0)), (26, Ss.one (Cs.sc kbool)), (30, Ss.one (Cs.ptr 3 0)), (31, Ss.one (Cs.sc kint)), (32, Ss.one (Cs.ptr 4 0)), (33, Ss.one (Cs.sc kbool)), (36, Ss.one (Cs.sc kint)), (37, Ss.one (Cs.sc kint)), (38, Ss.one (Cs.sc kint)), (39, Ss.one (Cs.sc kbool)), (42, Ss.one (Cs.sc kint)), (43, Ss.one (Cs.sc kint)), (44, Ss.one (Cs.sc kint)), (45, Ss.one (Cs.sc kbool)), (48, Ss.one (Cs.sc kint)), (49, Ss.one (Cs.sc kint)), (50, Ss.one (Cs.sc kint)), (51, Ss.one (Cs.sc kint)), (52, Ss.one (Cs.sc kbool)), (55, Ss.one (Cs.sc kint)), (56, Ss.one (Cs.sc kint)), (57, Ss.one (Cs.sc kint)), (58, Ss.one (Cs.sc kbool))] [Ss.one (Cs.any), Ss.one (Cs.any)]), ([.code [1, 1, 1, 1, 1, 1, 1, 1, 1, 1, 1, 1, 1, 1, 1, 1, 1, 1, 1, 1, 1, 1, 1, 1, 1, 1, 1, 1, 1, 1, 1]], Shape.mk [Bs.box 47 [Cs.sc kint, Cs.sc kint, Cs.sc kint], Bs.box 47 [Cs.sc kint, Cs.sc kint, Cs.sc kint]] [(30, Ss.one (Cs.ptr 0 0)), (31, Ss.one (Cs.sc kint)), (32, Ss.one (Cs.ptr 1 0)), (33, Ss.one (Cs.sc kbool)), (36, Ss.one (Cs.sc kint)), (37, Ss.one (Cs.sc kint)), (38, Ss.one (Cs.sc kint)), (39, Ss.one (Cs.sc kbool)), (42, Ss.one (Cs.sc kint)), (43, Ss.one (Cs.sc kint)), (44, Ss.one (Cs.sc kint)), (45, Ss.one (Cs.sc kbool)), (48, Ss.one (Cs.sc kint)), (49, Ss.one (Cs.sc kint)), (50, Ss.one (Cs.sc kint)), (51, Ss.one (Cs.sc kint)), (52, Ss.one (Cs.sc kbool)), (55, Ss.one (Cs.sc kint)), (56, Ss.one (Cs.sc kint)), (57, Ss.one (Cs.sc kint)), (58, Ss.one (Cs.sc kbool))] [Ss.one (Cs.any), Ss.one (Cs.any)]), ([.code [1, 1, 1, 1, 1, 1, 1, 1, 1, 1, 1, 1, 1, 1, 1, 1, 1, 1, 1, 1, 1, 1, 1, 1, 1, 1, 1, 1, 1, 1, 1, 1]], Shape.mk [] [(36, Ss.one (Cs.sc kint)), (37, Ss.one (Cs.sc kint)), (38, Ss.one (Cs.sc kint)), (39, Ss.one (Cs.sc kbool)), (42, Ss.one (Cs.sc kint)), (43, Ss.one (Cs.sc kint)), (44, Ss.one (Cs.sc kint)), (45, Ss.one (Cs.sc kbool)), (48, Ss.one (Cs.sc kint)), (49, Ss.one (Cs.sc kint)), (50, Ss.one (Cs.sc kint)), (51, Ss.one (Cs.sc kint)), (52, Ss.one (Cs.sc kbool)), (55, Ss.one (Cs.sc kint)), (56, Ss.one (Cs.sc kint)), (57, Ss.one (Cs.sc kint)), (58, Ss.one (Cs.sc kbool))] [Ss.one (Cs.any), Ss.one (Cs.any)]), ([.code [1, 1, 1, 1, 1, 1, 1, 1, 1, 1, 1, 1, 1, 1, 1, 1, 1, 1, 1, 1, 1, 1, 1, 1, 1, 1, 1, 1, 1, 1, 1, 1, 1]], Shape.mk [] [(42, Ss.one (Cs.sc kint)), (43, Ss.one (Cs.sc kint)), (44, Ss.one (Cs.sc kint)), (45, Ss.one (Cs.sc kbool)), (48, Ss.one (Cs.sc kint)), (49, Ss.one (Cs.sc kint)), (50, Ss.one (Cs.sc kint)), (51, Ss.one (Cs.sc kint)), (52, Ss.one (Cs.sc kbool)), (55, Ss.one (Cs.sc kint)), (56, Ss.one (Cs.sc kint)), (57, Ss.one (Cs.sc kint)), (58, Ss.one (Cs.sc kbool))] [Ss.one (Cs.any), Ss.one (Cs.any)]), ([.code [1, 1, 1, 1, 1, 1, 1, 1, 1, 1, 1, 1, 1, 1, 1, 1, 1, 1, 1, 1, 1, 1, 1, 1, 1, 1, 1, 1, 1, 1, 1, 1, 1, 1]], Shape.mk [] [(48, Ss.one (Cs.sc kint)), (49, Ss.one (Cs.sc kint)), (50, Ss.one (Cs.sc kint)), (51, Ss.one (Cs.sc kint)), (52, Ss.one (Cs.sc kbool)), (55, Ss.one (Cs.sc kint)), (56, Ss.one (Cs.sc kint)), (57, Ss.one (Cs.sc kint)), (58, Ss.one (Cs.sc kbool))] [Ss.one (Cs.any), Ss.one (Cs.any)]), ([.code [1, 1, 1, 1, 1, 1, 1, 1, 1, 1, 1, 1, 1, 1, 1, 1, 1, 1, 1, 1, 1, 1, 1, 1, 1, 1, 1, 1, 1, 1, 1, 1, 1, 1, 1]], Shape.mk [] [(55, Ss.one (Cs.sc kint)), (56, Ss.one (Cs.sc kint)), (57, Ss.one (Cs.sc kint)), (58, Ss.one (Cs.sc kbool))] [Ss.one (Cs.any), Ss.one (Cs.any)]), ([.code [1, 1, 1, 1, 1, 1, 1, 1, 1, 1, 1, 1, 1, 1, 1, 1, 1, 1, 1, 1, 1, 1, 1, 1, 1, 1, 1, 1, 1, 1, 1, 1, 1, 1, 0, 1, 0, 1, 1], .code [1, 1, 1, 1, 1, 1, 1, 1, 1, 1, 1, 1, 1, 1, 1, 1, 1, 1, 1, 1, 1, 1, 1, 1, 1, 1, 1, 1, 1, 1, 1, 1, 1, 1, 1]], Shape.mk [] [(48, Ss.one (Cs.sc kint)), (49, Ss.one (Cs.sc kint)), (50, Ss.one (Cs.sc kint)), (51, Ss.one (Cs.sc kint)), (55, Ss.one (Cs.sc kint)), (56, Ss.one (Cs.sc kint)), (57, Ss.one (Cs.sc kint)), (58, Ss.one (Cs.sc kbool)), (81, Ss.one (Cs.sc kint))] [Ss.one (Cs.any), Ss.one (Cs.any)]), ([.code [1, 1, 1, 1, 1, 1, 1, 1, 1, 1, 1, 1, 1, 1, 1, 1, 1, 1, 1, 1, 1, 1, 1, 1, 1, 1, 1, 1, 1, 1, 1, 1, 1, 1, 0, 1, 0, 1, 1, 1, 1, 0, 0, 1, 0, 0, 1, 1, 1], .inBlock 1, .code [1, 1, 1, 1, 1, 1, 1, 1, 1, 1, 1, 1, 1, 1, 1, 1, 1, 1, 1, 1, 1, 1, 1, 1, 1, 1, 1, 1, 1, 1, 1, 1, 1, 1, 0, 1, 0, 1, 1, 1, 1, 0, 0, 1, 1], .inLoop [1, 1, 1, 1, 1, 1, 1, 1, 1, 1, 1, 1, 1, 1, 1, 1, 1, 1, 1, 1, 1, 1, 1, 1, 1, 1, 1, 1, 1, 1, 1, 1, 1, 1, 0, 1, 0, 1, 1, 1, 1, 0, 0], .inBlock 0, .code [1, 1, 1, 1, 1, 1, 1, 1, 1, 1, 1, 1, 1, 1, 1, 1, 1, 1, 1, 1, 1, 1, 1, 1, 1, 1, 1, 1, 1, 1, 1, 1, 1, 1, 1]], Shape.mk [] [(48, Ss.one (Cs.sc kint)), (49, Ss.one (Cs.sc kint)), (50, Ss.one (Cs.sc kint)), (51, Ss.one (Cs.sc kint)), (55, Ss.one (Cs.sc kint)), (56, Ss.one (Cs.sc kint)), (57, Ss.one (Cs.sc kint)), (58, Ss.one (Cs.sc kbool)), (81, Ss.one (Cs.sc kint)), (82, Ss.one (Cs.sc kint)), (83, Ss.one (Cs.sc kint))] [Ss.one (Cs.any), Ss.one (Cs.any)]), ([.code [1, 1, 1, 1, 1, 1, 1, 1, 1, 1, 1, 1, 1, 1, 1, 1, 1, 1, 1, 1, 1, 1, 1, 1, 1, 1, 1, 1, 1, 1, 1, 1, 1, 1, 1, 1]], Shape.mk [] [] [Ss.one (Cs.any), Ss.one (Cs.any)]), ([.inLoop [1, 1, 1, 1, 1, 1, 1, 1, 1, 1, 1, 1, 1, 1, 1, 1, 1, 1, 1, 1, 1, 1, 1, 1, 1, 1, 1, 1, 1, 1, 1, 1, 1, 1, 0, 1, 0, 1, 1, 1, 1, 0, 0], .inBlock 0, .code [1, 1, 1, 1, 1, 1, 1, 1, 1, 1, 1, 1, 1, 1, 1, 1, 1, 1, 1, 1, 1, 1, 1, 1, 1, 1, 1, 1, 1, 1, 1, 1, 1, 1, 1]], Shape.mk [] [(48, Ss.one (Cs.sc kint)), (49, Ss.one (Cs.sc kint)), (50, Ss.one (Cs.sc kint)), (51, Ss.one (Cs.sc kint)), (55, Ss.one (Cs.sc kint)), (56, Ss.one (Cs.sc kint)), (57, Ss.one (Cs.sc kint)), (58, Ss.one (Cs.sc kbool)), (81, Ss.one (Cs.sc kint)), (82, Ss.one (Cs.sc kint))] [Ss.one (Cs.any), Ss.one (Cs.any)])], fuel := 400, dr := noDr }
noncomputable def w_FnRisersPlaced_t1 (g1 : List (Int) → Option (Bool)) (g2 : Int → Int → Int → Int → Int → Int → Int → Int → Int → Int → Int → Int → Int → Int → Int → Int → Bool → Int → Bool → Int → Int → Int → Bool → Int → Int → Int → Bool → Int → Int → Int → Int → Bool → Int → Int → Int → Bool → Option (Bool)) (g3 : Int → Int → Int → Int → Int → Int → Int → Bool → Int → Int → Int → Bool → Int → Int → Int → Bool → Int → Int → Int → Int → Bool → Int → Int → Int → Bool → Option (Bool)) (g4 : Int → Int → Int → Bool → Int → Int → Int → Bool → Int → Int → Int → Int → Bool → Int → Int → Int → Bool → Option (Bool)) (g5 : Int → Int → Int → Bool → Int → Int → Int → Int → Bool → Int → Int → Int → Bool → Option (Bool)) (g6 : Int → Int → Int → Int → Bool → Int → Int → Int → Bool → Option (Bool)) (g7 : Int → Int → Int → Bool → Option (Bool)) (g8 : Int → Int → Int → Int → Int → Int → Int → Bool → Int → Option (Bool)) (g9 : Int → Int → Int → Int → Int → Int → Int → Bool → Int → Int → Int → Option (Bool)) (g10 : Option (Bool)) (g11 : Int → Int → Int → Int → Int → Int → Int → Bool → Int → Int → Option (Bool)) (r0 : List (Int)) : Option Bool :=
  Option.bind (s_DrawHeadRoom r0) fun r =>
    Option.bind
      (i_HeadRoom (Prod.fst (Prod.fst r)) (Prod.fst (Prod.snd (Prod.fst r))) (Prod.snd (Prod.snd (Prod.fst r))) (Prod.fst (Prod.snd r)) (Prod.snd (Prod.snd r)))
      fun r_1 =>
      Option.bind
        (s_HeadRoom (Prod.fst (Prod.fst r)) (Prod.fst (Prod.snd (Prod.fst r))) (Prod.snd (Prod.snd (Prod.fst r))) (Prod.fst (Prod.snd r)) (Prod.snd (Prod.snd r)))
        fun r_2 =>
        Option.bind (s_DrawSplitFlight r0) fun r_3 =>
          Option.bind (s_DrawTimesFlight r0) fun r_4 =>
            Option.bind (s_DrawFewestRisers r0) fun r_5 =>
              Option.bind (i_FewestRisers (Prod.fst r_5) (Prod.snd r_5)) fun r_6 =>
                Option.bind (s_FewestRisers (Prod.fst r_5) (Prod.snd r_5)) fun r_7 =>
                  Option.bind (s_DrawMostRisers r0) fun r_8 =>
                    Option.bind (i_MostRisers (Prod.fst r_8) (Prod.snd r_8)) fun r_9 =>
                      Option.bind (s_MostRisers (Prod.fst r_8) (Prod.snd r_8)) fun r_10 =>
                        Option.bind (s_DrawBestRisers r0) fun r_11 =>
                          Option.bind (i_BestRisers (Prod.fst r_11) (Prod.fst (Prod.snd r_11)) (Prod.snd (Prod.snd r_11))) fun r_12 =>
                            Option.bind (s_BestRisers (Prod.fst r_11) (Prod.fst (Prod.snd r_11)) (Prod.snd (Prod.snd r_11))) fun r_13 =>
                              Option.bind (s_DrawTreadFor r0) fun r_14 =>
                                bif !Prod.snd r_1 == Prod.snd r_2 then some false
                                else
                                  bif Prod.fst r_1 != Prod.fst r_2 then some false
                                  else
                                    bif
                                        !Prod.snd
                                              (Prod.snd
                                                (i_SplitFlight (Prod.fst (Prod.fst r_3)) (Prod.fst (Prod.snd (Prod.fst r_3))) (Prod.snd (Prod.snd (Prod.fst r_3)))
                                                  (Prod.snd r_3))) ==
                                            Prod.snd
                                              (Prod.snd
                                                (s_SplitFlight (Prod.fst (Prod.fst r_3)) (Prod.fst (Prod.snd (Prod.fst r_3))) (Prod.snd (Prod.snd (Prod.fst r_3)))
                                                  (Prod.snd r_3))) then
                                      some false
                                    else
                                      bif
                                          !(Prod.fst
                                                  (Prod.fst
                                                    (i_SplitFlight (Prod.fst (Prod.fst r_3)) (Prod.fst (Prod.snd (Prod.fst r_3)))
                                                      (Prod.snd (Prod.snd (Prod.fst r_3))) (Prod.snd r_3))) ==
                                                Prod.fst
                                                  (Prod.fst
                                                    (s_SplitFlight (Prod.fst (Prod.fst r_3)) (Prod.fst (Prod.snd (Prod.fst r_3)))
                                                      (Prod.snd (Prod.snd (Prod.fst r_3))) (Prod.snd r_3))) &&
                                              (Prod.fst
                                                    (Prod.snd
                                                      (Prod.fst
                                                        (i_SplitFlight (Prod.fst (Prod.fst r_3)) (Prod.fst (Prod.snd (Prod.fst r_3)))
                                                          (Prod.snd (Prod.snd (Prod.fst r_3))) (Prod.snd r_3)))) ==
                                                  Prod.fst
                                                    (Prod.snd
                                                      (Prod.fst
                                                        (s_SplitFlight (Prod.fst (Prod.fst r_3)) (Prod.fst (Prod.snd (Prod.fst r_3)))
                                                          (Prod.snd (Prod.snd (Prod.fst r_3))) (Prod.snd r_3)))) &&
                                                Prod.snd
                                                    (Prod.snd
                                                      (Prod.fst
                                                        (i_SplitFlight (Prod.fst (Prod.fst r_3)) (Prod.fst (Prod.snd (Prod.fst r_3)))
                                                          (Prod.snd (Prod.snd (Prod.fst r_3))) (Prod.snd r_3)))) ==
                                                  Prod.snd
                                                    (Prod.snd
                                                      (Prod.fst
                                                        (s_SplitFlight (Prod.fst (Prod.fst r_3)) (Prod.fst (Prod.snd (Prod.fst r_3)))
                                                          (Prod.snd (Prod.snd (Prod.fst r_3))) (Prod.snd r_3)))))) then
                                        some false
                                      else
                                        bif
                                            !(Prod.fst
                                                    (Prod.fst
                                                      (Prod.snd
                                                        (i_SplitFlight (Prod.fst (Prod.fst r_3)) (Prod.fst (Prod.snd (Prod.fst r_3)))
                                                          (Prod.snd (Prod.snd (Prod.fst r_3))) (Prod.snd r_3)))) ==
                                                  Prod.fst
                                                    (Prod.fst
                                                      (Prod.snd
                                                        (s_SplitFlight (Prod.fst (Prod.fst r_3)) (Prod.fst (Prod.snd (Prod.fst r_3)))
                                                          (Prod.snd (Prod.snd (Prod.fst r_3))) (Prod.snd r_3)))) &&
                                                (Prod.fst
                                                      (Prod.snd
                                                        (Prod.fst
                                                          (Prod.snd
                                                            (i_SplitFlight (Prod.fst (Prod.fst r_3)) (Prod.fst (Prod.snd (Prod.fst r_3)))
                                                              (Prod.snd (Prod.snd (Prod.fst r_3))) (Prod.snd r_3))))) ==
                                                    Prod.fst
                                                      (Prod.snd
                                                        (Prod.fst
                                                          (Prod.snd
                                                            (s_SplitFlight (Prod.fst (Prod.fst r_3)) (Prod.fst (Prod.snd (Prod.fst r_3)))
                                                              (Prod.snd (Prod.snd (Prod.fst r_3))) (Prod.snd r_3))))) &&
                                                  Prod.snd
                                                      (Prod.snd
                                                        (Prod.fst
                                                          (Prod.snd
                                                            (i_SplitFlight (Prod.fst (Prod.fst r_3)) (Prod.fst (Prod.snd (Prod.fst r_3)))
                                                              (Prod.snd (Prod.snd (Prod.fst r_3))) (Prod.snd r_3))))) ==
                                                    Prod.snd
                                                      (Prod.snd
                                                        (Prod.fst
                                                          (Prod.snd
                                                            (s_SplitFlight (Prod.fst (Prod.fst r_3)) (Prod.fst (Prod.snd (Prod.fst r_3)))
                                                              (Prod.snd (Prod.snd (Prod.fst r_3))) (Prod.snd r_3))))))) then
                                          some false
                                        else
                                          bif
                                              !Prod.snd
                                                    (i_TimesFlight (Prod.fst (Prod.fst r_4)) (Prod.fst (Prod.snd (Prod.fst r_4)))
                                                      (Prod.snd (Prod.snd (Prod.fst r_4))) (Prod.snd r_4)) ==
                                                  Prod.snd
                                                    (s_TimesFlight (Prod.fst (Prod.fst r_4)) (Prod.fst (Prod.snd (Prod.fst r_4)))
                                                      (Prod.snd (Prod.snd (Prod.fst r_4))) (Prod.snd r_4)) then
                                            some false
                                          else
                                            bif
                                                !(Prod.fst
                                                        (Prod.fst
                                                          (i_TimesFlight (Prod.fst (Prod.fst r_4)) (Prod.fst (Prod.snd (Prod.fst r_4)))
                                                            (Prod.snd (Prod.snd (Prod.fst r_4))) (Prod.snd r_4))) ==
                                                      Prod.fst
                                                        (Prod.fst
                                                          (s_TimesFlight (Prod.fst (Prod.fst r_4)) (Prod.fst (Prod.snd (Prod.fst r_4)))
                                                            (Prod.snd (Prod.snd (Prod.fst r_4))) (Prod.snd r_4))) &&
                                                    (Prod.fst
                                                          (Prod.snd
                                                            (Prod.fst
                                                              (i_TimesFlight (Prod.fst (Prod.fst r_4)) (Prod.fst (Prod.snd (Prod.fst r_4)))
                                                                (Prod.snd (Prod.snd (Prod.fst r_4))) (Prod.snd r_4)))) ==
                                                        Prod.fst
                                                          (Prod.snd
                                                            (Prod.fst
                                                              (s_TimesFlight (Prod.fst (Prod.fst r_4)) (Prod.fst (Prod.snd (Prod.fst r_4)))
                                                                (Prod.snd (Prod.snd (Prod.fst r_4))) (Prod.snd r_4)))) &&
                                                      Prod.snd
                                                          (Prod.snd
                                                            (Prod.fst
                                                              (i_TimesFlight (Prod.fst (Prod.fst r_4)) (Prod.fst (Prod.snd (Prod.fst r_4)))
                                                                (Prod.snd (Prod.snd (Prod.fst r_4))) (Prod.snd r_4)))) ==
                                                        Prod.snd
                                                          (Prod.snd
                                                            (Prod.fst
                                                              (s_TimesFlight (Prod.fst (Prod.fst r_4)) (Prod.fst (Prod.snd (Prod.fst r_4)))
                                                                (Prod.snd (Prod.snd (Prod.fst r_4))) (Prod.snd r_4)))))) then
                                              some false
                                            else
                                              bif !Prod.snd r_6 == Prod.snd r_7 then some false
                                              else
                                                bif Prod.fst r_6 != Prod.fst r_7 then some false
                                                else
                                                  bif !Prod.snd r_9 == Prod.snd r_10 then some false
                                                  else
                                                    bif Prod.fst r_9 != Prod.fst r_10 then some false
                                                    else
                                                      bif !Prod.snd r_12 == Prod.snd r_13 then some false
                                                      else
                                                        bif Prod.fst r_12 != Prod.fst r_13 then some false
                                                        else
                                                          bif
                                                              !Prod.snd (i_TreadFor (Prod.fst r_14) (Prod.snd r_14)) ==
                                                                  Prod.snd (s_TreadFor (Prod.fst r_14) (Prod.snd r_14)) then
                                                            some false
                                                          else
                                                            bif
                                                                Prod.fst (i_TreadFor (Prod.fst r_14) (Prod.snd r_14)) !=
                                                                  Prod.fst (s_TreadFor (Prod.fst r_14) (Prod.snd r_14)) then
                                                              some false
                                                            else
                                                              bif Prod.snd r_1 then
                                                                Option.bind
                                                                  (i_HeightAtRun (Prod.fst (Prod.fst r)) (Prod.fst (Prod.snd (Prod.fst r)))
                                                                    (Prod.snd (Prod.snd (Prod.fst r))) (Prod.snd (Prod.snd r)))
                                                                  fun r_15 =>
                                                                  bif !Prod.snd r_15 then some false
                                                                  else
                                                                    bif decide (Prod.fst r_1 < 1) then some false
                                                                    else
                                                                      bif IntKind.wrap IntKind.i64 (Prod.fst r_1 + Prod.fst r_15) != Prod.fst (Prod.snd r) then
                                                                        some false
                                                                      else
                                                                        g2 (Prod.fst (Prod.fst r_3)) (Prod.fst (Prod.snd (Prod.fst r_3)))
                                                                          (Prod.snd (Prod.snd (Prod.fst r_3)))
                                                                          (Prod.fst
                                                                            (Prod.fst
                                                                              (i_SplitFlight (Prod.fst (Prod.fst r_3)) (Prod.fst (Prod.snd (Prod.fst r_3)))
                                                                                (Prod.snd (Prod.snd (Prod.fst r_3))) (Prod.snd r_3))))
                                                                          (Prod.fst
                                                                            (Prod.snd
                                                                              (Prod.fst
                                                                                (i_SplitFlight (Prod.fst (Prod.fst r_3)) (Prod.fst (Prod.snd (Prod.fst r_3)))
                                                                                  (Prod.snd (Prod.snd (Prod.fst r_3))) (Prod.snd r_3)))))
                                                                          (Prod.snd
                                                                            (Prod.snd
                                                                              (Prod.fst
                                                                                (i_SplitFlight (Prod.fst (Prod.fst r_3)) (Prod.fst (Prod.snd (Prod.fst r_3)))
                                                                                  (Prod.snd (Prod.snd (Prod.fst r_3))) (Prod.snd r_3)))))
                                                                          (Prod.fst
                                                                            (Prod.fst
                                                                              (Prod.snd
                                                                                (i_SplitFlight (Prod.fst (Prod.fst r_3)) (Prod.fst (Prod.snd (Prod.fst r_3)))
                                                                                  (Prod.snd (Prod.snd (Prod.fst r_3))) (Prod.snd r_3)))))
                                                                          (Prod.fst
                                                                            (Prod.snd
                                                                              (Prod.fst
                                                                                (Prod.snd
                                                                                  (i_SplitFlight (Prod.fst (Prod.fst r_3)) (Prod.fst (Prod.snd (Prod.fst r_3)))
                                                                                    (Prod.snd (Prod.snd (Prod.fst r_3))) (Prod.snd r_3))))))
                                                                          (Prod.snd
                                                                            (Prod.snd
                                                                              (Prod.fst
                                                                                (Prod.snd
                                                                                  (i_SplitFlight (Prod.fst (Prod.fst r_3)) (Prod.fst (Prod.snd (Prod.fst r_3)))
                                                                                    (Prod.snd (Prod.snd (Prod.fst r_3))) (Prod.snd r_3))))))
                                                                          (Prod.fst (Prod.fst r_4)) (Prod.fst (Prod.snd (Prod.fst r_4)))
                                                                          (Prod.snd (Prod.snd (Prod.fst r_4)))
                                                                          (Prod.fst
                                                                            (Prod.fst
                                                                              (i_TimesFlight (Prod.fst (Prod.fst r_4)) (Prod.fst (Prod.snd (Prod.fst r_4)))
                                                                                (Prod.snd (Prod.snd (Prod.fst r_4))) (Prod.snd r_4))))
                                                                          (Prod.fst
                                                                            (Prod.snd
                                                                              (Prod.fst
                                                                                (i_TimesFlight (Prod.fst (Prod.fst r_4)) (Prod.fst (Prod.snd (Prod.fst r_4)))
                                                                                  (Prod.snd (Prod.snd (Prod.fst r_4))) (Prod.snd r_4)))))
                                                                          (Prod.snd
                                                                            (Prod.snd
                                                                              (Prod.fst
                                                                                (i_TimesFlight (Prod.fst (Prod.fst r_4)) (Prod.fst (Prod.snd (Prod.fst r_4)))
                                                                                  (Prod.snd (Prod.snd (Prod.fst r_4))) (Prod.snd r_4)))))
                                                                          (Prod.snd r_3)
                                                                          (Prod.snd
                                                                            (Prod.snd
                                                                              (i_SplitFlight (Prod.fst (Prod.fst r_3)) (Prod.fst (Prod.snd (Prod.fst r_3)))
                                                                                (Prod.snd (Prod.snd (Prod.fst r_3))) (Prod.snd r_3))))
                                                                          (Prod.snd r_4)
                                                                          (Prod.snd
                                                                            (i_TimesFlight (Prod.fst (Prod.fst r_4)) (Prod.fst (Prod.snd (Prod.fst r_4)))
                                                                              (Prod.snd (Prod.snd (Prod.fst r_4))) (Prod.snd r_4)))
                                                                          (Prod.fst r_5) (Prod.snd r_5) (Prod.fst r_6) (Prod.snd r_6) (Prod.fst r_8)
                                                                          (Prod.snd r_8) (Prod.fst r_9) (Prod.snd r_9) (Prod.fst r_11) (Prod.fst (Prod.snd r_11))
                                                                          (Prod.snd (Prod.snd r_11)) (Prod.fst r_12) (Prod.snd r_12) (Prod.fst r_14)
                                                                          (Prod.snd r_14) (Prod.fst (i_TreadFor (Prod.fst r_14) (Prod.snd r_14)))
                                                                          (Prod.snd (i_TreadFor (Prod.fst r_14) (Prod.snd r_14)))
                                                              else
                                                                g2 (Prod.fst (Prod.fst r_3)) (Prod.fst (Prod.snd (Prod.fst r_3)))
                                                                  (Prod.snd (Prod.snd (Prod.fst r_3)))
                                                                  (Prod.fst
                                                                    (Prod.fst
                                                                      (i_SplitFlight (Prod.fst (Prod.fst r_3)) (Prod.fst (Prod.snd (Prod.fst r_3)))
                                                                        (Prod.snd (Prod.snd (Prod.fst r_3))) (Prod.snd r_3))))
                                                                  (Prod.fst
                                                                    (Prod.snd
                                                                      (Prod.fst
                                                                        (i_SplitFlight (Prod.fst (Prod.fst r_3)) (Prod.fst (Prod.snd (Prod.fst r_3)))
                                                                          (Prod.snd (Prod.snd (Prod.fst r_3))) (Prod.snd r_3)))))
                                                                  (Prod.snd
                                                                    (Prod.snd
                                                                      (Prod.fst
                                                                        (i_SplitFlight (Prod.fst (Prod.fst r_3)) (Prod.fst (Prod.snd (Prod.fst r_3)))
                                                                          (Prod.snd (Prod.snd (Prod.fst r_3))) (Prod.snd r_3)))))
                                                                  (Prod.fst
                                                                    (Prod.fst
                                                                      (Prod.snd
                                                                        (i_SplitFlight (Prod.fst (Prod.fst r_3)) (Prod.fst (Prod.snd (Prod.fst r_3)))
                                                                          (Prod.snd (Prod.snd (Prod.fst r_3))) (Prod.snd r_3)))))
                                                                  (Prod.fst
                                                                    (Prod.snd
                                                                      (Prod.fst
                                                                        (Prod.snd
                                                                          (i_SplitFlight (Prod.fst (Prod.fst r_3)) (Prod.fst (Prod.snd (Prod.fst r_3)))
                                                                            (Prod.snd (Prod.snd (Prod.fst r_3))) (Prod.snd r_3))))))
                                                                  (Prod.snd
                                                                    (Prod.snd
                                                                      (Prod.fst
                                                                        (Prod.snd
                                                                          (i_SplitFlight (Prod.fst (Prod.fst r_3)) (Prod.fst (Prod.snd (Prod.fst r_3)))
                                                                            (Prod.snd (Prod.snd (Prod.fst r_3))) (Prod.snd r_3))))))
                                                                  (Prod.fst (Prod.fst r_4)) (Prod.fst (Prod.snd (Prod.fst r_4)))
                                                                  (Prod.snd (Prod.snd (Prod.fst r_4)))
                                                                  (Prod.fst
                                                                    (Prod.fst
                                                                      (i_TimesFlight (Prod.fst (Prod.fst r_4)) (Prod.fst (Prod.snd (Prod.fst r_4)))
                                                                        (Prod.snd (Prod.snd (Prod.fst r_4))) (Prod.snd r_4))))
                                                                  (Prod.fst
                                                                    (Prod.snd
                                                                      (Prod.fst
                                                                        (i_TimesFlight (Prod.fst (Prod.fst r_4)) (Prod.fst (Prod.snd (Prod.fst r_4)))
                                                                          (Prod.snd (Prod.snd (Prod.fst r_4))) (Prod.snd r_4)))))
                                                                  (Prod.snd
                                                                    (Prod.snd
                                                                      (Prod.fst
                                                                        (i_TimesFlight (Prod.fst (Prod.fst r_4)) (Prod.fst (Prod.snd (Prod.fst r_4)))
                                                                          (Prod.snd (Prod.snd (Prod.fst r_4))) (Prod.snd r_4)))))
                                                                  (Prod.snd r_3)
                                                                  (Prod.snd
                                                                    (Prod.snd
                                                                      (i_SplitFlight (Prod.fst (Prod.fst r_3)) (Prod.fst (Prod.snd (Prod.fst r_3)))
                                                                        (Prod.snd (Prod.snd (Prod.fst r_3))) (Prod.snd r_3))))
                                                                  (Prod.snd r_4)
                                                                  (Prod.snd
                                                                    (i_TimesFlight (Prod.fst (Prod.fst r_4)) (Prod.fst (Prod.snd (Prod.fst r_4)))
                                                                      (Prod.snd (Prod.snd (Prod.fst r_4))) (Prod.snd r_4)))
                                                                  (Prod.fst r_5) (Prod.snd r_5) (Prod.fst r_6) (Prod.snd r_6) (Prod.fst r_8) (Prod.snd r_8)
                                                                  (Prod.fst r_9) (Prod.snd r_9) (Prod.fst r_11) (Prod.fst (Prod.snd r_11))
                                                                  (Prod.snd (Prod.snd r_11)) (Prod.fst r_12) (Prod.snd r_12) (Prod.fst r_14) (Prod.snd r_14)
                                                                  (Prod.fst (i_TreadFor (Prod.fst r_14) (Prod.snd r_14)))
                                                                  (Prod.snd (i_TreadFor (Prod.fst r_14) (Prod.snd r_14)))
noncomputable def w_FnRisersPlaced_t2 (g1 : List (Int) → Option (Bool)) (g2 : Int → Int → Int → Int → Int → Int → Int → Int → Int → Int → Int → Int → Int → Int → Int → Int → Bool → Int → Bool → Int → Int → Int → Bool → Int → Int → Int → Bool → Int → Int → Int → Int → Bool → Int → Int → Int → Bool → Option (Bool)) (g3 : Int → Int → Int → Int → Int → Int → Int → Bool → Int → Int → Int → Bool → Int → Int → Int → Bool → Int → Int → Int → Int → Bool → Int → Int → Int → Bool → Option (Bool)) (g4 : Int → Int → Int → Bool → Int → Int → Int → Bool → Int → Int → Int → Int → Bool → Int → Int → Int → Bool → Option (Bool)) (g5 : Int → Int → Int → Bool → Int → Int → Int → Int → Bool → Int → Int → Int → Bool → Option (Bool)) (g6 : Int → Int → Int → Int → Bool → Int → Int → Int → Bool → Option (Bool)) (g7 : Int → Int → Int → Bool → Option (Bool)) (g8 : Int → Int → Int → Int → Int → Int → Int → Bool → Int → Option (Bool)) (g9 : Int → Int → Int → Int → Int → Int → Int → Bool → Int → Int → Int → Option (Bool)) (g10 : Option (Bool)) (g11 : Int → Int → Int → Int → Int → Int → Int → Bool → Int → Int → Option (Bool)) (b0_0 : Int) (b0_1 : Int) (b0_2 : Int) (b1_0 : Int) (b1_1 : Int) (b1_2 : Int) (b2_0 : Int) (b2_1 : Int) (b2_2 : Int) (b3_0 : Int) (b3_1 : Int) (b3_2 : Int) (b4_0 : Int) (b4_1 : Int) (b4_2 : Int) (landing23 : Int) (three26 : Bool) (by31 : Int) (five33 : Bool) (tall36 : Int) (most37 : Int) (few38 : Int) (seven39 : Bool) (run42 : Int) (tread43 : Int) (many44 : Int) (nine45 : Bool) (x48 : Int) (sum49 : Int) (t50 : Int) (best51 : Int) (eleven52 : Bool) (rise55 : Int) (pace56 : Int) (long57 : Int) (thirteen58 : Bool) : Option Bool :=
  bif three26 then
    bif !Prod.snd (i_HeightOf b1_0 b1_1 b1_2) then some false
    else
      bif !Prod.snd (i_HeightOf b2_0 b2_1 b2_2) then some false
      else
        bif !Prod.snd (i_HeightOf b0_0 b0_1 b0_2) then some false
        else
          bif IntKind.wrap IntKind.i64 (Prod.fst (i_HeightOf b1_0 b1_1 b1_2) + Prod.fst (i_HeightOf b2_0 b2_1 b2_2)) != Prod.fst (i_HeightOf b0_0 b0_1 b0_2) then
            some false
          else
            bif !Prod.snd (i_RunOf b1_0 b1_1 b1_2) then some false
            else
              bif !Prod.snd (i_RunOf b2_0 b2_1 b2_2) then some false
              else
                bif !Prod.snd (i_RunOf b0_0 b0_1 b0_2) then some false
                else
                  bif
                      IntKind.wrap IntKind.i64 (IntKind.wrap IntKind.i64 (Prod.fst (i_RunOf b1_0 b1_1 b1_2) + Prod.fst (i_RunOf b2_0 b2_1 b2_2)) + b0_2) !=
                        Prod.fst (i_RunOf b0_0 b0_1 b0_2) then
                    some false
                  else
                    bif b1_0 != landing23 then some false
                    else
                      g3 b3_0 b3_1 b3_2 b4_0 b4_1 b4_2 by31 five33 tall36 most37 few38 seven39 run42 tread43 many44 nine45 x48 sum49 t50 best51 eleven52 rise55
                        pace56 long57 thirteen58
  else
    g3 b3_0 b3_1 b3_2 b4_0 b4_1 b4_2 by31 five33 tall36 most37 few38 seven39 run42 tread43 many44 nine45 x48 sum49 t50 best51 eleven52 rise55 pace56 long57
      thirteen58
noncomputable def w_FnRisersPlaced_t3 (g1 : List (Int) → Option (Bool)) (g2 : Int → Int → Int → Int → Int → Int → Int → Int → Int → Int → Int → Int → Int → Int → Int → Int → Bool → Int → Bool → Int → Int → Int → Bool → Int → Int → Int → Bool → Int → Int → Int → Int → Bool → Int → Int → Int → Bool → Option (Bool)) (g3 : Int → Int → Int → Int → Int → Int → Int → Bool → Int → Int → Int → Bool → Int → Int → Int → Bool → Int → Int → Int → Int → Bool → Int → Int → Int → Bool → Option (Bool)) (g4 : Int → Int → Int → Bool → Int → Int → Int → Bool → Int → Int → Int → Int → Bool → Int → Int → Int → Bool → Option (Bool)) (g5 : Int → Int → Int → Bool → Int → Int → Int → Int → Bool → Int → Int → Int → Bool → Option (Bool)) (g6 : Int → Int → Int → Int → Bool → Int → Int → Int → Bool → Option (Bool)) (g7 : Int → Int → Int → Bool → Option (Bool)) (g8 : Int → Int → Int → Int → Int → Int → Int → Bool → Int → Option (Bool)) (g9 : Int → Int → Int → Int → Int → Int → Int → Bool → Int → Int → Int → Option (Bool)) (g10 : Option (Bool)) (g11 : Int → Int → Int → Int → Int → Int → Int → Bool → Int → Int → Option (Bool)) (b0_0 : Int) (b0_1 : Int) (b0_2 : Int) (b1_0 : Int) (b1_1 : Int) (b1_2 : Int) (by31 : Int) (five33 : Bool) (tall36 : Int) (most37 : Int) (few38 : Int) (seven39 : Bool) (run42 : Int) (tread43 : Int) (many44 : Int) (nine45 : Bool) (x48 : Int) (sum49 : Int) (t50 : Int) (best51 : Int) (eleven52 : Bool) (rise55 : Int) (pace56 : Int) (long57 : Int) (thirteen58 : Bool) : Option Bool :=
  bif five33 then
    Option.bind (i_SlopeOf b0_0 b0_1 b0_2) fun r =>
      Option.bind (i_SlopeOf b1_0 b1_1 b1_2) fun r_1 =>
        bif !Prod.snd (Prod.snd r) then some false
        else
          bif !Prod.snd (Prod.snd r_1) then some false
          else
            bif Prod.fst r != Prod.fst r_1 then some false
            else
              bif Prod.fst (Prod.snd r) != Prod.fst (Prod.snd r_1) then some false
              else
                bif b1_1 != IntKind.wrap IntKind.i64 (by31 * b0_1) then some false
                else g4 tall36 most37 few38 seven39 run42 tread43 many44 nine45 x48 sum49 t50 best51 eleven52 rise55 pace56 long57 thirteen58
  else g4 tall36 most37 few38 seven39 run42 tread43 many44 nine45 x48 sum49 t50 best51 eleven52 rise55 pace56 long57 thirteen58
noncomputable def w_FnRisersPlaced_t4 (g1 : List (Int) → Option (Bool)) (g2 : Int → Int → Int → Int → Int → Int → Int → Int → Int → Int → Int → Int → Int → Int → Int → Int → Bool → Int → Bool → Int → Int → Int → Bool → Int → Int → Int → Bool → Int → Int → Int → Int → Bool → Int → Int → Int → Bool → Option (Bool)) (g3 : Int → Int → Int → Int → Int → Int → Int → Bool → Int → Int → Int → Bool → Int → Int → Int → Bool → Int → Int → Int → Int → Bool → Int → Int → Int → Bool → Option (Bool)) (g4 : Int → Int → Int → Bool → Int → Int → Int → Bool → Int → Int → Int → Int → Bool → Int → Int → Int → Bool → Option (Bool)) (g5 : Int → Int → Int → Bool → Int → Int → Int → Int → Bool → Int → Int → Int → Bool → Option (Bool)) (g6 : Int → Int → Int → Int → Bool → Int → Int → Int → Bool → Option (Bool)) (g7 : Int → Int → Int → Bool → Option (Bool)) (g8 : Int → Int → Int → Int → Int → Int → Int → Bool → Int → Option (Bool)) (g9 : Int → Int → Int → Int → Int → Int → Int → Bool → Int → Int → Int → Option (Bool)) (g10 : Option (Bool)) (g11 : Int → Int → Int → Int → Int → Int → Int → Bool → Int → Int → Option (Bool)) (tall36 : Int) (most37 : Int) (few38 : Int) (seven39 : Bool) (run42 : Int) (tread43 : Int) (many44 : Int) (nine45 : Bool) (x48 : Int) (sum49 : Int) (t50 : Int) (best51 : Int) (eleven52 : Bool) (rise55 : Int) (pace56 : Int) (long57 : Int) (thirteen58 : Bool) : Option Bool :=
  bif seven39 then
    bif decide (few38 < 1) then some false
    else
      bif decide (IntKind.wrap IntKind.i64 (few38 * most37) < tall36) then some false
      else
        bif decide (IntKind.wrap IntKind.i64 (IntKind.wrap IntKind.i64 (few38 - 1) * most37) ≥ tall36) then some false
        else g5 run42 tread43 many44 nine45 x48 sum49 t50 best51 eleven52 rise55 pace56 long57 thirteen58
  else g5 run42 tread43 many44 nine45 x48 sum49 t50 best51 eleven52 rise55 pace56 long57 thirteen58
noncomputable def w_FnRisersPlaced_t5 (g1 : List (Int) → Option (Bool)) (g2 : Int → Int → Int → Int → Int → Int → Int → Int → Int → Int → Int → Int → Int → Int → Int → Int → Bool → Int → Bool → Int → Int → Int → Bool → Int → Int → Int → Bool → Int → Int → Int → Int → Bool → Int → Int → Int → Bool → Option (Bool)) (g3 : Int → Int → Int → Int → Int → Int → Int → Bool → Int → Int → Int → Bool → Int → Int → Int → Bool → Int → Int → Int → Int → Bool → Int → Int → Int → Bool → Option (Bool)) (g4 : Int → Int → Int → Bool → Int → Int → Int → Bool → Int → Int → Int → Int → Bool → Int → Int → Int → Bool → Option (Bool)) (g5 : Int → Int → Int → Bool → Int → Int → Int → Int → Bool → Int → Int → Int → Bool → Option (Bool)) (g6 : Int → Int → Int → Int → Bool → Int → Int → Int → Bool → Option (Bool)) (g7 : Int → Int → Int → Bool → Option (Bool)) (g8 : Int → Int → Int → Int → Int → Int → Int → Bool → Int → Option (Bool)) (g9 : Int → Int → Int → Int → Int → Int → Int → Bool → Int → Int → Int → Option (Bool)) (g10 : Option (Bool)) (g11 : Int → Int → Int → Int → Int → Int → Int → Bool → Int → Int → Option (Bool)) (run42 : Int) (tread43 : Int) (many44 : Int) (nine45 : Bool) (x48 : Int) (sum49 : Int) (t50 : Int) (best51 : Int) (eleven52 : Bool) (rise55 : Int) (pace56 : Int) (long57 : Int) (thirteen58 : Bool) : Option Bool :=
  bif nine45 then
    bif decide (many44 < 1) then some false
    else
      bif decide (many44 > 100) then some false
      else
        bif decide (IntKind.wrap IntKind.i64 (IntKind.wrap IntKind.i64 (many44 - 1) * tread43) > run42) then some false
        else
          bif decide (many44 < 100) then
            bif decide (IntKind.wrap IntKind.i64 (many44 * tread43) ≤ run42) then some false else g6 x48 sum49 t50 best51 eleven52 rise55 pace56 long57 thirteen58
          else g6 x48 sum49 t50 best51 eleven52 rise55 pace56 long57 thirteen58
  else g6 x48 sum49 t50 best51 eleven52 rise55 pace56 long57 thirteen58
noncomputable def w_FnRisersPlaced_t6 (g1 : List (Int) → Option (Bool)) (g2 : Int → Int → Int → Int → Int → Int → Int → Int → Int → Int → Int → Int → Int → Int → Int → Int → Bool → Int → Bool → Int → Int → Int → Bool → Int → Int → Int → Bool → Int → Int → Int → Int → Bool → Int → Int → Int → Bool → Option (Bool)) (g3 : Int → Int → Int → Int → Int → Int → Int → Bool → Int → Int → Int → Bool → Int → Int → Int → Bool → Int → Int → Int → Int → Bool → Int → Int → Int → Bool → Option (Bool)) (g4 : Int → Int → Int → Bool → Int → Int → Int → Bool → Int → Int → Int → Int → Bool → Int → Int → Int → Bool → Option (Bool)) (g5 : Int → Int → Int → Bool → Int → Int → Int → Int → Bool → Int → Int → Int → Bool → Option (Bool)) (g6 : Int → Int → Int → Int → Bool → Int → Int → Int → Bool → Option (Bool)) (g7 : Int → Int → Int → Bool → Option (Bool)) (g8 : Int → Int → Int → Int → Int → Int → Int → Bool → Int → Option (Bool)) (g9 : Int → Int → Int → Int → Int → Int → Int → Bool → Int → Int → Int → Option (Bool)) (g10 : Option (Bool)) (g11 : Int → Int → Int → Int → Int → Int → Int → Bool → Int → Int → Option (Bool)) (x48 : Int) (sum49 : Int) (t50 : Int) (best51 : Int) (eleven52 : Bool) (rise55 : Int) (pace56 : Int) (long57 : Int) (thirteen58 : Bool) : Option Bool :=
  bif eleven52 then
    bif best51 == 0 then none
    else
      bif
          decide
            (IntKind.wrap IntKind.i64 (IntKind.wrap IntKind.i64 (IntKind.wrap IntKind.i64 (2 * IntKind.wrap IntKind.i64 (Int.tdiv x48 best51)) + t50) - sum49) <
              0) then
        g8 x48 sum49 t50 best51 rise55 pace56 long57 thirteen58
          (IntKind.wrap IntKind.i64
            (0 -
              IntKind.wrap IntKind.i64 (IntKind.wrap IntKind.i64 (IntKind.wrap IntKind.i64 (2 * IntKind.wrap IntKind.i64 (Int.tdiv x48 best51)) + t50) - sum49)))
      else
        g8 x48 sum49 t50 best51 rise55 pace56 long57 thirteen58
          (IntKind.wrap IntKind.i64 (IntKind.wrap IntKind.i64 (IntKind.wrap IntKind.i64 (2 * IntKind.wrap IntKind.i64 (Int.tdiv x48 best51)) + t50) - sum49))
  else g7 rise55 pace56 long57 thirteen58
noncomputable def w_FnRisersPlaced_t7 (g1 : List (Int) → Option (Bool)) (g2 : Int → Int → Int → Int → Int → Int → Int → Int → Int → Int → Int → Int → Int → Int → Int → Int → Bool → Int → Bool → Int → Int → Int → Bool → Int → Int → Int → Bool → Int → Int → Int → Int → Bool → Int → Int → Int → Bool → Option (Bool)) (g3 : Int → Int → Int → Int → Int → Int → Int → Bool → Int → Int → Int → Bool → Int → Int → Int → Bool → Int → Int → Int → Int → Bool → Int → Int → Int → Bool → Option (Bool)) (g4 : Int → Int → Int → Bool → Int → Int → Int → Bool → Int → Int → Int → Int → Bool → Int → Int → Int → Bool → Option (Bool)) (g5 : Int → Int → Int → Bool → Int → Int → Int → Int → Bool → Int → Int → Int → Bool → Option (Bool)) (g6 : Int → Int → Int → Int → Bool → Int → Int → Int → Bool → Option (Bool)) (g7 : Int → Int → Int → Bool → Option (Bool)) (g8 : Int → Int → Int → Int → Int → Int → Int → Bool → Int → Option (Bool)) (g9 : Int → Int → Int → Int → Int → Int → Int → Bool → Int → Int → Int → Option (Bool)) (g10 : Option (Bool)) (g11 : Int → Int → Int → Int → Int → Int → Int → Bool → Int → Int → Option (Bool)) (rise55 : Int) (pace56 : Int) (long57 : Int) (thirteen58 : Bool) : Option Bool :=
  bif thirteen58 then
    bif IntKind.wrap IntKind.i64 (IntKind.wrap IntKind.i64 (2 * rise55) + long57) != pace56 then some false
    else bif decide (long57 < 1) then some false else bif decide (long57 > 500) then some false else g10
  else g10
noncomputable def w_FnRisersPlaced_t8 (g1 : List (Int) → Option (Bool)) (g2 : Int → Int → Int → Int → Int → Int → Int → Int → Int → Int → Int → Int → Int → Int → Int → Int → Bool → Int → Bool → Int → Int → Int → Bool → Int → Int → Int → Bool → Int → Int → Int → Int → Bool → Int → Int → Int → Bool → Option (Bool)) (g3 : Int → Int → Int → Int → Int → Int → Int → Bool → Int → Int → Int → Bool → Int → Int → Int → Bool → Int → Int → Int → Int → Bool → Int → Int → Int → Bool → Option (Bool)) (g4 : Int → Int → Int → Bool → Int → Int → Int → Bool → Int → Int → Int → Int → Bool → Int → Int → Int → Bool → Option (Bool)) (g5 : Int → Int → Int → Bool → Int → Int → Int → Int → Bool → Int → Int → Int → Bool → Option (Bool)) (g6 : Int → Int → Int → Int → Bool → Int → Int → Int → Bool → Option (Bool)) (g7 : Int → Int → Int → Bool → Option (Bool)) (g8 : Int → Int → Int → Int → Int → Int → Int → Bool → Int → Option (Bool)) (g9 : Int → Int → Int → Int → Int → Int → Int → Bool → Int → Int → Int → Option (Bool)) (g10 : Option (Bool)) (g11 : Int → Int → Int → Int → Int → Int → Int → Bool → Int → Int → Option (Bool)) (x48 : Int) (sum49 : Int) (t50 : Int) (best51 : Int) (rise55 : Int) (pace56 : Int) (long57 : Int) (thirteen58 : Bool) (near81 : Int) : Option Bool :=
  bif best51 == 0 then none
  else
    bif Int.tmod x48 best51 != 0 then some false
    else
      bif best51 == 0 then none
      else
        bif decide (IntKind.wrap IntKind.i64 (Int.tdiv x48 best51) > 250) then some false else g11 x48 sum49 t50 best51 rise55 pace56 long57 thirteen58 near81 1
noncomputable def w_FnRisersPlaced_t9 (g1 : List (Int) → Option (Bool)) (g2 : Int → Int → Int → Int → Int → Int → Int → Int → Int → Int → Int → Int → Int → Int → Int → Int → Bool → Int → Bool → Int → Int → Int → Bool → Int → Int → Int → Bool → Int → Int → Int → Int → Bool → Int → Int → Int → Bool → Option (Bool)) (g3 : Int → Int → Int → Int → Int → Int → Int → Bool → Int → Int → Int → Bool → Int → Int → Int → Bool → Int → Int → Int → Int → Bool → Int → Int → Int → Bool → Option (Bool)) (g4 : Int → Int → Int → Bool → Int → Int → Int → Bool → Int → Int → Int → Int → Bool → Int → Int → Int → Bool → Option (Bool)) (g5 : Int → Int → Int → Bool → Int → Int → Int → Int → Bool → Int → Int → Int → Bool → Option (Bool)) (g6 : Int → Int → Int → Int → Bool → Int → Int → Int → Bool → Option (Bool)) (g7 : Int → Int → Int → Bool → Option (Bool)) (g8 : Int → Int → Int → Int → Int → Int → Int → Bool → Int → Option (Bool)) (g9 : Int → Int → Int → Int → Int → Int → Int → Bool → Int → Int → Int → Option (Bool)) (g10 : Option (Bool)) (g11 : Int → Int → Int → Int → Int → Int → Int → Bool → Int → Int → Option (Bool)) (x48 : Int) (sum49 : Int) (t50 : Int) (best51 : Int) (rise55 : Int) (pace56 : Int) (long57 : Int) (thirteen58 : Bool) (near81 : Int) (n82 : Int) (far83 : Int) : Option Bool :=
  bif decide (far83 < near81) then some false
  else
    bif far83 == near81 then
      bif decide (n82 < best51) then some false else g11 x48 sum49 t50 best51 rise55 pace56 long57 thirteen58 near81 (IntKind.wrap IntKind.i64 (n82 + 1))
    else g11 x48 sum49 t50 best51 rise55 pace56 long57 thirteen58 near81 (IntKind.wrap IntKind.i64 (n82 + 1))
noncomputable def w_FnRisersPlaced_t10 (g1 : List (Int) → Option (Bool)) (g2 : Int → Int → Int → Int → Int → Int → Int → Int → Int → Int → Int → Int → Int → Int → Int → Int → Bool → Int → Bool → Int → Int → Int → Bool → Int → Int → Int → Bool → Int → Int → Int → Int → Bool → Int → Int → Int → Bool → Option (Bool)) (g3 : Int → Int → Int → Int → Int → Int → Int → Bool → Int → Int → Int → Bool → Int → Int → Int → Bool → Int → Int → Int → Int → Bool → Int → Int → Int → Bool → Option (Bool)) (g4 : Int → Int → Int → Bool → Int → Int → Int → Bool → Int → Int → Int → Int → Bool → Int → Int → Int → Bool → Option (Bool)) (g5 : Int → Int → Int → Bool → Int → Int → Int → Int → Bool → Int → Int → Int → Bool → Option (Bool)) (g6 : Int → Int → Int → Int → Bool → Int → Int → Int → Bool → Option (Bool)) (g7 : Int → Int → Int → Bool → Option (Bool)) (g8 : Int → Int → Int → Int → Int → Int → Int → Bool → Int → Option (Bool)) (g9 : Int → Int → Int → Int → Int → Int → Int → Bool → Int → Int → Int → Option (Bool)) (g10 : Option (Bool)) (g11 : Int → Int → Int → Int → Int → Int → Int → Bool → Int → Int → Option (Bool))  : Option Bool :=
  some true
noncomputable def w_FnRisersPlaced_t11 (g1 : List (Int) → Option (Bool)) (g2 : Int → Int → Int → Int → Int → Int → Int → Int → Int → Int → Int → Int → Int → Int → Int → Int → Bool → Int → Bool → Int → Int → Int → Bool → Int → Int → Int → Bool → Int → Int → Int → Int → Bool → Int → Int → Int → Bool → Option (Bool)) (g3 : Int → Int → Int → Int → Int → Int → Int → Bool → Int → Int → Int → Bool → Int → Int → Int → Bool → Int → Int → Int → Int → Bool → Int → Int → Int → Bool → Option (Bool)) (g4 : Int → Int → Int → Bool → Int → Int → Int → Bool → Int → Int → Int → Int → Bool → Int → Int → Int → Bool → Option (Bool)) (g5 : Int → Int → Int → Bool → Int → Int → Int → Int → Bool → Int → Int → Int → Bool → Option (Bool)) (g6 : Int → Int → Int → Int → Bool → Int → Int → Int → Bool → Option (Bool)) (g7 : Int → Int → Int → Bool → Option (Bool)) (g8 : Int → Int → Int → Int → Int → Int → Int → Bool → Int → Option (Bool)) (g9 : Int → Int → Int → Int → Int → Int → Int → Bool → Int → Int → Int → Option (Bool)) (g10 : Option (Bool)) (g11 : Int → Int → Int → Int → Int → Int → Int → Bool → Int → Int → Option (Bool)) (x48 : Int) (sum49 : Int) (t50 : Int) (best51 : Int) (rise55 : Int) (pace56 : Int) (long57 : Int) (thirteen58 : Bool) (near81 : Int) (n82 : Int) : Option Bool :=
  bif decide (n82 ≤ 100) then
    bif n82 == 0 then none
    else
      bif Int.tmod x48 n82 != 0 then g11 x48 sum49 t50 best51 rise55 pace56 long57 thirteen58 near81 (IntKind.wrap IntKind.i64 (n82 + 1))
      else
        bif n82 == 0 then none
        else
          bif decide (IntKind.wrap IntKind.i64 (Int.tdiv x48 n82) > 250) then
            g11 x48 sum49 t50 best51 rise55 pace56 long57 thirteen58 near81 (IntKind.wrap IntKind.i64 (n82 + 1))
          else
            bif n82 == 0 then none
            else
              bif
                  decide
                    (IntKind.wrap IntKind.i64
                        (IntKind.wrap IntKind.i64 (IntKind.wrap IntKind.i64 (2 * IntKind.wrap IntKind.i64 (Int.tdiv x48 n82)) + t50) - sum49) <
                      0) then
                g9 x48 sum49 t50 best51 rise55 pace56 long57 thirteen58 near81 n82
                  (IntKind.wrap IntKind.i64
                    (0 -
                      IntKind.wrap IntKind.i64
                        (IntKind.wrap IntKind.i64 (IntKind.wrap IntKind.i64 (2 * IntKind.wrap IntKind.i64 (Int.tdiv x48 n82)) + t50) - sum49)))
              else
                g9 x48 sum49 t50 best51 rise55 pace56 long57 thirteen58 near81 n82
                  (IntKind.wrap IntKind.i64 (IntKind.wrap IntKind.i64 (IntKind.wrap IntKind.i64 (2 * IntKind.wrap IntKind.i64 (Int.tdiv x48 n82)) + t50) - sum49))
  else g7 rise55 pace56 long57 thirteen58
noncomputable def w_FnRisersPlaced_t0 (g1 : List (Int) → Option (Bool)) (g2 : Int → Int → Int → Int → Int → Int → Int → Int → Int → Int → Int → Int → Int → Int → Int → Int → Bool → Int → Bool → Int → Int → Int → Bool → Int → Int → Int → Bool → Int → Int → Int → Int → Bool → Int → Int → Int → Bool → Option (Bool)) (g3 : Int → Int → Int → Int → Int → Int → Int → Bool → Int → Int → Int → Bool → Int → Int → Int → Bool → Int → Int → Int → Int → Bool → Int → Int → Int → Bool → Option (Bool)) (g4 : Int → Int → Int → Bool → Int → Int → Int → Bool → Int → Int → Int → Int → Bool → Int → Int → Int → Bool → Option (Bool)) (g5 : Int → Int → Int → Bool → Int → Int → Int → Int → Bool → Int → Int → Int → Bool → Option (Bool)) (g6 : Int → Int → Int → Int → Bool → Int → Int → Int → Bool → Option (Bool)) (g7 : Int → Int → Int → Bool → Option (Bool)) (g8 : Int → Int → Int → Int → Int → Int → Int → Bool → Int → Option (Bool)) (g9 : Int → Int → Int → Int → Int → Int → Int → Bool → Int → Int → Int → Option (Bool)) (g10 : Option (Bool)) (g11 : Int → Int → Int → Int → Int → Int → Int → Bool → Int → Int → Option (Bool)) (code0 : List Int) (more1 : List Int) : Option Bool :=
  bif w_big code0 more1 then some true
  else
    Option.bind (s_DrawHeightAtRun code0) fun r =>
      Option.bind (i_HeightAtRun (Prod.fst (Prod.fst r)) (Prod.fst (Prod.snd (Prod.fst r))) (Prod.snd (Prod.snd (Prod.fst r))) (Prod.snd r)) fun r_1 =>
        Option.bind (s_HeightAtRun (Prod.fst (Prod.fst r)) (Prod.fst (Prod.snd (Prod.fst r))) (Prod.snd (Prod.snd (Prod.fst r))) (Prod.snd r)) fun r_2 =>
          bif !Prod.snd r_1 == Prod.snd r_2 then some false
          else
            bif Prod.fst r_1 != Prod.fst r_2 then some false
            else
              bif Prod.snd r_1 then
                bif !Prod.snd (i_HeightOf (Prod.fst (Prod.fst r)) (Prod.fst (Prod.snd (Prod.fst r))) (Prod.snd (Prod.snd (Prod.fst r)))) then some false
                else
                  bif decide (Prod.fst r_1 < 0) then some false
                  else
                    bif
                        decide
                          (Prod.fst r_1 >
                            Prod.fst (i_HeightOf (Prod.fst (Prod.fst r)) (Prod.fst (Prod.snd (Prod.fst r))) (Prod.snd (Prod.snd (Prod.fst r))))) then
                      some false
                    else
                      bif Prod.fst (Prod.snd (Prod.fst r)) == 0 then none
                      else
                        bif Int.tmod (Prod.fst r_1) (Prod.fst (Prod.snd (Prod.fst r))) != 0 then some false
                        else
                          bif !decide (Prod.snd r < 0) == (Prod.fst r_1 == 0) then some false
                          else
                            Option.bind
                              (i_HeightAtRun (Prod.fst (Prod.fst r)) (Prod.fst (Prod.snd (Prod.fst r))) (Prod.snd (Prod.snd (Prod.fst r)))
                                (IntKind.wrap IntKind.i64 (Prod.snd r + 1)))
                              fun r_3 =>
                              bif Prod.snd r_3 then
                                bif decide (Prod.fst r_3 < Prod.fst r_1) then some false
                                else
                                  bif decide (Prod.fst r_3 > IntKind.wrap IntKind.i64 (Prod.fst r_1 + Prod.fst (Prod.snd (Prod.fst r)))) then some false
                                  else
                                    bif decide (Prod.fst r_3 > Prod.fst r_1) then
                                      bif Prod.snd (Prod.snd (Prod.fst r)) == 0 then none
                                      else
                                        bif Int.tmod (IntKind.wrap IntKind.i64 (Prod.snd r + 1)) (Prod.snd (Prod.snd (Prod.fst r))) != 0 then some false
                                        else g1 more1
                                    else g1 more1
                              else g1 more1
              else g1 more1
theorem w_FnRisersPlaced_ts : Tails c_w_FnRisersPlaced.pts c_w_FnRisersPlaced.round :=
  ⟨fun s => by
    obtain ⟨⟨r0, _⟩, ⟨_, _⟩, ⟨_, _, _⟩⟩ := s
    refine Tail.eq (Y := fun g => w_FnRisersPlaced_t1 (fun r0 => g.1 ((r0, ()), ((), ()), ((), (), ()))) (fun b0_0 b0_1 b0_2 b1_0 b1_1 b1_2 b2_0 b2_1 b2_2 b3_0 b3_1 b3_2 b4_0 b4_1 b4_2 landing23 three26 by31 five33 tall36 most37 few38 seven39 run42 tread43 many44 nine45 x48 sum49 t50 best51 eleven52 rise55 pace56 long57 thirteen58 => g.2.1 (((b0_0, b0_1, b0_2, ()), (b1_0, b1_1, b1_2, ()), (b2_0, b2_1, b2_2, ()), (b3_0, b3_1, b3_2, ()), (b4_0, b4_1, b4_2, ()), ()), ((), landing23, (), (), three26, (), by31, (), five33, tall36, most37, few38, seven39, run42, tread43, many44, nine45, x48, sum49, t50, best51, eleven52, rise55, pace56, long57, thirteen58, ()), ((), (), ()))) (fun b0_0 b0_1 b0_2 b1_0 b1_1 b1_2 by31 five33 tall36 most37 few38 seven39 run42 tread43 many44 nine45 x48 sum49 t50 best51 eleven52 rise55 pace56 long57 thirteen58 => g.2.2.1 (((b0_0, b0_1, b0_2, ()), (b1_0, b1_1, b1_2, ()), ()), ((), by31, (), five33, tall36, most37, few38, seven39, run42, tread43, many44, nine45, x48, sum49, t50, best51, eleven52, rise55, pace56, long57, thirteen58, ()), ((), (), ()))) (fun tall36 most37 few38 seven39 run42 tread43 many44 nine45 x48 sum49 t50 best51 eleven52 rise55 pace56 long57 thirteen58 => g.2.2.2.1 ((), (tall36, most37, few38, seven39, run42, tread43, many44, nine45, x48, sum49, t50, best51, eleven52, rise55, pace56, long57, thirteen58, ()), ((), (), ()))) (fun run42 tread43 many44 nine45 x48 sum49 t50 best51 eleven52 rise55 pace56 long57 thirteen58 => g.2.2.2.2.1 ((), (run42, tread43, many44, nine45, x48, sum49, t50, best51, eleven52, rise55, pace56, long57, thirteen58, ()), ((), (), ()))) (fun x48 sum49 t50 best51 eleven52 rise55 pace56 long57 thirteen58 => g.2.2.2.2.2.1 ((), (x48, sum49, t50, best51, eleven52, rise55, pace56, long57, thirteen58, ()), ((), (), ()))) (fun rise55 pace56 long57 thirteen58 => g.2.2.2.2.2.2.1 ((), (rise55, pace56, long57, thirteen58, ()), ((), (), ()))) (fun x48 sum49 t50 best51 rise55 pace56 long57 thirteen58 near81 => g.2.2.2.2.2.2.2.1 ((), (x48, sum49, t50, best51, rise55, pace56, long57, thirteen58, near81, ()), ((), (), ()))) (fun x48 sum49 t50 best51 rise55 pace56 long57 thirteen58 near81 n82 far83 => g.2.2.2.2.2.2.2.2.1 ((), (x48, sum49, t50, best51, rise55, pace56, long57, thirteen58, near81, n82, far83, ()), ((), (), ()))) (g.2.2.2.2.2.2.2.2.2.1 ((), (), ((), (), ()))) (fun x48 sum49 t50 best51 rise55 pace56 long57 thirteen58 near81 n82 => g.2.2.2.2.2.2.2.2.2.2.1 ((), (x48, sum49, t50, best51, rise55, pace56, long57, thirteen58, near81, n82, ()), ((), (), ()))) r0) ?_ (fun g => by kernel_rfl)
    simp only [w_FnRisersPlaced_t1]; repeat (first | exact Tail.const _ | exact Tail.here _ | exact Tail.there (Tail.here _) | exact Tail.there (Tail.there (Tail.here _)) | exact Tail.there (Tail.there (Tail.there (Tail.here _))) | exact Tail.there (Tail.there (Tail.there (Tail.there (Tail.here _)))) | exact Tail.there (Tail.there (Tail.there (Tail.there (Tail.there (Tail.here _))))) | exact Tail.there (Tail.there (Tail.there (Tail.there (Tail.there (Tail.there (Tail.here _)))))) | exact Tail.there (Tail.there (Tail.there (Tail.there (Tail.there (Tail.there (Tail.there (Tail.here _))))))) | exact Tail.there (Tail.there (Tail.there (Tail.there (Tail.there (Tail.there (Tail.there (Tail.there (Tail.here _)))))))) | exact Tail.there (Tail.there (Tail.there (Tail.there (Tail.there (Tail.there (Tail.there (Tail.there (Tail.there (Tail.here _))))))))) | exact Tail.there (Tail.there (Tail.there (Tail.there (Tail.there (Tail.there (Tail.there (Tail.there (Tail.there (Tail.there (Tail.here _)))))))))) | apply Tail.cond | (apply Tail.bind; intro _)),
  fun s => by
    obtain ⟨⟨⟨b0_0, b0_1, b0_2, _⟩, ⟨b1_0, b1_1, b1_2, _⟩, ⟨b2_0, b2_1, b2_2, _⟩, ⟨b3_0, b3_1, b3_2, _⟩, ⟨b4_0, b4_1, b4_2, _⟩, _⟩, ⟨_, landing23, _, _, three26, _, by31, _, five33, tall36, most37, few38, seven39, run42, tread43, many44, nine45, x48, sum49, t50, best51, eleven52, rise55, pace56, long57, thirteen58, _⟩, ⟨_, _, _⟩⟩ := s
    refine Tail.eq (Y := fun g => w_FnRisersPlaced_t2 (fun r0 => g.1 ((r0, ()), ((), ()), ((), (), ()))) (fun b0_0 b0_1 b0_2 b1_0 b1_1 b1_2 b2_0 b2_1 b2_2 b3_0 b3_1 b3_2 b4_0 b4_1 b4_2 landing23 three26 by31 five33 tall36 most37 few38 seven39 run42 tread43 many44 nine45 x48 sum49 t50 best51 eleven52 rise55 pace56 long57 thirteen58 => g.2.1 (((b0_0, b0_1, b0_2, ()), (b1_0, b1_1, b1_2, ()), (b2_0, b2_1, b2_2, ()), (b3_0, b3_1, b3_2, ()), (b4_0, b4_1, b4_2, ()), ()), ((), landing23, (), (), three26, (), by31, (), five33, tall36, most37, few38, seven39, run42, tread43, many44, nine45, x48, sum49, t50, best51, eleven52, rise55, pace56, long57, thirteen58, ()), ((), (), ()))) (fun b0_0 b0_1 b0_2 b1_0 b1_1 b1_2 by31 five33 tall36 most37 few38 seven39 run42 tread43 many44 nine45 x48 sum49 t50 best51 eleven52 rise55 pace56 long57 thirteen58 => g.2.2.1 (((b0_0, b0_1, b0_2, ()), (b1_0, b1_1, b1_2, ()), ()), ((), by31, (), five33, tall36, most37, few38, seven39, run42, tread43, many44, nine45, x48, sum49, t50, best51, eleven52, rise55, pace56, long57, thirteen58, ()), ((), (), ()))) (fun tall36 most37 few38 seven39 run42 tread43 many44 nine45 x48 sum49 t50 best51 eleven52 rise55 pace56 long57 thirteen58 => g.2.2.2.1 ((), (tall36, most37, few38, seven39, run42, tread43, many44, nine45, x48, sum49, t50, best51, eleven52, rise55, pace56, long57, thirteen58, ()), ((), (), ()))) (fun run42 tread43 many44 nine45 x48 sum49 t50 best51 eleven52 rise55 pace56 long57 thirteen58 => g.2.2.2.2.1 ((), (run42, tread43, many44, nine45, x48, sum49, t50, best51, eleven52, rise55, pace56, long57, thirteen58, ()), ((), (), ()))) (fun x48 sum49 t50 best51 eleven52 rise55 pace56 long57 thirteen58 => g.2.2.2.2.2.1 ((), (x48, sum49, t50, best51, eleven52, rise55, pace56, long57, thirteen58, ()), ((), (), ()))) (fun rise55 pace56 long57 thirteen58 => g.2.2.2.2.2.2.1 ((), (rise55, pace56, long57, thirteen58, ()), ((), (), ()))) (fun x48 sum49 t50 best51 rise55 pace56 long57 thirteen58 near81 => g.2.2.2.2.2.2.2.1 ((), (x48, sum49, t50, best51, rise55, pace56, long57, thirteen58, near81, ()), ((), (), ()))) (fun x48 sum49 t50 best51 rise55 pace56 long57 thirteen58 near81 n82 far83 => g.2.2.2.2.2.2.2.2.1 ((), (x48, sum49, t50, best51, rise55, pace56, long57, thirteen58, near81, n82, far83, ()), ((), (), ()))) (g.2.2.2.2.2.2.2.2.2.1 ((), (), ((), (), ()))) (fun x48 sum49 t50 best51 rise55 pace56 long57 thirteen58 near81 n82 => g.2.2.2.2.2.2.2.2.2.2.1 ((), (x48, sum49, t50, best51, rise55, pace56, long57, thirteen58, near81, n82, ()), ((), (), ()))) b0_0 b0_1 b0_2 b1_0 b1_1 b1_2 b2_0 b2_1 b2_2 b3_0 b3_1 b3_2 b4_0 b4_1 b4_2 landing23 three26 by31 five33 tall36 most37 few38 seven39 run42 tread43 many44 nine45 x48 sum49 t50 best51 eleven52 rise55 pace56 long57 thirteen58) ?_ (fun g => by kernel_rfl)
    simp only [w_FnRisersPlaced_t2]; repeat (first | exact Tail.const _ | exact Tail.here _ | exact Tail.there (Tail.here _) | exact Tail.there (Tail.there (Tail.here _)) | exact Tail.there (Tail.there (Tail.there (Tail.here _))) | exact Tail.there (Tail.there (Tail.there (Tail.there (Tail.here _)))) | exact Tail.there (Tail.there (Tail.there (Tail.there (Tail.there (Tail.here _))))) | exact Tail.there (Tail.there (Tail.there (Tail.there (Tail.there (Tail.there (Tail.here _)))))) | exact Tail.there (Tail.there (Tail.there (Tail.there (Tail.there (Tail.there (Tail.there (Tail.here _))))))) | exact Tail.there (Tail.there (Tail.there (Tail.there (Tail.there (Tail.there (Tail.there (Tail.there (Tail.here _)))))))) | exact Tail.there (Tail.there (Tail.there (Tail.there (Tail.there (Tail.there (Tail.there (Tail.there (Tail.there (Tail.here _))))))))) | exact Tail.there (Tail.there (Tail.there (Tail.there (Tail.there (Tail.there (Tail.there (Tail.there (Tail.there (Tail.there (Tail.here _)))))))))) | apply Tail.cond | (apply Tail.bind; intro _)),
  fun s => by
    obtain ⟨⟨⟨b0_0, b0_1, b0_2, _⟩, ⟨b1_0, b1_1, b1_2, _⟩, _⟩, ⟨_, by31, _, five33, tall36, most37, few38, seven39, run42, tread43, many44, nine45, x48, sum49, t50, best51, eleven52, rise55, pace56, long57, thirteen58, _⟩, ⟨_, _, _⟩⟩ := s
    refine Tail.eq (Y := fun g => w_FnRisersPlaced_t3 (fun r0 => g.1 ((r0, ()), ((), ()), ((), (), ()))) (fun b0_0 b0_1 b0_2 b1_0 b1_1 b1_2 b2_0 b2_1 b2_2 b3_0 b3_1 b3_2 b4_0 b4_1 b4_2 landing23 three26 by31 five33 tall36 most37 few38 seven39 run42 tread43 many44 nine45 x48 sum49 t50 best51 eleven52 rise55 pace56 long57 thirteen58 => g.2.1 (((b0_0, b0_1, b0_2, ()), (b1_0, b1_1, b1_2, ()), (b2_0, b2_1, b2_2, ()), (b3_0, b3_1, b3_2, ()), (b4_0, b4_1, b4_2, ()), ()), ((), landing23, (), (), three26, (), by31, (), five33, tall36, most37, few38, seven39, run42, tread43, many44, nine45, x48, sum49, t50, best51, eleven52, rise55, pace56, long57, thirteen58, ()), ((), (), ()))) (fun b0_0 b0_1 b0_2 b1_0 b1_1 b1_2 by31 five33 tall36 most37 few38 seven39 run42 tread43 many44 nine45 x48 sum49 t50 best51 eleven52 rise55 pace56 long57 thirteen58 => g.2.2.1 (((b0_0, b0_1, b0_2, ()), (b1_0, b1_1, b1_2, ()), ()), ((), by31, (), five33, tall36, most37, few38, seven39, run42, tread43, many44, nine45, x48, sum49, t50, best51, eleven52, rise55, pace56, long57, thirteen58, ()), ((), (), ()))) (fun tall36 most37 few38 seven39 run42 tread43 many44 nine45 x48 sum49 t50 best51 eleven52 rise55 pace56 long57 thirteen58 => g.2.2.2.1 ((), (tall36, most37, few38, seven39, run42, tread43, many44, nine45, x48, sum49, t50, best51, eleven52, rise55, pace56, long57, thirteen58, ()), ((), (), ()))) (fun run42 tread43 many44 nine45 x48 sum49 t50 best51 eleven52 rise55 pace56 long57 thirteen58 => g.2.2.2.2.1 ((), (run42, tread43, many44, nine45, x48, sum49, t50, best51, eleven52, rise55, pace56, long57, thirteen58, ()), ((), (), ()))) (fun x48 sum49 t50 best51 eleven52 rise55 pace56 long57 thirteen58 => g.2.2.2.2.2.1 ((), (x48, sum49, t50, best51, eleven52, rise55, pace56, long57, thirteen58, ()), ((), (), ()))) (fun rise55 pace56 long57 thirteen58 => g.2.2.2.2.2.2.1 ((), (rise55, pace56, long57, thirteen58, ()), ((), (), ()))) (fun x48 sum49 t50 best51 rise55 pace56 long57 thirteen58 near81 => g.2.2.2.2.2.2.2.1 ((), (x48, sum49, t50, best51, rise55, pace56, long57, thirteen58, near81, ()), ((), (), ()))) (fun x48 sum49 t50 best51 rise55 pace56 long57 thirteen58 near81 n82 far83 => g.2.2.2.2.2.2.2.2.1 ((), (x48, sum49, t50, best51, rise55, pace56, long57, thirteen58, near81, n82, far83, ()), ((), (), ()))) (g.2.2.2.2.2.2.2.2.2.1 ((), (), ((), (), ()))) (fun x48 sum49 t50 best51 rise55 pace56 long57 thirteen58 near81 n82 => g.2.2.2.2.2.2.2.2.2.2.1 ((), (x48, sum49, t50, best51, rise55, pace56, long57, thirteen58, near81, n82, ()), ((), (), ()))) b0_0 b0_1 b0_2 b1_0 b1_1 b1_2 by31 five33 tall36 most37 few38 seven39 run42 tread43 many44 nine45 x48 sum49 t50 best51 eleven52 rise55 pace56 long57 thirteen58) ?_ (fun g => by kernel_rfl)
    simp only [w_FnRisersPlaced_t3]; repeat (first | exact Tail.const _ | exact Tail.here _ | exact Tail.there (Tail.here _) | exact Tail.there (Tail.there (Tail.here _)) | exact Tail.there (Tail.there (Tail.there (Tail.here _))) | exact Tail.there (Tail.there (Tail.there (Tail.there (Tail.here _)))) | exact Tail.there (Tail.there (Tail.there (Tail.there (Tail.there (Tail.here _))))) | exact Tail.there (Tail.there (Tail.there (Tail.there (Tail.there (Tail.there (Tail.here _)))))) | exact Tail.there (Tail.there (Tail.there (Tail.there (Tail.there (Tail.there (Tail.there (Tail.here _))))))) | exact Tail.there (Tail.there (Tail.there (Tail.there (Tail.there (Tail.there (Tail.there (Tail.there (Tail.here _)))))))) | exact Tail.there (Tail.there (Tail.there (Tail.there (Tail.there (Tail.there (Tail.there (Tail.there (Tail.there (Tail.here _))))))))) | exact Tail.there (Tail.there (Tail.there (Tail.there (Tail.there (Tail.there (Tail.there (Tail.there (Tail.there (Tail.there (Tail.here _)))))))))) | apply Tail.cond | (apply Tail.bind; intro _)),
  fun s => by
    obtain ⟨_, ⟨tall36, most37, few38, seven39, run42, tread43, many44, nine45, x48, sum49, t50, best51, eleven52, rise55, pace56, long57, thirteen58, _⟩, ⟨_, _, _⟩⟩ := s
    refine Tail.eq (Y := fun g => w_FnRisersPlaced_t4 (fun r0 => g.1 ((r0, ()), ((), ()), ((), (), ()))) (fun b0_0 b0_1 b0_2 b1_0 b1_1 b1_2 b2_0 b2_1 b2_2 b3_0 b3_1 b3_2 b4_0 b4_1 b4_2 landing23 three26 by31 five33 tall36 most37 few38 seven39 run42 tread43 many44 nine45 x48 sum49 t50 best51 eleven52 rise55 pace56 long57 thirteen58 => g.2.1 (((b0_0, b0_1, b0_2, ()), (b1_0, b1_1, b1_2, ()), (b2_0, b2_1, b2_2, ()), (b3_0, b3_1, b3_2, ()), (b4_0, b4_1, b4_2, ()), ()), ((), landing23, (), (), three26, (), by31, (), five33, tall36, most37, few38, seven39, run42, tread43, many44, nine45, x48, sum49, t50, best51, eleven52, rise55, pace56, long57, thirteen58, ()), ((), (), ()))) (fun b0_0 b0_1 b0_2 b1_0 b1_1 b1_2 by31 five33 tall36 most37 few38 seven39 run42 tread43 many44 nine45 x48 sum49 t50 best51 eleven52 rise55 pace56 long57 thirteen58 => g.2.2.1 (((b0_0, b0_1, b0_2, ()), (b1_0, b1_1, b1_2, ()), ()), ((), by31, (), five33, tall36, most37, few38, seven39, run42, tread43, many44, nine45, x48, sum49, t50, best51, eleven52, rise55, pace56, long57, thirteen58, ()), ((), (), ()))) (fun tall36 most37 few38 seven39 run42 tread43 many44 nine45 x48 sum49 t50 best51 eleven52 rise55 pace56 long57 thirteen58 => g.2.2.2.1 ((), (tall36, most37, few38, seven39, run42, tread43, many44, nine45, x48, sum49, t50, best51, eleven52, rise55, pace56, long57, thirteen58, ()), ((), (), ()))) (fun run42 tread43 many44 nine45 x48 sum49 t50 best51 eleven52 rise55 pace56 long57 thirteen58 => g.2.2.2.2.1 ((), (run42, tread43, many44, nine45, x48, sum49, t50, best51, eleven52, rise55, pace56, long57, thirteen58, ()), ((), (), ()))) (fun x48 sum49 t50 best51 eleven52 rise55 pace56 long57 thirteen58 => g.2.2.2.2.2.1 ((), (x48, sum49, t50, best51, eleven52, rise55, pace56, long57, thirteen58, ()), ((), (), ()))) (fun rise55 pace56 long57 thirteen58 => g.2.2.2.2.2.2.1 ((), (rise55, pace56, long57, thirteen58, ()), ((), (), ()))) (fun x48 sum49 t50 best51 rise55 pace56 long57 thirteen58 near81 => g.2.2.2.2.2.2.2.1 ((), (x48, sum49, t50, best51, rise55, pace56, long57, thirteen58, near81, ()), ((), (), ()))) (fun x48 sum49 t50 best51 rise55 pace56 long57 thirteen58 near81 n82 far83 => g.2.2.2.2.2.2.2.2.1 ((), (x48, sum49, t50, best51, rise55, pace56, long57, thirteen58, near81, n82, far83, ()), ((), (), ()))) (g.2.2.2.2.2.2.2.2.2.1 ((), (), ((), (), ()))) (fun x48 sum49 t50 best51 rise55 pace56 long57 thirteen58 near81 n82 => g.2.2.2.2.2.2.2.2.2.2.1 ((), (x48, sum49, t50, best51, rise55, pace56, long57, thirteen58, near81, n82, ()), ((), (), ()))) tall36 most37 few38 seven39 run42 tread43 many44 nine45 x48 sum49 t50 best51 eleven52 rise55 pace56 long57 thirteen58) ?_ (fun g => by kernel_rfl)
    simp only [w_FnRisersPlaced_t4]; repeat (first | exact Tail.const _ | exact Tail.here _ | exact Tail.there (Tail.here _) | exact Tail.there (Tail.there (Tail.here _)) | exact Tail.there (Tail.there (Tail.there (Tail.here _))) | exact Tail.there (Tail.there (Tail.there (Tail.there (Tail.here _)))) | exact Tail.there (Tail.there (Tail.there (Tail.there (Tail.there (Tail.here _))))) | exact Tail.there (Tail.there (Tail.there (Tail.there (Tail.there (Tail.there (Tail.here _)))))) | exact Tail.there (Tail.there (Tail.there (Tail.there (Tail.there (Tail.there (Tail.there (Tail.here _))))))) | exact Tail.there (Tail.there (Tail.there (Tail.there (Tail.there (Tail.there (Tail.there (Tail.there (Tail.here _)))))))) | exact Tail.there (Tail.there (Tail.there (Tail.there (Tail.there (Tail.there (Tail.there (Tail.there (Tail.there (Tail.here _))))))))) | exact Tail.there (Tail.there (Tail.there (Tail.there (Tail.there (Tail.there (Tail.there (Tail.there (Tail.there (Tail.there (Tail.here _)))))))))) | apply Tail.cond | (apply Tail.bind; intro _)),
  fun s => by
    obtain ⟨_, ⟨run42, tread43, many44, nine45, x48, sum49, t50, best51, eleven52, rise55, pace56, long57, thirteen58, _⟩, ⟨_, _, _⟩⟩ := s
    refine Tail.eq (Y := fun g => w_FnRisersPlaced_t5 (fun r0 => g.1 ((r0, ()), ((), ()), ((), (), ()))) (fun b0_0 b0_1 b0_2 b1_0 b1_1 b1_2 b2_0 b2_1 b2_2 b3_0 b3_1 b3_2 b4_0 b4_1 b4_2 landing23 three26 by31 five33 tall36 most37 few38 seven39 run42 tread43 many44 nine45 x48 sum49 t50 best51 eleven52 rise55 pace56 long57 thirteen58 => g.2.1 (((b0_0, b0_1, b0_2, ()), (b1_0, b1_1, b1_2, ()), (b2_0, b2_1, b2_2, ()), (b3_0, b3_1, b3_2, ()), (b4_0, b4_1, b4_2, ()), ()), ((), landing23, (), (), three26, (), by31, (), five33, tall36, most37, few38, seven39, run42, tread43, many44, nine45, x48, sum49, t50, best51, eleven52, rise55, pace56, long57, thirteen58, ()), ((), (), ()))) (fun b0_0 b0_1 b0_2 b1_0 b1_1 b1_2 by31 five33 tall36 most37 few38 seven39 run42 tread43 many44 nine45 x48 sum49 t50 best51 eleven52 rise55 pace56 long57 thirteen58 => g.2.2.1 (((b0_0, b0_1, b0_2, ()), (b1_0, b1_1, b1_2, ()), ()), ((), by31, (), five33, tall36, most37, few38, seven39, run42, tread43, many44, nine45, x48, sum49, t50, best51, eleven52, rise55, pace56, long57, thirteen58, ()), ((), (), ()))) (fun tall36 most37 few38 seven39 run42 tread43 many44 nine45 x48 sum49 t50 best51 eleven52 rise55 pace56 long57 thirteen58 => g.2.2.2.1 ((), (tall36, most37, few38, seven39, run42, tread43, many44, nine45, x48, sum49, t50, best51, eleven52, rise55, pace56, long57, thirteen58, ()), ((), (), ()))) (fun run42 tread43 many44 nine45 x48 sum49 t50 best51 eleven52 rise55 pace56 long57 thirteen58 => g.2.2.2.2.1 ((), (run42, tread43, many44, nine45, x48, sum49, t50, best51, eleven52, rise55, pace56, long57, thirteen58, ()), ((), (), ()))) (fun x48 sum49 t50 best51 eleven52 rise55 pace56 long57 thirteen58 => g.2.2.2.2.2.1 ((), (x48, sum49, t50, best51, eleven52, rise55, pace56, long57, thirteen58, ()), ((), (), ()))) (fun rise55 pace56 long57 thirteen58 => g.2.2.2.2.2.2.1 ((), (rise55, pace56, long57, thirteen58, ()), ((), (), ()))) (fun x48 sum49 t50 best51 rise55 pace56 long57 thirteen58 near81 => g.2.2.2.2.2.2.2.1 ((), (x48, sum49, t50, best51, rise55, pace56, long57, thirteen58, near81, ()), ((), (), ()))) (fun x48 sum49 t50 best51 rise55 pace56 long57 thirteen58 near81 n82 far83 => g.2.2.2.2.2.2.2.2.1 ((), (x48, sum49, t50, best51, rise55, pace56, long57, thirteen58, near81, n82, far83, ()), ((), (), ()))) (g.2.2.2.2.2.2.2.2.2.1 ((), (), ((), (), ()))) (fun x48 sum49 t50 best51 rise55 pace56 long57 thirteen58 near81 n82 => g.2.2.2.2.2.2.2.2.2.2.1 ((), (x48, sum49, t50, best51, rise55, pace56, long57, thirteen58, near81, n82, ()), ((), (), ()))) run42 tread43 many44 nine45 x48 sum49 t50 best51 eleven52 rise55 pace56 long57 thirteen58) ?_ (fun g => by kernel_rfl)
    simp only [w_FnRisersPlaced_t5]; repeat (first | exact Tail.const _ | exact Tail.here _ | exact Tail.there (Tail.here _) | exact Tail.there (Tail.there (Tail.here _)) | exact Tail.there (Tail.there (Tail.there (Tail.here _))) | exact Tail.there (Tail.there (Tail.there (Tail.there (Tail.here _)))) | exact Tail.there (Tail.there (Tail.there (Tail.there (Tail.there (Tail.here _))))) | exact Tail.there (Tail.there (Tail.there (Tail.there (Tail.there (Tail.there (Tail.here _)))))) | exact Tail.there (Tail.there (Tail.there (Tail.there (Tail.there (Tail.there (Tail.there (Tail.here _))))))) | exact Tail.there (Tail.there (Tail.there (Tail.there (Tail.there (Tail.there (Tail.there (Tail.there (Tail.here _)))))))) | exact Tail.there (Tail.there (Tail.there (Tail.there (Tail.there (Tail.there (Tail.there (Tail.there (Tail.there (Tail.here _))))))))) | exact Tail.there (Tail.there (Tail.there (Tail.there (Tail.there (Tail.there (Tail.there (Tail.there (Tail.there (Tail.there (Tail.here _)))))))))) | apply Tail.cond | (apply Tail.bind; intro _)),
  fun s => by
    obtain ⟨_, ⟨x48, sum49, t50, best51, eleven52, rise55, pace56, long57, thirteen58, _⟩, ⟨_, _, _⟩⟩ := s
    refine Tail.eq (Y := fun g => w_FnRisersPlaced_t6 (fun r0 => g.1 ((r0, ()), ((), ()), ((), (), ()))) (fun b0_0 b0_1 b0_2 b1_0 b1_1 b1_2 b2_0 b2_1 b2_2 b3_0 b3_1 b3_2 b4_0 b4_1 b4_2 landing23 three26 by31 five33 tall36 most37 few38 seven39 run42 tread43 many44 nine45 x48 sum49 t50 best51 eleven52 rise55 pace56 long57 thirteen58 => g.2.1 (((b0_0, b0_1, b0_2, ()), (b1_0, b1_1, b1_2, ()), (b2_0, b2_1, b2_2, ()), (b3_0, b3_1, b3_2, ()), (b4_0, b4_1, b4_2, ()), ()), ((), landing23, (), (), three26, (), by31, (), five33, tall36, most37, few38, seven39, run42, tread43, many44, nine45, x48, sum49, t50, best51, eleven52, rise55, pace56, long57, thirteen58, ()), ((), (), ()))) (fun b0_0 b0_1 b0_2 b1_0 b1_1 b1_2 by31 five33 tall36 most37 few38 seven39 run42 tread43 many44 nine45 x48 sum49 t50 best51 eleven52 rise55 pace56 long57 thirteen58 => g.2.2.1 (((b0_0, b0_1, b0_2, ()), (b1_0, b1_1, b1_2, ()), ()), ((), by31, (), five33, tall36, most37, few38, seven39, run42, tread43, many44, nine45, x48, sum49, t50, best51, eleven52, rise55, pace56, long57, thirteen58, ()), ((), (), ()))) (fun tall36 most37 few38 seven39 run42 tread43 many44 nine45 x48 sum49 t50 best51 eleven52 rise55 pace56 long57 thirteen58 => g.2.2.2.1 ((), (tall36, most37, few38, seven39, run42, tread43, many44, nine45, x48, sum49, t50, best51, eleven52, rise55, pace56, long57, thirteen58, ()), ((), (), ()))) (fun run42 tread43 many44 nine45 x48 sum49 t50 best51 eleven52 rise55 pace56 long57 thirteen58 => g.2.2.2.2.1 ((), (run42, tread43, many44, nine45, x48, sum49, t50, best51, eleven52, rise55, pace56, long57, thirteen58, ()), ((), (), ()))) (fun x48 sum49 t50 best51 eleven52 rise55 pace56 long57 thirteen58 => g.2.2.2.2.2.1 ((), (x48, sum49, t50, best51, eleven52, rise55, pace56, long57, thirteen58, ()), ((), (), ()))) (fun rise55 pace56 long57 thirteen58 => g.2.2.2.2.2.2.1 ((), (rise55, pace56, long57, thirteen58, ()), ((), (), ()))) (fun x48 sum49 t50 best51 rise55 pace56 long57 thirteen58 near81 => g.2.2.2.2.2.2.2.1 ((), (x48, sum49, t50, best51, rise55, pace56, long57, thirteen58, near81, ()), ((), (), ()))) (fun x48 sum49 t50 best51 rise55 pace56 long57 thirteen58 near81 n82 far83 => g.2.2.2.2.2.2.2.2.1 ((), (x48, sum49, t50, best51, rise55, pace56, long57, thirteen58, near81, n82, far83, ()), ((), (), ()))) (g.2.2.2.2.2.2.2.2.2.1 ((), (), ((), (), ()))) (fun x48 sum49 t50 best51 rise55 pace56 long57 thirteen58 near81 n82 => g.2.2.2.2.2.2.2.2.2.2.1 ((), (x48, sum49, t50, best51, rise55, pace56, long57, thirteen58, near81, n82, ()), ((), (), ()))) x48 sum49 t50 best51 eleven52 rise55 pace56 long57 thirteen58) ?_ (fun g => by kernel_rfl)
    simp only [w_FnRisersPlaced_t6]; repeat (first | exact Tail.const _ | exact Tail.here _ | exact Tail.there (Tail.here _) | exact Tail.there (Tail.there (Tail.here _)) | exact Tail.there (Tail.there (Tail.there (Tail.here _))) | exact Tail.there (Tail.there (Tail.there (Tail.there (Tail.here _)))) | exact Tail.there (Tail.there (Tail.there (Tail.there (Tail.there (Tail.here _))))) | exact Tail.there (Tail.there (Tail.there (Tail.there (Tail.there (Tail.there (Tail.here _)))))) | exact Tail.there (Tail.there (Tail.there (Tail.there (Tail.there (Tail.there (Tail.there (Tail.here _))))))) | exact Tail.there (Tail.there (Tail.there (Tail.there (Tail.there (Tail.there (Tail.there (Tail.there (Tail.here _)))))))) | exact Tail.there (Tail.there (Tail.there (Tail.there (Tail.there (Tail.there (Tail.there (Tail.there (Tail.there (Tail.here _))))))))) | exact Tail.there (Tail.there (Tail.there (Tail.there (Tail.there (Tail.there (Tail.there (Tail.there (Tail.there (Tail.there (Tail.here _)))))))))) | apply Tail.cond | (apply Tail.bind; intro _)),
  fun s => by
    obtain ⟨_, ⟨rise55, pace56, long57, thirteen58, _⟩, ⟨_, _, _⟩⟩ := s
    refine Tail.eq (Y := fun g => w_FnRisersPlaced_t7 (fun r0 => g.1 ((r0, ()), ((), ()), ((), (), ()))) (fun b0_0 b0_1 b0_2 b1_0 b1_1 b1_2 b2_0 b2_1 b2_2 b3_0 b3_1 b3_2 b4_0 b4_1 b4_2 landing23 three26 by31 five33 tall36 most37 few38 seven39 run42 tread43 many44 nine45 x48 sum49 t50 best51 eleven52 rise55 pace56 long57 thirteen58 => g.2.1 (((b0_0, b0_1, b0_2, ()), (b1_0, b1_1, b1_2, ()), (b2_0, b2_1, b2_2, ()), (b3_0, b3_1, b3_2, ()), (b4_0, b4_1, b4_2, ()), ()), ((), landing23, (), (), three26, (), by31, (), five33, tall36, most37, few38, seven39, run42, tread43, many44, nine45, x48, sum49, t50, best51, eleven52, rise55, pace56, long57, thirteen58, ()), ((), (), ()))) (fun b0_0 b0_1 b0_2 b1_0 b1_1 b1_2 by31 five33 tall36 most37 few38 seven39 run42 tread43 many44 nine45 x48 sum49 t50 best51 eleven52 rise55 pace56 long57 thirteen58 => g.2.2.1 (((b0_0, b0_1, b0_2, ()), (b1_0, b1_1, b1_2, ()), ()), ((), by31, (), five33, tall36, most37, few38, seven39, run42, tread43, many44, nine45, x48, sum49, t50, best51, eleven52, rise55, pace56, long57, thirteen58, ()), ((), (), ()))) (fun tall36 most37 few38 seven39 run42 tread43 many44 nine45 x48 sum49 t50 best51 eleven52 rise55 pace56 long57 thirteen58 => g.2.2.2.1 ((), (tall36, most37, few38, seven39, run42, tread43, many44, nine45, x48, sum49, t50, best51, eleven52, rise55, pace56, long57, thirteen58, ()), ((), (), ()))) (fun run42 tread43 many44 nine45 x48 sum49 t50 best51 eleven52 rise55 pace56 long57 thirteen58 => g.2.2.2.2.1 ((), (run42, tread43, many44, nine45, x48, sum49, t50, best51, eleven52, rise55, pace56, long57, thirteen58, ()), ((), (), ()))) (fun x48 sum49 t50 best51 eleven52 rise55 pace56 long57 thirteen58 => g.2.2.2.2.2.1 ((), (x48, sum49, t50, best51, eleven52, rise55, pace56, long57, thirteen58, ()), ((), (), ()))) (fun rise55 pace56 long57 thirteen58 => g.2.2.2.2.2.2.1 ((), (rise55, pace56, long57, thirteen58, ()), ((), (), ()))) (fun x48 sum49 t50 best51 rise55 pace56 long57 thirteen58 near81 => g.2.2.2.2.2.2.2.1 ((), (x48, sum49, t50, best51, rise55, pace56, long57, thirteen58, near81, ()), ((), (), ()))) (fun x48 sum49 t50 best51 rise55 pace56 long57 thirteen58 near81 n82 far83 => g.2.2.2.2.2.2.2.2.1 ((), (x48, sum49, t50, best51, rise55, pace56, long57, thirteen58, near81, n82, far83, ()), ((), (), ()))) (g.2.2.2.2.2.2.2.2.2.1 ((), (), ((), (), ()))) (fun x48 sum49 t50 best51 rise55 pace56 long57 thirteen58 near81 n82 => g.2.2.2.2.2.2.2.2.2.2.1 ((), (x48, sum49, t50, best51, rise55, pace56, long57, thirteen58, near81, n82, ()), ((), (), ()))) rise55 pace56 long57 thirteen58) ?_ (fun g => by kernel_rfl)
    simp only [w_FnRisersPlaced_t7]; repeat (first | exact Tail.const _ | exact Tail.here _ | exact Tail.there (Tail.here _) | exact Tail.there (Tail.there (Tail.here _)) | exact Tail.there (Tail.there (Tail.there (Tail.here _))) | exact Tail.there (Tail.there (Tail.there (Tail.there (Tail.here _)))) | exact Tail.there (Tail.there (Tail.there (Tail.there (Tail.there (Tail.here _))))) | exact Tail.there (Tail.there (Tail.there (Tail.there (Tail.there (Tail.there (Tail.here _)))))) | exact Tail.there (Tail.there (Tail.there (Tail.there (Tail.there (Tail.there (Tail.there (Tail.here _))))))) | exact Tail.there (Tail.there (Tail.there (Tail.there (Tail.there (Tail.there (Tail.there (Tail.there (Tail.here _)))))))) | exact Tail.there (Tail.there (Tail.there (Tail.there (Tail.there (Tail.there (Tail.there (Tail.there (Tail.there (Tail.here _))))))))) | exact Tail.there (Tail.there (Tail.there (Tail.there (Tail.there (Tail.there (Tail.there (Tail.there (Tail.there (Tail.there (Tail.here _)))))))))) | apply Tail.cond | (apply Tail.bind; intro _)),
  fun s => by
    obtain ⟨_, ⟨x48, sum49, t50, best51, rise55, pace56, long57, thirteen58, near81, _⟩, ⟨_, _, _⟩⟩ := s
    refine Tail.eq (Y := fun g => w_FnRisersPlaced_t8 (fun r0 => g.1 ((r0, ()), ((), ()), ((), (), ()))) (fun b0_0 b0_1 b0_2 b1_0 b1_1 b1_2 b2_0 b2_1 b2_2 b3_0 b3_1 b3_2 b4_0 b4_1 b4_2 landing23 three26 by31 five33 tall36 most37 few38 seven39 run42 tread43 many44 nine45 x48 sum49 t50 best51 eleven52 rise55 pace56 long57 thirteen58 => g.2.1 (((b0_0, b0_1, b0_2, ()), (b1_0, b1_1, b1_2, ()), (b2_0, b2_1, b2_2, ()), (b3_0, b3_1, b3_2, ()), (b4_0, b4_1, b4_2, ()), ()), ((), landing23, (), (), three26, (), by31, (), five33, tall36, most37, few38, seven39, run42, tread43, many44, nine45, x48, sum49, t50, best51, eleven52, rise55, pace56, long57, thirteen58, ()), ((), (), ()))) (fun b0_0 b0_1 b0_2 b1_0 b1_1 b1_2 by31 five33 tall36 most37 few38 seven39 run42 tread43 many44 nine45 x48 sum49 t50 best51 eleven52 rise55 pace56 long57 thirteen58 => g.2.2.1 (((b0_0, b0_1, b0_2, ()), (b1_0, b1_1, b1_2, ()), ()), ((), by31, (), five33, tall36, most37, few38, seven39, run42, tread43, many44, nine45, x48, sum49, t50, best51, eleven52, rise55, pace56, long57, thirteen58, ()), ((), (), ()))) (fun tall36 most37 few38 seven39 run42 tread43 many44 nine45 x48 sum49 t50 best51 eleven52 rise55 pace56 long57 thirteen58 => g.2.2.2.1 ((), (tall36, most37, few38, seven39, run42, tread43, many44, nine45, x48, sum49, t50, best51, eleven52, rise55, pace56, long57, thirteen58, ()), ((), (), ()))) (fun run42 tread43 many44 nine45 x48 sum49 t50 best51 eleven52 rise55 pace56 long57 thirteen58 => g.2.2.2.2.1 ((), (run42, tread43, many44, nine45, x48, sum49, t50, best51, eleven52, rise55, pace56, long57, thirteen58, ()), ((), (), ()))) (fun x48 sum49 t50 best51 eleven52 rise55 pace56 long57 thirteen58 => g.2.2.2.2.2.1 ((), (x48, sum49, t50, best51, eleven52, rise55, pace56, long57, thirteen58, ()), ((), (), ()))) (fun rise55 pace56 long57 thirteen58 => g.2.2.2.2.2.2.1 ((), (rise55, pace56, long57, thirteen58, ()), ((), (), ()))) (fun x48 sum49 t50 best51 rise55 pace56 long57 thirteen58 near81 => g.2.2.2.2.2.2.2.1 ((), (x48, sum49, t50, best51, rise55, pace56, long57, thirteen58, near81, ()), ((), (), ()))) (fun x48 sum49 t50 best51 rise55 pace56 long57 thirteen58 near81 n82 far83 => g.2.2.2.2.2.2.2.2.1 ((), (x48, sum49, t50, best51, rise55, pace56, long57, thirteen58, near81, n82, far83, ()), ((), (), ()))) (g.2.2.2.2.2.2.2.2.2.1 ((), (), ((), (), ()))) (fun x48 sum49 t50 best51 rise55 pace56 long57 thirteen58 near81 n82 => g.2.2.2.2.2.2.2.2.2.2.1 ((), (x48, sum49, t50, best51, rise55, pace56, long57, thirteen58, near81, n82, ()), ((), (), ()))) x48 sum49 t50 best51 rise55 pace56 long57 thirteen58 near81) ?_ (fun g => by kernel_rfl)
    simp only [w_FnRisersPlaced_t8]; repeat (first | exact Tail.const _ | exact Tail.here _ | exact Tail.there (Tail.here _) | exact Tail.there (Tail.there (Tail.here _)) | exact Tail.there (Tail.there (Tail.there (Tail.here _))) | exact Tail.there (Tail.there (Tail.there (Tail.there (Tail.here _)))) | exact Tail.there (Tail.there (Tail.there (Tail.there (Tail.there (Tail.here _))))) | exact Tail.there (Tail.there (Tail.there (Tail.there (Tail.there (Tail.there (Tail.here _)))))) | exact Tail.there (Tail.there (Tail.there (Tail.there (Tail.there (Tail.there (Tail.there (Tail.here _))))))) | exact Tail.there (Tail.there (Tail.there (Tail.there (Tail.there (Tail.there (Tail.there (Tail.there (Tail.here _)))))))) | exact Tail.there (Tail.there (Tail.there (Tail.there (Tail.there (Tail.there (Tail.there (Tail.there (Tail.there (Tail.here _))))))))) | exact Tail.there (Tail.there (Tail.there (Tail.there (Tail.there (Tail.there (Tail.there (Tail.there (Tail.there (Tail.there (Tail.here _)))))))))) | apply Tail.cond | (apply Tail.bind; intro _)),
  fun s => by
    obtain ⟨_, ⟨x48, sum49, t50, best51, rise55, pace56, long57, thirteen58, near81, n82, far83, _⟩, ⟨_, _, _⟩⟩ := s
    refine Tail.eq (Y := fun g => w_FnRisersPlaced_t9 (fun r0 => g.1 ((r0, ()), ((), ()), ((), (), ()))) (fun b0_0 b0_1 b0_2 b1_0 b1_1 b1_2 b2_0 b2_1 b2_2 b3_0 b3_1 b3_2 b4_0 b4_1 b4_2 landing23 three26 by31 five33 tall36 most37 few38 seven39 run42 tread43 many44 nine45 x48 sum49 t50 best51 eleven52 rise55 pace56 long57 thirteen58 => g.2.1 (((b0_0, b0_1, b0_2, ()), (b1_0, b1_1, b1_2, ()), (b2_0, b2_1, b2_2, ()), (b3_0, b3_1, b3_2, ()), (b4_0, b4_1, b4_2, ()), ()), ((), landing23, (), (), three26, (), by31, (), five33, tall36, most37, few38, seven39, run42, tread43, many44, nine45, x48, sum49, t50, best51, eleven52, rise55, pace56, long57, thirteen58, ()), ((), (), ()))) (fun b0_0 b0_1 b0_2 b1_0 b1_1 b1_2 by31 five33 tall36 most37 few38 seven39 run42 tread43 many44 nine45 x48 sum49 t50 best51 eleven52 rise55 pace56 long57 thirteen58 => g.2.2.1 (((b0_0, b0_1, b0_2, ()), (b1_0, b1_1, b1_2, ()), ()), ((), by31, (), five33, tall36, most37, few38, seven39, run42, tread43, many44, nine45, x48, sum49, t50, best51, eleven52, rise55, pace56, long57, thirteen58, ()), ((), (), ()))) (fun tall36 most37 few38 seven39 run42 tread43 many44 nine45 x48 sum49 t50 best51 eleven52 rise55 pace56 long57 thirteen58 => g.2.2.2.1 ((), (tall36, most37, few38, seven39, run42, tread43, many44, nine45, x48, sum49, t50, best51, eleven52, rise55, pace56, long57, thirteen58, ()), ((), (), ()))) (fun run42 tread43 many44 nine45 x48 sum49 t50 best51 eleven52 rise55 pace56 long57 thirteen58 => g.2.2.2.2.1 ((), (run42, tread43, many44, nine45, x48, sum49, t50, best51, eleven52, rise55, pace56, long57, thirteen58, ()), ((), (), ()))) (fun x48 sum49 t50 best51 eleven52 rise55 pace56 long57 thirteen58 => g.2.2.2.2.2.1 ((), (x48, sum49, t50, best51, eleven52, rise55, pace56, long57, thirteen58, ()), ((), (), ()))) (fun rise55 pace56 long57 thirteen58 => g.2.2.2.2.2.2.1 ((), (rise55, pace56, long57, thirteen58, ()), ((), (), ()))) (fun x48 sum49 t50 best51 rise55 pace56 long57 thirteen58 near81 => g.2.2.2.2.2.2.2.1 ((), (x48, sum49, t50, best51, rise55, pace56, long57, thirteen58, near81, ()), ((), (), ()))) (fun x48 sum49 t50 best51 rise55 pace56 long57 thirteen58 near81 n82 far83 => g.2.2.2.2.2.2.2.2.1 ((), (x48, sum49, t50, best51, rise55, pace56, long57, thirteen58, near81, n82, far83, ()), ((), (), ()))) (g.2.2.2.2.2.2.2.2.2.1 ((), (), ((), (), ()))) (fun x48 sum49 t50 best51 rise55 pace56 long57 thirteen58 near81 n82 => g.2.2.2.2.2.2.2.2.2.2.1 ((), (x48, sum49, t50, best51, rise55, pace56, long57, thirteen58, near81, n82, ()), ((), (), ()))) x48 sum49 t50 best51 rise55 pace56 long57 thirteen58 near81 n82 far83) ?_ (fun g => by kernel_rfl)
    simp only [w_FnRisersPlaced_t9]; repeat (first | exact Tail.const _ | exact Tail.here _ | exact Tail.there (Tail.here _) | exact Tail.there (Tail.there (Tail.here _)) | exact Tail.there (Tail.there (Tail.there (Tail.here _))) | exact Tail.there (Tail.there (Tail.there (Tail.there (Tail.here _)))) | exact Tail.there (Tail.there (Tail.there (Tail.there (Tail.there (Tail.here _))))) | exact Tail.there (Tail.there (Tail.there (Tail.there (Tail.there (Tail.there (Tail.here _)))))) | exact Tail.there (Tail.there (Tail.there (Tail.there (Tail.there (Tail.there (Tail.there (Tail.here _))))))) | exact Tail.there (Tail.there (Tail.there (Tail.there (Tail.there (Tail.there (Tail.there (Tail.there (Tail.here _)))))))) | exact Tail.there (Tail.there (Tail.there (Tail.there (Tail.there (Tail.there (Tail.there (Tail.there (Tail.there (Tail.here _))))))))) | exact Tail.there (Tail.there (Tail.there (Tail.there (Tail.there (Tail.there (Tail.there (Tail.there (Tail.there (Tail.there (Tail.here _)))))))))) | apply Tail.cond | (apply Tail.bind; intro _)),
  fun s => by
    obtain ⟨_, _, ⟨_, _, _⟩⟩ := s
    refine Tail.eq (Y := fun g => w_FnRisersPlaced_t10 (fun r0 => g.1 ((r0, ()), ((), ()), ((), (), ()))) (fun b0_0 b0_1 b0_2 b1_0 b1_1 b1_2 b2_0 b2_1 b2_2 b3_0 b3_1 b3_2 b4_0 b4_1 b4_2 landing23 three26 by31 five33 tall36 most37 few38 seven39 run42 tread43 many44 nine45 x48 sum49 t50 best51 eleven52 rise55 pace56 long57 thirteen58 => g.2.1 (((b0_0, b0_1, b0_2, ()), (b1_0, b1_1, b1_2, ()), (b2_0, b2_1, b2_2, ()), (b3_0, b3_1, b3_2, ()), (b4_0, b4_1, b4_2, ()), ()), ((), landing23, (), (), three26, (), by31, (), five33, tall36, most37, few38, seven39, run42, tread43, many44, nine45, x48, sum49, t50, best51, eleven52, rise55, pace56, long57, thirteen58, ()), ((), (), ()))) (fun b0_0 b0_1 b0_2 b1_0 b1_1 b1_2 by31 five33 tall36 most37 few38 seven39 run42 tread43 many44 nine45 x48 sum49 t50 best51 eleven52 rise55 pace56 long57 thirteen58 => g.2.2.1 (((b0_0, b0_1, b0_2, ()), (b1_0, b1_1, b1_2, ()), ()), ((), by31, (), five33, tall36, most37, few38, seven39, run42, tread43, many44, nine45, x48, sum49, t50, best51, eleven52, rise55, pace56, long57, thirteen58, ()), ((), (), ()))) (fun tall36 most37 few38 seven39 run42 tread43 many44 nine45 x48 sum49 t50 best51 eleven52 rise55 pace56 long57 thirteen58 => g.2.2.2.1 ((), (tall36, most37, few38, seven39, run42, tread43, many44, nine45, x48, sum49, t50, best51, eleven52, rise55, pace56, long57, thirteen58, ()), ((), (), ()))) (fun run42 tread43 many44 nine45 x48 sum49 t50 best51 eleven52 rise55 pace56 long57 thirteen58 => g.2.2.2.2.1 ((), (run42, tread43, many44, nine45, x48, sum49, t50, best51, eleven52, rise55, pace56, long57, thirteen58, ()), ((), (), ()))) (fun x48 sum49 t50 best51 eleven52 rise55 pace56 long57 thirteen58 => g.2.2.2.2.2.1 ((), (x48, sum49, t50, best51, eleven52, rise55, pace56, long57, thirteen58, ()), ((), (), ()))) (fun rise55 pace56 long57 thirteen58 => g.2.2.2.2.2.2.1 ((), (rise55, pace56, long57, thirteen58, ()), ((), (), ()))) (fun x48 sum49 t50 best51 rise55 pace56 long57 thirteen58 near81 => g.2.2.2.2.2.2.2.1 ((), (x48, sum49, t50, best51, rise55, pace56, long57, thirteen58, near81, ()), ((), (), ()))) (fun x48 sum49 t50 best51 rise55 pace56 long57 thirteen58 near81 n82 far83 => g.2.2.2.2.2.2.2.2.1 ((), (x48, sum49, t50, best51, rise55, pace56, long57, thirteen58, near81, n82, far83, ()), ((), (), ()))) (g.2.2.2.2.2.2.2.2.2.1 ((), (), ((), (), ()))) (fun x48 sum49 t50 best51 rise55 pace56 long57 thirteen58 near81 n82 => g.2.2.2.2.2.2.2.2.2.2.1 ((), (x48, sum49, t50, best51, rise55, pace56, long57, thirteen58, near81, n82, ()), ((), (), ()))) ) ?_ (fun g => by kernel_rfl)
    simp only [w_FnRisersPlaced_t10]; repeat (first | exact Tail.const _ | exact Tail.here _ | exact Tail.there (Tail.here _) | exact Tail.there (Tail.there (Tail.here _)) | exact Tail.there (Tail.there (Tail.there (Tail.here _))) | exact Tail.there (Tail.there (Tail.there (Tail.there (Tail.here _)))) | exact Tail.there (Tail.there (Tail.there (Tail.there (Tail.there (Tail.here _))))) | exact Tail.there (Tail.there (Tail.there (Tail.there (Tail.there (Tail.there (Tail.here _)))))) | exact Tail.there (Tail.there (Tail.there (Tail.there (Tail.there (Tail.there (Tail.there (Tail.here _))))))) | exact Tail.there (Tail.there (Tail.there (Tail.there (Tail.there (Tail.there (Tail.there (Tail.there (Tail.here _)))))))) | exact Tail.there (Tail.there (Tail.there (Tail.there (Tail.there (Tail.there (Tail.there (Tail.there (Tail.there (Tail.here _))))))))) | exact Tail.there (Tail.there (Tail.there (Tail.there (Tail.there (Tail.there (Tail.there (Tail.there (Tail.there (Tail.there (Tail.here _)))))))))) | apply Tail.cond | (apply Tail.bind; intro _)),
  fun s => by
    obtain ⟨_, ⟨x48, sum49, t50, best51, rise55, pace56, long57, thirteen58, near81, n82, _⟩, ⟨_, _, _⟩⟩ := s
    refine Tail.eq (Y := fun g => w_FnRisersPlaced_t11 (fun r0 => g.1 ((r0, ()), ((), ()), ((), (), ()))) (fun b0_0 b0_1 b0_2 b1_0 b1_1 b1_2 b2_0 b2_1 b2_2 b3_0 b3_1 b3_2 b4_0 b4_1 b4_2 landing23 three26 by31 five33 tall36 most37 few38 seven39 run42 tread43 many44 nine45 x48 sum49 t50 best51 eleven52 rise55 pace56 long57 thirteen58 => g.2.1 (((b0_0, b0_1, b0_2, ()), (b1_0, b1_1, b1_2, ()), (b2_0, b2_1, b2_2, ()), (b3_0, b3_1, b3_2, ()), (b4_0, b4_1, b4_2, ()), ()), ((), landing23, (), (), three26, (), by31, (), five33, tall36, most37, few38, seven39, run42, tread43, many44, nine45, x48, sum49, t50, best51, eleven52, rise55, pace56, long57, thirteen58, ()), ((), (), ()))) (fun b0_0 b0_1 b0_2 b1_0 b1_1 b1_2 by31 five33 tall36 most37 few38 seven39 run42 tread43 many44 nine45 x48 sum49 t50 best51 eleven52 rise55 pace56 long57 thirteen58 => g.2.2.1 (((b0_0, b0_1, b0_2, ()), (b1_0, b1_1, b1_2, ()), ()), ((), by31, (), five33, tall36, most37, few38, seven39, run42, tread43, many44, nine45, x48, sum49, t50, best51, eleven52, rise55, pace56, long57, thirteen58, ()), ((), (), ()))) (fun tall36 most37 few38 seven39 run42 tread43 many44 nine45 x48 sum49 t50 best51 eleven52 rise55 pace56 long57 thirteen58 => g.2.2.2.1 ((), (tall36, most37, few38, seven39, run42, tread43, many44, nine45, x48, sum49, t50, best51, eleven52, rise55, pace56, long57, thirteen58, ()), ((), (), ()))) (fun run42 tread43 many44 nine45 x48 sum49 t50 best51 eleven52 rise55 pace56 long57 thirteen58 => g.2.2.2.2.1 ((), (run42, tread43, many44, nine45, x48, sum49, t50, best51, eleven52, rise55, pace56, long57, thirteen58, ()), ((), (), ()))) (fun x48 sum49 t50 best51 eleven52 rise55 pace56 long57 thirteen58 => g.2.2.2.2.2.1 ((), (x48, sum49, t50, best51, eleven52, rise55, pace56, long57, thirteen58, ()), ((), (), ()))) (fun rise55 pace56 long57 thirteen58 => g.2.2.2.2.2.2.1 ((), (rise55, pace56, long57, thirteen58, ()), ((), (), ()))) (fun x48 sum49 t50 best51 rise55 pace56 long57 thirteen58 near81 => g.2.2.2.2.2.2.2.1 ((), (x48, sum49, t50, best51, rise55, pace56, long57, thirteen58, near81, ()), ((), (), ()))) (fun x48 sum49 t50 best51 rise55 pace56 long57 thirteen58 near81 n82 far83 => g.2.2.2.2.2.2.2.2.1 ((), (x48, sum49, t50, best51, rise55, pace56, long57, thirteen58, near81, n82, far83, ()), ((), (), ()))) (g.2.2.2.2.2.2.2.2.2.1 ((), (), ((), (), ()))) (fun x48 sum49 t50 best51 rise55 pace56 long57 thirteen58 near81 n82 => g.2.2.2.2.2.2.2.2.2.2.1 ((), (x48, sum49, t50, best51, rise55, pace56, long57, thirteen58, near81, n82, ()), ((), (), ()))) x48 sum49 t50 best51 rise55 pace56 long57 thirteen58 near81 n82) ?_ (fun g => by kernel_rfl)
    simp only [w_FnRisersPlaced_t11]; repeat (first | exact Tail.const _ | exact Tail.here _ | exact Tail.there (Tail.here _) | exact Tail.there (Tail.there (Tail.here _)) | exact Tail.there (Tail.there (Tail.there (Tail.here _))) | exact Tail.there (Tail.there (Tail.there (Tail.there (Tail.here _)))) | exact Tail.there (Tail.there (Tail.there (Tail.there (Tail.there (Tail.here _))))) | exact Tail.there (Tail.there (Tail.there (Tail.there (Tail.there (Tail.there (Tail.here _)))))) | exact Tail.there (Tail.there (Tail.there (Tail.there (Tail.there (Tail.there (Tail.there (Tail.here _))))))) | exact Tail.there (Tail.there (Tail.there (Tail.there (Tail.there (Tail.there (Tail.there (Tail.there (Tail.here _)))))))) | exact Tail.there (Tail.there (Tail.there (Tail.there (Tail.there (Tail.there (Tail.there (Tail.there (Tail.there (Tail.here _))))))))) | exact Tail.there (Tail.there (Tail.there (Tail.there (Tail.there (Tail.there (Tail.there (Tail.there (Tail.there (Tail.there (Tail.here _)))))))))) | apply Tail.cond | (apply Tail.bind; intro _)), trivial⟩
theorem w_FnRisersPlaced_hs : ∀ x, Tail c_w_FnRisersPlaced.pts (fun g => c_w_FnRisersPlaced.start g x) := fun x => by
    obtain ⟨code0, more1, _⟩ := x
    refine Tail.eq (Y := fun g => w_FnRisersPlaced_t0 (fun r0 => g.1 ((r0, ()), ((), ()), ((), (), ()))) (fun b0_0 b0_1 b0_2 b1_0 b1_1 b1_2 b2_0 b2_1 b2_2 b3_0 b3_1 b3_2 b4_0 b4_1 b4_2 landing23 three26 by31 five33 tall36 most37 few38 seven39 run42 tread43 many44 nine45 x48 sum49 t50 best51 eleven52 rise55 pace56 long57 thirteen58 => g.2.1 (((b0_0, b0_1, b0_2, ()), (b1_0, b1_1, b1_2, ()), (b2_0, b2_1, b2_2, ()), (b3_0, b3_1, b3_2, ()), (b4_0, b4_1, b4_2, ()), ()), ((), landing23, (), (), three26, (), by31, (), five33, tall36, most37, few38, seven39, run42, tread43, many44, nine45, x48, sum49, t50, best51, eleven52, rise55, pace56, long57, thirteen58, ()), ((), (), ()))) (fun b0_0 b0_1 b0_2 b1_0 b1_1 b1_2 by31 five33 tall36 most37 few38 seven39 run42 tread43 many44 nine45 x48 sum49 t50 best51 eleven52 rise55 pace56 long57 thirteen58 => g.2.2.1 (((b0_0, b0_1, b0_2, ()), (b1_0, b1_1, b1_2, ()), ()), ((), by31, (), five33, tall36, most37, few38, seven39, run42, tread43, many44, nine45, x48, sum49, t50, best51, eleven52, rise55, pace56, long57, thirteen58, ()), ((), (), ()))) (fun tall36 most37 few38 seven39 run42 tread43 many44 nine45 x48 sum49 t50 best51 eleven52 rise55 pace56 long57 thirteen58 => g.2.2.2.1 ((), (tall36, most37, few38, seven39, run42, tread43, many44, nine45, x48, sum49, t50, best51, eleven52, rise55, pace56, long57, thirteen58, ()), ((), (), ()))) (fun run42 tread43 many44 nine45 x48 sum49 t50 best51 eleven52 rise55 pace56 long57 thirteen58 => g.2.2.2.2.1 ((), (run42, tread43, many44, nine45, x48, sum49, t50, best51, eleven52, rise55, pace56, long57, thirteen58, ()), ((), (), ()))) (fun x48 sum49 t50 best51 eleven52 rise55 pace56 long57 thirteen58 => g.2.2.2.2.2.1 ((), (x48, sum49, t50, best51, eleven52, rise55, pace56, long57, thirteen58, ()), ((), (), ()))) (fun rise55 pace56 long57 thirteen58 => g.2.2.2.2.2.2.1 ((), (rise55, pace56, long57, thirteen58, ()), ((), (), ()))) (fun x48 sum49 t50 best51 rise55 pace56 long57 thirteen58 near81 => g.2.2.2.2.2.2.2.1 ((), (x48, sum49, t50, best51, rise55, pace56, long57, thirteen58, near81, ()), ((), (), ()))) (fun x48 sum49 t50 best51 rise55 pace56 long57 thirteen58 near81 n82 far83 => g.2.2.2.2.2.2.2.2.1 ((), (x48, sum49, t50, best51, rise55, pace56, long57, thirteen58, near81, n82, far83, ()), ((), (), ()))) (g.2.2.2.2.2.2.2.2.2.1 ((), (), ((), (), ()))) (fun x48 sum49 t50 best51 rise55 pace56 long57 thirteen58 near81 n82 => g.2.2.2.2.2.2.2.2.2.2.1 ((), (x48, sum49, t50, best51, rise55, pace56, long57, thirteen58, near81, n82, ()), ((), (), ()))) code0 more1) ?_ (fun g => by kernel_rfl)
    simp only [w_FnRisersPlaced_t0]; repeat (first | exact Tail.const _ | exact Tail.here _ | exact Tail.there (Tail.here _) | exact Tail.there (Tail.there (Tail.here _)) | exact Tail.there (Tail.there (Tail.there (Tail.here _))) | exact Tail.there (Tail.there (Tail.there (Tail.there (Tail.here _)))) | exact Tail.there (Tail.there (Tail.there (Tail.there (Tail.there (Tail.here _))))) | exact Tail.there (Tail.there (Tail.there (Tail.there (Tail.there (Tail.there (Tail.here _)))))) | exact Tail.there (Tail.there (Tail.there (Tail.there (Tail.there (Tail.there (Tail.there (Tail.here _))))))) | exact Tail.there (Tail.there (Tail.there (Tail.there (Tail.there (Tail.there (Tail.there (Tail.there (Tail.here _)))))))) | exact Tail.there (Tail.there (Tail.there (Tail.there (Tail.there (Tail.there (Tail.there (Tail.there (Tail.there (Tail.here _))))))))) | exact Tail.there (Tail.there (Tail.there (Tail.there (Tail.there (Tail.there (Tail.there (Tail.there (Tail.there (Tail.there (Tail.here _)))))))))) | apply Tail.cond | (apply Tail.bind; intro _))
noncomputable def w_FnRisersPlaced_L1 (r0 : List (Int)) : Option Bool := c_w_FnRisersPlaced.L.1 ((r0, ()), ((), ()), ((), (), ()))
noncomputable def w_FnRisersPlaced_L2 (b0_0 : Int) (b0_1 : Int) (b0_2 : Int) (b1_0 : Int) (b1_1 : Int) (b1_2 : Int) (b2_0 : Int) (b2_1 : Int) (b2_2 : Int) (b3_0 : Int) (b3_1 : Int) (b3_2 : Int) (b4_0 : Int) (b4_1 : Int) (b4_2 : Int) (landing23 : Int) (three26 : Bool) (by31 : Int) (five33 : Bool) (tall36 : Int) (most37 : Int) (few38 : Int) (seven39 : Bool) (run42 : Int) (tread43 : Int) (many44 : Int) (nine45 : Bool) (x48 : Int) (sum49 : Int) (t50 : Int) (best51 : Int) (eleven52 : Bool) (rise55 : Int) (pace56 : Int) (long57 : Int) (thirteen58 : Bool) : Option Bool := c_w_FnRisersPlaced.L.2.1 (((b0_0, b0_1, b0_2, ()), (b1_0, b1_1, b1_2, ()), (b2_0, b2_1, b2_2, ()), (b3_0, b3_1, b3_2, ()), (b4_0, b4_1, b4_2, ()), ()), ((), landing23, (), (), three26, (), by31, (), five33, tall36, most37, few38, seven39, run42, tread43, many44, nine45, x48, sum49, t50, best51, eleven52, rise55, pace56, long57, thirteen58, ()), ((), (), ()))
noncomputable def w_FnRisersPlaced_L3 (b0_0 : Int) (b0_1 : Int) (b0_2 : Int) (b1_0 : Int) (b1_1 : Int) (b1_2 : Int) (by31 : Int) (five33 : Bool) (tall36 : Int) (most37 : Int) (few38 : Int) (seven39 : Bool) (run42 : Int) (tread43 : Int) (many44 : Int) (nine45 : Bool) (x48 : Int) (sum49 : Int) (t50 : Int) (best51 : Int) (eleven52 : Bool) (rise55 : Int) (pace56 : Int) (long57 : Int) (thirteen58 : Bool) : Option Bool := c_w_FnRisersPlaced.L.2.2.1 (((b0_0, b0_1, b0_2, ()), (b1_0, b1_1, b1_2, ()), ()), ((), by31, (), five33, tall36, most37, few38, seven39, run42, tread43, many44, nine45, x48, sum49, t50, best51, eleven52, rise55, pace56, long57, thirteen58, ()), ((), (), ()))
noncomputable def w_FnRisersPlaced_L4 (tall36 : Int) (most37 : Int) (few38 : Int) (seven39 : Bool) (run42 : Int) (tread43 : Int) (many44 : Int) (nine45 : Bool) (x48 : Int) (sum49 : Int) (t50 : Int) (best51 : Int) (eleven52 : Bool) (rise55 : Int) (pace56 : Int) (long57 : Int) (thirteen58 : Bool) : Option Bool := c_w_FnRisersPlaced.L.2.2.2.1 ((), (tall36, most37, few38, seven39, run42, tread43, many44, nine45, x48, sum49, t50, best51, eleven52, rise55, pace56, long57, thirteen58, ()), ((), (), ()))
noncomputable def w_FnRisersPlaced_L5 (run42 : Int) (tread43 : Int) (many44 : Int) (nine45 : Bool) (x48 : Int) (sum49 : Int) (t50 : Int) (best51 : Int) (eleven52 : Bool) (rise55 : Int) (pace56 : Int) (long57 : Int) (thirteen58 : Bool) : Option Bool := c_w_FnRisersPlaced.L.2.2.2.2.1 ((), (run42, tread43, many44, nine45, x48, sum49, t50, best51, eleven52, rise55, pace56, long57, thirteen58, ()), ((), (), ()))
noncomputable def w_FnRisersPlaced_L6 (x48 : Int) (sum49 : Int) (t50 : Int) (best51 : Int) (eleven52 : Bool) (rise55 : Int) (pace56 : Int) (long57 : Int) (thirteen58 : Bool) : Option Bool := c_w_FnRisersPlaced.L.2.2.2.2.2.1 ((), (x48, sum49, t50, best51, eleven52, rise55, pace56, long57, thirteen58, ()), ((), (), ()))
noncomputable def w_FnRisersPlaced_L7 (rise55 : Int) (pace56 : Int) (long57 : Int) (thirteen58 : Bool) : Option Bool := c_w_FnRisersPlaced.L.2.2.2.2.2.2.1 ((), (rise55, pace56, long57, thirteen58, ()), ((), (), ()))
noncomputable def w_FnRisersPlaced_L8 (x48 : Int) (sum49 : Int) (t50 : Int) (best51 : Int) (rise55 : Int) (pace56 : Int) (long57 : Int) (thirteen58 : Bool) (near81 : Int) : Option Bool := c_w_FnRisersPlaced.L.2.2.2.2.2.2.2.1 ((), (x48, sum49, t50, best51, rise55, pace56, long57, thirteen58, near81, ()), ((), (), ()))
noncomputable def w_FnRisersPlaced_L9 (x48 : Int) (sum49 : Int) (t50 : Int) (best51 : Int) (rise55 : Int) (pace56 : Int) (long57 : Int) (thirteen58 : Bool) (near81 : Int) (n82 : Int) (far83 : Int) : Option Bool := c_w_FnRisersPlaced.L.2.2.2.2.2.2.2.2.1 ((), (x48, sum49, t50, best51, rise55, pace56, long57, thirteen58, near81, n82, far83, ()), ((), (), ()))
noncomputable def w_FnRisersPlaced_L10  : Option Bool := c_w_FnRisersPlaced.L.2.2.2.2.2.2.2.2.2.1 ((), (), ((), (), ()))
noncomputable def w_FnRisersPlaced_L11 (x48 : Int) (sum49 : Int) (t50 : Int) (best51 : Int) (rise55 : Int) (pace56 : Int) (long57 : Int) (thirteen58 : Bool) (near81 : Int) (n82 : Int) : Option Bool := c_w_FnRisersPlaced.L.2.2.2.2.2.2.2.2.2.2.1 ((), (x48, sum49, t50, best51, rise55, pace56, long57, thirteen58, near81, n82, ()), ((), (), ()))
theorem w_FnRisersPlaced_u1 (r0 : List (Int)) : w_FnRisersPlaced_L1 r0 = w_FnRisersPlaced_t1 w_FnRisersPlaced_L1 w_FnRisersPlaced_L2 w_FnRisersPlaced_L3 w_FnRisersPlaced_L4 w_FnRisersPlaced_L5 w_FnRisersPlaced_L6 w_FnRisersPlaced_L7 w_FnRisersPlaced_L8 w_FnRisersPlaced_L9 w_FnRisersPlaced_L10 w_FnRisersPlaced_L11 r0 :=
  (congrArg (fun g => g.1 ((r0, ()), ((), ()), ((), (), ()))) (FnCx.L_eq w_FnRisersPlaced_ts)).trans (by kernel_rfl)
theorem w_FnRisersPlaced_u2 (b0_0 : Int) (b0_1 : Int) (b0_2 : Int) (b1_0 : Int) (b1_1 : Int) (b1_2 : Int) (b2_0 : Int) (b2_1 : Int) (b2_2 : Int) (b3_0 : Int) (b3_1 : Int) (b3_2 : Int) (b4_0 : Int) (b4_1 : Int) (b4_2 : Int) (landing23 : Int) (three26 : Bool) (by31 : Int) (five33 : Bool) (tall36 : Int) (most37 : Int) (few38 : Int) (seven39 : Bool) (run42 : Int) (tread43 : Int) (many44 : Int) (nine45 : Bool) (x48 : Int) (sum49 : Int) (t50 : Int) (best51 : Int) (eleven52 : Bool) (rise55 : Int) (pace56 : Int) (long57 : Int) (thirteen58 : Bool) : w_FnRisersPlaced_L2 b0_0 b0_1 b0_2 b1_0 b1_1 b1_2 b2_0 b2_1 b2_2 b3_0 b3_1 b3_2 b4_0 b4_1 b4_2 landing23 three26 by31 five33 tall36 most37 few38 seven39 run42 tread43 many44 nine45 x48 sum49 t50 best51 eleven52 rise55 pace56 long57 thirteen58 = w_FnRisersPlaced_t2 w_FnRisersPlaced_L1 w_FnRisersPlaced_L2 w_FnRisersPlaced_L3 w_FnRisersPlaced_L4 w_FnRisersPlaced_L5 w_FnRisersPlaced_L6 w_FnRisersPlaced_L7 w_FnRisersPlaced_L8 w_FnRisersPlaced_L9 w_FnRisersPlaced_L10 w_FnRisersPlaced_L11 b0_0 b0_1 b0_2 b1_0 b1_1 b1_2 b2_0 b2_1 b2_2 b3_0 b3_1 b3_2 b4_0 b4_1 b4_2 landing23 three26 by31 five33 tall36 most37 few38 seven39 run42 tread43 many44 nine45 x48 sum49 t50 best51 eleven52 rise55 pace56 long57 thirteen58 :=
  (congrArg (fun g => g.2.1 (((b0_0, b0_1, b0_2, ()), (b1_0, b1_1, b1_2, ()), (b2_0, b2_1, b2_2, ()), (b3_0, b3_1, b3_2, ()), (b4_0, b4_1, b4_2, ()), ()), ((), landing23, (), (), three26, (), by31, (), five33, tall36, most37, few38, seven39, run42, tread43, many44, nine45, x48, sum49, t50, best51, eleven52, rise55, pace56, long57, thirteen58, ()), ((), (), ()))) (FnCx.L_eq w_FnRisersPlaced_ts)).trans (by kernel_rfl)
theorem w_FnRisersPlaced_u3 (b0_0 : Int) (b0_1 : Int) (b0_2 : Int) (b1_0 : Int) (b1_1 : Int) (b1_2 : Int) (by31 : Int) (five33 : Bool) (tall36 : Int) (most37 : Int) (few38 : Int) (seven39 : Bool) (run42 : Int) (tread43 : Int) (many44 : Int) (nine45 : Bool) (x48 : Int) (sum49 : Int) (t50 : Int) (best51 : Int) (eleven52 : Bool) (rise55 : Int) (pace56 : Int) (long57 : Int) (thirteen58 : Bool) : w_FnRisersPlaced_L3 b0_0 b0_1 b0_2 b1_0 b1_1 b1_2 by31 five33 tall36 most37 few38 seven39 run42 tread43 many44 nine45 x48 sum49 t50 best51 eleven52 rise55 pace56 long57 thirteen58 = w_FnRisersPlaced_t3 w_FnRisersPlaced_L1 w_FnRisersPlaced_L2 w_FnRisersPlaced_L3 w_FnRisersPlaced_L4 w_FnRisersPlaced_L5 w_FnRisersPlaced_L6 w_FnRisersPlaced_L7 w_FnRisersPlaced_L8 w_FnRisersPlaced_L9 w_FnRisersPlaced_L10 w_FnRisersPlaced_L11 b0_0 b0_1 b0_2 b1_0 b1_1 b1_2 by31 five33 tall36 most37 few38 seven39 run42 tread43 many44 nine45 x48 sum49 t50 best51 eleven52 rise55 pace56 long57 thirteen58 :=
  (congrArg (fun g => g.2.2.1 (((b0_0, b0_1, b0_2, ()), (b1_0, b1_1, b1_2, ()), ()), ((), by31, (), five33, tall36, most37, few38, seven39, run42, tread43, many44, nine45, x48, sum49, t50, best51, eleven52, rise55, pace56, long57, thirteen58, ()), ((), (), ()))) (FnCx.L_eq w_FnRisersPlaced_ts)).trans (by kernel_rfl)
theorem w_FnRisersPlaced_u4 (tall36 : Int) (most37 : Int) (few38 : Int) (seven39 : Bool) (run42 : Int) (tread43 : Int) (many44 : Int) (nine45 : Bool) (x48 : Int) (sum49 : Int) (t50 : Int) (best51 : Int) (eleven52 : Bool) (rise55 : Int) (pace56 : Int) (long57 : Int) (thirteen58 : Bool) : w_FnRisersPlaced_L4 tall36 most37 few38 seven39 run42 tread43 many44 nine45 x48 sum49 t50 best51 eleven52 rise55 pace56 long57 thirteen58 = w_FnRisersPlaced_t4 w_FnRisersPlaced_L1 w_FnRisersPlaced_L2 w_FnRisersPlaced_L3 w_FnRisersPlaced_L4 w_FnRisersPlaced_L5 w_FnRisersPlaced_L6 w_FnRisersPlaced_L7 w_FnRisersPlaced_L8 w_FnRisersPlaced_L9 w_FnRisersPlaced_L10 w_FnRisersPlaced_L11 tall36 most37 few38 seven39 run42 tread43 many44 nine45 x48 sum49 t50 best51 eleven52 rise55 pace56 long57 thirteen58 :=
  (congrArg (fun g => g.2.2.2.1 ((), (tall36, most37, few38, seven39, run42, tread43, many44, nine45, x48, sum49, t50, best51, eleven52, rise55, pace56, long57, thirteen58, ()), ((), (), ()))) (FnCx.L_eq w_FnRisersPlaced_ts)).trans (by kernel_rfl)
theorem w_FnRisersPlaced_u5 (run42 : Int) (tread43 : Int) (many44 : Int) (nine45 : Bool) (x48 : Int) (sum49 : Int) (t50 : Int) (best51 : Int) (eleven52 : Bool) (rise55 : Int) (pace56 : Int) (long57 : Int) (thirteen58 : Bool) : w_FnRisersPlaced_L5 run42 tread43 many44 nine45 x48 sum49 t50 best51 eleven52 rise55 pace56 long57 thirteen58 = w_FnRisersPlaced_t5 w_FnRisersPlaced_L1 w_FnRisersPlaced_L2 w_FnRisersPlaced_L3 w_FnRisersPlaced_L4 w_FnRisersPlaced_L5 w_FnRisersPlaced_L6 w_FnRisersPlaced_L7 w_FnRisersPlaced_L8 w_FnRisersPlaced_L9 w_FnRisersPlaced_L10 w_FnRisersPlaced_L11 run42 tread43 many44 nine45 x48 sum49 t50 best51 eleven52 rise55 pace56 long57 thirteen58 :=
  (congrArg (fun g => g.2.2.2.2.1 ((), (run42, tread43, many44, nine45, x48, sum49, t50, best51, eleven52, rise55, pace56, long57, thirteen58, ()), ((), (), ()))) (FnCx.L_eq w_FnRisersPlaced_ts)).trans (by kernel_rfl)
theorem w_FnRisersPlaced_u6 (x48 : Int) (sum49 : Int) (t50 : Int) (best51 : Int) (eleven52 : Bool) (rise55 : Int) (pace56 : Int) (long57 : Int) (thirteen58 : Bool) : w_FnRisersPlaced_L6 x48 sum49 t50 best51 eleven52 rise55 pace56 long57 thirteen58 = w_FnRisersPlaced_t6 w_FnRisersPlaced_L1 w_FnRisersPlaced_L2 w_FnRisersPlaced_L3 w_FnRisersPlaced_L4 w_FnRisersPlaced_L5 w_FnRisersPlaced_L6 w_FnRisersPlaced_L7 w_FnRisersPlaced_L8 w_FnRisersPlaced_L9 w_FnRisersPlaced_L10 w_FnRisersPlaced_L11 x48 sum49 t50 best51 eleven52 rise55 pace56 long57 thirteen58 :=
  (congrArg (fun g => g.2.2.2.2.2.1 ((), (x48, sum49, t50, best51, eleven52, rise55, pace56, long57, thirteen58, ()), ((), (), ()))) (FnCx.L_eq w_FnRisersPlaced_ts)).trans (by kernel_rfl)
theorem w_FnRisersPlaced_u7 (rise55 : Int) (pace56 : Int) (long57 : Int) (thirteen58 : Bool) : w_FnRisersPlaced_L7 rise55 pace56 long57 thirteen58 = w_FnRisersPlaced_t7 w_FnRisersPlaced_L1 w_FnRisersPlaced_L2 w_FnRisersPlaced_L3 w_FnRisersPlaced_L4 w_FnRisersPlaced_L5 w_FnRisersPlaced_L6 w_FnRisersPlaced_L7 w_FnRisersPlaced_L8 w_FnRisersPlaced_L9 w_FnRisersPlaced_L10 w_FnRisersPlaced_L11 rise55 pace56 long57 thirteen58 :=
  (congrArg (fun g => g.2.2.2.2.2.2.1 ((), (rise55, pace56, long57, thirteen58, ()), ((), (), ()))) (FnCx.L_eq w_FnRisersPlaced_ts)).trans (by kernel_rfl)
theorem w_FnRisersPlaced_u8 (x48 : Int) (sum49 : Int) (t50 : Int) (best51 : Int) (rise55 : Int) (pace56 : Int) (long57 : Int) (thirteen58 : Bool) (near81 : Int) : w_FnRisersPlaced_L8 x48 sum49 t50 best51 rise55 pace56 long57 thirteen58 near81 = w_FnRisersPlaced_t8 w_FnRisersPlaced_L1 w_FnRisersPlaced_L2 w_FnRisersPlaced_L3 w_FnRisersPlaced_L4 w_FnRisersPlaced_L5 w_FnRisersPlaced_L6 w_FnRisersPlaced_L7 w_FnRisersPlaced_L8 w_FnRisersPlaced_L9 w_FnRisersPlaced_L10 w_FnRisersPlaced_L11 x48 sum49 t50 best51 rise55 pace56 long57 thirteen58 near81 :=
  (congrArg (fun g => g.2.2.2.2.2.2.2.1 ((), (x48, sum49, t50, best51, rise55, pace56, long57, thirteen58, near81, ()), ((), (), ()))) (FnCx.L_eq w_FnRisersPlaced_ts)).trans (by kernel_rfl)
theorem w_FnRisersPlaced_u9 (x48 : Int) (sum49 : Int) (t50 : Int) (best51 : Int) (rise55 : Int) (pace56 : Int) (long57 : Int) (thirteen58 : Bool) (near81 : Int) (n82 : Int) (far83 : Int) : w_FnRisersPlaced_L9 x48 sum49 t50 best51 rise55 pace56 long57 thirteen58 near81 n82 far83 = w_FnRisersPlaced_t9 w_FnRisersPlaced_L1 w_FnRisersPlaced_L2 w_FnRisersPlaced_L3 w_FnRisersPlaced_L4 w_FnRisersPlaced_L5 w_FnRisersPlaced_L6 w_FnRisersPlaced_L7 w_FnRisersPlaced_L8 w_FnRisersPlaced_L9 w_FnRisersPlaced_L10 w_FnRisersPlaced_L11 x48 sum49 t50 best51 rise55 pace56 long57 thirteen58 near81 n82 far83 :=
  (congrArg (fun g => g.2.2.2.2.2.2.2.2.1 ((), (x48, sum49, t50, best51, rise55, pace56, long57, thirteen58, near81, n82, far83, ()), ((), (), ()))) (FnCx.L_eq w_FnRisersPlaced_ts)).trans (by kernel_rfl)
theorem w_FnRisersPlaced_u10  : w_FnRisersPlaced_L10  = w_FnRisersPlaced_t10 w_FnRisersPlaced_L1 w_FnRisersPlaced_L2 w_FnRisersPlaced_L3 w_FnRisersPlaced_L4 w_FnRisersPlaced_L5 w_FnRisersPlaced_L6 w_FnRisersPlaced_L7 w_FnRisersPlaced_L8 w_FnRisersPlaced_L9 w_FnRisersPlaced_L10 w_FnRisersPlaced_L11  :=
  (congrArg (fun g => g.2.2.2.2.2.2.2.2.2.1 ((), (), ((), (), ()))) (FnCx.L_eq w_FnRisersPlaced_ts)).trans (by kernel_rfl)
theorem w_FnRisersPlaced_u11 (x48 : Int) (sum49 : Int) (t50 : Int) (best51 : Int) (rise55 : Int) (pace56 : Int) (long57 : Int) (thirteen58 : Bool) (near81 : Int) (n82 : Int) : w_FnRisersPlaced_L11 x48 sum49 t50 best51 rise55 pace56 long57 thirteen58 near81 n82 = w_FnRisersPlaced_t11 w_FnRisersPlaced_L1 w_FnRisersPlaced_L2 w_FnRisersPlaced_L3 w_FnRisersPlaced_L4 w_FnRisersPlaced_L5 w_FnRisersPlaced_L6 w_FnRisersPlaced_L7 w_FnRisersPlaced_L8 w_FnRisersPlaced_L9 w_FnRisersPlaced_L10 w_FnRisersPlaced_L11 x48 sum49 t50 best51 rise55 pace56 long57 thirteen58 near81 n82 :=
  (congrArg (fun g => g.2.2.2.2.2.2.2.2.2.2.1 ((), (x48, sum49, t50, best51, rise55, pace56, long57, thirteen58, near81, n82, ()), ((), (), ()))) (FnCx.L_eq w_FnRisersPlaced_ts)).trans (by kernel_rfl)
noncomputable def w_FnRisersPlaced (code0 : List Int) (more1 : List Int) : Option Bool := w_FnRisersPlaced_t0 w_FnRisersPlaced_L1 w_FnRisersPlaced_L2 w_FnRisersPlaced_L3 w_FnRisersPlaced_L4 w_FnRisersPlaced_L5 w_FnRisersPlaced_L6 w_FnRisersPlaced_L7 w_FnRisersPlaced_L8 w_FnRisersPlaced_L9 w_FnRisersPlaced_L10 w_FnRisersPlaced_L11 code0 more1
theorem w_FnRisersPlaced_e (code0 : List Int) (more1 : List Int) : c_w_FnRisersPlaced.start c_w_FnRisersPlaced.L (code0, more1, ()) = w_FnRisersPlaced code0 more1 := by kernel_rfl
noncomputable def F_w_FnRisersPlaced : Ins c_w_FnRisersPlaced.ins → Option Bool := fun x => w_FnRisersPlaced x.1 x.2.1
noncomputable def S_w_FnRisersPlaced : FSpec := mkF c_w_FnRisersPlaced.env.pre c_w_FnRisersPlaced.ins c_w_FnRisersPlaced.out c_w_FnRisersPlaced.inj F_w_FnRisersPlaced
theorem h_w_FnRisersPlaced : Cert Try.prog 5 S_w_FnRisersPlaced := FnCx.certF (c := c_w_FnRisersPlaced) F_w_FnRisersPlaced (tyOk _ _ _) (spOk ⟨h_w_big, fun _ _ _ => trivial, ⟨h_s_DrawHeightAtRun, fun _ _ _ => trivial, ⟨h_i_HeightAtRun, fun _ _ _ => trivial, ⟨h_s_HeightAtRun, fun _ _ _ => trivial, ⟨h_i_HeightOf, fun _ _ _ => trivial, ⟨h_s_DrawHeadRoom, fun _ _ _ => trivial, ⟨h_i_HeadRoom, fun _ _ _ => trivial, ⟨h_s_HeadRoom, fun _ _ _ => trivial, ⟨h_s_DrawSplitFlight, fun _ _ _ => trivial, ⟨h_i_SplitFlight, fun _ _ _ => trivial, ⟨h_s_SplitFlight, fun _ _ _ => trivial, ⟨h_s_DrawTimesFlight, fun _ _ _ => trivial, ⟨h_i_TimesFlight, fun _ _ _ => trivial, ⟨h_s_TimesFlight, fun _ _ _ => trivial, ⟨h_s_DrawFewestRisers, fun _ _ _ => trivial, ⟨h_i_FewestRisers, fun _ _ _ => trivial, ⟨h_s_FewestRisers, fun _ _ _ => trivial, ⟨h_s_DrawMostRisers, fun _ _ _ => trivial, ⟨h_i_MostRisers, fun _ _ _ => trivial, ⟨h_s_MostRisers, fun _ _ _ => trivial, ⟨h_s_DrawBestRisers, fun _ _ _ => trivial, ⟨h_i_BestRisers, fun _ _ _ => trivial, ⟨h_s_BestRisers, fun _ _ _ => trivial, ⟨h_s_DrawTreadFor, fun _ _ _ => trivial, ⟨h_i_TreadFor, fun _ _ _ => trivial, ⟨h_s_TreadFor, fun _ _ _ => trivial, ⟨h_i_RunOf, fun _ _ _ => trivial, ⟨h_i_SlopeOf, fun _ _ _ => trivial, trivial⟩⟩⟩⟩⟩⟩⟩⟩⟩⟩⟩⟩⟩⟩⟩⟩⟩⟩⟩⟩⟩⟩⟩⟩⟩⟩⟩⟩) (fun _ _ _ _ _ hs => noDr_ok) Try.func5 rfl rfl Try.ntmps5 (by kernel_rfl) rfl rfl (fun _ => rfl) w_FnRisersPlaced_ts w_FnRisersPlaced_hs (fun x t hb ht => by
  obtain ⟨code0, more1, _⟩ := x
  exact (w_FnRisersPlaced_e code0 more1).trans ht)
end Go.Proofs.Ythenlapjhlljnaa.V
