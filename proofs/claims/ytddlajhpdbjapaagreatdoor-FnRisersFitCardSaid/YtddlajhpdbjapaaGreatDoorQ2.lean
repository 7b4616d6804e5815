/- Functions of the program, as plain functions. No condition. -/
import Derived.Test.YtddlajhpdbjapaaGreatDoorQ1
set_option linter.unusedVariables false
set_option linter.unusedSimpArgs false
set_option maxRecDepth 100000
namespace Go.Proofs.YtddlajhpdbjapaaGreatDoor.V
open Go Go.Ev Go.Proofs
/-! laws.big -/
noncomputable def c_w_big : FnCx := { env := env 16 [] [], body := bodyOf Tryz.f5, res := [.tmp 4], ins := [.ro kSuint8, .ro kSuint8], out := [(kbool, true)], T := Bool, fin := fun r => r.1.1, inj := fun t => ((t, ()), ((), (), ())), pts := [], fuel := 400, dr := noDr }
noncomputable def w_big (code0 : List Int) (more1 : List Int) : Bool :=
  bif decide ((↑(List.length code0) : Int) > 1048576) then true
  else decide ((↑(List.length more1) : Int) > IntKind.wrap IntKind.i64 (1048576 - (↑(List.length code0) : Int)))
theorem w_big_e (code0 : List Int) (more1 : List Int) : c_w_big.start c_w_big.L (code0, more1, ()) = some (w_big code0 more1) := by
  refine Eq.trans (b := (bif decide ((↑(List.length code0) : Int) > 1048576) then some true else some (decide ((↑(List.length more1) : Int) > IntKind.wrap IntKind.i64 (1048576 - (↑(List.length code0) : Int)))) : Option Bool)) (by kernel_rfl) ?_
  unfold w_big
  repeat (first | rfl | apply condS)
noncomputable def F_w_big : Ins c_w_big.ins → Bool := fun x => w_big x.1 x.2.1
noncomputable def S_w_big : FSpec := mkT c_w_big.env.pre c_w_big.ins c_w_big.out c_w_big.inj F_w_big
theorem h_w_big : Cert Tryz.prog 5 S_w_big := FnCx.certT (c := c_w_big) F_w_big (tyOk _ _ _) (spOk trivial) (fun _ _ _ _ _ hs => noDr_ok) Tryz.func5 rfl rfl Tryz.ntmps5 (by kernel_rfl) rfl rfl (fun _ => rfl) trivial (fun x => .inl ⟨c_w_big.start () x, fun _ => rfl⟩) (fun x hb => by
  obtain ⟨code0, more1, _⟩ := x
  exact w_big_e code0 more1)
/-! (*spec.l1Cur).next -/
noncomputable def c_s_l1Cur_next : FnCx := { env := env 62 [] [], body := bodyOf Tryz.f122, res := [.tmp 2], ins := [.ptr 77 ksl1Cur], out := [(kint, true)], T := Int × (List Int × Int × Int), fin := fun r => (r.1.1, r.2.1), inj := fun t => ((t.1, ()), (t.2, ())), pts := [], fuel := 400, dr := evDr (env 62 [] []) }
noncomputable def s_l1Cur_next (c0_code : List Int) (c0_at : Int) (c0_seed : Int) : Option (Int × (List Int × Int × Int)) :=
  bif decide (c0_at < (↑(List.length c0_code) : Int)) then
    bif decide (0 ≤ c0_at) then
      bif decide (c0_at < (↑(List.length c0_code) : Int)) then
        bif decide (IntKind.wrap IntKind.i64 (c0_at + 1) ≤ (↑(List.length c0_code) : Int)) then
          some
            (IntKind.wrap IntKind.i64 (rdk kuint8 c0_code c0_at), c0_code, IntKind.wrap IntKind.i64 (c0_at + 1),
              IntKind.wrap IntKind.u64
                (IntKind.wrap IntKind.u64
                    (IntKind.wrap IntKind.u64 (c0_seed * 6364136223846793005) +
                      IntKind.wrap IntKind.u64 (IntKind.wrap IntKind.i64 (rdk kuint8 c0_code c0_at))) +
                  1442695040888963407))
        else
          some
            (IntKind.wrap IntKind.i64
                (IntKind.wrap IntKind.u64
                  (↑(BitVec.toNat
                        (BitVec.ofInt (IntKind.bits IntKind.u64)
                            (Int.fdiv
                              (IntKind.wrap IntKind.u64
                                (IntKind.wrap IntKind.u64
                                    (IntKind.wrap IntKind.u64 (c0_seed * 6364136223846793005) +
                                      IntKind.wrap IntKind.u64 (IntKind.wrap IntKind.i64 (rdk kuint8 c0_code c0_at))) +
                                  1442695040888963407))
                              (2 ^ min (Int.toNat 40) (IntKind.bits IntKind.u64))) &&&
                          BitVec.ofInt (IntKind.bits IntKind.u64) 255)) :
                    Int)),
              c0_code, IntKind.wrap IntKind.i64 (c0_at + 1),
              IntKind.wrap IntKind.u64
                (IntKind.wrap IntKind.u64
                    (IntKind.wrap IntKind.u64 (c0_seed * 6364136223846793005) +
                      IntKind.wrap IntKind.u64 (IntKind.wrap IntKind.i64 (rdk kuint8 c0_code c0_at))) +
                  1442695040888963407))
      else none
    else none
  else
    bif decide (IntKind.wrap IntKind.i64 (c0_at + 1) ≤ (↑(List.length c0_code) : Int)) then
      some
        (0, c0_code, IntKind.wrap IntKind.i64 (c0_at + 1),
          IntKind.wrap IntKind.u64
            (IntKind.wrap IntKind.u64 (IntKind.wrap IntKind.u64 (c0_seed * 6364136223846793005) + IntKind.wrap IntKind.u64 0) + 1442695040888963407))
    else
      some
        (IntKind.wrap IntKind.i64
            (IntKind.wrap IntKind.u64
              (↑(BitVec.toNat
                    (BitVec.ofInt (IntKind.bits IntKind.u64)
                        (Int.fdiv
                          (IntKind.wrap IntKind.u64
                            (IntKind.wrap IntKind.u64 (IntKind.wrap IntKind.u64 (c0_seed * 6364136223846793005) + IntKind.wrap IntKind.u64 0) +
                              1442695040888963407))
                          (2 ^ min (Int.toNat 40) (IntKind.bits IntKind.u64))) &&&
                      BitVec.ofInt (IntKind.bits IntKind.u64) 255)) :
                Int)),
          c0_code, IntKind.wrap IntKind.i64 (c0_at + 1),
          IntKind.wrap IntKind.u64
            (IntKind.wrap IntKind.u64 (IntKind.wrap IntKind.u64 (c0_seed * 6364136223846793005) + IntKind.wrap IntKind.u64 0) + 1442695040888963407))
theorem s_l1Cur_next_e (c0_code : List Int) (c0_at : Int) (c0_seed : Int) : c_s_l1Cur_next.start c_s_l1Cur_next.L ((c0_code, c0_at, c0_seed), ()) = s_l1Cur_next c0_code c0_at c0_seed := by kernel_rfl
noncomputable def F_s_l1Cur_next : Ins c_s_l1Cur_next.ins → Option (Int × (List Int × Int × Int)) := fun x => s_l1Cur_next x.1.1 x.1.2.1 x.1.2.2
noncomputable def S_s_l1Cur_next : FSpec := mkF c_s_l1Cur_next.env.pre c_s_l1Cur_next.ins c_s_l1Cur_next.out c_s_l1Cur_next.inj F_s_l1Cur_next
theorem h_s_l1Cur_next : Cert Tryz.prog 122 S_s_l1Cur_next := FnCx.certF (c := c_s_l1Cur_next) F_s_l1Cur_next (tyOk _ _ _) (spOk trivial) (fun _ _ _ _ _ hs => evDr_ok (tyOk _ _ _) hs follows) Tryz.func122 rfl rfl Tryz.ntmps122 (by kernel_rfl) rfl rfl (fun _ => rfl) trivial (fun x => .inl ⟨c_s_l1Cur_next.start () x, fun _ => rfl⟩) (fun x t hb ht => by
  obtain ⟨⟨c0_code, c0_at, c0_seed⟩, _⟩ := x
  exact (s_l1Cur_next_e c0_code c0_at c0_seed).trans ht)
/-! (*spec.l1Cur).pick -/
noncomputable def c_s_l1Cur_pick : FnCx := { env := env 20 [(122, S_s_l1Cur_next)] [], body := bodyOf Tryz.f99, res := [.tmp 4], ins := [.ptr 77 ksl1Cur, .ro kint], out := [(kint, true)], T := Int × (List Int × Int × Int), fin := fun r => (r.1.1, r.2.1), inj := fun t => ((t.1, ()), (t.2, (), ())), pts := [], fuel := 400, dr := noDr }
noncomputable def s_l1Cur_pick (c0_code : List Int) (c0_at : Int) (c0_seed : Int) (n1 : Int) : Option (Int × (List Int × Int × Int)) :=
  bif decide (n1 ≤ 1) then some (0, c0_code, c0_at, c0_seed)
  else
    Option.bind (s_l1Cur_next c0_code c0_at c0_seed) fun r =>
      bif decide (n1 > 200) then
        Option.bind (s_l1Cur_next (Prod.fst (Prod.snd r)) (Prod.fst (Prod.snd (Prod.snd r))) (Prod.snd (Prod.snd (Prod.snd r)))) fun r_1 =>
          bif n1 == 0 then none
          else
            some
              (Int.tmod (IntKind.wrap IntKind.i64 (IntKind.wrap IntKind.i64 (Prod.fst r * 256) + Prod.fst r_1)) n1, Prod.fst (Prod.snd r_1),
                Prod.fst (Prod.snd (Prod.snd r_1)), Prod.snd (Prod.snd (Prod.snd r_1)))
      else bif n1 == 0 then none else some (Int.tmod (Prod.fst r) n1, Prod.fst (Prod.snd r), Prod.fst (Prod.snd (Prod.snd r)), Prod.snd (Prod.snd (Prod.snd r)))
theorem s_l1Cur_pick_e (c0_code : List Int) (c0_at : Int) (c0_seed : Int) (n1 : Int) : c_s_l1Cur_pick.start c_s_l1Cur_pick.L ((c0_code, c0_at, c0_seed), n1, ()) = s_l1Cur_pick c0_code c0_at c0_seed n1 := by kernel_rfl
noncomputable def F_s_l1Cur_pick : Ins c_s_l1Cur_pick.ins → Option (Int × (List Int × Int × Int)) := fun x => s_l1Cur_pick x.1.1 x.1.2.1 x.1.2.2 x.2.1
noncomputable def S_s_l1Cur_pick : FSpec := mkF c_s_l1Cur_pick.env.pre c_s_l1Cur_pick.ins c_s_l1Cur_pick.out c_s_l1Cur_pick.inj F_s_l1Cur_pick
theorem h_s_l1Cur_pick : Cert Tryz.prog 99 S_s_l1Cur_pick := FnCx.certF (c := c_s_l1Cur_pick) F_s_l1Cur_pick (tyOk _ _ _) (spOk ⟨h_s_l1Cur_next, fun _ _ h => h, trivial⟩) (fun _ _ _ _ _ hs => noDr_ok) Tryz.func99 rfl rfl Tryz.ntmps99 (by kernel_rfl) rfl rfl (fun _ => rfl) trivial (fun x => .inl ⟨c_s_l1Cur_pick.start () x, fun _ => rfl⟩) (fun x t hb ht => by
  obtain ⟨⟨c0_code, c0_at, c0_seed⟩, n1, _⟩ := x
  exact (s_l1Cur_pick_e c0_code c0_at c0_seed n1).trans ht)
/-! (*spec.l1Cur).one -/
noncomputable def c_s_l1Cur_one : FnCx := { env := env 9 [(99, S_s_l1Cur_pick)] [], body := bodyOf Tryz.f85, res := [.tmp 4], ins := [.ptr 77 ksl1Cur, .ro kint], out := [(kbool, true)], T := Bool × (List Int × Int × Int), fin := fun r => (r.1.1, r.2.1), inj := fun t => ((t.1, ()), (t.2, (), ())), pts := [], fuel := 400, dr := noDr }
noncomputable def s_l1Cur_one (c0_code : List Int) (c0_at : Int) (c0_seed : Int) (n1 : Int) : Option (Bool × (List Int × Int × Int)) :=
  Option.bind (s_l1Cur_pick c0_code c0_at c0_seed n1) fun r =>
    some (Prod.fst r == 0, Prod.fst (Prod.snd r), Prod.fst (Prod.snd (Prod.snd r)), Prod.snd (Prod.snd (Prod.snd r)))
theorem s_l1Cur_one_e (c0_code : List Int) (c0_at : Int) (c0_seed : Int) (n1 : Int) : c_s_l1Cur_one.start c_s_l1Cur_one.L ((c0_code, c0_at, c0_seed), n1, ()) = s_l1Cur_one c0_code c0_at c0_seed n1 := by kernel_rfl
noncomputable def F_s_l1Cur_one : Ins c_s_l1Cur_one.ins → Option (Bool × (List Int × Int × Int)) := fun x => s_l1Cur_one x.1.1 x.1.2.1 x.1.2.2 x.2.1
noncomputable def S_s_l1Cur_one : FSpec := mkF c_s_l1Cur_one.env.pre c_s_l1Cur_one.ins c_s_l1Cur_one.out c_s_l1Cur_one.inj F_s_l1Cur_one
theorem h_s_l1Cur_one : Cert Tryz.prog 85 S_s_l1Cur_one := FnCx.certF (c := c_s_l1Cur_one) F_s_l1Cur_one (tyOk _ _ _) (spOk ⟨h_s_l1Cur_pick, fun _ _ h => h, trivial⟩) (fun _ _ _ _ _ hs => noDr_ok) Tryz.func85 rfl rfl Tryz.ntmps85 (by kernel_rfl) rfl rfl (fun _ => rfl) trivial (fun x => .inl ⟨c_s_l1Cur_one.start () x, fun _ => rfl⟩) (fun x t hb ht => by
  obtain ⟨⟨c0_code, c0_at, c0_seed⟩, n1, _⟩ := x
  exact (s_l1Cur_one_e c0_code c0_at c0_seed n1).trans ht)
/-! (*spec.l1Cur).among -/
noncomputable def c_s_l1Cur_among : FnCx := { env := env 12 [(99, S_s_l1Cur_pick)] [], body := bodyOf Tryz.f73, res := [.tmp 4], ins := [.ptr 77 ksl1Cur, .ro kSint], out := [(kint, true)], T := Int × (List Int × Int × Int), fin := fun r => (r.1.1, r.2.1), inj := fun t => ((t.1, ()), (t.2, (), ())), pts := [], fuel := 400, dr := noDr }
noncomputable def s_l1Cur_among (c0_code : List Int) (c0_at : Int) (c0_seed : Int) (list1 : List Int) : Option (Int × (List Int × Int × Int)) :=
  Option.bind (s_l1Cur_pick c0_code c0_at c0_seed (↑(List.length list1) : Int)) fun r =>
    bif decide (0 ≤ Prod.fst r) then
      bif decide (Prod.fst r < (↑(List.length list1) : Int)) then
        some (rdk kint list1 (Prod.fst r), Prod.fst (Prod.snd r), Prod.fst (Prod.snd (Prod.snd r)), Prod.snd (Prod.snd (Prod.snd r)))
      else none
    else none
theorem s_l1Cur_among_e (c0_code : List Int) (c0_at : Int) (c0_seed : Int) (list1 : List Int) : c_s_l1Cur_among.start c_s_l1Cur_among.L ((c0_code, c0_at, c0_seed), list1, ()) = s_l1Cur_among c0_code c0_at c0_seed list1 := by kernel_rfl
noncomputable def F_s_l1Cur_among : Ins c_s_l1Cur_among.ins → Option (Int × (List Int × Int × Int)) := fun x => s_l1Cur_among x.1.1 x.1.2.1 x.1.2.2 x.2.1
noncomputable def S_s_l1Cur_among : FSpec := mkF c_s_l1Cur_among.env.pre c_s_l1Cur_among.ins c_s_l1Cur_among.out c_s_l1Cur_among.inj F_s_l1Cur_among
theorem h_s_l1Cur_among : Cert Tryz.prog 73 S_s_l1Cur_among := FnCx.certF (c := c_s_l1Cur_among) F_s_l1Cur_among (tyOk _ _ _) (spOk ⟨h_s_l1Cur_pick, fun _ _ h => h, trivial⟩) (fun _ _ _ _ _ hs => noDr_ok) Tryz.func73 rfl rfl Tryz.ntmps73 (by kernel_rfl) rfl rfl (fun _ => rfl) trivial (fun x => .inl ⟨c_s_l1Cur_among.start () x, fun _ => rfl⟩) (fun x t hb ht => by
  obtain ⟨⟨c0_code, c0_at, c0_seed⟩, list1, _⟩ := x
  exact (s_l1Cur_among_e c0_code c0_at c0_seed list1).trans ht)
/-! (*spec.l1Cur).sureFlight -/
noncomputable def c_s_l1Cur_sureFlight : FnCx := { env := env 16 [(99, S_s_l1Cur_pick)] [], body := bodyOf Tryz.f113, res := [.cell 2 52], ins := [.ptr 77 ksl1Cur], out := [(kFlight, true)], T := (Int × Int × Int) × (List Int × Int × Int), fin := fun r => (r.1.1, r.2.1), inj := fun t => ((t.1, ()), (t.2, ())), pts := [], fuel := 400, dr := noDr }
noncomputable def s_l1Cur_sureFlight (c0_code : List Int) (c0_at : Int) (c0_seed : Int) : Option ((Int × Int × Int) × (List Int × Int × Int)) :=
  Option.bind (s_l1Cur_pick c0_code c0_at c0_seed 12) fun r =>
    Option.bind (s_l1Cur_pick (Prod.fst (Prod.snd r)) (Prod.fst (Prod.snd (Prod.snd r))) (Prod.snd (Prod.snd (Prod.snd r))) 9) fun r_1 =>
      Option.bind (s_l1Cur_pick (Prod.fst (Prod.snd r_1)) (Prod.fst (Prod.snd (Prod.snd r_1))) (Prod.snd (Prod.snd (Prod.snd r_1))) 9) fun r_2 =>
        some
          ((IntKind.wrap IntKind.i64 (1 + Prod.fst r), IntKind.wrap IntKind.i64 (1 + Prod.fst r_1), IntKind.wrap IntKind.i64 (1 + Prod.fst r_2)),
            Prod.fst (Prod.snd r_2), Prod.fst (Prod.snd (Prod.snd r_2)), Prod.snd (Prod.snd (Prod.snd r_2)))
theorem s_l1Cur_sureFlight_e (c0_code : List Int) (c0_at : Int) (c0_seed : Int) : c_s_l1Cur_sureFlight.start c_s_l1Cur_sureFlight.L ((c0_code, c0_at, c0_seed), ()) = s_l1Cur_sureFlight c0_code c0_at c0_seed := by kernel_rfl
noncomputable def F_s_l1Cur_sureFlight : Ins c_s_l1Cur_sureFlight.ins → Option ((Int × Int × Int) × (List Int × Int × Int)) := fun x => s_l1Cur_sureFlight x.1.1 x.1.2.1 x.1.2.2
noncomputable def S_s_l1Cur_sureFlight : FSpec := mkF c_s_l1Cur_sureFlight.env.pre c_s_l1Cur_sureFlight.ins c_s_l1Cur_sureFlight.out c_s_l1Cur_sureFlight.inj F_s_l1Cur_sureFlight
theorem h_s_l1Cur_sureFlight : Cert Tryz.prog 113 S_s_l1Cur_sureFlight := FnCx.certF (c := c_s_l1Cur_sureFlight) F_s_l1Cur_sureFlight (tyOk _ _ _) (spOk ⟨h_s_l1Cur_pick, fun _ _ h => h, trivial⟩) (fun _ _ _ _ _ hs => noDr_ok) Tryz.func113 rfl rfl Tryz.ntmps113 (by kernel_rfl) rfl rfl (fun _ => rfl) trivial (fun x => .inl ⟨c_s_l1Cur_sureFlight.start () x, fun _ => rfl⟩) (fun x t hb ht => by
  obtain ⟨⟨c0_code, c0_at, c0_seed⟩, _⟩ := x
  exact (s_l1Cur_sureFlight_e c0_code c0_at c0_seed).trans ht)
/-! (*spec.l1Cur).flight -/
noncomputable def c_s_l1Cur_flight : FnCx := { env := env 27 [(113, S_s_l1Cur_sureFlight), (99, S_s_l1Cur_pick), (73, S_s_l1Cur_among)] [], body := bodyOf Tryz.f100, res := [.cell 2 52], ins := [.ptr 77 ksl1Cur], out := [(kFlight, true)], T := (Int × Int × Int) × (List Int × Int × Int), fin := fun r => (r.1.1, r.2.1), inj := fun t => ((t.1, ()), (t.2, ())), pts := [], fuel := 400, dr := noDr }
noncomputable def s_l1Cur_flight (c0_code : List Int) (c0_at : Int) (c0_seed : Int) : Option ((Int × Int × Int) × (List Int × Int × Int)) :=
  Option.bind (s_l1Cur_sureFlight c0_code c0_at c0_seed) fun r =>
    Option.bind (s_l1Cur_pick (Prod.fst (Prod.snd r)) (Prod.fst (Prod.snd (Prod.snd r))) (Prod.snd (Prod.snd (Prod.snd r))) 16) fun r_1 =>
      bif Prod.fst r_1 == 0 then
        Option.bind
          (s_l1Cur_among (Prod.fst (Prod.snd r_1)) (Prod.fst (Prod.snd (Prod.snd r_1))) (Prod.snd (Prod.snd (Prod.snd r_1)))
            [0, -1, 100, 101, 4611686018427387904])
          fun r_2 =>
          some
            ((Prod.fst r_2, Prod.fst (Prod.snd (Prod.fst r)), Prod.snd (Prod.snd (Prod.fst r))), Prod.fst (Prod.snd r_2), Prod.fst (Prod.snd (Prod.snd r_2)),
              Prod.snd (Prod.snd (Prod.snd r_2)))
      else
        bif Prod.fst r_1 == 1 then
          Option.bind
            (s_l1Cur_among (Prod.fst (Prod.snd r_1)) (Prod.fst (Prod.snd (Prod.snd r_1))) (Prod.snd (Prod.snd (Prod.snd r_1)))
              [0, -1, 250, 251, 4611686018427387904])
            fun r_2 =>
            some
              ((Prod.fst (Prod.fst r), Prod.fst r_2, Prod.snd (Prod.snd (Prod.fst r))), Prod.fst (Prod.snd r_2), Prod.fst (Prod.snd (Prod.snd r_2)),
                Prod.snd (Prod.snd (Prod.snd r_2)))
        else
          bif Prod.fst r_1 == 2 then
            Option.bind
              (s_l1Cur_among (Prod.fst (Prod.snd r_1)) (Prod.fst (Prod.snd (Prod.snd r_1))) (Prod.snd (Prod.snd (Prod.snd r_1)))
                [0, -1, 500, 501, 4611686018427387904])
              fun r_2 =>
              some
                ((Prod.fst (Prod.fst r), Prod.fst (Prod.snd (Prod.fst r)), Prod.fst r_2), Prod.fst (Prod.snd r_2), Prod.fst (Prod.snd (Prod.snd r_2)),
                  Prod.snd (Prod.snd (Prod.snd r_2)))
          else
            some
              ((Prod.fst (Prod.fst r), Prod.fst (Prod.snd (Prod.fst r)), Prod.snd (Prod.snd (Prod.fst r))), Prod.fst (Prod.snd r_1),
                Prod.fst (Prod.snd (Prod.snd r_1)), Prod.snd (Prod.snd (Prod.snd r_1)))
theorem s_l1Cur_flight_e (c0_code : List Int) (c0_at : Int) (c0_seed : Int) : c_s_l1Cur_flight.start c_s_l1Cur_flight.L ((c0_code, c0_at, c0_seed), ()) = s_l1Cur_flight c0_code c0_at c0_seed := by kernel_rfl
noncomputable def F_s_l1Cur_flight : Ins c_s_l1Cur_flight.ins → Option ((Int × Int × Int) × (List Int × Int × Int)) := fun x => s_l1Cur_flight x.1.1 x.1.2.1 x.1.2.2
noncomputable def S_s_l1Cur_flight : FSpec := mkF c_s_l1Cur_flight.env.pre c_s_l1Cur_flight.ins c_s_l1Cur_flight.out c_s_l1Cur_flight.inj F_s_l1Cur_flight
theorem h_s_l1Cur_flight : Cert Tryz.prog 100 S_s_l1Cur_flight := FnCx.certF (c := c_s_l1Cur_flight) F_s_l1Cur_flight (tyOk _ _ _) (spOk ⟨h_s_l1Cur_sureFlight, fun _ _ h => h, ⟨h_s_l1Cur_pick, fun _ _ h => h, ⟨h_s_l1Cur_among, fun _ _ h => h, trivial⟩⟩⟩) (fun _ _ _ _ _ hs => noDr_ok) Tryz.func100 rfl rfl Tryz.ntmps100 (by kernel_rfl) rfl rfl (fun _ => rfl) trivial (fun x => .inl ⟨c_s_l1Cur_flight.start () x, fun _ => rfl⟩) (fun x t hb ht => by
  obtain ⟨⟨c0_code, c0_at, c0_seed⟩, _⟩ := x
  exact (s_l1Cur_flight_e c0_code c0_at c0_seed).trans ht)
/-! spec.DrawWholeLine -/
noncomputable def c_s_DrawWholeLine : FnCx := { env := env 23 [(85, S_s_l1Cur_one), (99, S_s_l1Cur_pick), (73, S_s_l1Cur_among), (100, S_s_l1Cur_flight)] [], body := bodyOf Tryz.f34, res := [.cell 2 52], ins := [.ro kSuint8], out := [(kFlight, true)], T := (Int × Int × Int), fin := fun r => r.1.1, inj := fun t => ((t, ()), ((), ())), pts := [], fuel := 400, dr := noDr }
noncomputable def s_DrawWholeLine (code0 : List Int) : Option (Int × Int × Int) :=
  Option.bind (s_l1Cur_one code0 0 0 2) fun r =>
    bif Prod.fst r then
      Option.bind (s_l1Cur_pick (Prod.fst (Prod.snd r)) (Prod.fst (Prod.snd (Prod.snd r))) (Prod.snd (Prod.snd (Prod.snd r))) 5) fun r =>
        Option.bind (s_l1Cur_among (Prod.fst (Prod.snd r)) (Prod.fst (Prod.snd (Prod.snd r))) (Prod.snd (Prod.snd (Prod.snd r))) [3, 3, 4, 5]) fun r_1 =>
          some
            (4, IntKind.wrap IntKind.i64 (3 * IntKind.wrap IntKind.i64 (1 + Prod.fst r)),
              IntKind.wrap IntKind.i64 (Prod.fst r_1 * IntKind.wrap IntKind.i64 (1 + Prod.fst r)))
    else
      Option.bind (s_l1Cur_flight (Prod.fst (Prod.snd r)) (Prod.fst (Prod.snd (Prod.snd r))) (Prod.snd (Prod.snd (Prod.snd r)))) fun r =>
        some (Prod.fst (Prod.fst r), Prod.fst (Prod.snd (Prod.fst r)), Prod.snd (Prod.snd (Prod.fst r)))
theorem s_DrawWholeLine_e (code0 : List Int) : c_s_DrawWholeLine.start c_s_DrawWholeLine.L (code0, ()) = s_DrawWholeLine code0 := by kernel_rfl
noncomputable def F_s_DrawWholeLine : Ins c_s_DrawWholeLine.ins → Option (Int × Int × Int) := fun x => s_DrawWholeLine x.1
noncomputable def S_s_DrawWholeLine : FSpec := mkF c_s_DrawWholeLine.env.pre c_s_DrawWholeLine.ins c_s_DrawWholeLine.out c_s_DrawWholeLine.inj F_s_DrawWholeLine
theorem h_s_DrawWholeLine : Cert Tryz.prog 34 S_s_DrawWholeLine := FnCx.certF (c := c_s_DrawWholeLine) F_s_DrawWholeLine (tyOk _ _ _) (spOk ⟨h_s_l1Cur_one, fun _ _ h => h, ⟨h_s_l1Cur_pick, fun _ _ h => h, ⟨h_s_l1Cur_among, fun _ _ h => h, ⟨h_s_l1Cur_flight, fun _ _ h => h, trivial⟩⟩⟩⟩) (fun _ _ _ _ _ hs => noDr_ok) Tryz.func34 rfl rfl Tryz.ntmps34 (by kernel_rfl) rfl rfl (fun _ => rfl) trivial (fun x => .inl ⟨c_s_DrawWholeLine.start () x, fun _ => rfl⟩) (fun x t hb ht => by
  obtain ⟨code0, _⟩ := x
  exact (s_DrawWholeLine_e code0).trans ht)
/-! (*spec.l1Cur).high -/
noncomputable def c_s_l1Cur_high : FnCx := { env := env 11 [(85, S_s_l1Cur_one), (73, S_s_l1Cur_among), (99, S_s_l1Cur_pick)] [], body := bodyOf Tryz.f109, res := [.tmp 2], ins := [.ptr 77 ksl1Cur], out := [(kint, true)], T := Int × (List Int × Int × Int), fin := fun r => (r.1.1, r.2.1), inj := fun t => ((t.1, ()), (t.2, ())), pts := [], fuel := 400, dr := noDr }
noncomputable def s_l1Cur_high (c0_code : List Int) (c0_at : Int) (c0_seed : Int) : Option (Int × (List Int × Int × Int)) :=
  Option.bind (s_l1Cur_one c0_code c0_at c0_seed 12) fun r =>
    bif Prod.fst r then
      Option.bind
        (s_l1Cur_among (Prod.fst (Prod.snd r)) (Prod.fst (Prod.snd (Prod.snd r))) (Prod.snd (Prod.snd (Prod.snd r))) [0, -1, 6000, 6001, 4611686018427387904])
        fun r => some (Prod.fst r, Prod.fst (Prod.snd r), Prod.fst (Prod.snd (Prod.snd r)), Prod.snd (Prod.snd (Prod.snd r)))
    else
      Option.bind (s_l1Cur_pick (Prod.fst (Prod.snd r)) (Prod.fst (Prod.snd (Prod.snd r))) (Prod.snd (Prod.snd (Prod.snd r))) 72) fun r =>
        some (IntKind.wrap IntKind.i64 (1 + Prod.fst r), Prod.fst (Prod.snd r), Prod.fst (Prod.snd (Prod.snd r)), Prod.snd (Prod.snd (Prod.snd r)))
theorem s_l1Cur_high_e (c0_code : List Int) (c0_at : Int) (c0_seed : Int) : c_s_l1Cur_high.start c_s_l1Cur_high.L ((c0_code, c0_at, c0_seed), ()) = s_l1Cur_high c0_code c0_at c0_seed := by kernel_rfl
noncomputable def F_s_l1Cur_high : Ins c_s_l1Cur_high.ins → Option (Int × (List Int × Int × Int)) := fun x => s_l1Cur_high x.1.1 x.1.2.1 x.1.2.2
noncomputable def S_s_l1Cur_high : FSpec := mkF c_s_l1Cur_high.env.pre c_s_l1Cur_high.ins c_s_l1Cur_high.out c_s_l1Cur_high.inj F_s_l1Cur_high
theorem h_s_l1Cur_high : Cert Tryz.prog 109 S_s_l1Cur_high := FnCx.certF (c := c_s_l1Cur_high) F_s_l1Cur_high (tyOk _ _ _) (spOk ⟨h_s_l1Cur_one, fun _ _ h => h, ⟨h_s_l1Cur_among, fun _ _ h => h, ⟨h_s_l1Cur_pick, fun _ _ h => h, trivial⟩⟩⟩) (fun _ _ _ _ _ hs => noDr_ok) Tryz.func109 rfl rfl Tryz.ntmps109 (by kernel_rfl) rfl rfl (fun _ => rfl) trivial (fun x => .inl ⟨c_s_l1Cur_high.start () x, fun _ => rfl⟩) (fun x t hb ht => by
  obtain ⟨⟨c0_code, c0_at, c0_seed⟩, _⟩ := x
  exact (s_l1Cur_high_e c0_code c0_at c0_seed).trans ht)
/-! spec.DrawEvenRisers -/
noncomputable def c_s_DrawEvenRisers : FnCx := { env := env 15 [(109, S_s_l1Cur_high), (73, S_s_l1Cur_among)] [], body := bodyOf Tryz.f55, res := [.tmp 2, .tmp 3], ins := [.ro kSuint8], out := [(kint, true), (kint, true)], T := Int × Int, fin := fun r => (r.1.1, r.1.2.1), inj := fun t => ((t.1, t.2, ()), ((), ())), pts := [], fuel := 400, dr := noDr }
noncomputable def s_DrawEvenRisers (code0 : List Int) : Option (Int × Int) :=
  Option.bind (s_l1Cur_high code0 0 0) fun r =>
    Option.bind (s_l1Cur_among (Prod.fst (Prod.snd r)) (Prod.fst (Prod.snd (Prod.snd r))) (Prod.snd (Prod.snd (Prod.snd r))) [1, 2, 3, 5, 7, 12, 100, 101, 0])
      fun r_1 => some (Prod.fst r, Prod.fst r_1)
theorem s_DrawEvenRisers_e (code0 : List Int) : c_s_DrawEvenRisers.start c_s_DrawEvenRisers.L (code0, ()) = s_DrawEvenRisers code0 := by kernel_rfl
noncomputable def F_s_DrawEvenRisers : Ins c_s_DrawEvenRisers.ins → Option (Int × Int) := fun x => s_DrawEvenRisers x.1
noncomputable def S_s_DrawEvenRisers : FSpec := mkF c_s_DrawEvenRisers.env.pre c_s_DrawEvenRisers.ins c_s_DrawEvenRisers.out c_s_DrawEvenRisers.inj F_s_DrawEvenRisers
theorem h_s_DrawEvenRisers : Cert Tryz.prog 55 S_s_DrawEvenRisers := FnCx.certF (c := c_s_DrawEvenRisers) F_s_DrawEvenRisers (tyOk _ _ _) (spOk ⟨h_s_l1Cur_high, fun _ _ h => h, ⟨h_s_l1Cur_among, fun _ _ h => h, trivial⟩⟩) (fun _ _ _ _ _ hs => noDr_ok) Tryz.func55 rfl rfl Tryz.ntmps55 (by kernel_rfl) rfl rfl (fun _ => rfl) trivial (fun x => .inl ⟨c_s_DrawEvenRisers.start () x, fun _ => rfl⟩) (fun x t hb ht => by
  obtain ⟨code0, _⟩ := x
  exact (s_DrawEvenRisers_e code0).trans ht)
/-! spec.DrawFlightsFor -/
noncomputable def c_s_DrawFlightsFor : FnCx := { env := env 21 [(109, S_s_l1Cur_high), (73, S_s_l1Cur_among)] [], body := bodyOf Tryz.f58, res := [.tmp 2, .tmp 3, .tmp 4], ins := [.ro kSuint8], out := [(kint, true), (kint, true), (kint, true)], T := Int × Int × Int, fin := fun r => (r.1.1, r.1.2.1, r.1.2.2.1), inj := fun t => ((t.1, t.2.1, t.2.2, ()), ((), ())), pts := [], fuel := 400, dr := noDr }
noncomputable def s_DrawFlightsFor (code0 : List Int) : Option (Int × Int × Int) :=
  Option.bind (s_l1Cur_high code0 0 0) fun r =>
    Option.bind (s_l1Cur_among (Prod.fst (Prod.snd r)) (Prod.fst (Prod.snd (Prod.snd r))) (Prod.snd (Prod.snd (Prod.snd r))) [0, 10, 30, 100, 50000, 50001, -1])
      fun r_1 =>
      Option.bind
        (s_l1Cur_among (Prod.fst (Prod.snd r_1)) (Prod.fst (Prod.snd (Prod.snd r_1))) (Prod.snd (Prod.snd (Prod.snd r_1))) [10, 14, 20, 63, 2000, 2001, 0])
        fun r_2 => some (Prod.fst r, Prod.fst r_1, Prod.fst r_2)
theorem s_DrawFlightsFor_e (code0 : List Int) : c_s_DrawFlightsFor.start c_s_DrawFlightsFor.L (code0, ()) = s_DrawFlightsFor code0 := by kernel_rfl
noncomputable def F_s_DrawFlightsFor : Ins c_s_DrawFlightsFor.ins → Option (Int × Int × Int) := fun x => s_DrawFlightsFor x.1
noncomputable def S_s_DrawFlightsFor : FSpec := mkF c_s_DrawFlightsFor.env.pre c_s_DrawFlightsFor.ins c_s_DrawFlightsFor.out c_s_DrawFlightsFor.inj F_s_DrawFlightsFor
theorem h_s_DrawFlightsFor : Cert Tryz.prog 58 S_s_DrawFlightsFor := FnCx.certF (c := c_s_DrawFlightsFor) F_s_DrawFlightsFor (tyOk _ _ _) (spOk ⟨h_s_l1Cur_high, fun _ _ h => h, ⟨h_s_l1Cur_among, fun _ _ h => h, trivial⟩⟩) (fun _ _ _ _ _ hs => noDr_ok) Tryz.func58 rfl rfl Tryz.ntmps58 (by kernel_rfl) rfl rfl (fun _ => rfl) trivial (fun x => .inl ⟨c_s_DrawFlightsFor.start () x, fun _ => rfl⟩) (fun x t hb ht => by
  obtain ⟨code0, _⟩ := x
  exact (s_DrawFlightsFor_e code0).trans ht)
/-! spec.DrawWholeRisers -/
noncomputable def c_s_DrawWholeRisers : FnCx := { env := env 21 [(109, S_s_l1Cur_high), (73, S_s_l1Cur_among)] [], body := bodyOf Tryz.f61, res := [.tmp 2, .tmp 3, .tmp 4], ins := [.ro kSuint8], out := [(kint, true), (kint, true), (kint, true)], T := Int × Int × Int, fin := fun r => (r.1.1, r.1.2.1, r.1.2.2.1), inj := fun t => ((t.1, t.2.1, t.2.2, ()), ((), ())), pts := [], fuel := 400, dr := noDr }
noncomputable def s_DrawWholeRisers (code0 : List Int) : Option (Int × Int × Int) :=
  Option.bind (s_l1Cur_high code0 0 0) fun r =>
    Option.bind (s_l1Cur_among (Prod.fst (Prod.snd r)) (Prod.fst (Prod.snd (Prod.snd r))) (Prod.snd (Prod.snd (Prod.snd r))) [1, 2, 3, 5, 0, 250]) fun r_1 =>
      Option.bind (s_l1Cur_among (Prod.fst (Prod.snd r_1)) (Prod.fst (Prod.snd (Prod.snd r_1))) (Prod.snd (Prod.snd (Prod.snd r_1))) [3, 5, 9, 20, 250, 251])
        fun r_2 => some (Prod.fst r, Prod.fst r_1, Prod.fst r_2)
theorem s_DrawWholeRisers_e (code0 : List Int) : c_s_DrawWholeRisers.start c_s_DrawWholeRisers.L (code0, ()) = s_DrawWholeRisers code0 := by kernel_rfl
noncomputable def F_s_DrawWholeRisers : Ins c_s_DrawWholeRisers.ins → Option (Int × Int × Int) := fun x => s_DrawWholeRisers x.1
noncomputable def S_s_DrawWholeRisers : FSpec := mkF c_s_DrawWholeRisers.env.pre c_s_DrawWholeRisers.ins c_s_DrawWholeRisers.out c_s_DrawWholeRisers.inj F_s_DrawWholeRisers
theorem h_s_DrawWholeRisers : Cert Tryz.prog 61 S_s_DrawWholeRisers := FnCx.certF (c := c_s_DrawWholeRisers) F_s_DrawWholeRisers (tyOk _ _ _) (spOk ⟨h_s_l1Cur_high, fun _ _ h => h, ⟨h_s_l1Cur_among, fun _ _ h => h, trivial⟩⟩) (fun _ _ _ _ _ hs => noDr_ok) Tryz.func61 rfl rfl Tryz.ntmps61 (by kernel_rfl) rfl rfl (fun _ => rfl) trivial (fun x => .inl ⟨c_s_DrawWholeRisers.start () x, fun _ => rfl⟩) (fun x t hb ht => by
  obtain ⟨code0, _⟩ := x
  exact (s_DrawWholeRisers_e code0).trans ht)
/-! (*spec.l1Cur).spoilt -/
noncomputable def c_s_l1Cur_spoilt : FnCx := { env := env 68 [(99, S_s_l1Cur_pick)] [], body := bodyOf Tryz.f94, res := [.tmp 6], ins := [.ptr 77 ksl1Cur, .ro kstring, .ro kstring], out := [(kstring, true)], T := ByteArray × (List Int × Int × Int), fin := fun r => (r.1.1, r.2.1), inj := fun t => ((t.1, ()), (t.2, (), (), ())), pts := [([.inLoop [1, 0, 1, 0, 0], .inBlock 0, .code [1, 1]], Shape.mk [Bs.box 77 [Cs.sl 1, Cs.sc kint, Cs.sc kuint64], Bs.row kuint8 5 false] [(0, Ss.one (Cs.ptr 0 0)), (1, Ss.one (Cs.sc kstring)), (2, Ss.one (Cs.sc kstring)), (7, Ss.one (Cs.sc kint))] [Ss.one (Cs.ptr 0 0), Ss.one (Cs.any), Ss.one (Cs.any)])], fuel := 400, dr := evDr (env 68 [(99, S_s_l1Cur_pick)] []) }
noncomputable def s_l1Cur_spoilt_t1 (g1 : Int → Int → List (Int) → ByteArray → ByteArray → Int → Option (ByteArray × (List Int × Int × Int))) (b0_1 : Int) (b0_2 : Int) (r1 : List (Int)) (t1 : ByteArray) (with2 : ByteArray) (n7 : Int) : Option (ByteArray × (List Int × Int × Int)) :=
  bif decide (n7 > 0) then
    bif decide ((↑(ByteArray.size t1) : Int) > 0) then
      Option.bind (s_l1Cur_pick r1 b0_1 b0_2 (↑(ByteArray.size t1) : Int)) fun r =>
        Option.bind (s_l1Cur_pick (Prod.fst (Prod.snd r)) (Prod.fst (Prod.snd (Prod.snd r))) (Prod.snd (Prod.snd (Prod.snd r))) (↑(ByteArray.size with2) : Int))
          fun r_1 =>
          bif decide (0 ≤ Prod.fst r_1) then
            bif decide (Prod.fst r_1 < (↑(ByteArray.size with2) : Int)) then
              Option.bind (s_l1Cur_pick (Prod.fst (Prod.snd r_1)) (Prod.fst (Prod.snd (Prod.snd r_1))) (Prod.snd (Prod.snd (Prod.snd r_1))) 3) fun r_2 =>
                bif Prod.fst r_2 == 0 then
                  bif decide (0 ≤ Prod.fst r) then
                    bif decide (Prod.fst r ≤ (↑(ByteArray.size t1) : Int)) then
                      bif
                          Nat.ble
                            (ByteArray.size (ByteArray.extract t1 (Int.toNat 0) (Int.toNat (Prod.fst r))) +
                              ByteArray.size (List.foldl (fun r n => ByteArray.push r (UInt8.ofNat (Int.toNat n))) ByteArray.empty [bt with2 (Prod.fst r_1)]))
                            9223372036854775807 then
                        bif decide (0 ≤ Prod.fst r) then
                          bif decide (Prod.fst r ≤ (↑(ByteArray.size t1) : Int)) then
                            bif
                                Nat.ble
                                  (ByteArray.size
                                      (ByteArray.extract t1 (Int.toNat 0) (Int.toNat (Prod.fst r)) ++
                                        List.foldl (fun r n => ByteArray.push r (UInt8.ofNat (Int.toNat n))) ByteArray.empty [bt with2 (Prod.fst r_1)]) +
                                    ByteArray.size (ByteArray.extract t1 (Int.toNat (Prod.fst r)) (Int.toNat (↑(ByteArray.size t1) : Int))))
                                  9223372036854775807 then
                              g1 (Prod.fst (Prod.snd (Prod.snd r_2))) (Prod.snd (Prod.snd (Prod.snd r_2))) (Prod.fst (Prod.snd r_2))
                                (ByteArray.extract t1 (Int.toNat 0) (Int.toNat (Prod.fst r)) ++
                                    List.foldl (fun r n => ByteArray.push r (UInt8.ofNat (Int.toNat n))) ByteArray.empty [bt with2 (Prod.fst r_1)] ++
                                  ByteArray.extract t1 (Int.toNat (Prod.fst r)) (Int.toNat (↑(ByteArray.size t1) : Int)))
                                with2 (IntKind.wrap IntKind.i64 (n7 - 1))
                            else none
                          else none
                        else none
                      else none
                    else none
                  else none
                else
                  bif Prod.fst r_2 == 1 then
                    bif decide (0 ≤ Prod.fst r) then
                      bif decide (Prod.fst r ≤ (↑(ByteArray.size t1) : Int)) then
                        bif
                            Nat.ble
                              (ByteArray.size (ByteArray.extract t1 (Int.toNat 0) (Int.toNat (Prod.fst r))) +
                                ByteArray.size (List.foldl (fun r n => ByteArray.push r (UInt8.ofNat (Int.toNat n))) ByteArray.empty [bt with2 (Prod.fst r_1)]))
                              9223372036854775807 then
                          bif decide (0 ≤ IntKind.wrap IntKind.i64 (Prod.fst r + 1)) then
                            bif decide (IntKind.wrap IntKind.i64 (Prod.fst r + 1) ≤ (↑(ByteArray.size t1) : Int)) then
                              bif
                                  Nat.ble
                                    (ByteArray.size
                                        (ByteArray.extract t1 (Int.toNat 0) (Int.toNat (Prod.fst r)) ++
                                          List.foldl (fun r n => ByteArray.push r (UInt8.ofNat (Int.toNat n))) ByteArray.empty [bt with2 (Prod.fst r_1)]) +
                                      ByteArray.size
                                        (ByteArray.extract t1 (Int.toNat (IntKind.wrap IntKind.i64 (Prod.fst r + 1))) (Int.toNat (↑(ByteArray.size t1) : Int))))
                                    9223372036854775807 then
                                g1 (Prod.fst (Prod.snd (Prod.snd r_2))) (Prod.snd (Prod.snd (Prod.snd r_2))) (Prod.fst (Prod.snd r_2))
                                  (ByteArray.extract t1 (Int.toNat 0) (Int.toNat (Prod.fst r)) ++
                                      List.foldl (fun r n => ByteArray.push r (UInt8.ofNat (Int.toNat n))) ByteArray.empty [bt with2 (Prod.fst r_1)] ++
                                    ByteArray.extract t1 (Int.toNat (IntKind.wrap IntKind.i64 (Prod.fst r + 1))) (Int.toNat (↑(ByteArray.size t1) : Int)))
                                  with2 (IntKind.wrap IntKind.i64 (n7 - 1))
                              else none
                            else none
                          else none
                        else none
                      else none
                    else none
                  else
                    bif decide (0 ≤ Prod.fst r) then
                      bif decide (Prod.fst r ≤ (↑(ByteArray.size t1) : Int)) then
                        bif decide (0 ≤ IntKind.wrap IntKind.i64 (Prod.fst r + 1)) then
                          bif decide (IntKind.wrap IntKind.i64 (Prod.fst r + 1) ≤ (↑(ByteArray.size t1) : Int)) then
                            bif
                                Nat.ble
                                  (ByteArray.size (ByteArray.extract t1 (Int.toNat 0) (Int.toNat (Prod.fst r))) +
                                    ByteArray.size
                                      (ByteArray.extract t1 (Int.toNat (IntKind.wrap IntKind.i64 (Prod.fst r + 1))) (Int.toNat (↑(ByteArray.size t1) : Int))))
                                  9223372036854775807 then
                              g1 (Prod.fst (Prod.snd (Prod.snd r_2))) (Prod.snd (Prod.snd (Prod.snd r_2))) (Prod.fst (Prod.snd r_2))
                                (ByteArray.extract t1 (Int.toNat 0) (Int.toNat (Prod.fst r)) ++
                                  ByteArray.extract t1 (Int.toNat (IntKind.wrap IntKind.i64 (Prod.fst r + 1))) (Int.toNat (↑(ByteArray.size t1) : Int)))
                                with2 (IntKind.wrap IntKind.i64 (n7 - 1))
                            else none
                          else none
                        else none
                      else none
                    else none
            else none
          else none
    else some (t1, r1, b0_1, b0_2)
  else some (t1, r1, b0_1, b0_2)
noncomputable def s_l1Cur_spoilt_t0 (g1 : Int → Int → List (Int) → ByteArray → ByteArray → Int → Option (ByteArray × (List Int × Int × Int))) (c0_code : List Int) (c0_at : Int) (c0_seed : Int) (t1 : ByteArray) (with2 : ByteArray) : Option (ByteArray × (List Int × Int × Int)) :=
  Option.bind (s_l1Cur_pick c0_code c0_at c0_seed 2) fun r =>
    g1 (Prod.fst (Prod.snd (Prod.snd r))) (Prod.snd (Prod.snd (Prod.snd r))) (Prod.fst (Prod.snd r)) t1 with2 (IntKind.wrap IntKind.i64 (1 + Prod.fst r))
theorem s_l1Cur_spoilt_ts : Tails c_s_l1Cur_spoilt.pts c_s_l1Cur_spoilt.round :=
  ⟨fun s => by
    obtain ⟨⟨⟨_, b0_1, b0_2, _⟩, r1, _⟩, ⟨_, t1, with2, n7, _⟩, ⟨_, _, _, _⟩⟩ := s
    refine Tail.eq (Y := fun g => s_l1Cur_spoilt_t1 (fun b0_1 b0_2 r1 t1 with2 n7 => g.1 ((((), b0_1, b0_2, ()), r1, ()), ((), t1, with2, n7, ()), ((), (), (), ()))) b0_1 b0_2 r1 t1 with2 n7) ?_ (fun g => by kernel_rfl)
    simp only [s_l1Cur_spoilt_t1]; repeat (first | apply Tail.cond | (apply Tail.bind; intro _) | exact Tail.here _ | exact Tail.there (Tail.here _) | exact Tail.there (Tail.there (Tail.here _)) | exact Tail.there (Tail.there (Tail.there (Tail.here _))) | exact Tail.there (Tail.there (Tail.there (Tail.there (Tail.here _)))) | exact Tail.there (Tail.there (Tail.there (Tail.there (Tail.there (Tail.here _))))) | exact Tail.const _), trivial⟩
theorem s_l1Cur_spoilt_hs : ∀ x, Tail c_s_l1Cur_spoilt.pts (fun g => c_s_l1Cur_spoilt.start g x) := fun x => by
    obtain ⟨⟨c0_code, c0_at, c0_seed⟩, t1, with2, _⟩ := x
    refine Tail.eq (Y := fun g => s_l1Cur_spoilt_t0 (fun b0_1 b0_2 r1 t1 with2 n7 => g.1 ((((), b0_1, b0_2, ()), r1, ()), ((), t1, with2, n7, ()), ((), (), (), ()))) c0_code c0_at c0_seed t1 with2) ?_ (fun g => by kernel_rfl)
    simp only [s_l1Cur_spoilt_t0]; repeat (first | apply Tail.cond | (apply Tail.bind; intro _) | exact Tail.here _ | exact Tail.there (Tail.here _) | exact Tail.there (Tail.there (Tail.here _)) | exact Tail.there (Tail.there (Tail.there (Tail.here _))) | exact Tail.there (Tail.there (Tail.there (Tail.there (Tail.here _)))) | exact Tail.there (Tail.there (Tail.there (Tail.there (Tail.there (Tail.here _))))) | exact Tail.const _)
noncomputable def s_l1Cur_spoilt_L1 (b0_1 : Int) (b0_2 : Int) (r1 : List (Int)) (t1 : ByteArray) (with2 : ByteArray) (n7 : Int) : Option (ByteArray × (List Int × Int × Int)) := c_s_l1Cur_spoilt.L.1 ((((), b0_1, b0_2, ()), r1, ()), ((), t1, with2, n7, ()), ((), (), (), ()))
theorem s_l1Cur_spoilt_u1 (b0_1 : Int) (b0_2 : Int) (r1 : List (Int)) (t1 : ByteArray) (with2 : ByteArray) (n7 : Int) : s_l1Cur_spoilt_L1 b0_1 b0_2 r1 t1 with2 n7 = s_l1Cur_spoilt_t1 s_l1Cur_spoilt_L1 b0_1 b0_2 r1 t1 with2 n7 :=
  (congrArg (fun g => g.1 ((((), b0_1, b0_2, ()), r1, ()), ((), t1, with2, n7, ()), ((), (), (), ()))) (FnCx.L_eq s_l1Cur_spoilt_ts)).trans (by kernel_rfl)
noncomputable def s_l1Cur_spoilt (c0_code : List Int) (c0_at : Int) (c0_seed : Int) (t1 : ByteArray) (with2 : ByteArray) : Option (ByteArray × (List Int × Int × Int)) := s_l1Cur_spoilt_t0 s_l1Cur_spoilt_L1 c0_code c0_at c0_seed t1 with2
theorem s_l1Cur_spoilt_e (c0_code : List Int) (c0_at : Int) (c0_seed : Int) (t1 : ByteArray) (with2 : ByteArray) : c_s_l1Cur_spoilt.start c_s_l1Cur_spoilt.L ((c0_code, c0_at, c0_seed), t1, with2, ()) = s_l1Cur_spoilt c0_code c0_at c0_seed t1 with2 := by kernel_rfl
noncomputable def F_s_l1Cur_spoilt : Ins c_s_l1Cur_spoilt.ins → Option (ByteArray × (List Int × Int × Int)) := fun x => s_l1Cur_spoilt x.1.1 x.1.2.1 x.1.2.2 x.2.1 x.2.2.1
noncomputable def S_s_l1Cur_spoilt : FSpec := mkF c_s_l1Cur_spoilt.env.pre c_s_l1Cur_spoilt.ins c_s_l1Cur_spoilt.out c_s_l1Cur_spoilt.inj F_s_l1Cur_spoilt
theorem h_s_l1Cur_spoilt : Cert Tryz.prog 94 S_s_l1Cur_spoilt := FnCx.certF (c := c_s_l1Cur_spoilt) F_s_l1Cur_spoilt (tyOk _ _ _) (spOk ⟨h_s_l1Cur_pick, fun _ _ h => h, trivial⟩) (fun _ _ _ _ _ hs => evDr_ok (tyOk _ _ _) hs follows) Tryz.func94 rfl rfl Tryz.ntmps94 (by kernel_rfl) rfl rfl (fun _ => rfl) s_l1Cur_spoilt_ts s_l1Cur_spoilt_hs (fun x t hb ht => by
  obtain ⟨⟨c0_code, c0_at, c0_seed⟩, t1, with2, _⟩ := x
  exact (s_l1Cur_spoilt_e c0_code c0_at c0_seed t1 with2).trans ht)
/-! spec.DrawParseFlight -/
noncomputable def c_s_DrawParseFlight : FnCx := { env := env 17 [(113, S_s_l1Cur_sureFlight), (106, S_s_riText), (85, S_s_l1Cur_one), (94, S_s_l1Cur_spoilt)] [], body := bodyOf Tryz.f64, res := [.tmp 2], ins := [.ro kSuint8], out := [(kstring, true)], T := ByteArray, fin := fun r => r.1.1, inj := fun t => ((t, ()), ((), ())), pts := [], fuel := 400, dr := noDr }
noncomputable def s_DrawParseFlight (code0 : List Int) : Option ByteArray :=
  Option.bind (s_l1Cur_sureFlight code0 0 0) fun r =>
    Option.bind (s_riText (Prod.fst (Prod.fst r)) (Prod.fst (Prod.snd (Prod.fst r))) (Prod.snd (Prod.snd (Prod.fst r)))) fun r_1 =>
      Option.bind (s_l1Cur_one (Prod.fst (Prod.snd r)) (Prod.fst (Prod.snd (Prod.snd r))) (Prod.snd (Prod.snd (Prod.snd r))) 3) fun r =>
        bif Prod.fst r then
          Option.bind
            (s_l1Cur_spoilt (Prod.fst (Prod.snd r)) (Prod.fst (Prod.snd (Prod.snd r))) (Prod.snd (Prod.snd (Prod.snd r))) r_1
              { data := #[48, 49, 50, 51, 114, 116, 120] })
            fun r => some (Prod.fst r)
        else some r_1
theorem s_DrawParseFlight_e (code0 : List Int) : c_s_DrawParseFlight.start c_s_DrawParseFlight.L (code0, ()) = s_DrawParseFlight code0 := by kernel_rfl
noncomputable def F_s_DrawParseFlight : Ins c_s_DrawParseFlight.ins → Option ByteArray := fun x => s_DrawParseFlight x.1
noncomputable def S_s_DrawParseFlight : FSpec := mkF c_s_DrawParseFlight.env.pre c_s_DrawParseFlight.ins c_s_DrawParseFlight.out c_s_DrawParseFlight.inj F_s_DrawParseFlight
theorem h_s_DrawParseFlight : Cert Tryz.prog 64 S_s_DrawParseFlight := FnCx.certF (c := c_s_DrawParseFlight) F_s_DrawParseFlight (tyOk _ _ _) (spOk ⟨h_s_l1Cur_sureFlight, fun _ _ h => h, ⟨h_s_riText, fun _ _ h => h, ⟨h_s_l1Cur_one, fun _ _ h => h, ⟨h_s_l1Cur_spoilt, fun _ _ h => h, trivial⟩⟩⟩⟩) (fun _ _ _ _ _ hs => noDr_ok) Tryz.func64 rfl rfl Tryz.ntmps64 (by kernel_rfl) rfl rfl (fun _ => rfl) trivial (fun x => .inl ⟨c_s_DrawParseFlight.start () x, fun _ => rfl⟩) (fun x t hb ht => by
  obtain ⟨code0, _⟩ := x
  exact (s_DrawParseFlight_e code0).trans ht)
/-! laws.FnRisersFit -/
noncomputable def c_w_FnRisersFit : FnCx := { env := env 647 [(5, S_w_big), (34, S_s_DrawWholeLine), (35, S_i_WholeLine), (36, S_s_WholeLine), (37, S_i_HeightOf), (38, S_s_HeightOf), (39, S_i_RunOf), (40, S_s_RunOf), (41, S_i_SlopeOf), (42, S_s_SlopeOf), (43, S_i_PaceSum), (44, S_s_PaceSum), (45, S_i_LineSquare), (46, S_s_LineSquare), (47, S_i_FlightText), (48, S_s_FlightText), (49, S_i_IsFlight), (50, S_s_IsFlight), (51, S_i_ParseFlight), (52, S_w_lIs), (53, S_i_TreadFor), (54, S_i_HeightAtRun), (55, S_s_DrawEvenRisers), (56, S_i_EvenRisers), (57, S_s_EvenRisers), (58, S_s_DrawFlightsFor), (59, S_i_FlightsFor), (60, S_s_FlightsFor), (61, S_s_DrawWholeRisers), (62, S_i_WholeRisers), (63, S_s_WholeRisers), (64, S_s_DrawParseFlight), (65, S_s_ParseFlight), (66, S_w_lSame), (67, S_w_lFlights), (68, S_w_lSum), (69, S_w_lHas), (70, S_w_lRises)] [], body := bodyOf Tryz.f4, res := [.tmp 4], ins := [.ro kSuint8, .ro kSuint8], out := [(kbool, true)], T := Bool, fin := fun r => r.1.1, inj := fun t => ((t, ()), ((), (), ())), pts := [([.code [1, 1, 1, 1, 1, 1, 1, 1, 1, 1, 1, 1, 1, 1, 1, 1, 1, 1]], Shape.mk [Bs.row kuint8 5 false, Bs.box 52 [Cs.sc kint, Cs.sc kint, Cs.sc kint]] [(1, Ss.one (Cs.sl 0)), (5, Ss.one (Cs.ptr 1 0)), (6, Ss.one (Cs.sc kint)), (7, Ss.one (Cs.sc kbool)), (10, Ss.one (Cs.sc kint)), (11, Ss.one (Cs.sc kbool)), (14, Ss.one (Cs.sc kint)), (18, Ss.one (Cs.sc kint)), (19, Ss.one (Cs.sc kint)), (24, Ss.one (Cs.sc kint)), (28, Ss.one (Cs.sc kint)), (32, Ss.one (Cs.sc kstring))] [Ss.one (Cs.any), Ss.one (Cs.any)]), ([.code [1, 1, 1, 1, 1, 1, 1, 1, 1, 1, 1, 1, 1, 1, 1, 1, 1, 1, 1]], Shape.mk [Bs.row kuint8 5 false] [(1, Ss.one (Cs.sl 0))] [Ss.one (Cs.any), Ss.one (Cs.any)]), ([.code [1, 1, 1, 1, 1, 1, 1, 1, 1, 1, 1, 1, 1, 1, 1, 1, 1, 1, 0, 1, 0, 1, 1], .code [1, 1, 1, 1, 1, 1, 1, 1, 1, 1, 1, 1, 1, 1, 1, 1, 1, 1, 1]], Shape.mk [Bs.row kuint8 5 false, Bs.box 52 [Cs.sc kint, Cs.sc kint, Cs.sc kint]] [(1, Ss.one (Cs.sl 0)), (5, Ss.one (Cs.ptr 1 0)), (10, Ss.one (Cs.sc kint)), (14, Ss.one (Cs.sc kint)), (24, Ss.one (Cs.sc kint))] [Ss.one (Cs.any), Ss.one (Cs.any)]), ([.code [1, 1, 1, 1, 1, 1, 1, 1, 1, 1, 1, 1, 1, 1, 1, 1, 1, 1, 1, 1, 1, 1, 1, 1, 1, 1, 1, 1, 1, 1, 1, 1, 1]], Shape.mk [Bs.row kFlight 52 true, Bs.row kint 3 true, Bs.box 52 [Cs.sc kint, Cs.sc kint, Cs.sc kint]] [(48, Ss.one (Cs.sc kint)), (49, Ss.one (Cs.sc kint)), (50, Ss.one (Cs.sc kint)), (51, Ss.one (Cs.sl 0)), (55, Ss.one (Cs.sc kint)), (56, Ss.one (Cs.sc kint)), (57, Ss.one (Cs.sc kint)), (58, Ss.one (Cs.sl 1)), (59, Ss.one (Cs.sc kbool)), (62, Ss.one (Cs.sc kstring)), (63, Ss.one (Cs.ptr 2 0)), (64, Ss.one (Cs.sc kbool))] [Ss.one (Cs.any), Ss.one (Cs.any)]), ([.code [1, 1, 1, 1, 1, 1, 1, 1, 1, 1, 1, 1, 1, 1, 1, 1, 1, 1, 1, 1, 1, 1, 1, 1, 1, 1, 1, 1, 1, 1, 1, 1, 1, 1, 1]], Shape.mk [Bs.box 52 [Cs.sc kint, Cs.sc kint, Cs.sc kint]] [(62, Ss.one (Cs.sc kstring)), (63, Ss.one (Cs.ptr 0 0)), (64, Ss.one (Cs.sc kbool))] [Ss.one (Cs.any), Ss.one (Cs.any)]), ([.inLoop [1, 1, 1, 1, 1, 1, 1, 1, 1, 1, 1, 1, 1, 1, 1, 1, 1, 1, 1, 1, 1, 1, 1, 1, 1, 1, 1, 1, 1, 1, 1, 1, 0, 1, 0, 1, 1, 0, 0], .inBlock 0, .code [1, 1, 1, 1, 1, 1, 1, 1, 1, 1, 1, 1, 1, 1, 1, 1, 1, 1, 1, 1, 1, 1, 1, 1, 1, 1, 1, 1, 1, 1, 1, 1, 1]], Shape.mk [Bs.row kint 3 false, Bs.row kFlight 52 true, Bs.row kint 3 true, Bs.box 52 [Cs.sc kint, Cs.sc kint, Cs.sc kint]] [(42, Ss.one (Cs.sc kint)), (43, Ss.one (Cs.sc kint)), (44, Ss.one (Cs.sl 0)), (48, Ss.one (Cs.sc kint)), (49, Ss.one (Cs.sc kint)), (50, Ss.one (Cs.sc kint)), (51, Ss.one (Cs.sl 1)), (55, Ss.one (Cs.sc kint)), (56, Ss.one (Cs.sc kint)), (57, Ss.one (Cs.sc kint)), (58, Ss.one (Cs.sl 2)), (59, Ss.one (Cs.sc kbool)), (62, Ss.one (Cs.sc kstring)), (63, Ss.one (Cs.ptr 3 0)), (64, Ss.one (Cs.sc kbool)), (503, Ss.one (Cs.sl 0)), (504, Ss.one (Cs.sc kint)), (505, Ss.one (Cs.sc kint))] [Ss.one (Cs.any), Ss.one (Cs.any)]), ([.inLoop [1, 1, 1, 1, 1, 1, 1, 1, 1, 1, 1, 1, 1, 1, 1, 1, 1, 1, 1, 1, 1, 1, 1, 1, 1, 1, 1, 1, 1, 1, 1, 1, 1, 0, 1, 0, 0], .inBlock 2, .code [1, 1, 1, 1, 1, 1, 1, 1, 1, 1, 1, 1, 1, 1, 1, 1, 1, 1, 1, 1, 1, 1, 1, 1, 1, 1, 1, 1, 1, 1, 1, 1, 1, 1]], Shape.mk [Bs.row kFlight 52 true, Bs.row kint 3 true, Bs.box 52 [Cs.sc kint, Cs.sc kint, Cs.sc kint]] [(48, Ss.one (Cs.sc kint)), (49, Ss.one (Cs.sc kint)), (50, Ss.one (Cs.sc kint)), (51, Ss.one (Cs.sl 0)), (55, Ss.one (Cs.sc kint)), (56, Ss.one (Cs.sc kint)), (57, Ss.one (Cs.sc kint)), (58, Ss.one (Cs.sl 1)), (59, Ss.one (Cs.sc kbool)), (62, Ss.one (Cs.sc kstring)), (63, Ss.one (Cs.ptr 2 0)), (64, Ss.one (Cs.sc kbool)), (542, Ss.one (Cs.sl 0)), (543, Ss.one (Cs.sc kint)), (544, Ss.one (Cs.sc kint))] [Ss.one (Cs.any), Ss.one (Cs.any)]), ([.inLoop [1, 1, 1, 1, 1, 1, 1, 1, 1, 1, 1, 1, 1, 1, 1, 1, 1, 1, 1, 1, 1, 1, 1, 1, 1, 1, 1, 1, 1, 1, 1, 1, 1, 1, 0, 1, 0, 0, 1, 0, 0], .inBlock 4, .code [1, 1, 1, 1, 1, 1, 1, 1, 1, 1, 1, 1, 1, 1, 1, 1, 1, 1, 1, 1, 1, 1, 1, 1, 1, 1, 1, 1, 1, 1, 1, 1, 1, 1, 0, 1, 0, 1], .code [1, 1, 1, 1, 1, 1, 1, 1, 1, 1, 1, 1, 1, 1, 1, 1, 1, 1, 1, 1, 1, 1, 1, 1, 1, 1, 1, 1, 1, 1, 1, 1, 1, 1, 1]], Shape.mk [Bs.row kint 3 true, Bs.box 52 [Cs.sc kint, Cs.sc kint, Cs.sc kint]] [(55, Ss.one (Cs.sc kint)), (56, Ss.one (Cs.sc kint)), (57, Ss.one (Cs.sc kint)), (58, Ss.one (Cs.sl 0)), (62, Ss.one (Cs.sc kstring)), (63, Ss.one (Cs.ptr 1 0)), (64, Ss.one (Cs.sc kbool)), (77, Ss.one (Cs.sc kint))] [Ss.one (Cs.any), Ss.one (Cs.any)])], fuel := 400, dr := evDr (env 647 [(5, S_w_big), (34, S_s_DrawWholeLine), (35, S_i_WholeLine), (36, S_s_WholeLine), (37, S_i_HeightOf), (38, S_s_HeightOf), (39, S_i_RunOf), (40, S_s_RunOf), (41, S_i_SlopeOf), (42, S_s_SlopeOf), (43, S_i_PaceSum), (44, S_s_PaceSum), (45, S_i_LineSquare), (46, S_s_LineSquare), (47, S_i_FlightText), (48, S_s_FlightText), (49, S_i_IsFlight), (50, S_s_IsFlight), (51, S_i_ParseFlight), (52, S_w_lIs), (53, S_i_TreadFor), (54, S_i_HeightAtRun), (55, S_s_DrawEvenRisers), (56, S_i_EvenRisers), (57, S_s_EvenRisers), (58, S_s_DrawFlightsFor), (59, S_i_FlightsFor), (60, S_s_FlightsFor), (61, S_s_DrawWholeRisers), (62, S_i_WholeRisers), (63, S_s_WholeRisers), (64, S_s_DrawParseFlight), (65, S_s_ParseFlight), (66, S_w_lSame), (67, S_w_lFlights), (68, S_w_lSum), (69, S_w_lHas), (70, S_w_lRises)] []) }
noncomputable def w_FnRisersFit_t1 (g1 : List (Int) → Int → Int → Int → Int → Bool → Int → Bool → Int → Int → Int → Int → Int → ByteArray → Option (Bool)) (g2 : List (Int) → Option (Bool)) (g3 : List (Int) → Int → Int → Int → Int → Int → Int → Option (Bool)) (g4 : List (Int × (Int × Int)) → List (Int) → Int → Int → Int → Int → Int → Int → Int → Int → Int → Bool → ByteArray → Bool → Option (Bool)) (g5 : Int → Int → Int → ByteArray → Bool → Option (Bool)) (g6 : List (Int) → List (Int × (Int × Int)) → List (Int) → Int → Int → Int → Int → Int → Int → Int → Int → Int → Int → Int → Bool → ByteArray → Bool → Int → Int → Option (Bool)) (g7 : List (Int × (Int × Int)) → List (Int) → Int → Int → Int → Int → Int → Int → Int → Int → Int → Bool → ByteArray → Bool → Int → Int → Option (Bool)) (g8 : List (Int) → Int → Int → Int → Int → Int → Int → ByteArray → Bool → Int → Option (Bool)) (r0 : List (Int)) (b1_0 : Int) (b1_1 : Int) (b1_2 : Int) (line6 : Int) (ok7 : Bool) (high10 : Int) (one11 : Bool) (run14 : Int) (num18 : Int) (den19 : Int) (sum24 : Int) (square28 : Int) (text32 : ByteArray) : Option Bool :=
  bif one11 then
    Option.bind (i_ParseFlight text32) fun r =>
      bif high10 != IntKind.wrap IntKind.i64 (b1_0 * b1_1) then some false
      else
        bif run14 != IntKind.wrap IntKind.i64 (IntKind.wrap IntKind.i64 (b1_0 - 1) * b1_2) then some false
        else
          Option.bind (w_lIs num18 den19 b1_1 b1_2) fun r_1 =>
            bif !r_1 then some false
            else
              bif sum24 != IntKind.wrap IntKind.i64 (IntKind.wrap IntKind.i64 (2 * b1_1) + b1_2) then some false
              else
                bif square28 != IntKind.wrap IntKind.i64 (IntKind.wrap IntKind.i64 (high10 * high10) + IntKind.wrap IntKind.i64 (run14 * run14)) then some false
                else
                  bif ok7 then
                    bif IntKind.wrap IntKind.i64 (line6 * line6) != square28 then some false
                    else
                      bif !Prod.snd r then some false
                      else
                        bif !(Prod.fst (Prod.fst r) == b1_0 && (Prod.fst (Prod.snd (Prod.fst r)) == b1_1 && Prod.snd (Prod.snd (Prod.fst r)) == b1_2)) then
                          some false
                        else g3 r0 b1_0 b1_1 b1_2 high10 run14 sum24
                  else
                    bif !Prod.snd r then some false
                    else
                      bif !(Prod.fst (Prod.fst r) == b1_0 && (Prod.fst (Prod.snd (Prod.fst r)) == b1_1 && Prod.snd (Prod.snd (Prod.fst r)) == b1_2)) then
                        some false
                      else g3 r0 b1_0 b1_1 b1_2 high10 run14 sum24
  else g2 r0
noncomputable def w_FnRisersFit_t2 (g1 : List (Int) → Int → Int → Int → Int → Bool → Int → Bool → Int → Int → Int → Int → Int → ByteArray → Option (Bool)) (g2 : List (Int) → Option (Bool)) (g3 : List (Int) → Int → Int → Int → Int → Int → Int → Option (Bool)) (g4 : List (Int × (Int × Int)) → List (Int) → Int → Int → Int → Int → Int → Int → Int → Int → Int → Bool → ByteArray → Bool → Option (Bool)) (g5 : Int → Int → Int → ByteArray → Bool → Option (Bool)) (g6 : List (Int) → List (Int × (Int × Int)) → List (Int) → Int → Int → Int → Int → Int → Int → Int → Int → Int → Int → Int → Bool → ByteArray → Bool → Int → Int → Option (Bool)) (g7 : List (Int × (Int × Int)) → List (Int) → Int → Int → Int → Int → Int → Int → Int → Int → Int → Bool → ByteArray → Bool → Int → Int → Option (Bool)) (g8 : List (Int) → Int → Int → Int → Int → Int → Int → ByteArray → Bool → Int → Option (Bool)) (r0 : List (Int)) : Option Bool :=
  Option.bind (s_DrawEvenRisers r0) fun r =>
    Option.bind (i_EvenRisers (Prod.fst r) (Prod.snd r)) fun r_1 =>
      Option.bind (s_EvenRisers (Prod.fst r) (Prod.snd r)) fun r_2 =>
        Option.bind (s_DrawFlightsFor r0) fun r_3 =>
          Option.bind (i_FlightsFor (Prod.fst r_3) (Prod.fst (Prod.snd r_3)) (Prod.snd (Prod.snd r_3))) fun r_4 =>
            Option.bind (s_FlightsFor (Prod.fst r_3) (Prod.fst (Prod.snd r_3)) (Prod.snd (Prod.snd r_3))) fun r_5 =>
              Option.bind (s_DrawWholeRisers r0) fun r_6 =>
                Option.bind (i_WholeRisers (Prod.fst r_6) (Prod.fst (Prod.snd r_6)) (Prod.snd (Prod.snd r_6))) fun r_7 =>
                  Option.bind (s_WholeRisers (Prod.fst r_6) (Prod.fst (Prod.snd r_6)) (Prod.snd (Prod.snd r_6))) fun r_8 =>
                    Option.bind (s_DrawParseFlight r0) fun r_9 =>
                      Option.bind (i_ParseFlight r_9) fun r_10 =>
                        Option.bind (s_ParseFlight r_9) fun r_11 =>
                          bif !Prod.snd r_1 == Prod.snd r_2 then some false
                          else
                            Option.bind (w_lSame (Prod.fst r_1) (Prod.fst r_2)) fun r_12 =>
                              bif !r_12 then some false
                              else
                                bif !Prod.snd r_4 == Prod.snd r_5 then some false
                                else
                                  Option.bind (w_lFlights (Prod.fst r_4) (Prod.fst r_5)) fun r_13 =>
                                    bif !r_13 then some false
                                    else
                                      bif !Prod.snd r_7 == Prod.snd r_8 then some false
                                      else
                                        Option.bind (w_lSame (Prod.fst r_7) (Prod.fst r_8)) fun r_14 =>
                                          bif !r_14 then some false
                                          else
                                            bif !Prod.snd r_10 == Prod.snd r_11 then some false
                                            else
                                              bif
                                                  !(Prod.fst (Prod.fst r_10) == Prod.fst (Prod.fst r_11) &&
                                                      (Prod.fst (Prod.snd (Prod.fst r_10)) == Prod.fst (Prod.snd (Prod.fst r_11)) &&
                                                        Prod.snd (Prod.snd (Prod.fst r_10)) == Prod.snd (Prod.snd (Prod.fst r_11)))) then
                                                some false
                                              else
                                                bif Prod.snd r_1 then
                                                  bif (↑(List.length (Prod.fst r_1)) : Int) != Prod.snd r then some false
                                                  else
                                                    Option.bind (w_lSum (Prod.fst r_1)) fun r_15 =>
                                                      bif r_15 != Prod.fst r then some false
                                                      else
                                                        g6 (Prod.fst r_1) (Prod.fst r_4) (Prod.fst r_7) (Prod.fst (Prod.fst r_10))
                                                          (Prod.fst (Prod.snd (Prod.fst r_10))) (Prod.snd (Prod.snd (Prod.fst r_10))) (Prod.fst r) (Prod.snd r)
                                                          (Prod.fst r_3) (Prod.fst (Prod.snd r_3)) (Prod.snd (Prod.snd r_3)) (Prod.fst r_6)
                                                          (Prod.fst (Prod.snd r_6)) (Prod.snd (Prod.snd r_6)) (Prod.snd r_7) r_9 (Prod.snd r_10)
                                                          (↑(List.length (Prod.fst r_1)) : Int) 0
                                                else
                                                  g4 (Prod.fst r_4) (Prod.fst r_7) (Prod.fst (Prod.fst r_10)) (Prod.fst (Prod.snd (Prod.fst r_10)))
                                                    (Prod.snd (Prod.snd (Prod.fst r_10))) (Prod.fst r_3) (Prod.fst (Prod.snd r_3)) (Prod.snd (Prod.snd r_3))
                                                    (Prod.fst r_6) (Prod.fst (Prod.snd r_6)) (Prod.snd (Prod.snd r_6)) (Prod.snd r_7) r_9 (Prod.snd r_10)
noncomputable def w_FnRisersFit_t3 (g1 : List (Int) → Int → Int → Int → Int → Bool → Int → Bool → Int → Int → Int → Int → Int → ByteArray → Option (Bool)) (g2 : List (Int) → Option (Bool)) (g3 : List (Int) → Int → Int → Int → Int → Int → Int → Option (Bool)) (g4 : List (Int × (Int × Int)) → List (Int) → Int → Int → Int → Int → Int → Int → Int → Int → Int → Bool → ByteArray → Bool → Option (Bool)) (g5 : Int → Int → Int → ByteArray → Bool → Option (Bool)) (g6 : List (Int) → List (Int × (Int × Int)) → List (Int) → Int → Int → Int → Int → Int → Int → Int → Int → Int → Int → Int → Bool → ByteArray → Bool → Int → Int → Option (Bool)) (g7 : List (Int × (Int × Int)) → List (Int) → Int → Int → Int → Int → Int → Int → Int → Int → Int → Bool → ByteArray → Bool → Int → Int → Option (Bool)) (g8 : List (Int) → Int → Int → Int → Int → Int → Int → ByteArray → Bool → Int → Option (Bool)) (r0 : List (Int)) (b1_0 : Int) (b1_1 : Int) (b1_2 : Int) (high10 : Int) (run14 : Int) (sum24 : Int) : Option Bool :=
  Option.bind (i_HeightAtRun b1_0 b1_1 b1_2 run14) fun r =>
    bif decide (sum24 ≤ 2000) then
      bif !Prod.snd (i_TreadFor b1_1 sum24) then some false
      else
        bif Prod.fst (i_TreadFor b1_1 sum24) != b1_2 then some false else bif !Prod.snd r then some false else bif Prod.fst r != high10 then some false else g2 r0
    else bif !Prod.snd r then some false else bif Prod.fst r != high10 then some false else g2 r0
noncomputable def w_FnRisersFit_t4 (g1 : List (Int) → Int → Int → Int → Int → Bool → Int → Bool → Int → Int → Int → Int → Int → ByteArray → Option (Bool)) (g2 : List (Int) → Option (Bool)) (g3 : List (Int) → Int → Int → Int → Int → Int → Int → Option (Bool)) (g4 : List (Int × (Int × Int)) → List (Int) → Int → Int → Int → Int → Int → Int → Int → Int → Int → Bool → ByteArray → Bool → Option (Bool)) (g5 : Int → Int → Int → ByteArray → Bool → Option (Bool)) (g6 : List (Int) → List (Int × (Int × Int)) → List (Int) → Int → Int → Int → Int → Int → Int → Int → Int → Int → Int → Int → Bool → ByteArray → Bool → Int → Int → Option (Bool)) (g7 : List (Int × (Int × Int)) → List (Int) → Int → Int → Int → Int → Int → Int → Int → Int → Int → Bool → ByteArray → Bool → Int → Int → Option (Bool)) (g8 : List (Int) → Int → Int → Int → Int → Int → Int → ByteArray → Bool → Int → Option (Bool)) (r0 : List (Int × (Int × Int))) (r1 : List (Int)) (b2_0 : Int) (b2_1 : Int) (b2_2 : Int) (tall48 : Int) (length49 : Int) (pace50 : Int) (a55 : Int) (low56 : Int) (most57 : Int) (seventeen59 : Bool) (s62 : ByteArray) (nineteen64 : Bool) : Option Bool :=
  g7 r0 r1 b2_0 b2_1 b2_2 tall48 length49 pace50 a55 low56 most57 seventeen59 s62 nineteen64 (↑(List.length r0) : Int) 0
noncomputable def w_FnRisersFit_t5 (g1 : List (Int) → Int → Int → Int → Int → Bool → Int → Bool → Int → Int → Int → Int → Int → ByteArray → Option (Bool)) (g2 : List (Int) → Option (Bool)) (g3 : List (Int) → Int → Int → Int → Int → Int → Int → Option (Bool)) (g4 : List (Int × (Int × Int)) → List (Int) → Int → Int → Int → Int → Int → Int → Int → Int → Int → Bool → ByteArray → Bool → Option (Bool)) (g5 : Int → Int → Int → ByteArray → Bool → Option (Bool)) (g6 : List (Int) → List (Int × (Int × Int)) → List (Int) → Int → Int → Int → Int → Int → Int → Int → Int → Int → Int → Int → Bool → ByteArray → Bool → Int → Int → Option (Bool)) (g7 : List (Int × (Int × Int)) → List (Int) → Int → Int → Int → Int → Int → Int → Int → Int → Int → Bool → ByteArray → Bool → Int → Int → Option (Bool)) (g8 : List (Int) → Int → Int → Int → Int → Int → Int → ByteArray → Bool → Int → Option (Bool)) (b0_0 : Int) (b0_1 : Int) (b0_2 : Int) (s62 : ByteArray) (nineteen64 : Bool) : Option Bool :=
  bif nineteen64 then
    Option.bind (i_FlightText b0_0 b0_1 b0_2) fun r => bif Prod.snd r then some (ByteArray.toList (Prod.fst r) == ByteArray.toList s62) else some false
  else some true
noncomputable def w_FnRisersFit_t6 (g1 : List (Int) → Int → Int → Int → Int → Bool → Int → Bool → Int → Int → Int → Int → Int → ByteArray → Option (Bool)) (g2 : List (Int) → Option (Bool)) (g3 : List (Int) → Int → Int → Int → Int → Int → Int → Option (Bool)) (g4 : List (Int × (Int × Int)) → List (Int) → Int → Int → Int → Int → Int → Int → Int → Int → Int → Bool → ByteArray → Bool → Option (Bool)) (g5 : Int → Int → Int → ByteArray → Bool → Option (Bool)) (g6 : List (Int) → List (Int × (Int × Int)) → List (Int) → Int → Int → Int → Int → Int → Int → Int → Int → Int → Int → Int → Bool → ByteArray → Bool → Int → Int → Option (Bool)) (g7 : List (Int × (Int × Int)) → List (Int) → Int → Int → Int → Int → Int → Int → Int → Int → Int → Bool → ByteArray → Bool → Int → Int → Option (Bool)) (g8 : List (Int) → Int → Int → Int → Int → Int → Int → ByteArray → Bool → Int → Option (Bool)) (r0 : List (Int)) (r1 : List (Int × (Int × Int))) (r2 : List (Int)) (b3_0 : Int) (b3_1 : Int) (b3_2 : Int) (h42 : Int) (risers43 : Int) (tall48 : Int) (length49 : Int) (pace50 : Int) (a55 : Int) (low56 : Int) (most57 : Int) (seventeen59 : Bool) (s62 : ByteArray) (nineteen64 : Bool) (s504 : Int) (s505 : Int) : Option Bool :=
  bif decide (s505 < s504) then
    bif decide (0 ≤ s505) then
      bif decide (s505 < (↑(List.length r0) : Int)) then
        bif risers43 == 0 then none
        else
          bif rdk kint r0 s505 != IntKind.wrap IntKind.i64 (Int.tdiv h42 risers43) then
            bif risers43 == 0 then none
            else
              bif rdk kint r0 s505 != IntKind.wrap IntKind.i64 (IntKind.wrap IntKind.i64 (Int.tdiv h42 risers43) + 1) then some false
              else
                bif decide (rdk kint r0 s505 < 1) then some false
                else
                  bif decide (0 ≤ IntKind.wrap IntKind.i64 (s505 + 1)) then
                    bif decide (IntKind.wrap IntKind.i64 (s505 + 1) ≤ (↑(List.length r0) : Int)) then
                      Option.bind (w_lSum (List.take (Int.toNat (IntKind.wrap IntKind.i64 (s505 + 1)) - Int.toNat 0) (List.drop (Int.toNat 0) r0))) fun r =>
                        bif risers43 == 0 then none
                        else
                          bif r != IntKind.wrap IntKind.i64 (Int.tdiv (IntKind.wrap IntKind.i64 (IntKind.wrap IntKind.i64 (s505 + 1) * h42)) risers43) then
                            some false
                          else
                            g6 r0 r1 r2 b3_0 b3_1 b3_2 h42 risers43 tall48 length49 pace50 a55 low56 most57 seventeen59 s62 nineteen64 s504
                              (IntKind.wrap IntKind.i64 (s505 + 1))
                    else none
                  else none
          else
            bif decide (rdk kint r0 s505 < 1) then some false
            else
              bif decide (0 ≤ IntKind.wrap IntKind.i64 (s505 + 1)) then
                bif decide (IntKind.wrap IntKind.i64 (s505 + 1) ≤ (↑(List.length r0) : Int)) then
                  Option.bind (w_lSum (List.take (Int.toNat (IntKind.wrap IntKind.i64 (s505 + 1)) - Int.toNat 0) (List.drop (Int.toNat 0) r0))) fun r =>
                    bif risers43 == 0 then none
                    else
                      bif r != IntKind.wrap IntKind.i64 (Int.tdiv (IntKind.wrap IntKind.i64 (IntKind.wrap IntKind.i64 (s505 + 1) * h42)) risers43) then some false
                      else
                        g6 r0 r1 r2 b3_0 b3_1 b3_2 h42 risers43 tall48 length49 pace50 a55 low56 most57 seventeen59 s62 nineteen64 s504
                          (IntKind.wrap IntKind.i64 (s505 + 1))
                else none
              else none
      else none
    else none
  else g4 r1 r2 b3_0 b3_1 b3_2 tall48 length49 pace50 a55 low56 most57 seventeen59 s62 nineteen64
noncomputable def w_FnRisersFit_t7 (g1 : List (Int) → Int → Int → Int → Int → Bool → Int → Bool → Int → Int → Int → Int → Int → ByteArray → Option (Bool)) (g2 : List (Int) → Option (Bool)) (g3 : List (Int) → Int → Int → Int → Int → Int → Int → Option (Bool)) (g4 : List (Int × (Int × Int)) → List (Int) → Int → Int → Int → Int → Int → Int → Int → Int → Int → Bool → ByteArray → Bool → Option (Bool)) (g5 : Int → Int → Int → ByteArray → Bool → Option (Bool)) (g6 : List (Int) → List (Int × (Int × Int)) → List (Int) → Int → Int → Int → Int → Int → Int → Int → Int → Int → Int → Int → Bool → ByteArray → Bool → Int → Int → Option (Bool)) (g7 : List (Int × (Int × Int)) → List (Int) → Int → Int → Int → Int → Int → Int → Int → Int → Int → Bool → ByteArray → Bool → Int → Int → Option (Bool)) (g8 : List (Int) → Int → Int → Int → Int → Int → Int → ByteArray → Bool → Int → Option (Bool)) (r0 : List (Int × (Int × Int))) (r1 : List (Int)) (b2_0 : Int) (b2_1 : Int) (b2_2 : Int) (tall48 : Int) (length49 : Int) (pace50 : Int) (a55 : Int) (low56 : Int) (most57 : Int) (seventeen59 : Bool) (s62 : ByteArray) (nineteen64 : Bool) (s543 : Int) (s544 : Int) : Option Bool :=
  bif decide (s544 < s543) then
    bif decide (0 ≤ s544) then
      bif decide (s544 < (↑(List.length r0) : Int)) then
        bif
            !Prod.snd
                (i_HeightOf (Prod.fst (rdk kFlight r0 s544))
                  (Prod.fst (Prod.snd (rdk kFlight r0 s544)))
                  (Prod.snd (Prod.snd (rdk kFlight r0 s544)))) then
          some false
        else
          bif
              Prod.fst
                  (i_HeightOf (Prod.fst (rdk kFlight r0 s544))
                    (Prod.fst (Prod.snd (rdk kFlight r0 s544)))
                    (Prod.snd (Prod.snd (rdk kFlight r0 s544)))) !=
                tall48 then
            some false
          else
            bif
                !Prod.snd
                    (i_RunOf (Prod.fst (rdk kFlight r0 s544))
                      (Prod.fst (Prod.snd (rdk kFlight r0 s544)))
                      (Prod.snd (Prod.snd (rdk kFlight r0 s544)))) then
              some false
            else
              bif
                  decide
                    (Prod.fst
                        (i_RunOf (Prod.fst (rdk kFlight r0 s544))
                          (Prod.fst (Prod.snd (rdk kFlight r0 s544)))
                          (Prod.snd (Prod.snd (rdk kFlight r0 s544)))) >
                      length49) then
                some false
              else
                bif
                    !Prod.snd
                        (i_PaceSum (Prod.fst (rdk kFlight r0 s544))
                          (Prod.fst (Prod.snd (rdk kFlight r0 s544)))
                          (Prod.snd (Prod.snd (rdk kFlight r0 s544)))) then
                  some false
                else
                  bif
                      Prod.fst
                          (i_PaceSum (Prod.fst (rdk kFlight r0 s544))
                            (Prod.fst (Prod.snd (rdk kFlight r0 s544)))
                            (Prod.snd (Prod.snd (rdk kFlight r0 s544)))) !=
                        pace50 then
                    some false
                  else
                    bif decide (s544 > 0) then
                      bif decide (0 ≤ IntKind.wrap IntKind.i64 (s544 - 1)) then
                        bif decide (IntKind.wrap IntKind.i64 (s544 - 1) < (↑(List.length r0) : Int)) then
                          bif
                              decide
                                (Prod.fst
                                    (rdk kFlight r0
                                      (IntKind.wrap IntKind.i64 (s544 - 1))) ≥
                                  Prod.fst (rdk kFlight r0 s544)) then
                            some false
                          else
                            g7 r0 r1 b2_0 b2_1 b2_2 tall48 length49 pace50 a55 low56 most57 seventeen59 s62 nineteen64 s543 (IntKind.wrap IntKind.i64 (s544 + 1))
                        else none
                      else none
                    else g7 r0 r1 b2_0 b2_1 b2_2 tall48 length49 pace50 a55 low56 most57 seventeen59 s62 nineteen64 s543 (IntKind.wrap IntKind.i64 (s544 + 1))
      else none
    else none
  else bif seventeen59 then g8 r1 b2_0 b2_1 b2_2 a55 low56 most57 s62 nineteen64 1 else g5 b2_0 b2_1 b2_2 s62 nineteen64
noncomputable def w_FnRisersFit_t8 (g1 : List (Int) → Int → Int → Int → Int → Bool → Int → Bool → Int → Int → Int → Int → Int → ByteArray → Option (Bool)) (g2 : List (Int) → Option (Bool)) (g3 : List (Int) → Int → Int → Int → Int → Int → Int → Option (Bool)) (g4 : List (Int × (Int × Int)) → List (Int) → Int → Int → Int → Int → Int → Int → Int → Int → Int → Bool → ByteArray → Bool → Option (Bool)) (g5 : Int → Int → Int → ByteArray → Bool → Option (Bool)) (g6 : List (Int) → List (Int × (Int × Int)) → List (Int) → Int → Int → Int → Int → Int → Int → Int → Int → Int → Int → Int → Bool → ByteArray → Bool → Int → Int → Option (Bool)) (g7 : List (Int × (Int × Int)) → List (Int) → Int → Int → Int → Int → Int → Int → Int → Int → Int → Bool → ByteArray → Bool → Int → Int → Option (Bool)) (g8 : List (Int) → Int → Int → Int → Int → Int → Int → ByteArray → Bool → Int → Option (Bool)) (r0 : List (Int)) (b1_0 : Int) (b1_1 : Int) (b1_2 : Int) (a55 : Int) (low56 : Int) (most57 : Int) (s62 : ByteArray) (nineteen64 : Bool) (n77 : Int) : Option Bool :=
  bif decide (n77 ≤ 100) then
    Option.bind (w_lHas r0 n77) fun r =>
      bif n77 == 0 then none
      else
        bif Int.tmod a55 n77 == 0 then
          bif n77 == 0 then none
          else
            bif decide (IntKind.wrap IntKind.i64 (Int.tdiv a55 n77) ≥ low56) then
              bif n77 == 0 then none
              else
                bif !r == decide (IntKind.wrap IntKind.i64 (Int.tdiv a55 n77) ≤ most57) then some false
                else g8 r0 b1_0 b1_1 b1_2 a55 low56 most57 s62 nineteen64 (IntKind.wrap IntKind.i64 (n77 + 1))
            else bif !r == false then some false else g8 r0 b1_0 b1_1 b1_2 a55 low56 most57 s62 nineteen64 (IntKind.wrap IntKind.i64 (n77 + 1))
        else bif !r == false then some false else g8 r0 b1_0 b1_1 b1_2 a55 low56 most57 s62 nineteen64 (IntKind.wrap IntKind.i64 (n77 + 1))
  else Option.bind (w_lRises r0) fun r => bif !r then some false else g5 b1_0 b1_1 b1_2 s62 nineteen64
noncomputable def w_FnRisersFit_t0 (g1 : List (Int) → Int → Int → Int → Int → Bool → Int → Bool → Int → Int → Int → Int → Int → ByteArray → Option (Bool)) (g2 : List (Int) → Option (Bool)) (g3 : List (Int) → Int → Int → Int → Int → Int → Int → Option (Bool)) (g4 : List (Int × (Int × Int)) → List (Int) → Int → Int → Int → Int → Int → Int → Int → Int → Int → Bool → ByteArray → Bool → Option (Bool)) (g5 : Int → Int → Int → ByteArray → Bool → Option (Bool)) (g6 : List (Int) → List (Int × (Int × Int)) → List (Int) → Int → Int → Int → Int → Int → Int → Int → Int → Int → Int → Int → Bool → ByteArray → Bool → Int → Int → Option (Bool)) (g7 : List (Int × (Int × Int)) → List (Int) → Int → Int → Int → Int → Int → Int → Int → Int → Int → Bool → ByteArray → Bool → Int → Int → Option (Bool)) (g8 : List (Int) → Int → Int → Int → Int → Int → Int → ByteArray → Bool → Int → Option (Bool)) (code0 : List Int) (more1 : List Int) : Option Bool :=
  bif w_big code0 more1 then some true
  else
    Option.bind (s_DrawWholeLine code0) fun r =>
      Option.bind (i_WholeLine (Prod.fst r) (Prod.fst (Prod.snd r)) (Prod.snd (Prod.snd r))) fun r_1 =>
        Option.bind (s_WholeLine (Prod.fst r) (Prod.fst (Prod.snd r)) (Prod.snd (Prod.snd r))) fun r_2 =>
          Option.bind (i_SlopeOf (Prod.fst r) (Prod.fst (Prod.snd r)) (Prod.snd (Prod.snd r))) fun r_3 =>
            Option.bind (s_SlopeOf (Prod.fst r) (Prod.fst (Prod.snd r)) (Prod.snd (Prod.snd r))) fun r_4 =>
              Option.bind (i_FlightText (Prod.fst r) (Prod.fst (Prod.snd r)) (Prod.snd (Prod.snd r))) fun r_5 =>
                Option.bind (s_FlightText (Prod.fst r) (Prod.fst (Prod.snd r)) (Prod.snd (Prod.snd r))) fun r_6 =>
                  bif !Prod.snd r_1 == Prod.snd r_2 then some false
                  else
                    bif Prod.fst r_1 != Prod.fst r_2 then some false
                    else
                      bif
                          !Prod.snd (i_HeightOf (Prod.fst r) (Prod.fst (Prod.snd r)) (Prod.snd (Prod.snd r))) ==
                              Prod.snd (s_HeightOf (Prod.fst r) (Prod.fst (Prod.snd r)) (Prod.snd (Prod.snd r))) then
                        some false
                      else
                        bif
                            Prod.fst (i_HeightOf (Prod.fst r) (Prod.fst (Prod.snd r)) (Prod.snd (Prod.snd r))) !=
                              Prod.fst (s_HeightOf (Prod.fst r) (Prod.fst (Prod.snd r)) (Prod.snd (Prod.snd r))) then
                          some false
                        else
                          bif
                              !Prod.snd (i_RunOf (Prod.fst r) (Prod.fst (Prod.snd r)) (Prod.snd (Prod.snd r))) ==
                                  Prod.snd (s_RunOf (Prod.fst r) (Prod.fst (Prod.snd r)) (Prod.snd (Prod.snd r))) then
                            some false
                          else
                            bif
                                Prod.fst (i_RunOf (Prod.fst r) (Prod.fst (Prod.snd r)) (Prod.snd (Prod.snd r))) !=
                                  Prod.fst (s_RunOf (Prod.fst r) (Prod.fst (Prod.snd r)) (Prod.snd (Prod.snd r))) then
                              some false
                            else
                              bif !Prod.snd (Prod.snd r_3) == Prod.snd (Prod.snd r_4) then some false
                              else
                                bif Prod.fst r_3 != Prod.fst r_4 then some false
                                else
                                  bif Prod.fst (Prod.snd r_3) != Prod.fst (Prod.snd r_4) then some false
                                  else
                                    bif
                                        !Prod.snd (i_PaceSum (Prod.fst r) (Prod.fst (Prod.snd r)) (Prod.snd (Prod.snd r))) ==
                                            Prod.snd (s_PaceSum (Prod.fst r) (Prod.fst (Prod.snd r)) (Prod.snd (Prod.snd r))) then
                                      some false
                                    else
                                      bif
                                          Prod.fst (i_PaceSum (Prod.fst r) (Prod.fst (Prod.snd r)) (Prod.snd (Prod.snd r))) !=
                                            Prod.fst (s_PaceSum (Prod.fst r) (Prod.fst (Prod.snd r)) (Prod.snd (Prod.snd r))) then
                                        some false
                                      else
                                        bif
                                            !Prod.snd (i_LineSquare (Prod.fst r) (Prod.fst (Prod.snd r)) (Prod.snd (Prod.snd r))) ==
                                                Prod.snd (s_LineSquare (Prod.fst r) (Prod.fst (Prod.snd r)) (Prod.snd (Prod.snd r))) then
                                          some false
                                        else
                                          bif
                                              Prod.fst (i_LineSquare (Prod.fst r) (Prod.fst (Prod.snd r)) (Prod.snd (Prod.snd r))) !=
                                                Prod.fst (s_LineSquare (Prod.fst r) (Prod.fst (Prod.snd r)) (Prod.snd (Prod.snd r))) then
                                            some false
                                          else
                                            bif !Prod.snd r_5 == Prod.snd r_6 then some false
                                            else
                                              bif !ByteArray.toList (Prod.fst r_5) == ByteArray.toList (Prod.fst r_6) then some false
                                              else
                                                bif
                                                    !Prod.snd (i_HeightOf (Prod.fst r) (Prod.fst (Prod.snd r)) (Prod.snd (Prod.snd r))) ==
                                                        i_IsFlight (Prod.fst r) (Prod.fst (Prod.snd r)) (Prod.snd (Prod.snd r)) then
                                                  some false
                                                else
                                                  bif
                                                      !i_IsFlight (Prod.fst r) (Prod.fst (Prod.snd r)) (Prod.snd (Prod.snd r)) ==
                                                          s_IsFlight (Prod.fst r) (Prod.fst (Prod.snd r)) (Prod.snd (Prod.snd r)) then
                                                    some false
                                                  else
                                                    bif
                                                        !Prod.snd (i_RunOf (Prod.fst r) (Prod.fst (Prod.snd r)) (Prod.snd (Prod.snd r))) ==
                                                            Prod.snd (i_HeightOf (Prod.fst r) (Prod.fst (Prod.snd r)) (Prod.snd (Prod.snd r))) then
                                                      some false
                                                    else
                                                      bif
                                                          !Prod.snd (Prod.snd r_3) ==
                                                              Prod.snd (i_HeightOf (Prod.fst r) (Prod.fst (Prod.snd r)) (Prod.snd (Prod.snd r))) then
                                                        some false
                                                      else
                                                        bif
                                                            !Prod.snd (i_PaceSum (Prod.fst r) (Prod.fst (Prod.snd r)) (Prod.snd (Prod.snd r))) ==
                                                                Prod.snd (i_HeightOf (Prod.fst r) (Prod.fst (Prod.snd r)) (Prod.snd (Prod.snd r))) then
                                                          some false
                                                        else
                                                          bif
                                                              !Prod.snd (i_LineSquare (Prod.fst r) (Prod.fst (Prod.snd r)) (Prod.snd (Prod.snd r))) ==
                                                                  Prod.snd (i_HeightOf (Prod.fst r) (Prod.fst (Prod.snd r)) (Prod.snd (Prod.snd r))) then
                                                            some false
                                                          else
                                                            bif
                                                                !Prod.snd r_5 ==
                                                                    Prod.snd (i_HeightOf (Prod.fst r) (Prod.fst (Prod.snd r)) (Prod.snd (Prod.snd r))) then
                                                              some false
                                                            else
                                                              bif Prod.snd r_1 then
                                                                bif !Prod.snd (i_HeightOf (Prod.fst r) (Prod.fst (Prod.snd r)) (Prod.snd (Prod.snd r))) then
                                                                  some false
                                                                else
                                                                  g1 more1 (Prod.fst r) (Prod.fst (Prod.snd r)) (Prod.snd (Prod.snd r)) (Prod.fst r_1)
                                                                    (Prod.snd r_1)
                                                                    (Prod.fst (i_HeightOf (Prod.fst r) (Prod.fst (Prod.snd r)) (Prod.snd (Prod.snd r))))
                                                                    (Prod.snd (i_HeightOf (Prod.fst r) (Prod.fst (Prod.snd r)) (Prod.snd (Prod.snd r))))
                                                                    (Prod.fst (i_RunOf (Prod.fst r) (Prod.fst (Prod.snd r)) (Prod.snd (Prod.snd r))))
                                                                    (Prod.fst r_3) (Prod.fst (Prod.snd r_3))
                                                                    (Prod.fst (i_PaceSum (Prod.fst r) (Prod.fst (Prod.snd r)) (Prod.snd (Prod.snd r))))
                                                                    (Prod.fst (i_LineSquare (Prod.fst r) (Prod.fst (Prod.snd r)) (Prod.snd (Prod.snd r))))
                                                                    (Prod.fst r_5)
                                                              else
                                                                g1 more1 (Prod.fst r) (Prod.fst (Prod.snd r)) (Prod.snd (Prod.snd r)) (Prod.fst r_1)
                                                                  (Prod.snd r_1)
                                                                  (Prod.fst (i_HeightOf (Prod.fst r) (Prod.fst (Prod.snd r)) (Prod.snd (Prod.snd r))))
                                                                  (Prod.snd (i_HeightOf (Prod.fst r) (Prod.fst (Prod.snd r)) (Prod.snd (Prod.snd r))))
                                                                  (Prod.fst (i_RunOf (Prod.fst r) (Prod.fst (Prod.snd r)) (Prod.snd (Prod.snd r)))) (Prod.fst r_3)
                                                                  (Prod.fst (Prod.snd r_3))
                                                                  (Prod.fst (i_PaceSum (Prod.fst r) (Prod.fst (Prod.snd r)) (Prod.snd (Prod.snd r))))
                                                                  (Prod.fst (i_LineSquare (Prod.fst r) (Prod.fst (Prod.snd r)) (Prod.snd (Prod.snd r))))
                                                                  (Prod.fst r_5)
theorem w_FnRisersFit_ts : Tails c_w_FnRisersFit.pts c_w_FnRisersFit.round :=
  ⟨fun s => by
    obtain ⟨⟨r0, ⟨b1_0, b1_1, b1_2, _⟩, _⟩, ⟨_, _, line6, ok7, high10, one11, run14, num18, den19, sum24, square28, text32, _⟩, ⟨_, _, _⟩⟩ := s
    refine Tail.eq (Y := fun g => w_FnRisersFit_t1 (fun r0 b1_0 b1_1 b1_2 line6 ok7 high10 one11 run14 num18 den19 sum24 square28 text32 => g.1 ((r0, (b1_0, b1_1, b1_2, ()), ()), ((), (), line6, ok7, high10, one11, run14, num18, den19, sum24, square28, text32, ()), ((), (), ()))) (fun r0 => g.2.1 ((r0, ()), ((), ()), ((), (), ()))) (fun r0 b1_0 b1_1 b1_2 high10 run14 sum24 => g.2.2.1 ((r0, (b1_0, b1_1, b1_2, ()), ()), ((), (), high10, run14, sum24, ()), ((), (), ()))) (fun r0 r1 b2_0 b2_1 b2_2 tall48 length49 pace50 a55 low56 most57 seventeen59 s62 nineteen64 => g.2.2.2.1 ((r0, r1, (b2_0, b2_1, b2_2, ()), ()), (tall48, length49, pace50, (), a55, low56, most57, (), seventeen59, s62, (), nineteen64, ()), ((), (), ()))) (fun b0_0 b0_1 b0_2 s62 nineteen64 => g.2.2.2.2.1 (((b0_0, b0_1, b0_2, ()), ()), (s62, (), nineteen64, ()), ((), (), ()))) (fun r0 r1 r2 b3_0 b3_1 b3_2 h42 risers43 tall48 length49 pace50 a55 low56 most57 seventeen59 s62 nineteen64 s504 s505 => g.2.2.2.2.2.1 ((r0, r1, r2, (b3_0, b3_1, b3_2, ()), ()), (h42, risers43, (), tall48, length49, pace50, (), a55, low56, most57, (), seventeen59, s62, (), nineteen64, (), s504, s505, ()), ((), (), ()))) (fun r0 r1 b2_0 b2_1 b2_2 tall48 length49 pace50 a55 low56 most57 seventeen59 s62 nineteen64 s543 s544 => g.2.2.2.2.2.2.1 ((r0, r1, (b2_0, b2_1, b2_2, ()), ()), (tall48, length49, pace50, (), a55, low56, most57, (), seventeen59, s62, (), nineteen64, (), s543, s544, ()), ((), (), ()))) (fun r0 b1_0 b1_1 b1_2 a55 low56 most57 s62 nineteen64 n77 => g.2.2.2.2.2.2.2.1 ((r0, (b1_0, b1_1, b1_2, ()), ()), (a55, low56, most57, (), s62, (), nineteen64, n77, ()), ((), (), ()))) r0 b1_0 b1_1 b1_2 line6 ok7 high10 one11 run14 num18 den19 sum24 square28 text32) ?_ (fun g => by kernel_rfl)
    simp only [w_FnRisersFit_t1]; repeat (first | apply Tail.cond | (apply Tail.bind; intro _) | exact Tail.here _ | exact Tail.there (Tail.here _) | exact Tail.there (Tail.there (Tail.here _)) | exact Tail.there (Tail.there (Tail.there (Tail.here _))) | exact Tail.there (Tail.there (Tail.there (Tail.there (Tail.here _)))) | exact Tail.there (Tail.there (Tail.there (Tail.there (Tail.there (Tail.here _))))) | exact Tail.there (Tail.there (Tail.there (Tail.there (Tail.there (Tail.there (Tail.here _)))))) | exact Tail.there (Tail.there (Tail.there (Tail.there (Tail.there (Tail.there (Tail.there (Tail.here _))))))) | exact Tail.const _),
  fun s => by
    obtain ⟨⟨r0, _⟩, ⟨_, _⟩, ⟨_, _, _⟩⟩ := s
    refine Tail.eq (Y := fun g => w_FnRisersFit_t2 (fun r0 b1_0 b1_1 b1_2 line6 ok7 high10 one11 run14 num18 den19 sum24 square28 text32 => g.1 ((r0, (b1_0, b1_1, b1_2, ()), ()), ((), (), line6, ok7, high10, one11, run14, num18, den19, sum24, square28, text32, ()), ((), (), ()))) (fun r0 => g.2.1 ((r0, ()), ((), ()), ((), (), ()))) (fun r0 b1_0 b1_1 b1_2 high10 run14 sum24 => g.2.2.1 ((r0, (b1_0, b1_1, b1_2, ()), ()), ((), (), high10, run14, sum24, ()), ((), (), ()))) (fun r0 r1 b2_0 b2_1 b2_2 tall48 length49 pace50 a55 low56 most57 seventeen59 s62 nineteen64 => g.2.2.2.1 ((r0, r1, (b2_0, b2_1, b2_2, ()), ()), (tall48, length49, pace50, (), a55, low56, most57, (), seventeen59, s62, (), nineteen64, ()), ((), (), ()))) (fun b0_0 b0_1 b0_2 s62 nineteen64 => g.2.2.2.2.1 (((b0_0, b0_1, b0_2, ()), ()), (s62, (), nineteen64, ()), ((), (), ()))) (fun r0 r1 r2 b3_0 b3_1 b3_2 h42 risers43 tall48 length49 pace50 a55 low56 most57 seventeen59 s62 nineteen64 s504 s505 => g.2.2.2.2.2.1 ((r0, r1, r2, (b3_0, b3_1, b3_2, ()), ()), (h42, risers43, (), tall48, length49, pace50, (), a55, low56, most57, (), seventeen59, s62, (), nineteen64, (), s504, s505, ()), ((), (), ()))) (fun r0 r1 b2_0 b2_1 b2_2 tall48 length49 pace50 a55 low56 most57 seventeen59 s62 nineteen64 s543 s544 => g.2.2.2.2.2.2.1 ((r0, r1, (b2_0, b2_1, b2_2, ()), ()), (tall48, length49, pace50, (), a55, low56, most57, (), seventeen59, s62, (), nineteen64, (), s543, s544, ()), ((), (), ()))) (fun r0 b1_0 b1_1 b1_2 a55 low56 most57 s62 nineteen64 n77 => g.2.2.2.2.2.2.2.1 ((r0, (b1_0, b1_1, b1_2, ()), ()), (a55, low56, most57, (), s62, (), nineteen64, n77, ()), ((), (), ()))) r0) ?_ (fun g => by kernel_rfl)
    simp only [w_FnRisersFit_t2]; repeat (first | apply Tail.cond | (apply Tail.bind; intro _) | exact Tail.here _ | exact Tail.there (Tail.here _) | exact Tail.there (Tail.there (Tail.here _)) | exact Tail.there (Tail.there (Tail.there (Tail.here _))) | exact Tail.there (Tail.there (Tail.there (Tail.there (Tail.here _)))) | exact Tail.there (Tail.there (Tail.there (Tail.there (Tail.there (Tail.here _))))) | exact Tail.there (Tail.there (Tail.there (Tail.there (Tail.there (Tail.there (Tail.here _)))))) | exact Tail.there (Tail.there (Tail.there (Tail.there (Tail.there (Tail.there (Tail.there (Tail.here _))))))) | exact Tail.const _),
  fun s => by
    obtain ⟨⟨r0, ⟨b1_0, b1_1, b1_2, _⟩, _⟩, ⟨_, _, high10, run14, sum24, _⟩, ⟨_, _, _⟩⟩ := s
    refine Tail.eq (Y := fun g => w_FnRisersFit_t3 (fun r0 b1_0 b1_1 b1_2 line6 ok7 high10 one11 run14 num18 den19 sum24 square28 text32 => g.1 ((r0, (b1_0, b1_1, b1_2, ()), ()), ((), (), line6, ok7, high10, one11, run14, num18, den19, sum24, square28, text32, ()), ((), (), ()))) (fun r0 => g.2.1 ((r0, ()), ((), ()), ((), (), ()))) (fun r0 b1_0 b1_1 b1_2 high10 run14 sum24 => g.2.2.1 ((r0, (b1_0, b1_1, b1_2, ()), ()), ((), (), high10, run14, sum24, ()), ((), (), ()))) (fun r0 r1 b2_0 b2_1 b2_2 tall48 length49 pace50 a55 low56 most57 seventeen59 s62 nineteen64 => g.2.2.2.1 ((r0, r1, (b2_0, b2_1, b2_2, ()), ()), (tall48, length49, pace50, (), a55, low56, most57, (), seventeen59, s62, (), nineteen64, ()), ((), (), ()))) (fun b0_0 b0_1 b0_2 s62 nineteen64 => g.2.2.2.2.1 (((b0_0, b0_1, b0_2, ()), ()), (s62, (), nineteen64, ()), ((), (), ()))) (fun r0 r1 r2 b3_0 b3_1 b3_2 h42 risers43 tall48 length49 pace50 a55 low56 most57 seventeen59 s62 nineteen64 s504 s505 => g.2.2.2.2.2.1 ((r0, r1, r2, (b3_0, b3_1, b3_2, ()), ()), (h42, risers43, (), tall48, length49, pace50, (), a55, low56, most57, (), seventeen59, s62, (), nineteen64, (), s504, s505, ()), ((), (), ()))) (fun r0 r1 b2_0 b2_1 b2_2 tall48 length49 pace50 a55 low56 most57 seventeen59 s62 nineteen64 s543 s544 => g.2.2.2.2.2.2.1 ((r0, r1, (b2_0, b2_1, b2_2, ()), ()), (tall48, length49, pace50, (), a55, low56, most57, (), seventeen59, s62, (), nineteen64, (), s543, s544, ()), ((), (), ()))) (fun r0 b1_0 b1_1 b1_2 a55 low56 most57 s62 nineteen64 n77 => g.2.2.2.2.2.2.2.1 ((r0, (b1_0, b1_1, b1_2, ()), ()), (a55, low56, most57, (), s62, (), nineteen64, n77, ()), ((), (), ()))) r0 b1_0 b1_1 b1_2 high10 run14 sum24) ?_ (fun g => by kernel_rfl)
    simp only [w_FnRisersFit_t3]; repeat (first | apply Tail.cond | (apply Tail.bind; intro _) | exact Tail.here _ | exact Tail.there (Tail.here _) | exact Tail.there (Tail.there (Tail.here _)) | exact Tail.there (Tail.there (Tail.there (Tail.here _))) | exact Tail.there (Tail.there (Tail.there (Tail.there (Tail.here _)))) | exact Tail.there (Tail.there (Tail.there (Tail.there (Tail.there (Tail.here _))))) | exact Tail.there (Tail.there (Tail.there (Tail.there (Tail.there (Tail.there (Tail.here _)))))) | exact Tail.there (Tail.there (Tail.there (Tail.there (Tail.there (Tail.there (Tail.there (Tail.here _))))))) | exact Tail.const _),
  fun s => by
    obtain ⟨⟨r0, r1, ⟨b2_0, b2_1, b2_2, _⟩, _⟩, ⟨tall48, length49, pace50, _, a55, low56, most57, _, seventeen59, s62, _, nineteen64, _⟩, ⟨_, _, _⟩⟩ := s
    refine Tail.eq (Y := fun g => w_FnRisersFit_t4 (fun r0 b1_0 b1_1 b1_2 line6 ok7 high10 one11 run14 num18 den19 sum24 square28 text32 => g.1 ((r0, (b1_0, b1_1, b1_2, ()), ()), ((), (), line6, ok7, high10, one11, run14, num18, den19, sum24, square28, text32, ()), ((), (), ()))) (fun r0 => g.2.1 ((r0, ()), ((), ()), ((), (), ()))) (fun r0 b1_0 b1_1 b1_2 high10 run14 sum24 => g.2.2.1 ((r0, (b1_0, b1_1, b1_2, ()), ()), ((), (), high10, run14, sum24, ()), ((), (), ()))) (fun r0 r1 b2_0 b2_1 b2_2 tall48 length49 pace50 a55 low56 most57 seventeen59 s62 nineteen64 => g.2.2.2.1 ((r0, r1, (b2_0, b2_1, b2_2, ()), ()), (tall48, length49, pace50, (), a55, low56, most57, (), seventeen59, s62, (), nineteen64, ()), ((), (), ()))) (fun b0_0 b0_1 b0_2 s62 nineteen64 => g.2.2.2.2.1 (((b0_0, b0_1, b0_2, ()), ()), (s62, (), nineteen64, ()), ((), (), ()))) (fun r0 r1 r2 b3_0 b3_1 b3_2 h42 risers43 tall48 length49 pace50 a55 low56 most57 seventeen59 s62 nineteen64 s504 s505 => g.2.2.2.2.2.1 ((r0, r1, r2, (b3_0, b3_1, b3_2, ()), ()), (h42, risers43, (), tall48, length49, pace50, (), a55, low56, most57, (), seventeen59, s62, (), nineteen64, (), s504, s505, ()), ((), (), ()))) (fun r0 r1 b2_0 b2_1 b2_2 tall48 length49 pace50 a55 low56 most57 seventeen59 s62 nineteen64 s543 s544 => g.2.2.2.2.2.2.1 ((r0, r1, (b2_0, b2_1, b2_2, ()), ()), (tall48, length49, pace50, (), a55, low56, most57, (), seventeen59, s62, (), nineteen64, (), s543, s544, ()), ((), (), ()))) (fun r0 b1_0 b1_1 b1_2 a55 low56 most57 s62 nineteen64 n77 => g.2.2.2.2.2.2.2.1 ((r0, (b1_0, b1_1, b1_2, ()), ()), (a55, low56, most57, (), s62, (), nineteen64, n77, ()), ((), (), ()))) r0 r1 b2_0 b2_1 b2_2 tall48 length49 pace50 a55 low56 most57 seventeen59 s62 nineteen64) ?_ (fun g => by kernel_rfl)
    simp only [w_FnRisersFit_t4]; repeat (first | apply Tail.cond | (apply Tail.bind; intro _) | exact Tail.here _ | exact Tail.there (Tail.here _) | exact Tail.there (Tail.there (Tail.here _)) | exact Tail.there (Tail.there (Tail.there (Tail.here _))) | exact Tail.there (Tail.there (Tail.there (Tail.there (Tail.here _)))) | exact Tail.there (Tail.there (Tail.there (Tail.there (Tail.there (Tail.here _))))) | exact Tail.there (Tail.there (Tail.there (Tail.there (Tail.there (Tail.there (Tail.here _)))))) | exact Tail.there (Tail.there (Tail.there (Tail.there (Tail.there (Tail.there (Tail.there (Tail.here _))))))) | exact Tail.const _),
  fun s => by
    obtain ⟨⟨⟨b0_0, b0_1, b0_2, _⟩, _⟩, ⟨s62, _, nineteen64, _⟩, ⟨_, _, _⟩⟩ := s
    refine Tail.eq (Y := fun g => w_FnRisersFit_t5 (fun r0 b1_0 b1_1 b1_2 line6 ok7 high10 one11 run14 num18 den19 sum24 square28 text32 => g.1 ((r0, (b1_0, b1_1, b1_2, ()), ()), ((), (), line6, ok7, high10, one11, run14, num18, den19, sum24, square28, text32, ()), ((), (), ()))) (fun r0 => g.2.1 ((r0, ()), ((), ()), ((), (), ()))) (fun r0 b1_0 b1_1 b1_2 high10 run14 sum24 => g.2.2.1 ((r0, (b1_0, b1_1, b1_2, ()), ()), ((), (), high10, run14, sum24, ()), ((), (), ()))) (fun r0 r1 b2_0 b2_1 b2_2 tall48 length49 pace50 a55 low56 most57 seventeen59 s62 nineteen64 => g.2.2.2.1 ((r0, r1, (b2_0, b2_1, b2_2, ()), ()), (tall48, length49, pace50, (), a55, low56, most57, (), seventeen59, s62, (), nineteen64, ()), ((), (), ()))) (fun b0_0 b0_1 b0_2 s62 nineteen64 => g.2.2.2.2.1 (((b0_0, b0_1, b0_2, ()), ()), (s62, (), nineteen64, ()), ((), (), ()))) (fun r0 r1 r2 b3_0 b3_1 b3_2 h42 risers43 tall48 length49 pace50 a55 low56 most57 seventeen59 s62 nineteen64 s504 s505 => g.2.2.2.2.2.1 ((r0, r1, r2, (b3_0, b3_1, b3_2, ()), ()), (h42, risers43, (), tall48, length49, pace50, (), a55, low56, most57, (), seventeen59, s62, (), nineteen64, (), s504, s505, ()), ((), (), ()))) (fun r0 r1 b2_0 b2_1 b2_2 tall48 length49 pace50 a55 low56 most57 seventeen59 s62 nineteen64 s543 s544 => g.2.2.2.2.2.2.1 ((r0, r1, (b2_0, b2_1, b2_2, ()), ()), (tall48, length49, pace50, (), a55, low56, most57, (), seventeen59, s62, (), nineteen64, (), s543, s544, ()), ((), (), ()))) (fun r0 b1_0 b1_1 b1_2 a55 low56 most57 s62 nineteen64 n77 => g.2.2.2.2.2.2.2.1 ((r0, (b1_0, b1_1, b1_2, ()), ()), (a55, low56, most57, (), s62, (), nineteen64, n77, ()), ((), (), ()))) b0_0 b0_1 b0_2 s62 nineteen64) ?_ (fun g => by kernel_rfl)
    simp only [w_FnRisersFit_t5]; repeat (first | apply Tail.cond | (apply Tail.bind; intro _) | exact Tail.here _ | exact Tail.there (Tail.here _) | exact Tail.there (Tail.there (Tail.here _)) | exact Tail.there (Tail.there (Tail.there (Tail.here _))) | exact Tail.there (Tail.there (Tail.there (Tail.there (Tail.here _)))) | exact Tail.there (Tail.there (Tail.there (Tail.there (Tail.there (Tail.here _))))) | exact Tail.there (Tail.there (Tail.there (Tail.there (Tail.there (Tail.there (Tail.here _)))))) | exact Tail.there (Tail.there (Tail.there (Tail.there (Tail.there (Tail.there (Tail.there (Tail.here _))))))) | exact Tail.const _),
  fun s => by
    obtain ⟨⟨r0, r1, r2, ⟨b3_0, b3_1, b3_2, _⟩, _⟩, ⟨h42, risers43, _, tall48, length49, pace50, _, a55, low56, most57, _, seventeen59, s62, _, nineteen64, _, s504, s505, _⟩, ⟨_, _, _⟩⟩ := s
    refine Tail.eq (Y := fun g => w_FnRisersFit_t6 (fun r0 b1_0 b1_1 b1_2 line6 ok7 high10 one11 run14 num18 den19 sum24 square28 text32 => g.1 ((r0, (b1_0, b1_1, b1_2, ()), ()), ((), (), line6, ok7, high10, one11, run14, num18, den19, sum24, square28, text32, ()), ((), (), ()))) (fun r0 => g.2.1 ((r0, ()), ((), ()), ((), (), ()))) (fun r0 b1_0 b1_1 b1_2 high10 run14 sum24 => g.2.2.1 ((r0, (b1_0, b1_1, b1_2, ()), ()), ((), (), high10, run14, sum24, ()), ((), (), ()))) (fun r0 r1 b2_0 b2_1 b2_2 tall48 length49 pace50 a55 low56 most57 seventeen59 s62 nineteen64 => g.2.2.2.1 ((r0, r1, (b2_0, b2_1, b2_2, ()), ()), (tall48, length49, pace50, (), a55, low56, most57, (), seventeen59, s62, (), nineteen64, ()), ((), (), ()))) (fun b0_0 b0_1 b0_2 s62 nineteen64 => g.2.2.2.2.1 (((b0_0, b0_1, b0_2, ()), ()), (s62, (), nineteen64, ()), ((), (), ()))) (fun r0 r1 r2 b3_0 b3_1 b3_2 h42 risers43 tall48 length49 pace50 a55 low56 most57 seventeen59 s62 nineteen64 s504 s505 => g.2.2.2.2.2.1 ((r0, r1, r2, (b3_0, b3_1, b3_2, ()), ()), (h42, risers43, (), tall48, length49, pace50, (), a55, low56, most57, (), seventeen59, s62, (), nineteen64, (), s504, s505, ()), ((), (), ()))) (fun r0 r1 b2_0 b2_1 b2_2 tall48 length49 pace50 a55 low56 most57 seventeen59 s62 nineteen64 s543 s544 => g.2.2.2.2.2.2.1 ((r0, r1, (b2_0, b2_1, b2_2, ()), ()), (tall48, length49, pace50, (), a55, low56, most57, (), seventeen59, s62, (), nineteen64, (), s543, s544, ()), ((), (), ()))) (fun r0 b1_0 b1_1 b1_2 a55 low56 most57 s62 nineteen64 n77 => g.2.2.2.2.2.2.2.1 ((r0, (b1_0, b1_1, b1_2, ()), ()), (a55, low56, most57, (), s62, (), nineteen64, n77, ()), ((), (), ()))) r0 r1 r2 b3_0 b3_1 b3_2 h42 risers43 tall48 length49 pace50 a55 low56 most57 seventeen59 s62 nineteen64 s504 s505) ?_ (fun g => by kernel_rfl)
    simp only [w_FnRisersFit_t6]; repeat (first | apply Tail.cond | (apply Tail.bind; intro _) | exact Tail.here _ | exact Tail.there (Tail.here _) | exact Tail.there (Tail.there (Tail.here _)) | exact Tail.there (Tail.there (Tail.there (Tail.here _))) | exact Tail.there (Tail.there (Tail.there (Tail.there (Tail.here _)))) | exact Tail.there (Tail.there (Tail.there (Tail.there (Tail.there (Tail.here _))))) | exact Tail.there (Tail.there (Tail.there (Tail.there (Tail.there (Tail.there (Tail.here _)))))) | exact Tail.there (Tail.there (Tail.there (Tail.there (Tail.there (Tail.there (Tail.there (Tail.here _))))))) | exact Tail.const _),
  fun s => by
    obtain ⟨⟨r0, r1, ⟨b2_0, b2_1, b2_2, _⟩, _⟩, ⟨tall48, length49, pace50, _, a55, low56, most57, _, seventeen59, s62, _, nineteen64, _, s543, s544, _⟩, ⟨_, _, _⟩⟩ := s
    refine Tail.eq (Y := fun g => w_FnRisersFit_t7 (fun r0 b1_0 b1_1 b1_2 line6 ok7 high10 one11 run14 num18 den19 sum24 square28 text32 => g.1 ((r0, (b1_0, b1_1, b1_2, ()), ()), ((), (), line6, ok7, high10, one11, run14, num18, den19, sum24, square28, text32, ()), ((), (), ()))) (fun r0 => g.2.1 ((r0, ()), ((), ()), ((), (), ()))) (fun r0 b1_0 b1_1 b1_2 high10 run14 sum24 => g.2.2.1 ((r0, (b1_0, b1_1, b1_2, ()), ()), ((), (), high10, run14, sum24, ()), ((), (), ()))) (fun r0 r1 b2_0 b2_1 b2_2 tall48 length49 pace50 a55 low56 most57 seventeen59 s62 nineteen64 => g.2.2.2.1 ((r0, r1, (b2_0, b2_1, b2_2, ()), ()), (tall48, length49, pace50, (), a55, low56, most57, (), seventeen59, s62, (), nineteen64, ()), ((), (), ()))) (fun b0_0 b0_1 b0_2 s62 nineteen64 => g.2.2.2.2.1 (((b0_0, b0_1, b0_2, ()), ()), (s62, (), nineteen64, ()), ((), (), ()))) (fun r0 r1 r2 b3_0 b3_1 b3_2 h42 risers43 tall48 length49 pace50 a55 low56 most57 seventeen59 s62 nineteen64 s504 s505 => g.2.2.2.2.2.1 ((r0, r1, r2, (b3_0, b3_1, b3_2, ()), ()), (h42, risers43, (), tall48, length49, pace50, (), a55, low56, most57, (), seventeen59, s62, (), nineteen64, (), s504, s505, ()), ((), (), ()))) (fun r0 r1 b2_0 b2_1 b2_2 tall48 length49 pace50 a55 low56 most57 seventeen59 s62 nineteen64 s543 s544 => g.2.2.2.2.2.2.1 ((r0, r1, (b2_0, b2_1, b2_2, ()), ()), (tall48, length49, pace50, (), a55, low56, most57, (), seventeen59, s62, (), nineteen64, (), s543, s544, ()), ((), (), ()))) (fun r0 b1_0 b1_1 b1_2 a55 low56 most57 s62 nineteen64 n77 => g.2.2.2.2.2.2.2.1 ((r0, (b1_0, b1_1, b1_2, ()), ()), (a55, low56, most57, (), s62, (), nineteen64, n77, ()), ((), (), ()))) r0 r1 b2_0 b2_1 b2_2 tall48 length49 pace50 a55 low56 most57 seventeen59 s62 nineteen64 s543 s544) ?_ (fun g => by kernel_rfl)
    simp only [w_FnRisersFit_t7]; repeat (first | apply Tail.cond | (apply Tail.bind; intro _) | exact Tail.here _ | exact Tail.there (Tail.here _) | exact Tail.there (Tail.there (Tail.here _)) | exact Tail.there (Tail.there (Tail.there (Tail.here _))) | exact Tail.there (Tail.there (Tail.there (Tail.there (Tail.here _)))) | exact Tail.there (Tail.there (Tail.there (Tail.there (Tail.there (Tail.here _))))) | exact Tail.there (Tail.there (Tail.there (Tail.there (Tail.there (Tail.there (Tail.here _)))))) | exact Tail.there (Tail.there (Tail.there (Tail.there (Tail.there (Tail.there (Tail.there (Tail.here _))))))) | exact Tail.const _),
  fun s => by
    obtain ⟨⟨r0, ⟨b1_0, b1_1, b1_2, _⟩, _⟩, ⟨a55, low56, most57, _, s62, _, nineteen64, n77, _⟩, ⟨_, _, _⟩⟩ := s
    refine Tail.eq (Y := fun g => w_FnRisersFit_t8 (fun r0 b1_0 b1_1 b1_2 line6 ok7 high10 one11 run14 num18 den19 sum24 square28 text32 => g.1 ((r0, (b1_0, b1_1, b1_2, ()), ()), ((), (), line6, ok7, high10, one11, run14, num18, den19, sum24, square28, text32, ()), ((), (), ()))) (fun r0 => g.2.1 ((r0, ()), ((), ()), ((), (), ()))) (fun r0 b1_0 b1_1 b1_2 high10 run14 sum24 => g.2.2.1 ((r0, (b1_0, b1_1, b1_2, ()), ()), ((), (), high10, run14, sum24, ()), ((), (), ()))) (fun r0 r1 b2_0 b2_1 b2_2 tall48 length49 pace50 a55 low56 most57 seventeen59 s62 nineteen64 => g.2.2.2.1 ((r0, r1, (b2_0, b2_1, b2_2, ()), ()), (tall48, length49, pace50, (), a55, low56, most57, (), seventeen59, s62, (), nineteen64, ()), ((), (), ()))) (fun b0_0 b0_1 b0_2 s62 nineteen64 => g.2.2.2.2.1 (((b0_0, b0_1, b0_2, ()), ()), (s62, (), nineteen64, ()), ((), (), ()))) (fun r0 r1 r2 b3_0 b3_1 b3_2 h42 risers43 tall48 length49 pace50 a55 low56 most57 seventeen59 s62 nineteen64 s504 s505 => g.2.2.2.2.2.1 ((r0, r1, r2, (b3_0, b3_1, b3_2, ()), ()), (h42, risers43, (), tall48, length49, pace50, (), a55, low56, most57, (), seventeen59, s62, (), nineteen64, (), s504, s505, ()), ((), (), ()))) (fun r0 r1 b2_0 b2_1 b2_2 tall48 length49 pace50 a55 low56 most57 seventeen59 s62 nineteen64 s543 s544 => g.2.2.2.2.2.2.1 ((r0, r1, (b2_0, b2_1, b2_2, ()), ()), (tall48, length49, pace50, (), a55, low56, most57, (), seventeen59, s62, (), nineteen64, (), s543, s544, ()), ((), (), ()))) (fun r0 b1_0 b1_1 b1_2 a55 low56 most57 s62 nineteen64 n77 => g.2.2.2.2.2.2.2.1 ((r0, (b1_0, b1_1, b1_2, ()), ()), (a55, low56, most57, (), s62, (), nineteen64, n77, ()), ((), (), ()))) r0 b1_0 b1_1 b1_2 a55 low56 most57 s62 nineteen64 n77) ?_ (fun g => by kernel_rfl)
    simp only [w_FnRisersFit_t8]; repeat (first | apply Tail.cond | (apply Tail.bind; intro _) | exact Tail.here _ | exact Tail.there (Tail.here _) | exact Tail.there (Tail.there (Tail.here _)) | exact Tail.there (Tail.there (Tail.there (Tail.here _))) | exact Tail.there (Tail.there (Tail.there (Tail.there (Tail.here _)))) | exact Tail.there (Tail.there (Tail.there (Tail.there (Tail.there (Tail.here _))))) | exact Tail.there (Tail.there (Tail.there (Tail.there (Tail.there (Tail.there (Tail.here _)))))) | exact Tail.there (Tail.there (Tail.there (Tail.there (Tail.there (Tail.there (Tail.there (Tail.here _))))))) | exact Tail.const _), trivial⟩
theorem w_FnRisersFit_hs : ∀ x, Tail c_w_FnRisersFit.pts (fun g => c_w_FnRisersFit.start g x) := fun x => by
    obtain ⟨code0, more1, _⟩ := x
    refine Tail.eq (Y := fun g => w_FnRisersFit_t0 (fun r0 b1_0 b1_1 b1_2 line6 ok7 high10 one11 run14 num18 den19 sum24 square28 text32 => g.1 ((r0, (b1_0, b1_1, b1_2, ()), ()), ((), (), line6, ok7, high10, one11, run14, num18, den19, sum24, square28, text32, ()), ((), (), ()))) (fun r0 => g.2.1 ((r0, ()), ((), ()), ((), (), ()))) (fun r0 b1_0 b1_1 b1_2 high10 run14 sum24 => g.2.2.1 ((r0, (b1_0, b1_1, b1_2, ()), ()), ((), (), high10, run14, sum24, ()), ((), (), ()))) (fun r0 r1 b2_0 b2_1 b2_2 tall48 length49 pace50 a55 low56 most57 seventeen59 s62 nineteen64 => g.2.2.2.1 ((r0, r1, (b2_0, b2_1, b2_2, ()), ()), (tall48, length49, pace50, (), a55, low56, most57, (), seventeen59, s62, (), nineteen64, ()), ((), (), ()))) (fun b0_0 b0_1 b0_2 s62 nineteen64 => g.2.2.2.2.1 (((b0_0, b0_1, b0_2, ()), ()), (s62, (), nineteen64, ()), ((), (), ()))) (fun r0 r1 r2 b3_0 b3_1 b3_2 h42 risers43 tall48 length49 pace50 a55 low56 most57 seventeen59 s62 nineteen64 s504 s505 => g.2.2.2.2.2.1 ((r0, r1, r2, (b3_0, b3_1, b3_2, ()), ()), (h42, risers43, (), tall48, length49, pace50, (), a55, low56, most57, (), seventeen59, s62, (), nineteen64, (), s504, s505, ()), ((), (), ()))) (fun r0 r1 b2_0 b2_1 b2_2 tall48 length49 pace50 a55 low56 most57 seventeen59 s62 nineteen64 s543 s544 => g.2.2.2.2.2.2.1 ((r0, r1, (b2_0, b2_1, b2_2, ()), ()), (tall48, length49, pace50, (), a55, low56, most57, (), seventeen59, s62, (), nineteen64, (), s543, s544, ()), ((), (), ()))) (fun r0 b1_0 b1_1 b1_2 a55 low56 most57 s62 nineteen64 n77 => g.2.2.2.2.2.2.2.1 ((r0, (b1_0, b1_1, b1_2, ()), ()), (a55, low56, most57, (), s62, (), nineteen64, n77, ()), ((), (), ()))) code0 more1) ?_ (fun g => by kernel_rfl)
    simp only [w_FnRisersFit_t0]; repeat (first | apply Tail.cond | (apply Tail.bind; intro _) | exact Tail.here _ | exact Tail.there (Tail.here _) | exact Tail.there (Tail.there (Tail.here _)) | exact Tail.there (Tail.there (Tail.there (Tail.here _))) | exact Tail.there (Tail.there (Tail.there (Tail.there (Tail.here _)))) | exact Tail.there (Tail.there (Tail.there (Tail.there (Tail.there (Tail.here _))))) | exact Tail.there (Tail.there (Tail.there (Tail.there (Tail.there (Tail.there (Tail.here _)))))) | exact Tail.there (Tail.there (Tail.there (Tail.there (Tail.there (Tail.there (Tail.there (Tail.here _))))))) | exact Tail.const _)
noncomputable def w_FnRisersFit_L1 (r0 : List (Int)) (b1_0 : Int) (b1_1 : Int) (b1_2 : Int) (line6 : Int) (ok7 : Bool) (high10 : Int) (one11 : Bool) (run14 : Int) (num18 : Int) (den19 : Int) (sum24 : Int) (square28 : Int) (text32 : ByteArray) : Option Bool := c_w_FnRisersFit.L.1 ((r0, (b1_0, b1_1, b1_2, ()), ()), ((), (), line6, ok7, high10, one11, run14, num18, den19, sum24, square28, text32, ()), ((), (), ()))
noncomputable def w_FnRisersFit_L2 (r0 : List (Int)) : Option Bool := c_w_FnRisersFit.L.2.1 ((r0, ()), ((), ()), ((), (), ()))
noncomputable def w_FnRisersFit_L3 (r0 : List (Int)) (b1_0 : Int) (b1_1 : Int) (b1_2 : Int) (high10 : Int) (run14 : Int) (sum24 : Int) : Option Bool := c_w_FnRisersFit.L.2.2.1 ((r0, (b1_0, b1_1, b1_2, ()), ()), ((), (), high10, run14, sum24, ()), ((), (), ()))
noncomputable def w_FnRisersFit_L4 (r0 : List (Int × (Int × Int))) (r1 : List (Int)) (b2_0 : Int) (b2_1 : Int) (b2_2 : Int) (tall48 : Int) (length49 : Int) (pace50 : Int) (a55 : Int) (low56 : Int) (most57 : Int) (seventeen59 : Bool) (s62 : ByteArray) (nineteen64 : Bool) : Option Bool := c_w_FnRisersFit.L.2.2.2.1 ((r0, r1, (b2_0, b2_1, b2_2, ()), ()), (tall48, length49, pace50, (), a55, low56, most57, (), seventeen59, s62, (), nineteen64, ()), ((), (), ()))
noncomputable def w_FnRisersFit_L5 (b0_0 : Int) (b0_1 : Int) (b0_2 : Int) (s62 : ByteArray) (nineteen64 : Bool) : Option Bool := c_w_FnRisersFit.L.2.2.2.2.1 (((b0_0, b0_1, b0_2, ()), ()), (s62, (), nineteen64, ()), ((), (), ()))
noncomputable def w_FnRisersFit_L6 (r0 : List (Int)) (r1 : List (Int × (Int × Int))) (r2 : List (Int)) (b3_0 : Int) (b3_1 : Int) (b3_2 : Int) (h42 : Int) (risers43 : Int) (tall48 : Int) (length49 : Int) (pace50 : Int) (a55 : Int) (low56 : Int) (most57 : Int) (seventeen59 : Bool) (s62 : ByteArray) (nineteen64 : Bool) (s504 : Int) (s505 : Int) : Option Bool := c_w_FnRisersFit.L.2.2.2.2.2.1 ((r0, r1, r2, (b3_0, b3_1, b3_2, ()), ()), (h42, risers43, (), tall48, length49, pace50, (), a55, low56, most57, (), seventeen59, s62, (), nineteen64, (), s504, s505, ()), ((), (), ()))
noncomputable def w_FnRisersFit_L7 (r0 : List (Int × (Int × Int))) (r1 : List (Int)) (b2_0 : Int) (b2_1 : Int) (b2_2 : Int) (tall48 : Int) (length49 : Int) (pace50 : Int) (a55 : Int) (low56 : Int) (most57 : Int) (seventeen59 : Bool) (s62 : ByteArray) (nineteen64 : Bool) (s543 : Int) (s544 : Int) : Option Bool := c_w_FnRisersFit.L.2.2.2.2.2.2.1 ((r0, r1, (b2_0, b2_1, b2_2, ()), ()), (tall48, length49, pace50, (), a55, low56, most57, (), seventeen59, s62, (), nineteen64, (), s543, s544, ()), ((), (), ()))
noncomputable def w_FnRisersFit_L8 (r0 : List (Int)) (b1_0 : Int) (b1_1 : Int) (b1_2 : Int) (a55 : Int) (low56 : Int) (most57 : Int) (s62 : ByteArray) (nineteen64 : Bool) (n77 : Int) : Option Bool := c_w_FnRisersFit.L.2.2.2.2.2.2.2.1 ((r0, (b1_0, b1_1, b1_2, ()), ()), (a55, low56, most57, (), s62, (), nineteen64, n77, ()), ((), (), ()))
theorem w_FnRisersFit_u1 (r0 : List (Int)) (b1_0 : Int) (b1_1 : Int) (b1_2 : Int) (line6 : Int) (ok7 : Bool) (high10 : Int) (one11 : Bool) (run14 : Int) (num18 : Int) (den19 : Int) (sum24 : Int) (square28 : Int) (text32 : ByteArray) : w_FnRisersFit_L1 r0 b1_0 b1_1 b1_2 line6 ok7 high10 one11 run14 num18 den19 sum24 square28 text32 = w_FnRisersFit_t1 w_FnRisersFit_L1 w_FnRisersFit_L2 w_FnRisersFit_L3 w_FnRisersFit_L4 w_FnRisersFit_L5 w_FnRisersFit_L6 w_FnRisersFit_L7 w_FnRisersFit_L8 r0 b1_0 b1_1 b1_2 line6 ok7 high10 one11 run14 num18 den19 sum24 square28 text32 :=
  (congrArg (fun g => g.1 ((r0, (b1_0, b1_1, b1_2, ()), ()), ((), (), line6, ok7, high10, one11, run14, num18, den19, sum24, square28, text32, ()), ((), (), ()))) (FnCx.L_eq w_FnRisersFit_ts)).trans (by kernel_rfl)
theorem w_FnRisersFit_u2 (r0 : List (Int)) : w_FnRisersFit_L2 r0 = w_FnRisersFit_t2 w_FnRisersFit_L1 w_FnRisersFit_L2 w_FnRisersFit_L3 w_FnRisersFit_L4 w_FnRisersFit_L5 w_FnRisersFit_L6 w_FnRisersFit_L7 w_FnRisersFit_L8 r0 :=
  (congrArg (fun g => g.2.1 ((r0, ()), ((), ()), ((), (), ()))) (FnCx.L_eq w_FnRisersFit_ts)).trans (by kernel_rfl)
theorem w_FnRisersFit_u3 (r0 : List (Int)) (b1_0 : Int) (b1_1 : Int) (b1_2 : Int) (high10 : Int) (run14 : Int) (sum24 : Int) : w_FnRisersFit_L3 r0 b1_0 b1_1 b1_2 high10 run14 sum24 = w_FnRisersFit_t3 w_FnRisersFit_L1 w_FnRisersFit_L2 w_FnRisersFit_L3 w_FnRisersFit_L4 w_FnRisersFit_L5 w_FnRisersFit_L6 w_FnRisersFit_L7 w_FnRisersFit_L8 r0 b1_0 b1_1 b1_2 high10 run14 sum24 :=
  (congrArg (fun g => g.2.2.1 ((r0, (b1_0, b1_1, b1_2, ()), ()), ((), (), high10, run14, sum24, ()), ((), (), ()))) (FnCx.L_eq w_FnRisersFit_ts)).trans (by kernel_rfl)
theorem w_FnRisersFit_u4 (r0 : List (Int × (Int × Int))) (r1 : List (Int)) (b2_0 : Int) (b2_1 : Int) (b2_2 : Int) (tall48 : Int) (length49 : Int) (pace50 : Int) (a55 : Int) (low56 : Int) (most57 : Int) (seventeen59 : Bool) (s62 : ByteArray) (nineteen64 : Bool) : w_FnRisersFit_L4 r0 r1 b2_0 b2_1 b2_2 tall48 length49 pace50 a55 low56 most57 seventeen59 s62 nineteen64 = w_FnRisersFit_t4 w_FnRisersFit_L1 w_FnRisersFit_L2 w_FnRisersFit_L3 w_FnRisersFit_L4 w_FnRisersFit_L5 w_FnRisersFit_L6 w_FnRisersFit_L7 w_FnRisersFit_L8 r0 r1 b2_0 b2_1 b2_2 tall48 length49 pace50 a55 low56 most57 seventeen59 s62 nineteen64 :=
  (congrArg (fun g => g.2.2.2.1 ((r0, r1, (b2_0, b2_1, b2_2, ()), ()), (tall48, length49, pace50, (), a55, low56, most57, (), seventeen59, s62, (), nineteen64, ()), ((), (), ()))) (FnCx.L_eq w_FnRisersFit_ts)).trans (by kernel_rfl)
theorem w_FnRisersFit_u5 (b0_0 : Int) (b0_1 : Int) (b0_2 : Int) (s62 : ByteArray) (nineteen64 : Bool) : w_FnRisersFit_L5 b0_0 b0_1 b0_2 s62 nineteen64 = w_FnRisersFit_t5 w_FnRisersFit_L1 w_FnRisersFit_L2 w_FnRisersFit_L3 w_FnRisersFit_L4 w_FnRisersFit_L5 w_FnRisersFit_L6 w_FnRisersFit_L7 w_FnRisersFit_L8 b0_0 b0_1 b0_2 s62 nineteen64 :=
  (congrArg (fun g => g.2.2.2.2.1 (((b0_0, b0_1, b0_2, ()), ()), (s62, (), nineteen64, ()), ((), (), ()))) (FnCx.L_eq w_FnRisersFit_ts)).trans (by kernel_rfl)
theorem w_FnRisersFit_u6 (r0 : List (Int)) (r1 : List (Int × (Int × Int))) (r2 : List (Int)) (b3_0 : Int) (b3_1 : Int) (b3_2 : Int) (h42 : Int) (risers43 : Int) (tall48 : Int) (length49 : Int) (pace50 : Int) (a55 : Int) (low56 : Int) (most57 : Int) (seventeen59 : Bool) (s62 : ByteArray) (nineteen64 : Bool) (s504 : Int) (s505 : Int) : w_FnRisersFit_L6 r0 r1 r2 b3_0 b3_1 b3_2 h42 risers43 tall48 length49 pace50 a55 low56 most57 seventeen59 s62 nineteen64 s504 s505 = w_FnRisersFit_t6 w_FnRisersFit_L1 w_FnRisersFit_L2 w_FnRisersFit_L3 w_FnRisersFit_L4 w_FnRisersFit_L5 w_FnRisersFit_L6 w_FnRisersFit_L7 w_FnRisersFit_L8 r0 r1 r2 b3_0 b3_1 b3_2 h42 risers43 tall48 length49 pace50 a55 low56 most57 seventeen59 s62 nineteen64 s504 s505 :=
  (congrArg (fun g => g.2.2.2.2.2.1 ((r0, r1, r2, (b3_0, b3_1, b3_2, ()), ()), (h42, risers43, (), tall48, length49, pace50, (), a55, low56, most57, (), seventeen59, s62, (), nineteen64, (), s504, s505, ()), ((), (), ()))) (FnCx.L_eq w_FnRisersFit_ts)).trans (by kernel_rfl)
theorem w_FnRisersFit_u7 (r0 : List (Int × (Int × Int))) (r1 : List (Int)) (b2_0 : Int) (b2_1 : Int) (b2_2 : Int) (tall48 : Int) (length49 : Int) (pace50 : Int) (a55 : Int) (low56 : Int) (most57 : Int) (seventeen59 : Bool) (s62 : ByteArray) (nineteen64 : Bool) (s543 : Int) (s544 : Int) : w_FnRisersFit_L7 r0 r1 b2_0 b2_1 b2_2 tall48 length49 pace50 a55 low56 most57 seventeen59 s62 nineteen64 s543 s544 = w_FnRisersFit_t7 w_FnRisersFit_L1 w_FnRisersFit_L2 w_FnRisersFit_L3 w_FnRisersFit_L4 w_FnRisersFit_L5 w_FnRisersFit_L6 w_FnRisersFit_L7 w_FnRisersFit_L8 r0 r1 b2_0 b2_1 b2_2 tall48 length49 pace50 a55 low56 most57 seventeen59 s62 nineteen64 s543 s544 :=
  (congrArg (fun g => g.2.2.2.2.2.2.1 ((r0, r1, (b2_0, b2_1, b2_2, ()), ()), (tall48, length49, pace50, (), a55, low56, most57, (), seventeen59, s62, (), nineteen64, (), s543, s544, ()), ((), (), ()))) (FnCx.L_eq w_FnRisersFit_ts)).trans (by kernel_rfl)
theorem w_FnRisersFit_u8 (r0 : List (Int)) (b1_0 : Int) (b1_1 : Int) (b1_2 : Int) (a55 : Int) (low56 : Int) (most57 : Int) (s62 : ByteArray) (nineteen64 : Bool) (n77 : Int) : w_FnRisersFit_L8 r0 b1_0 b1_1 b1_2 a55 low56 most57 s62 nineteen64 n77 = w_FnRisersFit_t8 w_FnRisersFit_L1 w_FnRisersFit_L2 w_FnRisersFit_L3 w_FnRisersFit_L4 w_FnRisersFit_L5 w_FnRisersFit_L6 w_FnRisersFit_L7 w_FnRisersFit_L8 r0 b1_0 b1_1 b1_2 a55 low56 most57 s62 nineteen64 n77 :=
  (congrArg (fun g => g.2.2.2.2.2.2.2.1 ((r0, (b1_0, b1_1, b1_2, ()), ()), (a55, low56, most57, (), s62, (), nineteen64, n77, ()), ((), (), ()))) (FnCx.L_eq w_FnRisersFit_ts)).trans (by kernel_rfl)
noncomputable def w_FnRisersFit (code0 : List Int) (more1 : List Int) : Option Bool := w_FnRisersFit_t0 w_FnRisersFit_L1 w_FnRisersFit_L2 w_FnRisersFit_L3 w_FnRisersFit_L4 w_FnRisersFit_L5 w_FnRisersFit_L6 w_FnRisersFit_L7 w_FnRisersFit_L8 code0 more1
theorem w_FnRisersFit_e (code0 : List Int) (more1 : List Int) : c_w_FnRisersFit.start c_w_FnRisersFit.L (code0, more1, ()) = w_FnRisersFit code0 more1 := by kernel_rfl
noncomputable def F_w_FnRisersFit : Ins c_w_FnRisersFit.ins → Option Bool := fun x => w_FnRisersFit x.1 x.2.1
noncomputable def S_w_FnRisersFit : FSpec := mkF c_w_FnRisersFit.env.pre c_w_FnRisersFit.ins c_w_FnRisersFit.out c_w_FnRisersFit.inj F_w_FnRisersFit
theorem h_w_FnRisersFit : Cert Tryz.prog 4 S_w_FnRisersFit := FnCx.certF (c := c_w_FnRisersFit) F_w_FnRisersFit (tyOk _ _ _) (spOk ⟨h_w_big, fun _ _ h => h, ⟨h_s_DrawWholeLine, fun _ _ h => h, ⟨h_i_WholeLine, fun _ _ h => h, ⟨h_s_WholeLine, fun _ _ h => h, ⟨h_i_HeightOf, fun _ _ h => h, ⟨h_s_HeightOf, fun _ _ h => h, ⟨h_i_RunOf, fun _ _ h => h, ⟨h_s_RunOf, fun _ _ h => h, ⟨h_i_SlopeOf, fun _ _ h => h, ⟨h_s_SlopeOf, fun _ _ h => h, ⟨h_i_PaceSum, fun _ _ h => h, ⟨h_s_PaceSum, fun _ _ h => h, ⟨h_i_LineSquare, fun _ _ h => h, ⟨h_s_LineSquare, fun _ _ h => h, ⟨h_i_FlightText, fun _ _ h => h, ⟨h_s_FlightText, fun _ _ h => h, ⟨h_i_IsFlight, fun _ _ h => h, ⟨h_s_IsFlight, fun _ _ h => h, ⟨h_i_ParseFlight, fun _ _ h => h, ⟨h_w_lIs, fun _ _ h => h, ⟨h_i_TreadFor, fun _ _ h => h, ⟨h_i_HeightAtRun, fun _ _ h => h, ⟨h_s_DrawEvenRisers, fun _ _ h => h, ⟨h_i_EvenRisers, fun _ _ h => h, ⟨h_s_EvenRisers, fun _ _ h => h, ⟨h_s_DrawFlightsFor, fun _ _ h => h, ⟨h_i_FlightsFor, fun _ _ h => h, ⟨h_s_FlightsFor, fun _ _ h => h, ⟨h_s_DrawWholeRisers, fun _ _ h => h, ⟨h_i_WholeRisers, fun _ _ h => h, ⟨h_s_WholeRisers, fun _ _ h => h, ⟨h_s_DrawParseFlight, fun _ _ h => h, ⟨h_s_ParseFlight, fun _ _ h => h, ⟨h_w_lSame, fun _ _ h => h, ⟨h_w_lFlights, fun _ _ h => h, ⟨h_w_lSum, fun _ _ h => h, ⟨h_w_lHas, fun _ _ h => h, ⟨h_w_lRises, fun _ _ h => h, trivial⟩⟩⟩⟩⟩⟩⟩⟩⟩⟩⟩⟩⟩⟩⟩⟩⟩⟩⟩⟩⟩⟩⟩⟩⟩⟩⟩⟩⟩⟩⟩⟩⟩⟩⟩⟩⟩⟩) (fun _ _ _ _ _ hs => evDr_ok (tyOk _ _ _) hs follows) Tryz.func4 rfl rfl Tryz.ntmps4 (by kernel_rfl) rfl rfl (fun _ => rfl) w_FnRisersFit_ts w_FnRisersFit_hs (fun x t hb ht => by
  obtain ⟨code0, more1, _⟩ := x
  exact (w_FnRisersFit_e code0 more1).trans ht)
end Go.Proofs.YtddlajhpdbjapaaGreatDoor.V
