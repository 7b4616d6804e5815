/- Functions of the program, as plain functions. No condition. -/
import Derived.Test.YthenlapjhlljnaaTy
set_option linter.unusedVariables false
set_option linter.unusedSimpArgs false
set_option maxRecDepth 100000
namespace Go.Proofs.Ythenlapjhlljnaa.V
open Go Go.Ev Go.Proofs
/-! (*spec.l1Cur).next -/
noncomputable def c_s_l1Cur_next : FnCx := { env := env 62 [] [], body := bodyOf Try.f266, res := [.tmp 2], ins := [.ptr 128 ksl1Cur], out := [(kint, true)], T := Int × (List Int × Int × Int), fin := fun r => (r.1.1, r.2.1), inj := fun t => ((t.1, ()), (t.2, ())), pts := [], fuel := 400, dr := evDr (env 62 [] []) }
noncomputable def s_l1Cur_next (c0_code : List Int) (c0_at : Int) (c0_seed : Int) : Option (Int × (List Int × Int × Int)) :=
  bif decide (c0_at < (↑(List.length c0_code) : Int)) then
    bif decide (0 ≤ c0_at) then
      bif decide (c0_at < (↑(List.length c0_code) : Int)) then
        bif decide (IntKind.wrap IntKind.i64 (c0_at + 1) ≤ (↑(List.length c0_code) : Int)) then
          some
            (IntKind.wrap IntKind.i64 (rdk kuint8 c0_code c0_at), c0_code, IntKind.wrap IntKind.i64 (c0_at + 1),
              IntKind.wrap IntKind.u64
                (IntKind.wrap IntKind.u64
                    (IntKind.wrap IntKind.u64 (c0_seed * 6364136223846793005) +
                      IntKind.wrap IntKind.u64 (IntKind.wrap IntKind.i64 (rdk kuint8 c0_code c0_at))) +
                  1442695040888963407))
        else
          some
            (IntKind.wrap IntKind.i64
                (IntKind.wrap IntKind.u64
                  (↑(BitVec.toNat
                        (BitVec.ofInt (IntKind.bits IntKind.u64)
                            (Int.fdiv
                              (IntKind.wrap IntKind.u64
                                (IntKind.wrap IntKind.u64
                                    (IntKind.wrap IntKind.u64 (c0_seed * 6364136223846793005) +
                                      IntKind.wrap IntKind.u64 (IntKind.wrap IntKind.i64 (rdk kuint8 c0_code c0_at))) +
                                  1442695040888963407))
                              (2 ^ min (Int.toNat 40) (IntKind.bits IntKind.u64))) &&&
                          BitVec.ofInt (IntKind.bits IntKind.u64) 255)) :
                    Int)),
              c0_code, IntKind.wrap IntKind.i64 (c0_at + 1),
              IntKind.wrap IntKind.u64
                (IntKind.wrap IntKind.u64
                    (IntKind.wrap IntKind.u64 (c0_seed * 6364136223846793005) +
                      IntKind.wrap IntKind.u64 (IntKind.wrap IntKind.i64 (rdk kuint8 c0_code c0_at))) +
                  1442695040888963407))
      else none
    else none
  else
    bif decide (IntKind.wrap IntKind.i64 (c0_at + 1) ≤ (↑(List.length c0_code) : Int)) then
      some
        (0, c0_code, IntKind.wrap IntKind.i64 (c0_at + 1),
          IntKind.wrap IntKind.u64
            (IntKind.wrap IntKind.u64 (IntKind.wrap IntKind.u64 (c0_seed * 6364136223846793005) + IntKind.wrap IntKind.u64 0) + 1442695040888963407))
    else
      some
        (IntKind.wrap IntKind.i64
            (IntKind.wrap IntKind.u64
              (↑(BitVec.toNat
                    (BitVec.ofInt (IntKind.bits IntKind.u64)
                        (Int.fdiv
                          (IntKind.wrap IntKind.u64
                            (IntKind.wrap IntKind.u64 (IntKind.wrap IntKind.u64 (c0_seed * 6364136223846793005) + IntKind.wrap IntKind.u64 0) +
                              1442695040888963407))
                          (2 ^ min (Int.toNat 40) (IntKind.bits IntKind.u64))) &&&
                      BitVec.ofInt (IntKind.bits IntKind.u64) 255)) :
                Int)),
          c0_code, IntKind.wrap IntKind.i64 (c0_at + 1),
          IntKind.wrap IntKind.u64
            (IntKind.wrap IntKind.u64 (IntKind.wrap IntKind.u64 (c0_seed * 6364136223846793005) + IntKind.wrap IntKind.u64 0) + 1442695040888963407))
theorem s_l1Cur_next_e (c0_code : List Int) (c0_at : Int) (c0_seed : Int) : c_s_l1Cur_next.start c_s_l1Cur_next.L ((c0_code, c0_at, c0_seed), ()) = s_l1Cur_next c0_code c0_at c0_seed := by kernel_rfl
noncomputable def F_s_l1Cur_next : Ins c_s_l1Cur_next.ins → Option (Int × (List Int × Int × Int)) := fun x => s_l1Cur_next x.1.1 x.1.2.1 x.1.2.2
noncomputable def S_s_l1Cur_next : FSpec := mkF c_s_l1Cur_next.env.pre c_s_l1Cur_next.ins c_s_l1Cur_next.out c_s_l1Cur_next.inj F_s_l1Cur_next
theorem h_s_l1Cur_next : Cert Try.prog 266 S_s_l1Cur_next := FnCx.certF (c := c_s_l1Cur_next) F_s_l1Cur_next (tyOk _ _ _) (spOk trivial) (fun _ _ _ _ _ hs => evDr_ok (tyOk _ _ _) hs follows) Try.func266 rfl rfl Try.ntmps266 (by kernel_rfl) rfl rfl (fun _ => rfl) trivial (fun x => .inl ⟨c_s_l1Cur_next.start () x, fun _ => rfl⟩) (fun x t hb ht => by
  obtain ⟨⟨c0_code, c0_at, c0_seed⟩, _⟩ := x
  exact (s_l1Cur_next_e c0_code c0_at c0_seed).trans ht)
/-! (*spec.l1Cur).pick -/
noncomputable def c_s_l1Cur_pick : FnCx := { env := env 20 [(266, S_s_l1Cur_next)] [], body := bodyOf Try.f183, res := [.tmp 4], ins := [.ptr 128 ksl1Cur, .ro kint], out := [(kint, true)], T := Int × (List Int × Int × Int), fin := fun r => (r.1.1, r.2.1), inj := fun t => ((t.1, ()), (t.2, (), ())), pts := [], fuel := 400, dr := noDr }
noncomputable def s_l1Cur_pick (c0_code : List Int) (c0_at : Int) (c0_seed : Int) (n1 : Int) : Option (Int × (List Int × Int × Int)) :=
  bif decide (n1 ≤ 1) then some (0, c0_code, c0_at, c0_seed)
  else
    Option.bind (s_l1Cur_next c0_code c0_at c0_seed) fun r =>
      bif decide (n1 > 200) then
        Option.bind (s_l1Cur_next (Prod.fst (Prod.snd r)) (Prod.fst (Prod.snd (Prod.snd r))) (Prod.snd (Prod.snd (Prod.snd r)))) fun r_1 =>
          bif n1 == 0 then none
          else
            some
              (Int.tmod (IntKind.wrap IntKind.i64 (IntKind.wrap IntKind.i64 (Prod.fst r * 256) + Prod.fst r_1)) n1, Prod.fst (Prod.snd r_1),
                Prod.fst (Prod.snd (Prod.snd r_1)), Prod.snd (Prod.snd (Prod.snd r_1)))
      else bif n1 == 0 then none else some (Int.tmod (Prod.fst r) n1, Prod.fst (Prod.snd r), Prod.fst (Prod.snd (Prod.snd r)), Prod.snd (Prod.snd (Prod.snd r)))
theorem s_l1Cur_pick_e (c0_code : List Int) (c0_at : Int) (c0_seed : Int) (n1 : Int) : c_s_l1Cur_pick.start c_s_l1Cur_pick.L ((c0_code, c0_at, c0_seed), n1, ()) = s_l1Cur_pick c0_code c0_at c0_seed n1 := by kernel_rfl
noncomputable def F_s_l1Cur_pick : Ins c_s_l1Cur_pick.ins → Option (Int × (List Int × Int × Int)) := fun x => s_l1Cur_pick x.1.1 x.1.2.1 x.1.2.2 x.2.1
noncomputable def S_s_l1Cur_pick : FSpec := mkF c_s_l1Cur_pick.env.pre c_s_l1Cur_pick.ins c_s_l1Cur_pick.out c_s_l1Cur_pick.inj F_s_l1Cur_pick
theorem h_s_l1Cur_pick : Cert Try.prog 183 S_s_l1Cur_pick := FnCx.certF (c := c_s_l1Cur_pick) F_s_l1Cur_pick (tyOk _ _ _) (spOk ⟨h_s_l1Cur_next, fun _ _ _ => trivial, trivial⟩) (fun _ _ _ _ _ hs => noDr_ok) Try.func183 rfl rfl Try.ntmps183 (by kernel_rfl) rfl rfl (fun _ => rfl) trivial (fun x => .inl ⟨c_s_l1Cur_pick.start () x, fun _ => rfl⟩) (fun x t hb ht => by
  obtain ⟨⟨c0_code, c0_at, c0_seed⟩, n1, _⟩ := x
  exact (s_l1Cur_pick_e c0_code c0_at c0_seed n1).trans ht)
/-! (*spec.l1Cur).sureFlight -/
noncomputable def c_s_l1Cur_sureFlight : FnCx := { env := env 16 [(183, S_s_l1Cur_pick)] [], body := bodyOf Try.f267, res := [.cell 2 47], ins := [.ptr 128 ksl1Cur], out := [(kFlight, true)], T := (Int × Int × Int) × (List Int × Int × Int), fin := fun r => (r.1.1, r.2.1), inj := fun t => ((t.1, ()), (t.2, ())), pts := [], fuel := 400, dr := noDr }
noncomputable def s_l1Cur_sureFlight (c0_code : List Int) (c0_at : Int) (c0_seed : Int) : Option ((Int × Int × Int) × (List Int × Int × Int)) :=
  Option.bind (s_l1Cur_pick c0_code c0_at c0_seed 12) fun r =>
    Option.bind (s_l1Cur_pick (Prod.fst (Prod.snd r)) (Prod.fst (Prod.snd (Prod.snd r))) (Prod.snd (Prod.snd (Prod.snd r))) 9) fun r_1 =>
      Option.bind (s_l1Cur_pick (Prod.fst (Prod.snd r_1)) (Prod.fst (Prod.snd (Prod.snd r_1))) (Prod.snd (Prod.snd (Prod.snd r_1))) 9) fun r_2 =>
        some
          ((IntKind.wrap IntKind.i64 (1 + Prod.fst r), IntKind.wrap IntKind.i64 (1 + Prod.fst r_1), IntKind.wrap IntKind.i64 (1 + Prod.fst r_2)),
            Prod.fst (Prod.snd r_2), Prod.fst (Prod.snd (Prod.snd r_2)), Prod.snd (Prod.snd (Prod.snd r_2)))
theorem s_l1Cur_sureFlight_e (c0_code : List Int) (c0_at : Int) (c0_seed : Int) : c_s_l1Cur_sureFlight.start c_s_l1Cur_sureFlight.L ((c0_code, c0_at, c0_seed), ()) = s_l1Cur_sureFlight c0_code c0_at c0_seed := by kernel_rfl
noncomputable def F_s_l1Cur_sureFlight : Ins c_s_l1Cur_sureFlight.ins → Option ((Int × Int × Int) × (List Int × Int × Int)) := fun x => s_l1Cur_sureFlight x.1.1 x.1.2.1 x.1.2.2
noncomputable def S_s_l1Cur_sureFlight : FSpec := mkF c_s_l1Cur_sureFlight.env.pre c_s_l1Cur_sureFlight.ins c_s_l1Cur_sureFlight.out c_s_l1Cur_sureFlight.inj F_s_l1Cur_sureFlight
theorem h_s_l1Cur_sureFlight : Cert Try.prog 267 S_s_l1Cur_sureFlight := FnCx.certF (c := c_s_l1Cur_sureFlight) F_s_l1Cur_sureFlight (tyOk _ _ _) (spOk ⟨h_s_l1Cur_pick, fun _ _ _ => trivial, trivial⟩) (fun _ _ _ _ _ hs => noDr_ok) Try.func267 rfl rfl Try.ntmps267 (by kernel_rfl) rfl rfl (fun _ => rfl) trivial (fun x => .inl ⟨c_s_l1Cur_sureFlight.start () x, fun _ => rfl⟩) (fun x t hb ht => by
  obtain ⟨⟨c0_code, c0_at, c0_seed⟩, _⟩ := x
  exact (s_l1Cur_sureFlight_e c0_code c0_at c0_seed).trans ht)
/-! (*spec.l1Cur).among -/
noncomputable def c_s_l1Cur_among : FnCx := { env := env 12 [(183, S_s_l1Cur_pick)] [], body := bodyOf Try.f180, res := [.tmp 4], ins := [.ptr 128 ksl1Cur, .ro kSint], out := [(kint, true)], T := Int × (List Int × Int × Int), fin := fun r => (r.1.1, r.2.1), inj := fun t => ((t.1, ()), (t.2, (), ())), pts := [], fuel := 400, dr := noDr }
noncomputable def s_l1Cur_among (c0_code : List Int) (c0_at : Int) (c0_seed : Int) (list1 : List Int) : Option (Int × (List Int × Int × Int)) :=
  Option.bind (s_l1Cur_pick c0_code c0_at c0_seed (↑(List.length list1) : Int)) fun r =>
    bif decide (0 ≤ Prod.fst r) then
      bif decide (Prod.fst r < (↑(List.length list1) : Int)) then
        some (rdk kint list1 (Prod.fst r), Prod.fst (Prod.snd r), Prod.fst (Prod.snd (Prod.snd r)), Prod.snd (Prod.snd (Prod.snd r)))
      else none
    else none
theorem s_l1Cur_among_e (c0_code : List Int) (c0_at : Int) (c0_seed : Int) (list1 : List Int) : c_s_l1Cur_among.start c_s_l1Cur_among.L ((c0_code, c0_at, c0_seed), list1, ()) = s_l1Cur_among c0_code c0_at c0_seed list1 := by kernel_rfl
noncomputable def F_s_l1Cur_among : Ins c_s_l1Cur_among.ins → Option (Int × (List Int × Int × Int)) := fun x => s_l1Cur_among x.1.1 x.1.2.1 x.1.2.2 x.2.1
noncomputable def S_s_l1Cur_among : FSpec := mkF c_s_l1Cur_among.env.pre c_s_l1Cur_among.ins c_s_l1Cur_among.out c_s_l1Cur_among.inj F_s_l1Cur_among
theorem h_s_l1Cur_among : Cert Try.prog 180 S_s_l1Cur_among := FnCx.certF (c := c_s_l1Cur_among) F_s_l1Cur_among (tyOk _ _ _) (spOk ⟨h_s_l1Cur_pick, fun _ _ _ => trivial, trivial⟩) (fun _ _ _ _ _ hs => noDr_ok) Try.func180 rfl rfl Try.ntmps180 (by kernel_rfl) rfl rfl (fun _ => rfl) trivial (fun x => .inl ⟨c_s_l1Cur_among.start () x, fun _ => rfl⟩) (fun x t hb ht => by
  obtain ⟨⟨c0_code, c0_at, c0_seed⟩, list1, _⟩ := x
  exact (s_l1Cur_among_e c0_code c0_at c0_seed list1).trans ht)
/-! (*spec.l1Cur).flight -/
noncomputable def c_s_l1Cur_flight : FnCx := { env := env 27 [(267, S_s_l1Cur_sureFlight), (183, S_s_l1Cur_pick), (180, S_s_l1Cur_among)] [], body := bodyOf Try.f184, res := [.cell 2 47], ins := [.ptr 128 ksl1Cur], out := [(kFlight, true)], T := (Int × Int × Int) × (List Int × Int × Int), fin := fun r => (r.1.1, r.2.1), inj := fun t => ((t.1, ()), (t.2, ())), pts := [], fuel := 400, dr := noDr }
noncomputable def s_l1Cur_flight (c0_code : List Int) (c0_at : Int) (c0_seed : Int) : Option ((Int × Int × Int) × (List Int × Int × Int)) :=
  Option.bind (s_l1Cur_sureFlight c0_code c0_at c0_seed) fun r =>
    Option.bind (s_l1Cur_pick (Prod.fst (Prod.snd r)) (Prod.fst (Prod.snd (Prod.snd r))) (Prod.snd (Prod.snd (Prod.snd r))) 16) fun r_1 =>
      bif Prod.fst r_1 == 0 then
        Option.bind
          (s_l1Cur_among (Prod.fst (Prod.snd r_1)) (Prod.fst (Prod.snd (Prod.snd r_1))) (Prod.snd (Prod.snd (Prod.snd r_1)))
            [0, -1, 100, 101, 4611686018427387904])
          fun r_2 =>
          some
            ((Prod.fst r_2, Prod.fst (Prod.snd (Prod.fst r)), Prod.snd (Prod.snd (Prod.fst r))), Prod.fst (Prod.snd r_2), Prod.fst (Prod.snd (Prod.snd r_2)),
              Prod.snd (Prod.snd (Prod.snd r_2)))
      else
        bif Prod.fst r_1 == 1 then
          Option.bind
            (s_l1Cur_among (Prod.fst (Prod.snd r_1)) (Prod.fst (Prod.snd (Prod.snd r_1))) (Prod.snd (Prod.snd (Prod.snd r_1)))
              [0, -1, 250, 251, 4611686018427387904])
            fun r_2 =>
            some
              ((Prod.fst (Prod.fst r), Prod.fst r_2, Prod.snd (Prod.snd (Prod.fst r))), Prod.fst (Prod.snd r_2), Prod.fst (Prod.snd (Prod.snd r_2)),
                Prod.snd (Prod.snd (Prod.snd r_2)))
        else
          bif Prod.fst r_1 == 2 then
            Option.bind
              (s_l1Cur_among (Prod.fst (Prod.snd r_1)) (Prod.fst (Prod.snd (Prod.snd r_1))) (Prod.snd (Prod.snd (Prod.snd r_1)))
                [0, -1, 500, 501, 4611686018427387904])
              fun r_2 =>
              some
                ((Prod.fst (Prod.fst r), Prod.fst (Prod.snd (Prod.fst r)), Prod.fst r_2), Prod.fst (Prod.snd r_2), Prod.fst (Prod.snd (Prod.snd r_2)),
                  Prod.snd (Prod.snd (Prod.snd r_2)))
          else
            some
              ((Prod.fst (Prod.fst r), Prod.fst (Prod.snd (Prod.fst r)), Prod.snd (Prod.snd (Prod.fst r))), Prod.fst (Prod.snd r_1),
                Prod.fst (Prod.snd (Prod.snd r_1)), Prod.snd (Prod.snd (Prod.snd r_1)))
theorem s_l1Cur_flight_e (c0_code : List Int) (c0_at : Int) (c0_seed : Int) : c_s_l1Cur_flight.start c_s_l1Cur_flight.L ((c0_code, c0_at, c0_seed), ()) = s_l1Cur_flight c0_code c0_at c0_seed := by kernel_rfl
noncomputable def F_s_l1Cur_flight : Ins c_s_l1Cur_flight.ins → Option ((Int × Int × Int) × (List Int × Int × Int)) := fun x => s_l1Cur_flight x.1.1 x.1.2.1 x.1.2.2
noncomputable def S_s_l1Cur_flight : FSpec := mkF c_s_l1Cur_flight.env.pre c_s_l1Cur_flight.ins c_s_l1Cur_flight.out c_s_l1Cur_flight.inj F_s_l1Cur_flight
theorem h_s_l1Cur_flight : Cert Try.prog 184 S_s_l1Cur_flight := FnCx.certF (c := c_s_l1Cur_flight) F_s_l1Cur_flight (tyOk _ _ _) (spOk ⟨h_s_l1Cur_sureFlight, fun _ _ _ => trivial, ⟨h_s_l1Cur_pick, fun _ _ _ => trivial, ⟨h_s_l1Cur_among, fun _ _ _ => trivial, trivial⟩⟩⟩) (fun _ _ _ _ _ hs => noDr_ok) Try.func184 rfl rfl Try.ntmps184 (by kernel_rfl) rfl rfl (fun _ => rfl) trivial (fun x => .inl ⟨c_s_l1Cur_flight.start () x, fun _ => rfl⟩) (fun x t hb ht => by
  obtain ⟨⟨c0_code, c0_at, c0_seed⟩, _⟩ := x
  exact (s_l1Cur_flight_e c0_code c0_at c0_seed).trans ht)
/-! spec.DrawHeightAtRun -/
noncomputable def c_s_DrawHeightAtRun : FnCx := { env := env 15 [(184, S_s_l1Cur_flight), (180, S_s_l1Cur_among)] [], body := bodyOf Try.f38, res := [.cell 2 47, .tmp 3], ins := [.ro kSuint8], out := [(kFlight, true), (kint, true)], T := (Int × Int × Int) × Int, fin := fun r => (r.1.1, r.1.2.1), inj := fun t => ((t.1, t.2, ()), ((), ())), pts := [], fuel := 400, dr := evDr (env 15 [(184, S_s_l1Cur_flight), (180, S_s_l1Cur_among)] []) }
noncomputable def s_DrawHeightAtRun (code0 : List Int) : Option ((Int × Int × Int) × Int) :=
  Option.bind (s_l1Cur_flight code0 0 0) fun r =>
    Option.bind
      (s_l1Cur_among (Prod.fst (Prod.snd r)) (Prod.fst (Prod.snd (Prod.snd r))) (Prod.snd (Prod.snd (Prod.snd r)))
        [-1001, -1000, -1, 0, 1, 3, 4, 5, 8, 12, 30, 1000, 1001, 4611686018427387904])
      fun r_1 => some ((Prod.fst (Prod.fst r), Prod.fst (Prod.snd (Prod.fst r)), Prod.snd (Prod.snd (Prod.fst r))), Prod.fst r_1)
theorem s_DrawHeightAtRun_e (code0 : List Int) : c_s_DrawHeightAtRun.start c_s_DrawHeightAtRun.L (code0, ()) = s_DrawHeightAtRun code0 := by kernel_rfl
noncomputable def F_s_DrawHeightAtRun : Ins c_s_DrawHeightAtRun.ins → Option ((Int × Int × Int) × Int) := fun x => s_DrawHeightAtRun x.1
noncomputable def S_s_DrawHeightAtRun : FSpec := mkF c_s_DrawHeightAtRun.env.pre c_s_DrawHeightAtRun.ins c_s_DrawHeightAtRun.out c_s_DrawHeightAtRun.inj F_s_DrawHeightAtRun
theorem h_s_DrawHeightAtRun : Cert Try.prog 38 S_s_DrawHeightAtRun := FnCx.certF (c := c_s_DrawHeightAtRun) F_s_DrawHeightAtRun (tyOk _ _ _) (spOk ⟨h_s_l1Cur_flight, fun _ _ _ => trivial, ⟨h_s_l1Cur_among, fun _ _ _ => trivial, trivial⟩⟩) (fun _ _ _ _ _ hs => evDr_ok (tyOk _ _ _) hs follows) Try.func38 rfl rfl Try.ntmps38 (by kernel_rfl) rfl rfl (fun _ => rfl) trivial (fun x => .inl ⟨c_s_DrawHeightAtRun.start () x, fun _ => rfl⟩) (fun x t hb ht => by
  obtain ⟨code0, _⟩ := x
  exact (s_DrawHeightAtRun_e code0).trans ht)
/-! impl.within -/
noncomputable def c_i_within : FnCx := { env := env 15 [] [], body := bodyOf Try.f175, res := [.tmp 6], ins := [.ro kint, .ro kint, .ro kint], out := [(kbool, true)], T := Bool, fin := fun r => r.1.1, inj := fun t => ((t, ()), ((), (), (), ())), pts := [], fuel := 400, dr := noDr }
noncomputable def i_within (n0 : Int) (low1 : Int) (high2 : Int) : Bool :=
  bif decide (low1 ≤ n0) then decide (n0 ≤ high2) else false
theorem i_within_e (n0 : Int) (low1 : Int) (high2 : Int) : c_i_within.start c_i_within.L (n0, low1, high2, ()) = some (i_within n0 low1 high2) := by
  refine Eq.trans (b := (bif decide (low1 ≤ n0) then some (decide (n0 ≤ high2)) else some false : Option Bool)) (by kernel_rfl) ?_
  unfold i_within
  repeat (first | rfl | apply condS)
noncomputable def F_i_within : Ins c_i_within.ins → Bool := fun x => i_within x.1 x.2.1 x.2.2.1
noncomputable def S_i_within : FSpec := mkT c_i_within.env.pre c_i_within.ins c_i_within.out c_i_within.inj F_i_within
theorem h_i_within : Cert Try.prog 175 S_i_within := FnCx.certT (c := c_i_within) F_i_within (tyOk _ _ _) (spOk trivial) (fun _ _ _ _ _ hs => noDr_ok) Try.func175 rfl rfl Try.ntmps175 (by kernel_rfl) rfl rfl (fun _ => rfl) trivial (fun x => .inl ⟨c_i_within.start () x, fun _ => rfl⟩) (fun x hb => by
  obtain ⟨n0, low1, high2, _⟩ := x
  exact i_within_e n0 low1 high2)
/-! impl.IsFlight -/
noncomputable def c_i_IsFlight : FnCx := { env := env 16 [(175, S_i_within)] [], body := bodyOf Try.f185, res := [.tmp 2], ins := [.ro kFlight], out := [(kbool, true)], T := Bool, fin := fun r => r.1.1, inj := fun t => ((t, ()), ((), ())), pts := [], fuel := 400, dr := noDr }
noncomputable def i_IsFlight (f0_Risers : Int) (f0_Rise : Int) (f0_Tread : Int) : Bool :=
  bif i_within f0_Risers 1 100 then bif i_within f0_Rise 1 250 then i_within f0_Tread 1 500 else false else false
theorem i_IsFlight_e (f0_Risers : Int) (f0_Rise : Int) (f0_Tread : Int) : c_i_IsFlight.start c_i_IsFlight.L ((f0_Risers, f0_Rise, f0_Tread), ()) = some (i_IsFlight f0_Risers f0_Rise f0_Tread) := by
  refine Eq.trans (b := (bif i_within f0_Risers 1 100 then bif i_within f0_Rise 1 250 then some (i_within f0_Tread 1 500) else some false else some false : Option Bool)) (by kernel_rfl) ?_
  unfold i_IsFlight
  repeat (first | rfl | apply condS)
noncomputable def F_i_IsFlight : Ins c_i_IsFlight.ins → Bool := fun x => i_IsFlight x.1.1 x.1.2.1 x.1.2.2
noncomputable def S_i_IsFlight : FSpec := mkT c_i_IsFlight.env.pre c_i_IsFlight.ins c_i_IsFlight.out c_i_IsFlight.inj F_i_IsFlight
theorem h_i_IsFlight : Cert Try.prog 185 S_i_IsFlight := FnCx.certT (c := c_i_IsFlight) F_i_IsFlight (tyOk _ _ _) (spOk ⟨h_i_within, fun _ _ _ => trivial, trivial⟩) (fun _ _ _ _ _ hs => noDr_ok) Try.func185 rfl rfl Try.ntmps185 (by kernel_rfl) rfl rfl (fun _ => rfl) trivial (fun x => .inl ⟨c_i_IsFlight.start () x, fun _ => rfl⟩) (fun x hb => by
  obtain ⟨⟨f0_Risers, f0_Rise, f0_Tread⟩, _⟩ := x
  exact i_IsFlight_e f0_Risers f0_Rise f0_Tread)
/-! (impl.Flight).run -/
noncomputable def c_i_Flight_run : FnCx := { env := env 9 [] [], body := bodyOf Try.f186, res := [.tmp 2], ins := [.ro kFlight], out := [(kint, true)], T := Int, fin := fun r => r.1.1, inj := fun t => ((t, ()), ((), ())), pts := [], fuel := 400, dr := noDr }
noncomputable def i_Flight_run (f0_Risers : Int) (f0_Rise : Int) (f0_Tread : Int) : Int :=
  IntKind.wrap IntKind.i64 (IntKind.wrap IntKind.i64 (f0_Risers - 1) * f0_Tread)
theorem i_Flight_run_e (f0_Risers : Int) (f0_Rise : Int) (f0_Tread : Int) : c_i_Flight_run.start c_i_Flight_run.L ((f0_Risers, f0_Rise, f0_Tread), ()) = some (i_Flight_run f0_Risers f0_Rise f0_Tread) := by kernel_rfl
noncomputable def F_i_Flight_run : Ins c_i_Flight_run.ins → Int := fun x => i_Flight_run x.1.1 x.1.2.1 x.1.2.2
noncomputable def S_i_Flight_run : FSpec := mkT c_i_Flight_run.env.pre c_i_Flight_run.ins c_i_Flight_run.out c_i_Flight_run.inj F_i_Flight_run
theorem h_i_Flight_run : Cert Try.prog 186 S_i_Flight_run := FnCx.certT (c := c_i_Flight_run) F_i_Flight_run (tyOk _ _ _) (spOk trivial) (fun _ _ _ _ _ hs => noDr_ok) Try.func186 rfl rfl Try.ntmps186 (by kernel_rfl) rfl rfl (fun _ => rfl) trivial (fun x => .inl ⟨c_i_Flight_run.start () x, fun _ => rfl⟩) (fun x hb => by
  obtain ⟨⟨f0_Risers, f0_Rise, f0_Tread⟩, _⟩ := x
  exact i_Flight_run_e f0_Risers f0_Rise f0_Tread)
/-! impl.HeightAtRun -/
noncomputable def c_i_HeightAtRun : FnCx := { env := env 30 [(185, S_i_IsFlight), (186, S_i_Flight_run), (175, S_i_within)] [], body := bodyOf Try.f39, res := [.tmp 4, .tmp 5], ins := [.ro kFlight, .ro kint], out := [(kint, true), (kbool, true)], T := Int × Bool, fin := fun r => (r.1.1, r.1.2.1), inj := fun t => ((t.1, t.2, ()), ((), (), ())), pts := [], fuel := 400, dr := evDr (env 30 [(185, S_i_IsFlight), (186, S_i_Flight_run), (175, S_i_within)] []) }
noncomputable def i_HeightAtRun (f0_Risers : Int) (f0_Rise : Int) (f0_Tread : Int) (place1 : Int) : Option (Int × Bool) :=
  bif !i_IsFlight f0_Risers f0_Rise f0_Tread then some (0, false)
  else
    bif !i_within place1 (-1000) (IntKind.wrap IntKind.i64 (i_Flight_run f0_Risers f0_Rise f0_Tread + 1000)) then some (0, false)
    else
      bif decide (place1 < 0) then some (0, true)
      else
        bif f0_Tread == 0 then none
        else
          some
            (IntKind.wrap IntKind.i64
                ((bif decide (IntKind.wrap IntKind.i64 (IntKind.wrap IntKind.i64 (Int.tdiv place1 f0_Tread) + 1) < f0_Risers) then
                    IntKind.wrap IntKind.i64 (IntKind.wrap IntKind.i64 (Int.tdiv place1 f0_Tread) + 1)
                  else f0_Risers) *
                  f0_Rise),
              true)
theorem i_HeightAtRun_e (f0_Risers : Int) (f0_Rise : Int) (f0_Tread : Int) (place1 : Int) : c_i_HeightAtRun.start c_i_HeightAtRun.L ((f0_Risers, f0_Rise, f0_Tread), place1, ()) = i_HeightAtRun f0_Risers f0_Rise f0_Tread place1 := by kernel_rfl
noncomputable def F_i_HeightAtRun : Ins c_i_HeightAtRun.ins → Option (Int × Bool) := fun x => i_HeightAtRun x.1.1 x.1.2.1 x.1.2.2 x.2.1
noncomputable def S_i_HeightAtRun : FSpec := mkF c_i_HeightAtRun.env.pre c_i_HeightAtRun.ins c_i_HeightAtRun.out c_i_HeightAtRun.inj F_i_HeightAtRun
theorem h_i_HeightAtRun : Cert Try.prog 39 S_i_HeightAtRun := FnCx.certF (c := c_i_HeightAtRun) F_i_HeightAtRun (tyOk _ _ _) (spOk ⟨h_i_IsFlight, fun _ _ _ => trivial, ⟨h_i_Flight_run, fun _ _ _ => trivial, ⟨h_i_within, fun _ _ _ => trivial, trivial⟩⟩⟩) (fun _ _ _ _ _ hs => evDr_ok (tyOk _ _ _) hs follows) Try.func39 rfl rfl Try.ntmps39 (by kernel_rfl) rfl rfl (fun _ => rfl) trivial (fun x => .inl ⟨c_i_HeightAtRun.start () x, fun _ => rfl⟩) (fun x t hb ht => by
  obtain ⟨⟨f0_Risers, f0_Rise, f0_Tread⟩, place1, _⟩ := x
  exact (i_HeightAtRun_e f0_Risers f0_Rise f0_Tread place1).trans ht)
/-! spec.l1In -/
noncomputable def c_s_l1In : FnCx := { env := env 15 [] [], body := bodyOf Try.f176, res := [.tmp 6], ins := [.ro kint, .ro kint, .ro kint], out := [(kbool, true)], T := Bool, fin := fun r => r.1.1, inj := fun t => ((t, ()), ((), (), (), ())), pts := [], fuel := 400, dr := noDr }
noncomputable def s_l1In (n0 : Int) (lo1 : Int) (hi2 : Int) : Bool :=
  bif decide (n0 ≥ lo1) then decide (n0 ≤ hi2) else false
theorem s_l1In_e (n0 : Int) (lo1 : Int) (hi2 : Int) : c_s_l1In.start c_s_l1In.L (n0, lo1, hi2, ()) = some (s_l1In n0 lo1 hi2) := by
  refine Eq.trans (b := (bif decide (n0 ≥ lo1) then some (decide (n0 ≤ hi2)) else some false : Option Bool)) (by kernel_rfl) ?_
  unfold s_l1In
  repeat (first | rfl | apply condS)
noncomputable def F_s_l1In : Ins c_s_l1In.ins → Bool := fun x => s_l1In x.1 x.2.1 x.2.2.1
noncomputable def S_s_l1In : FSpec := mkT c_s_l1In.env.pre c_s_l1In.ins c_s_l1In.out c_s_l1In.inj F_s_l1In
theorem h_s_l1In : Cert Try.prog 176 S_s_l1In := FnCx.certT (c := c_s_l1In) F_s_l1In (tyOk _ _ _) (spOk trivial) (fun _ _ _ _ _ hs => noDr_ok) Try.func176 rfl rfl Try.ntmps176 (by kernel_rfl) rfl rfl (fun _ => rfl) trivial (fun x => .inl ⟨c_s_l1In.start () x, fun _ => rfl⟩) (fun x hb => by
  obtain ⟨n0, lo1, hi2, _⟩ := x
  exact s_l1In_e n0 lo1 hi2)
/-! spec.riGood -/
noncomputable def c_s_riGood : FnCx := { env := env 16 [(176, S_s_l1In)] [], body := bodyOf Try.f192, res := [.tmp 2], ins := [.ro kFlight], out := [(kbool, true)], T := Bool, fin := fun r => r.1.1, inj := fun t => ((t, ()), ((), ())), pts := [], fuel := 400, dr := noDr }
noncomputable def s_riGood (f0_Risers : Int) (f0_Rise : Int) (f0_Tread : Int) : Bool :=
  bif s_l1In f0_Risers 1 100 then bif s_l1In f0_Rise 1 250 then s_l1In f0_Tread 1 500 else false else false
theorem s_riGood_e (f0_Risers : Int) (f0_Rise : Int) (f0_Tread : Int) : c_s_riGood.start c_s_riGood.L ((f0_Risers, f0_Rise, f0_Tread), ()) = some (s_riGood f0_Risers f0_Rise f0_Tread) := by
  refine Eq.trans (b := (bif s_l1In f0_Risers 1 100 then bif s_l1In f0_Rise 1 250 then some (s_l1In f0_Tread 1 500) else some false else some false : Option Bool)) (by kernel_rfl) ?_
  unfold s_riGood
  repeat (first | rfl | apply condS)
noncomputable def F_s_riGood : Ins c_s_riGood.ins → Bool := fun x => s_riGood x.1.1 x.1.2.1 x.1.2.2
noncomputable def S_s_riGood : FSpec := mkT c_s_riGood.env.pre c_s_riGood.ins c_s_riGood.out c_s_riGood.inj F_s_riGood
theorem h_s_riGood : Cert Try.prog 192 S_s_riGood := FnCx.certT (c := c_s_riGood) F_s_riGood (tyOk _ _ _) (spOk ⟨h_s_l1In, fun _ _ _ => trivial, trivial⟩) (fun _ _ _ _ _ hs => noDr_ok) Try.func192 rfl rfl Try.ntmps192 (by kernel_rfl) rfl rfl (fun _ => rfl) trivial (fun x => .inl ⟨c_s_riGood.start () x, fun _ => rfl⟩) (fun x hb => by
  obtain ⟨⟨f0_Risers, f0_Rise, f0_Tread⟩, _⟩ := x
  exact s_riGood_e f0_Risers f0_Rise f0_Tread)
/-! spec.riPlace -/
noncomputable def c_s_riPlace : FnCx := { env := env 18 [(192, S_s_riGood), (176, S_s_l1In)] [], body := bodyOf Try.f187, res := [.tmp 4], ins := [.ro kFlight, .ro kint], out := [(kbool, true)], T := Bool, fin := fun r => r.1.1, inj := fun t => ((t, ()), ((), (), ())), pts := [], fuel := 400, dr := noDr }
noncomputable def s_riPlace (f0_Risers : Int) (f0_Rise : Int) (f0_Tread : Int) (place1 : Int) : Bool :=
  bif s_riGood f0_Risers f0_Rise f0_Tread then
    s_l1In place1 (-1000) (IntKind.wrap IntKind.i64 (IntKind.wrap IntKind.i64 (IntKind.wrap IntKind.i64 (f0_Risers - 1) * f0_Tread) + 1000))
  else false
theorem s_riPlace_e (f0_Risers : Int) (f0_Rise : Int) (f0_Tread : Int) (place1 : Int) : c_s_riPlace.start c_s_riPlace.L ((f0_Risers, f0_Rise, f0_Tread), place1, ()) = some (s_riPlace f0_Risers f0_Rise f0_Tread place1) := by
  refine Eq.trans (b := (bif s_riGood f0_Risers f0_Rise f0_Tread then some (s_l1In place1 (-1000) (IntKind.wrap IntKind.i64 (IntKind.wrap IntKind.i64 (IntKind.wrap IntKind.i64 (f0_Risers - 1) * f0_Tread) + 1000))) else some false : Option Bool)) (by kernel_rfl) ?_
  unfold s_riPlace
  repeat (first | rfl | apply condS)
noncomputable def F_s_riPlace : Ins c_s_riPlace.ins → Bool := fun x => s_riPlace x.1.1 x.1.2.1 x.1.2.2 x.2.1
noncomputable def S_s_riPlace : FSpec := mkT c_s_riPlace.env.pre c_s_riPlace.ins c_s_riPlace.out c_s_riPlace.inj F_s_riPlace
theorem h_s_riPlace : Cert Try.prog 187 S_s_riPlace := FnCx.certT (c := c_s_riPlace) F_s_riPlace (tyOk _ _ _) (spOk ⟨h_s_riGood, fun _ _ _ => trivial, ⟨h_s_l1In, fun _ _ _ => trivial, trivial⟩⟩) (fun _ _ _ _ _ hs => noDr_ok) Try.func187 rfl rfl Try.ntmps187 (by kernel_rfl) rfl rfl (fun _ => rfl) trivial (fun x => .inl ⟨c_s_riPlace.start () x, fun _ => rfl⟩) (fun x hb => by
  obtain ⟨⟨f0_Risers, f0_Rise, f0_Tread⟩, place1, _⟩ := x
  exact s_riPlace_e f0_Risers f0_Rise f0_Tread place1)
/-! spec.l1Least -/
noncomputable def c_s_l1Least : FnCx := { env := env 10 [] [], body := bodyOf Try.f190, res := [.tmp 4], ins := [.ro kint, .ro kint], out := [(kint, true)], T := Int, fin := fun r => r.1.1, inj := fun t => ((t, ()), ((), (), ())), pts := [], fuel := 400, dr := noDr }
noncomputable def s_l1Least (a0 : Int) (b1 : Int) : Int :=
  bif decide (a0 < b1) then a0 else b1
theorem s_l1Least_e (a0 : Int) (b1 : Int) : c_s_l1Least.start c_s_l1Least.L (a0, b1, ()) = some (s_l1Least a0 b1) := by
  refine Eq.trans (b := (bif decide (a0 < b1) then some a0 else some b1 : Option Int)) (by kernel_rfl) ?_
  unfold s_l1Least
  repeat (first | rfl | apply condS)
noncomputable def F_s_l1Least : Ins c_s_l1Least.ins → Int := fun x => s_l1Least x.1 x.2.1
noncomputable def S_s_l1Least : FSpec := mkT c_s_l1Least.env.pre c_s_l1Least.ins c_s_l1Least.out c_s_l1Least.inj F_s_l1Least
theorem h_s_l1Least : Cert Try.prog 190 S_s_l1Least := FnCx.certT (c := c_s_l1Least) F_s_l1Least (tyOk _ _ _) (spOk trivial) (fun _ _ _ _ _ hs => noDr_ok) Try.func190 rfl rfl Try.ntmps190 (by kernel_rfl) rfl rfl (fun _ => rfl) trivial (fun x => .inl ⟨c_s_l1Least.start () x, fun _ => rfl⟩) (fun x hb => by
  obtain ⟨a0, b1, _⟩ := x
  exact s_l1Least_e a0 b1)
/-! spec.riAt -/
noncomputable def c_s_riAt : FnCx := { env := env 18 [(190, S_s_l1Least)] [], body := bodyOf Try.f188, res := [.tmp 4], ins := [.ro kFlight, .ro kint], out := [(kint, true)], T := Int, fin := fun r => r.1.1, inj := fun t => ((t, ()), ((), (), ())), pts := [], fuel := 400, dr := evDr (env 18 [(190, S_s_l1Least)] []) }
noncomputable def s_riAt (f0_Risers : Int) (f0_Rise : Int) (f0_Tread : Int) (place1 : Int) : Option Int :=
  bif decide (place1 < 0) then some 0
  else
    bif f0_Tread == 0 then none
    else some (IntKind.wrap IntKind.i64 (s_l1Least f0_Risers (IntKind.wrap IntKind.i64 (IntKind.wrap IntKind.i64 (Int.tdiv place1 f0_Tread) + 1)) * f0_Rise))
theorem s_riAt_e (f0_Risers : Int) (f0_Rise : Int) (f0_Tread : Int) (place1 : Int) : c_s_riAt.start c_s_riAt.L ((f0_Risers, f0_Rise, f0_Tread), place1, ()) = s_riAt f0_Risers f0_Rise f0_Tread place1 := by kernel_rfl
noncomputable def F_s_riAt : Ins c_s_riAt.ins → Option Int := fun x => s_riAt x.1.1 x.1.2.1 x.1.2.2 x.2.1
noncomputable def S_s_riAt : FSpec := mkF c_s_riAt.env.pre c_s_riAt.ins c_s_riAt.out c_s_riAt.inj F_s_riAt
theorem h_s_riAt : Cert Try.prog 188 S_s_riAt := FnCx.certF (c := c_s_riAt) F_s_riAt (tyOk _ _ _) (spOk ⟨h_s_l1Least, fun _ _ _ => trivial, trivial⟩) (fun _ _ _ _ _ hs => evDr_ok (tyOk _ _ _) hs follows) Try.func188 rfl rfl Try.ntmps188 (by kernel_rfl) rfl rfl (fun _ => rfl) trivial (fun x => .inl ⟨c_s_riAt.start () x, fun _ => rfl⟩) (fun x t hb ht => by
  obtain ⟨⟨f0_Risers, f0_Rise, f0_Tread⟩, place1, _⟩ := x
  exact (s_riAt_e f0_Risers f0_Rise f0_Tread place1).trans ht)
/-! spec.HeightAtRun -/
noncomputable def c_s_HeightAtRun : FnCx := { env := env 13 [(187, S_s_riPlace), (188, S_s_riAt)] [], body := bodyOf Try.f40, res := [.tmp 4, .tmp 5], ins := [.ro kFlight, .ro kint], out := [(kint, true), (kbool, true)], T := Int × Bool, fin := fun r => (r.1.1, r.1.2.1), inj := fun t => ((t.1, t.2, ()), ((), (), ())), pts := [], fuel := 400, dr := noDr }
noncomputable def s_HeightAtRun (f0_Risers : Int) (f0_Rise : Int) (f0_Tread : Int) (place1 : Int) : Option (Int × Bool) :=
  bif !s_riPlace f0_Risers f0_Rise f0_Tread place1 then some (0, false) else Option.bind (s_riAt f0_Risers f0_Rise f0_Tread place1) fun r => some (r, true)
theorem s_HeightAtRun_e (f0_Risers : Int) (f0_Rise : Int) (f0_Tread : Int) (place1 : Int) : c_s_HeightAtRun.start c_s_HeightAtRun.L ((f0_Risers, f0_Rise, f0_Tread), place1, ()) = s_HeightAtRun f0_Risers f0_Rise f0_Tread place1 := by kernel_rfl
noncomputable def F_s_HeightAtRun : Ins c_s_HeightAtRun.ins → Option (Int × Bool) := fun x => s_HeightAtRun x.1.1 x.1.2.1 x.1.2.2 x.2.1
noncomputable def S_s_HeightAtRun : FSpec := mkF c_s_HeightAtRun.env.pre c_s_HeightAtRun.ins c_s_HeightAtRun.out c_s_HeightAtRun.inj F_s_HeightAtRun
theorem h_s_HeightAtRun : Cert Try.prog 40 S_s_HeightAtRun := FnCx.certF (c := c_s_HeightAtRun) F_s_HeightAtRun (tyOk _ _ _) (spOk ⟨h_s_riPlace, fun _ _ _ => trivial, ⟨h_s_riAt, fun _ _ _ => trivial, trivial⟩⟩) (fun _ _ _ _ _ hs => noDr_ok) Try.func40 rfl rfl Try.ntmps40 (by kernel_rfl) rfl rfl (fun _ => rfl) trivial (fun x => .inl ⟨c_s_HeightAtRun.start () x, fun _ => rfl⟩) (fun x t hb ht => by
  obtain ⟨⟨f0_Risers, f0_Rise, f0_Tread⟩, place1, _⟩ := x
  exact (s_HeightAtRun_e f0_Risers f0_Rise f0_Tread place1).trans ht)
/-! spec.TreadFor -/
noncomputable def c_s_TreadFor : FnCx := { env := env 26 [(176, S_s_l1In)] [], body := bodyOf Try.f62, res := [.tmp 4, .tmp 5], ins := [.ro kint, .ro kint], out := [(kint, true), (kbool, true)], T := Int × Bool, fin := fun r => (r.1.1, r.1.2.1), inj := fun t => ((t.1, t.2, ()), ((), (), ())), pts := [], fuel := 400, dr := noDr }
noncomputable def s_TreadFor (rise0 : Int) (sum1 : Int) : (Int × Bool) :=
  bif !s_l1In rise0 1 250 then (0, false)
  else
    bif !s_l1In sum1 1 2000 then (0, false)
    else
      bif !s_l1In (IntKind.wrap IntKind.i64 (sum1 - IntKind.wrap IntKind.i64 (2 * rise0))) 1 500 then (0, false)
      else (IntKind.wrap IntKind.i64 (sum1 - IntKind.wrap IntKind.i64 (2 * rise0)), true)
theorem s_TreadFor_e (rise0 : Int) (sum1 : Int) : c_s_TreadFor.start c_s_TreadFor.L (rise0, sum1, ()) = some (s_TreadFor rise0 sum1) := by
  refine Eq.trans (b := (bif !s_l1In rise0 1 250 then some (0, false) else bif !s_l1In sum1 1 2000 then some (0, false) else bif !s_l1In (IntKind.wrap IntKind.i64 (sum1 - IntKind.wrap IntKind.i64 (2 * rise0))) 1 500 then some (0, false) else some (IntKind.wrap IntKind.i64 (sum1 - IntKind.wrap IntKind.i64 (2 * rise0)), true) : Option (Int × Bool))) (by kernel_rfl) ?_
  unfold s_TreadFor
  repeat (first | rfl | apply condS)
noncomputable def F_s_TreadFor : Ins c_s_TreadFor.ins → (Int × Bool) := fun x => s_TreadFor x.1 x.2.1
noncomputable def S_s_TreadFor : FSpec := mkT c_s_TreadFor.env.pre c_s_TreadFor.ins c_s_TreadFor.out c_s_TreadFor.inj F_s_TreadFor
theorem h_s_TreadFor : Cert Try.prog 62 S_s_TreadFor := FnCx.certT (c := c_s_TreadFor) F_s_TreadFor (tyOk _ _ _) (spOk ⟨h_s_l1In, fun _ _ _ => trivial, trivial⟩) (fun _ _ _ _ _ hs => noDr_ok) Try.func62 rfl rfl Try.ntmps62 (by kernel_rfl) rfl rfl (fun _ => rfl) trivial (fun x => .inl ⟨c_s_TreadFor.start () x, fun _ => rfl⟩) (fun x hb => by
  obtain ⟨rise0, sum1, _⟩ := x
  exact s_TreadFor_e rise0 sum1)
/-! impl.isSum -/
noncomputable def c_i_isSum : FnCx := { env := env 5 [(175, S_i_within)] [], body := bodyOf Try.f197, res := [.tmp 2], ins := [.ro kint], out := [(kbool, true)], T := Bool, fin := fun r => r.1.1, inj := fun t => ((t, ()), ((), ())), pts := [], fuel := 400, dr := noDr }
noncomputable def i_isSum (n0 : Int) : Bool :=
  i_within n0 1 2000
theorem i_isSum_e (n0 : Int) : c_i_isSum.start c_i_isSum.L (n0, ()) = some (i_isSum n0) := by kernel_rfl
noncomputable def F_i_isSum : Ins c_i_isSum.ins → Bool := fun x => i_isSum x.1
noncomputable def S_i_isSum : FSpec := mkT c_i_isSum.env.pre c_i_isSum.ins c_i_isSum.out c_i_isSum.inj F_i_isSum
theorem h_i_isSum : Cert Try.prog 197 S_i_isSum := FnCx.certT (c := c_i_isSum) F_i_isSum (tyOk _ _ _) (spOk ⟨h_i_within, fun _ _ _ => trivial, trivial⟩) (fun _ _ _ _ _ hs => noDr_ok) Try.func197 rfl rfl Try.ntmps197 (by kernel_rfl) rfl rfl (fun _ => rfl) trivial (fun x => .inl ⟨c_i_isSum.start () x, fun _ => rfl⟩) (fun x hb => by
  obtain ⟨n0, _⟩ := x
  exact i_isSum_e n0)
/-! impl.TreadFor -/
noncomputable def c_i_TreadFor : FnCx := { env := env 26 [(175, S_i_within), (197, S_i_isSum)] [], body := bodyOf Try.f61, res := [.tmp 4, .tmp 5], ins := [.ro kint, .ro kint], out := [(kint, true), (kbool, true)], T := Int × Bool, fin := fun r => (r.1.1, r.1.2.1), inj := fun t => ((t.1, t.2, ()), ((), (), ())), pts := [], fuel := 400, dr := noDr }
noncomputable def i_TreadFor (rise0 : Int) (sum1 : Int) : (Int × Bool) :=
  bif !i_within rise0 1 250 then (0, false)
  else
    bif !i_isSum sum1 then (0, false)
    else
      bif !i_within (IntKind.wrap IntKind.i64 (sum1 - IntKind.wrap IntKind.i64 (2 * rise0))) 1 500 then (0, false)
      else (IntKind.wrap IntKind.i64 (sum1 - IntKind.wrap IntKind.i64 (2 * rise0)), true)
theorem i_TreadFor_e (rise0 : Int) (sum1 : Int) : c_i_TreadFor.start c_i_TreadFor.L (rise0, sum1, ()) = some (i_TreadFor rise0 sum1) := by
  refine Eq.trans (b := (bif !i_within rise0 1 250 then some (0, false) else bif !i_isSum sum1 then some (0, false) else bif !i_within (IntKind.wrap IntKind.i64 (sum1 - IntKind.wrap IntKind.i64 (2 * rise0))) 1 500 then some (0, false) else some (IntKind.wrap IntKind.i64 (sum1 - IntKind.wrap IntKind.i64 (2 * rise0)), true) : Option (Int × Bool))) (by kernel_rfl) ?_
  unfold i_TreadFor
  repeat (first | rfl | apply condS)
noncomputable def F_i_TreadFor : Ins c_i_TreadFor.ins → (Int × Bool) := fun x => i_TreadFor x.1 x.2.1
noncomputable def S_i_TreadFor : FSpec := mkT c_i_TreadFor.env.pre c_i_TreadFor.ins c_i_TreadFor.out c_i_TreadFor.inj F_i_TreadFor
theorem h_i_TreadFor : Cert Try.prog 61 S_i_TreadFor := FnCx.certT (c := c_i_TreadFor) F_i_TreadFor (tyOk _ _ _) (spOk ⟨h_i_within, fun _ _ _ => trivial, ⟨h_i_isSum, fun _ _ _ => trivial, trivial⟩⟩) (fun _ _ _ _ _ hs => noDr_ok) Try.func61 rfl rfl Try.ntmps61 (by kernel_rfl) rfl rfl (fun _ => rfl) trivial (fun x => .inl ⟨c_i_TreadFor.start () x, fun _ => rfl⟩) (fun x hb => by
  obtain ⟨rise0, sum1, _⟩ := x
  exact i_TreadFor_e rise0 sum1)
/-! impl.isHigh -/
noncomputable def c_i_isHigh : FnCx := { env := env 5 [(175, S_i_within)] [], body := bodyOf Try.f194, res := [.tmp 2], ins := [.ro kint], out := [(kbool, true)], T := Bool, fin := fun r => r.1.1, inj := fun t => ((t, ()), ((), ())), pts := [], fuel := 400, dr := noDr }
noncomputable def i_isHigh (n0 : Int) : Bool :=
  i_within n0 1 6000
theorem i_isHigh_e (n0 : Int) : c_i_isHigh.start c_i_isHigh.L (n0, ()) = some (i_isHigh n0) := by kernel_rfl
noncomputable def F_i_isHigh : Ins c_i_isHigh.ins → Bool := fun x => i_isHigh x.1
noncomputable def S_i_isHigh : FSpec := mkT c_i_isHigh.env.pre c_i_isHigh.ins c_i_isHigh.out c_i_isHigh.inj F_i_isHigh
theorem h_i_isHigh : Cert Try.prog 194 S_i_isHigh := FnCx.certT (c := c_i_isHigh) F_i_isHigh (tyOk _ _ _) (spOk ⟨h_i_within, fun _ _ _ => trivial, trivial⟩) (fun _ _ _ _ _ hs => noDr_ok) Try.func194 rfl rfl Try.ntmps194 (by kernel_rfl) rfl rfl (fun _ => rfl) trivial (fun x => .inl ⟨c_i_isHigh.start () x, fun _ => rfl⟩) (fun x hb => by
  obtain ⟨n0, _⟩ := x
  exact i_isHigh_e n0)
/-! impl.WholeRisers -/
noncomputable def c_i_WholeRisers : FnCx := { env := env 45 [(194, S_i_isHigh), (175, S_i_within)] [], body := bodyOf Try.f196, res := [.tmp 6, .tmp 7], ins := [.ro kint, .ro kint, .ro kint], out := [(kSint, true), (kbool, true)], T := List Int × Bool, fin := fun r => (r.1.1, r.1.2.1), inj := fun t => ((t.1, t.2, ()), ((), (), (), ())), pts := [([.inLoop [1, 1, 1, 0, 1, 0, 0], .inBlock 0, .code [1, 1, 1, 1]], Shape.mk [Bs.row kint 3 true] [(0, Ss.one (Cs.sc kint)), (1, Ss.one (Cs.sc kint)), (2, Ss.one (Cs.sc kint)), (8, Ss.one (Cs.sl 0)), (9, Ss.one (Cs.sc kint))] [Ss.one (Cs.any), Ss.one (Cs.any), Ss.one (Cs.any)])], fuel := 400, dr := noDr }
noncomputable def i_WholeRisers_t1 (g1 : List (Int) → Int → Int → Int → Int → Option (List Int × Bool)) (r0 : List (Int)) (high0 : Int) (low1 : Int) (most2 : Int) (n9 : Int) : Option (List Int × Bool) :=
  bif decide (n9 ≤ 100) then
    bif n9 == 0 then none
    else
      bif Int.tmod high0 n9 == 0 then
        bif n9 == 0 then none
        else
          bif i_within (IntKind.wrap IntKind.i64 (Int.tdiv high0 n9)) low1 most2 then
            bif Nat.ble (List.length r0 + 1) 4294967296 then g1 (r0 ++ [n9]) high0 low1 most2 (IntKind.wrap IntKind.i64 (n9 + 1)) else none
          else g1 r0 high0 low1 most2 (IntKind.wrap IntKind.i64 (n9 + 1))
      else g1 r0 high0 low1 most2 (IntKind.wrap IntKind.i64 (n9 + 1))
  else some (r0, true)
noncomputable def i_WholeRisers_t0 (g1 : List (Int) → Int → Int → Int → Int → Option (List Int × Bool)) (high0 : Int) (low1 : Int) (most2 : Int) : Option (List Int × Bool) :=
  bif !i_isHigh high0 then some ([], false)
  else bif !i_within low1 1 250 then some ([], false) else bif !i_within most2 1 250 then some ([], false) else g1 [] high0 low1 most2 1
theorem i_WholeRisers_ts : Tails c_i_WholeRisers.pts c_i_WholeRisers.round :=
  ⟨fun s => by
    obtain ⟨⟨r0, _⟩, ⟨high0, low1, most2, _, n9, _⟩, ⟨_, _, _, _⟩⟩ := s
    refine Tail.eq (Y := fun g => i_WholeRisers_t1 (fun r0 high0 low1 most2 n9 => g.1 ((r0, ()), (high0, low1, most2, (), n9, ()), ((), (), (), ()))) r0 high0 low1 most2 n9) ?_ (fun g => by kernel_rfl)
    simp only [i_WholeRisers_t1]; repeat (first | exact Tail.const _ | exact Tail.here _ | exact Tail.there (Tail.here _) | exact Tail.there (Tail.there (Tail.here _)) | exact Tail.there (Tail.there (Tail.there (Tail.here _))) | exact Tail.there (Tail.there (Tail.there (Tail.there (Tail.here _)))) | exact Tail.there (Tail.there (Tail.there (Tail.there (Tail.there (Tail.here _))))) | apply Tail.cond | (apply Tail.bind; intro _)), trivial⟩
theorem i_WholeRisers_hs : ∀ x, Tail c_i_WholeRisers.pts (fun g => c_i_WholeRisers.start g x) := fun x => by
    obtain ⟨high0, low1, most2, _⟩ := x
    refine Tail.eq (Y := fun g => i_WholeRisers_t0 (fun r0 high0 low1 most2 n9 => g.1 ((r0, ()), (high0, low1, most2, (), n9, ()), ((), (), (), ()))) high0 low1 most2) ?_ (fun g => by kernel_rfl)
    simp only [i_WholeRisers_t0]; repeat (first | exact Tail.const _ | exact Tail.here _ | exact Tail.there (Tail.here _) | exact Tail.there (Tail.there (Tail.here _)) | exact Tail.there (Tail.there (Tail.there (Tail.here _))) | exact Tail.there (Tail.there (Tail.there (Tail.there (Tail.here _)))) | exact Tail.there (Tail.there (Tail.there (Tail.there (Tail.there (Tail.here _))))) | apply Tail.cond | (apply Tail.bind; intro _))
noncomputable def i_WholeRisers_L1 (r0 : List (Int)) (high0 : Int) (low1 : Int) (most2 : Int) (n9 : Int) : Option (List Int × Bool) := c_i_WholeRisers.L.1 ((r0, ()), (high0, low1, most2, (), n9, ()), ((), (), (), ()))
theorem i_WholeRisers_u1 (r0 : List (Int)) (high0 : Int) (low1 : Int) (most2 : Int) (n9 : Int) : i_WholeRisers_L1 r0 high0 low1 most2 n9 = i_WholeRisers_t1 i_WholeRisers_L1 r0 high0 low1 most2 n9 :=
  (congrArg (fun g => g.1 ((r0, ()), (high0, low1, most2, (), n9, ()), ((), (), (), ()))) (FnCx.L_eq i_WholeRisers_ts)).trans (by kernel_rfl)
noncomputable def i_WholeRisers (high0 : Int) (low1 : Int) (most2 : Int) : Option (List Int × Bool) := i_WholeRisers_t0 i_WholeRisers_L1 high0 low1 most2
theorem i_WholeRisers_e (high0 : Int) (low1 : Int) (most2 : Int) : c_i_WholeRisers.start c_i_WholeRisers.L (high0, low1, most2, ()) = i_WholeRisers high0 low1 most2 := by kernel_rfl
noncomputable def F_i_WholeRisers : Ins c_i_WholeRisers.ins → Option (List Int × Bool) := fun x => i_WholeRisers x.1 x.2.1 x.2.2.1
noncomputable def S_i_WholeRisers : FSpec := mkF c_i_WholeRisers.env.pre c_i_WholeRisers.ins c_i_WholeRisers.out c_i_WholeRisers.inj F_i_WholeRisers
theorem h_i_WholeRisers : Cert Try.prog 196 S_i_WholeRisers := FnCx.certF (c := c_i_WholeRisers) F_i_WholeRisers (tyOk _ _ _) (spOk ⟨h_i_isHigh, fun _ _ _ => trivial, ⟨h_i_within, fun _ _ _ => trivial, trivial⟩⟩) (fun _ _ _ _ _ hs => noDr_ok) Try.func196 rfl rfl Try.ntmps196 (by kernel_rfl) rfl rfl (fun _ => rfl) i_WholeRisers_ts i_WholeRisers_hs (fun x t hb ht => by
  obtain ⟨high0, low1, most2, _⟩ := x
  exact (i_WholeRisers_e high0 low1 most2).trans ht)
/-! impl.BestRisers -/
noncomputable def c_i_BestRisers : FnCx := { env := env 63 [(196, S_i_WholeRisers), (197, S_i_isSum), (175, S_i_within)] [], body := bodyOf Try.f58, res := [.tmp 6, .tmp 7], ins := [.ro kint, .ro kint, .ro kint], out := [(kint, true), (kbool, true)], T := Int × Bool, fin := fun r => (r.1.1, r.1.2.1), inj := fun t => ((t.1, t.2, ()), ((), (), (), ())), pts := [([.inLoop [1, 1, 1, 1, 0, 1, 0, 0], .inBlock 0, .code [1, 1, 1, 1, 1]], Shape.mk [Bs.row kint 3 true] [(0, Ss.one (Cs.sc kint)), (1, Ss.one (Cs.sc kint)), (2, Ss.one (Cs.sc kint)), (10, Ss.one (Cs.sc kint)), (11, Ss.one (Cs.sc kint)), (32, Ss.one (Cs.sl 0)), (33, Ss.one (Cs.sc kint)), (34, Ss.one (Cs.sc kint))] [Ss.one (Cs.any), Ss.one (Cs.any), Ss.one (Cs.any)])], fuel := 400, dr := noDr }
noncomputable def i_BestRisers_t1 (g1 : List (Int) → Int → Int → Int → Int → Int → Int → Int → Option (Int × Bool)) (r0 : List (Int)) (high0 : Int) (sum1 : Int) (tread2 : Int) (best10 : Int) (least11 : Int) (s33 : Int) (s34 : Int) : Option (Int × Bool) :=
  bif decide (s34 < s33) then
    bif decide (0 ≤ s34) then
      bif decide (s34 < (↑(List.length r0) : Int)) then
        bif rdk kint r0 s34 == 0 then none
        else
          bif best10 == 0 then
            g1 r0 high0 sum1 tread2 (rdk kint r0 s34)
              (bif
                  decide
                    (IntKind.wrap IntKind.i64
                        (0 -
                          IntKind.wrap IntKind.i64
                            (IntKind.wrap IntKind.i64
                                (IntKind.wrap IntKind.i64 (Int.tdiv (IntKind.wrap IntKind.i64 (2 * high0)) (rdk kint r0 s34)) + tread2) -
                              sum1)) >
                      IntKind.wrap IntKind.i64
                        (IntKind.wrap IntKind.i64
                            (IntKind.wrap IntKind.i64 (Int.tdiv (IntKind.wrap IntKind.i64 (2 * high0)) (rdk kint r0 s34)) + tread2) -
                          sum1)) then
                IntKind.wrap IntKind.i64
                  (0 -
                    IntKind.wrap IntKind.i64
                      (IntKind.wrap IntKind.i64
                          (IntKind.wrap IntKind.i64 (Int.tdiv (IntKind.wrap IntKind.i64 (2 * high0)) (rdk kint r0 s34)) + tread2) -
                        sum1))
              else
                IntKind.wrap IntKind.i64
                  (IntKind.wrap IntKind.i64
                      (IntKind.wrap IntKind.i64 (Int.tdiv (IntKind.wrap IntKind.i64 (2 * high0)) (rdk kint r0 s34)) + tread2) -
                    sum1))
              s33 (IntKind.wrap IntKind.i64 (s34 + 1))
          else
            bif
                decide
                  ((bif
                        decide
                          (IntKind.wrap IntKind.i64
                              (0 -
                                IntKind.wrap IntKind.i64
                                  (IntKind.wrap IntKind.i64
                                      (IntKind.wrap IntKind.i64 (Int.tdiv (IntKind.wrap IntKind.i64 (2 * high0)) (rdk kint r0 s34)) + tread2) -
                                    sum1)) >
                            IntKind.wrap IntKind.i64
                              (IntKind.wrap IntKind.i64
                                  (IntKind.wrap IntKind.i64 (Int.tdiv (IntKind.wrap IntKind.i64 (2 * high0)) (rdk kint r0 s34)) + tread2) -
                                sum1)) then
                      IntKind.wrap IntKind.i64
                        (0 -
                          IntKind.wrap IntKind.i64
                            (IntKind.wrap IntKind.i64
                                (IntKind.wrap IntKind.i64 (Int.tdiv (IntKind.wrap IntKind.i64 (2 * high0)) (rdk kint r0 s34)) + tread2) -
                              sum1))
                    else
                      IntKind.wrap IntKind.i64
                        (IntKind.wrap IntKind.i64
                            (IntKind.wrap IntKind.i64 (Int.tdiv (IntKind.wrap IntKind.i64 (2 * high0)) (rdk kint r0 s34)) + tread2) -
                          sum1)) <
                    least11) then
              g1 r0 high0 sum1 tread2 (rdk kint r0 s34)
                (bif
                    decide
                      (IntKind.wrap IntKind.i64
                          (0 -
                            IntKind.wrap IntKind.i64
                              (IntKind.wrap IntKind.i64
                                  (IntKind.wrap IntKind.i64 (Int.tdiv (IntKind.wrap IntKind.i64 (2 * high0)) (rdk kint r0 s34)) + tread2) -
                                sum1)) >
                        IntKind.wrap IntKind.i64
                          (IntKind.wrap IntKind.i64
                              (IntKind.wrap IntKind.i64 (Int.tdiv (IntKind.wrap IntKind.i64 (2 * high0)) (rdk kint r0 s34)) + tread2) -
                            sum1)) then
                  IntKind.wrap IntKind.i64
                    (0 -
                      IntKind.wrap IntKind.i64
                        (IntKind.wrap IntKind.i64
                            (IntKind.wrap IntKind.i64 (Int.tdiv (IntKind.wrap IntKind.i64 (2 * high0)) (rdk kint r0 s34)) + tread2) -
                          sum1))
                else
                  IntKind.wrap IntKind.i64
                    (IntKind.wrap IntKind.i64
                        (IntKind.wrap IntKind.i64 (Int.tdiv (IntKind.wrap IntKind.i64 (2 * high0)) (rdk kint r0 s34)) + tread2) -
                      sum1))
                s33 (IntKind.wrap IntKind.i64 (s34 + 1))
            else g1 r0 high0 sum1 tread2 best10 least11 s33 (IntKind.wrap IntKind.i64 (s34 + 1))
      else none
    else none
  else some (best10, decide (best10 > 0))
noncomputable def i_BestRisers_t0 (g1 : List (Int) → Int → Int → Int → Int → Int → Int → Int → Option (Int × Bool)) (high0 : Int) (sum1 : Int) (tread2 : Int) : Option (Int × Bool) :=
  Option.bind (i_WholeRisers high0 1 250) fun r =>
    bif !Prod.snd r then some (0, false)
    else
      bif !i_isSum sum1 then some (0, false)
      else bif !i_within tread2 1 500 then some (0, false) else g1 (Prod.fst r) high0 sum1 tread2 0 0 (↑(List.length (Prod.fst r)) : Int) 0
theorem i_BestRisers_ts : Tails c_i_BestRisers.pts c_i_BestRisers.round :=
  ⟨fun s => by
    obtain ⟨⟨r0, _⟩, ⟨high0, sum1, tread2, best10, least11, _, s33, s34, _⟩, ⟨_, _, _, _⟩⟩ := s
    refine Tail.eq (Y := fun g => i_BestRisers_t1 (fun r0 high0 sum1 tread2 best10 least11 s33 s34 => g.1 ((r0, ()), (high0, sum1, tread2, best10, least11, (), s33, s34, ()), ((), (), (), ()))) r0 high0 sum1 tread2 best10 least11 s33 s34) ?_ (fun g => by kernel_rfl)
    simp only [i_BestRisers_t1]; repeat (first | exact Tail.const _ | exact Tail.here _ | exact Tail.there (Tail.here _) | exact Tail.there (Tail.there (Tail.here _)) | exact Tail.there (Tail.there (Tail.there (Tail.here _))) | exact Tail.there (Tail.there (Tail.there (Tail.there (Tail.here _)))) | exact Tail.there (Tail.there (Tail.there (Tail.there (Tail.there (Tail.here _))))) | apply Tail.cond | (apply Tail.bind; intro _)), trivial⟩
theorem i_BestRisers_hs : ∀ x, Tail c_i_BestRisers.pts (fun g => c_i_BestRisers.start g x) := fun x => by
    obtain ⟨high0, sum1, tread2, _⟩ := x
    refine Tail.eq (Y := fun g => i_BestRisers_t0 (fun r0 high0 sum1 tread2 best10 least11 s33 s34 => g.1 ((r0, ()), (high0, sum1, tread2, best10, least11, (), s33, s34, ()), ((), (), (), ()))) high0 sum1 tread2) ?_ (fun g => by kernel_rfl)
    simp only [i_BestRisers_t0]; repeat (first | exact Tail.const _ | exact Tail.here _ | exact Tail.there (Tail.here _) | exact Tail.there (Tail.there (Tail.here _)) | exact Tail.there (Tail.there (Tail.there (Tail.here _))) | exact Tail.there (Tail.there (Tail.there (Tail.there (Tail.here _)))) | exact Tail.there (Tail.there (Tail.there (Tail.there (Tail.there (Tail.here _))))) | apply Tail.cond | (apply Tail.bind; intro _))
noncomputable def i_BestRisers_L1 (r0 : List (Int)) (high0 : Int) (sum1 : Int) (tread2 : Int) (best10 : Int) (least11 : Int) (s33 : Int) (s34 : Int) : Option (Int × Bool) := c_i_BestRisers.L.1 ((r0, ()), (high0, sum1, tread2, best10, least11, (), s33, s34, ()), ((), (), (), ()))
theorem i_BestRisers_u1 (r0 : List (Int)) (high0 : Int) (sum1 : Int) (tread2 : Int) (best10 : Int) (least11 : Int) (s33 : Int) (s34 : Int) : i_BestRisers_L1 r0 high0 sum1 tread2 best10 least11 s33 s34 = i_BestRisers_t1 i_BestRisers_L1 r0 high0 sum1 tread2 best10 least11 s33 s34 :=
  (congrArg (fun g => g.1 ((r0, ()), (high0, sum1, tread2, best10, least11, (), s33, s34, ()), ((), (), (), ()))) (FnCx.L_eq i_BestRisers_ts)).trans (by kernel_rfl)
noncomputable def i_BestRisers (high0 : Int) (sum1 : Int) (tread2 : Int) : Option (Int × Bool) := i_BestRisers_t0 i_BestRisers_L1 high0 sum1 tread2
theorem i_BestRisers_e (high0 : Int) (sum1 : Int) (tread2 : Int) : c_i_BestRisers.start c_i_BestRisers.L (high0, sum1, tread2, ()) = i_BestRisers high0 sum1 tread2 := by kernel_rfl
noncomputable def F_i_BestRisers : Ins c_i_BestRisers.ins → Option (Int × Bool) := fun x => i_BestRisers x.1 x.2.1 x.2.2.1
noncomputable def S_i_BestRisers : FSpec := mkF c_i_BestRisers.env.pre c_i_BestRisers.ins c_i_BestRisers.out c_i_BestRisers.inj F_i_BestRisers
theorem h_i_BestRisers : Cert Try.prog 58 S_i_BestRisers := FnCx.certF (c := c_i_BestRisers) F_i_BestRisers (tyOk _ _ _) (spOk ⟨h_i_WholeRisers, fun _ _ _ => trivial, ⟨h_i_isSum, fun _ _ _ => trivial, ⟨h_i_within, fun _ _ _ => trivial, trivial⟩⟩⟩) (fun _ _ _ _ _ hs => noDr_ok) Try.func58 rfl rfl Try.ntmps58 (by kernel_rfl) rfl rfl (fun _ => rfl) i_BestRisers_ts i_BestRisers_hs (fun x t hb ht => by
  obtain ⟨high0, sum1, tread2, _⟩ := x
  exact (i_BestRisers_e high0 sum1 tread2).trans ht)
/-! spec.riHigh -/
noncomputable def c_s_riHigh : FnCx := { env := env 5 [(176, S_s_l1In)] [], body := bodyOf Try.f195, res := [.tmp 2], ins := [.ro kint], out := [(kbool, true)], T := Bool, fin := fun r => r.1.1, inj := fun t => ((t, ()), ((), ())), pts := [], fuel := 400, dr := noDr }
noncomputable def s_riHigh (high0 : Int) : Bool :=
  s_l1In high0 1 6000
theorem s_riHigh_e (high0 : Int) : c_s_riHigh.start c_s_riHigh.L (high0, ()) = some (s_riHigh high0) := by kernel_rfl
noncomputable def F_s_riHigh : Ins c_s_riHigh.ins → Bool := fun x => s_riHigh x.1
noncomputable def S_s_riHigh : FSpec := mkT c_s_riHigh.env.pre c_s_riHigh.ins c_s_riHigh.out c_s_riHigh.inj F_s_riHigh
theorem h_s_riHigh : Cert Try.prog 195 S_s_riHigh := FnCx.certT (c := c_s_riHigh) F_s_riHigh (tyOk _ _ _) (spOk ⟨h_s_l1In, fun _ _ _ => trivial, trivial⟩) (fun _ _ _ _ _ hs => noDr_ok) Try.func195 rfl rfl Try.ntmps195 (by kernel_rfl) rfl rfl (fun _ => rfl) trivial (fun x => .inl ⟨c_s_riHigh.start () x, fun _ => rfl⟩) (fun x hb => by
  obtain ⟨high0, _⟩ := x
  exact s_riHigh_e high0)
/-! spec.l1Most -/
noncomputable def c_s_l1Most : FnCx := { env := env 10 [] [], body := bodyOf Try.f191, res := [.tmp 4], ins := [.ro kint, .ro kint], out := [(kint, true)], T := Int, fin := fun r => r.1.1, inj := fun t => ((t, ()), ((), (), ())), pts := [], fuel := 400, dr := noDr }
noncomputable def s_l1Most (a0 : Int) (b1 : Int) : Int :=
  bif decide (a0 > b1) then a0 else b1
theorem s_l1Most_e (a0 : Int) (b1 : Int) : c_s_l1Most.start c_s_l1Most.L (a0, b1, ()) = some (s_l1Most a0 b1) := by
  refine Eq.trans (b := (bif decide (a0 > b1) then some a0 else some b1 : Option Int)) (by kernel_rfl) ?_
  unfold s_l1Most
  repeat (first | rfl | apply condS)
noncomputable def F_s_l1Most : Ins c_s_l1Most.ins → Int := fun x => s_l1Most x.1 x.2.1
noncomputable def S_s_l1Most : FSpec := mkT c_s_l1Most.env.pre c_s_l1Most.ins c_s_l1Most.out c_s_l1Most.inj F_s_l1Most
theorem h_s_l1Most : Cert Try.prog 191 S_s_l1Most := FnCx.certT (c := c_s_l1Most) F_s_l1Most (tyOk _ _ _) (spOk trivial) (fun _ _ _ _ _ hs => noDr_ok) Try.func191 rfl rfl Try.ntmps191 (by kernel_rfl) rfl rfl (fun _ => rfl) trivial (fun x => .inl ⟨c_s_l1Most.start () x, fun _ => rfl⟩) (fun x hb => by
  obtain ⟨a0, b1, _⟩ := x
  exact s_l1Most_e a0 b1)
/-! spec.l1Abs -/
noncomputable def c_s_l1Abs : FnCx := { env := env 7 [(191, S_s_l1Most)] [], body := bodyOf Try.f198, res := [.tmp 2], ins := [.ro kint], out := [(kint, true)], T := Int, fin := fun r => r.1.1, inj := fun t => ((t, ()), ((), ())), pts := [], fuel := 400, dr := noDr }
noncomputable def s_l1Abs (n0 : Int) : Int :=
  s_l1Most n0 (IntKind.wrap IntKind.i64 (0 - n0))
theorem s_l1Abs_e (n0 : Int) : c_s_l1Abs.start c_s_l1Abs.L (n0, ()) = some (s_l1Abs n0) := by kernel_rfl
noncomputable def F_s_l1Abs : Ins c_s_l1Abs.ins → Int := fun x => s_l1Abs x.1
noncomputable def S_s_l1Abs : FSpec := mkT c_s_l1Abs.env.pre c_s_l1Abs.ins c_s_l1Abs.out c_s_l1Abs.inj F_s_l1Abs
theorem h_s_l1Abs : Cert Try.prog 198 S_s_l1Abs := FnCx.certT (c := c_s_l1Abs) F_s_l1Abs (tyOk _ _ _) (spOk ⟨h_s_l1Most, fun _ _ _ => trivial, trivial⟩) (fun _ _ _ _ _ hs => noDr_ok) Try.func198 rfl rfl Try.ntmps198 (by kernel_rfl) rfl rfl (fun _ => rfl) trivial (fun x => .inl ⟨c_s_l1Abs.start () x, fun _ => rfl⟩) (fun x hb => by
  obtain ⟨n0, _⟩ := x
  exact s_l1Abs_e n0)
/-! spec.BestRisers -/
noncomputable def c_s_BestRisers : FnCx := { env := env 60 [(195, S_s_riHigh), (176, S_s_l1In), (198, S_s_l1Abs)] [], body := bodyOf Try.f59, res := [.tmp 6, .tmp 7], ins := [.ro kint, .ro kint, .ro kint], out := [(kint, true), (kbool, true)], T := Int × Bool, fin := fun r => (r.1.1, r.1.2.1), inj := fun t => ((t.1, t.2, ()), ((), (), (), ())), pts := [([.inLoop [1, 1, 1, 0, 1, 0, 0], .inBlock 0, .code [1, 1, 1, 1]], Shape.mk [] [(0, Ss.one (Cs.sc kint)), (1, Ss.one (Cs.sc kint)), (2, Ss.one (Cs.sc kint)), (8, Ss.one (Cs.sc kint)), (9, Ss.one (Cs.sc kint)), (10, Ss.one (Cs.sc kint))] [Ss.one (Cs.any), Ss.one (Cs.any), Ss.one (Cs.any)])], fuel := 400, dr := noDr }
noncomputable def s_BestRisers_t1 (g1 : Int → Int → Int → Int → Int → Int → Option (Int × Bool)) (high0 : Int) (sum1 : Int) (tread2 : Int) (best8 : Int) (far9 : Int) (n10 : Int) : Option (Int × Bool) :=
  bif decide (n10 ≤ 100) then
    bif n10 == 0 then none
    else
      bif Int.tmod high0 n10 != 0 then g1 high0 sum1 tread2 best8 far9 (IntKind.wrap IntKind.i64 (n10 + 1))
      else
        bif n10 == 0 then none
        else
          bif decide (IntKind.wrap IntKind.i64 (Int.tdiv high0 n10) > 250) then g1 high0 sum1 tread2 best8 far9 (IntKind.wrap IntKind.i64 (n10 + 1))
          else
            bif n10 == 0 then none
            else
              bif best8 == 0 then
                g1 high0 sum1 tread2 n10
                  (s_l1Abs
                    (IntKind.wrap IntKind.i64
                      (IntKind.wrap IntKind.i64 (IntKind.wrap IntKind.i64 (2 * IntKind.wrap IntKind.i64 (Int.tdiv high0 n10)) + tread2) - sum1)))
                  (IntKind.wrap IntKind.i64 (n10 + 1))
              else
                bif
                    decide
                      (s_l1Abs
                          (IntKind.wrap IntKind.i64
                            (IntKind.wrap IntKind.i64 (IntKind.wrap IntKind.i64 (2 * IntKind.wrap IntKind.i64 (Int.tdiv high0 n10)) + tread2) - sum1)) <
                        far9) then
                  g1 high0 sum1 tread2 n10
                    (s_l1Abs
                      (IntKind.wrap IntKind.i64
                        (IntKind.wrap IntKind.i64 (IntKind.wrap IntKind.i64 (2 * IntKind.wrap IntKind.i64 (Int.tdiv high0 n10)) + tread2) - sum1)))
                    (IntKind.wrap IntKind.i64 (n10 + 1))
                else g1 high0 sum1 tread2 best8 far9 (IntKind.wrap IntKind.i64 (n10 + 1))
  else bif best8 == 0 then some (0, false) else some (best8, true)
noncomputable def s_BestRisers_t0 (g1 : Int → Int → Int → Int → Int → Int → Option (Int × Bool)) (high0 : Int) (sum1 : Int) (tread2 : Int) : Option (Int × Bool) :=
  bif !s_riHigh high0 then some (0, false)
  else bif !s_l1In sum1 1 2000 then some (0, false) else bif !s_l1In tread2 1 500 then some (0, false) else g1 high0 sum1 tread2 0 0 1
theorem s_BestRisers_ts : Tails c_s_BestRisers.pts c_s_BestRisers.round :=
  ⟨fun s => by
    obtain ⟨_, ⟨high0, sum1, tread2, best8, far9, n10, _⟩, ⟨_, _, _, _⟩⟩ := s
    refine Tail.eq (Y := fun g => s_BestRisers_t1 (fun high0 sum1 tread2 best8 far9 n10 => g.1 ((), (high0, sum1, tread2, best8, far9, n10, ()), ((), (), (), ()))) high0 sum1 tread2 best8 far9 n10) ?_ (fun g => by kernel_rfl)
    simp only [s_BestRisers_t1]; repeat (first | exact Tail.const _ | exact Tail.here _ | exact Tail.there (Tail.here _) | exact Tail.there (Tail.there (Tail.here _)) | exact Tail.there (Tail.there (Tail.there (Tail.here _))) | exact Tail.there (Tail.there (Tail.there (Tail.there (Tail.here _)))) | exact Tail.there (Tail.there (Tail.there (Tail.there (Tail.there (Tail.here _))))) | apply Tail.cond | (apply Tail.bind; intro _)), trivial⟩
theorem s_BestRisers_hs : ∀ x, Tail c_s_BestRisers.pts (fun g => c_s_BestRisers.start g x) := fun x => by
    obtain ⟨high0, sum1, tread2, _⟩ := x
    refine Tail.eq (Y := fun g => s_BestRisers_t0 (fun high0 sum1 tread2 best8 far9 n10 => g.1 ((), (high0, sum1, tread2, best8, far9, n10, ()), ((), (), (), ()))) high0 sum1 tread2) ?_ (fun g => by kernel_rfl)
    simp only [s_BestRisers_t0]; repeat (first | exact Tail.const _ | exact Tail.here _ | exact Tail.there (Tail.here _) | exact Tail.there (Tail.there (Tail.here _)) | exact Tail.there (Tail.there (Tail.there (Tail.here _))) | exact Tail.there (Tail.there (Tail.there (Tail.there (Tail.here _)))) | exact Tail.there (Tail.there (Tail.there (Tail.there (Tail.there (Tail.here _))))) | apply Tail.cond | (apply Tail.bind; intro _))
noncomputable def s_BestRisers_L1 (high0 : Int) (sum1 : Int) (tread2 : Int) (best8 : Int) (far9 : Int) (n10 : Int) : Option (Int × Bool) := c_s_BestRisers.L.1 ((), (high0, sum1, tread2, best8, far9, n10, ()), ((), (), (), ()))
theorem s_BestRisers_u1 (high0 : Int) (sum1 : Int) (tread2 : Int) (best8 : Int) (far9 : Int) (n10 : Int) : s_BestRisers_L1 high0 sum1 tread2 best8 far9 n10 = s_BestRisers_t1 s_BestRisers_L1 high0 sum1 tread2 best8 far9 n10 :=
  (congrArg (fun g => g.1 ((), (high0, sum1, tread2, best8, far9, n10, ()), ((), (), (), ()))) (FnCx.L_eq s_BestRisers_ts)).trans (by kernel_rfl)
noncomputable def s_BestRisers (high0 : Int) (sum1 : Int) (tread2 : Int) : Option (Int × Bool) := s_BestRisers_t0 s_BestRisers_L1 high0 sum1 tread2
theorem s_BestRisers_e (high0 : Int) (sum1 : Int) (tread2 : Int) : c_s_BestRisers.start c_s_BestRisers.L (high0, sum1, tread2, ()) = s_BestRisers high0 sum1 tread2 := by kernel_rfl
noncomputable def F_s_BestRisers : Ins c_s_BestRisers.ins → Option (Int × Bool) := fun x => s_BestRisers x.1 x.2.1 x.2.2.1
noncomputable def S_s_BestRisers : FSpec := mkF c_s_BestRisers.env.pre c_s_BestRisers.ins c_s_BestRisers.out c_s_BestRisers.inj F_s_BestRisers
theorem h_s_BestRisers : Cert Try.prog 59 S_s_BestRisers := FnCx.certF (c := c_s_BestRisers) F_s_BestRisers (tyOk _ _ _) (spOk ⟨h_s_riHigh, fun _ _ _ => trivial, ⟨h_s_l1In, fun _ _ _ => trivial, ⟨h_s_l1Abs, fun _ _ _ => trivial, trivial⟩⟩⟩) (fun _ _ _ _ _ hs => noDr_ok) Try.func59 rfl rfl Try.ntmps59 (by kernel_rfl) rfl rfl (fun _ => rfl) s_BestRisers_ts s_BestRisers_hs (fun x t hb ht => by
  obtain ⟨high0, sum1, tread2, _⟩ := x
  exact (s_BestRisers_e high0 sum1 tread2).trans ht)
/-! (*spec.l1Cur).one -/
noncomputable def c_s_l1Cur_one : FnCx := { env := env 9 [(183, S_s_l1Cur_pick)] [], body := bodyOf Try.f182, res := [.tmp 4], ins := [.ptr 128 ksl1Cur, .ro kint], out := [(kbool, true)], T := Bool × (List Int × Int × Int), fin := fun r => (r.1.1, r.2.1), inj := fun t => ((t.1, ()), (t.2, (), ())), pts := [], fuel := 400, dr := noDr }
noncomputable def s_l1Cur_one (c0_code : List Int) (c0_at : Int) (c0_seed : Int) (n1 : Int) : Option (Bool × (List Int × Int × Int)) :=
  Option.bind (s_l1Cur_pick c0_code c0_at c0_seed n1) fun r =>
    some (Prod.fst r == 0, Prod.fst (Prod.snd r), Prod.fst (Prod.snd (Prod.snd r)), Prod.snd (Prod.snd (Prod.snd r)))
theorem s_l1Cur_one_e (c0_code : List Int) (c0_at : Int) (c0_seed : Int) (n1 : Int) : c_s_l1Cur_one.start c_s_l1Cur_one.L ((c0_code, c0_at, c0_seed), n1, ()) = s_l1Cur_one c0_code c0_at c0_seed n1 := by kernel_rfl
noncomputable def F_s_l1Cur_one : Ins c_s_l1Cur_one.ins → Option (Bool × (List Int × Int × Int)) := fun x => s_l1Cur_one x.1.1 x.1.2.1 x.1.2.2 x.2.1
noncomputable def S_s_l1Cur_one : FSpec := mkF c_s_l1Cur_one.env.pre c_s_l1Cur_one.ins c_s_l1Cur_one.out c_s_l1Cur_one.inj F_s_l1Cur_one
theorem h_s_l1Cur_one : Cert Try.prog 182 S_s_l1Cur_one := FnCx.certF (c := c_s_l1Cur_one) F_s_l1Cur_one (tyOk _ _ _) (spOk ⟨h_s_l1Cur_pick, fun _ _ _ => trivial, trivial⟩) (fun _ _ _ _ _ hs => noDr_ok) Try.func182 rfl rfl Try.ntmps182 (by kernel_rfl) rfl rfl (fun _ => rfl) trivial (fun x => .inl ⟨c_s_l1Cur_one.start () x, fun _ => rfl⟩) (fun x t hb ht => by
  obtain ⟨⟨c0_code, c0_at, c0_seed⟩, n1, _⟩ := x
  exact (s_l1Cur_one_e c0_code c0_at c0_seed n1).trans ht)
/-! (*spec.l1Cur).high -/
noncomputable def c_s_l1Cur_high : FnCx := { env := env 11 [(182, S_s_l1Cur_one), (180, S_s_l1Cur_among), (183, S_s_l1Cur_pick)] [], body := bodyOf Try.f193, res := [.tmp 2], ins := [.ptr 128 ksl1Cur], out := [(kint, true)], T := Int × (List Int × Int × Int), fin := fun r => (r.1.1, r.2.1), inj := fun t => ((t.1, ()), (t.2, ())), pts := [], fuel := 400, dr := noDr }
noncomputable def s_l1Cur_high (c0_code : List Int) (c0_at : Int) (c0_seed : Int) : Option (Int × (List Int × Int × Int)) :=
  Option.bind (s_l1Cur_one c0_code c0_at c0_seed 12) fun r =>
    bif Prod.fst r then
      Option.bind
        (s_l1Cur_among (Prod.fst (Prod.snd r)) (Prod.fst (Prod.snd (Prod.snd r))) (Prod.snd (Prod.snd (Prod.snd r))) [0, -1, 6000, 6001, 4611686018427387904])
        fun r => some (Prod.fst r, Prod.fst (Prod.snd r), Prod.fst (Prod.snd (Prod.snd r)), Prod.snd (Prod.snd (Prod.snd r)))
    else
      Option.bind (s_l1Cur_pick (Prod.fst (Prod.snd r)) (Prod.fst (Prod.snd (Prod.snd r))) (Prod.snd (Prod.snd (Prod.snd r))) 72) fun r =>
        some (IntKind.wrap IntKind.i64 (1 + Prod.fst r), Prod.fst (Prod.snd r), Prod.fst (Prod.snd (Prod.snd r)), Prod.snd (Prod.snd (Prod.snd r)))
theorem s_l1Cur_high_e (c0_code : List Int) (c0_at : Int) (c0_seed : Int) : c_s_l1Cur_high.start c_s_l1Cur_high.L ((c0_code, c0_at, c0_seed), ()) = s_l1Cur_high c0_code c0_at c0_seed := by kernel_rfl
noncomputable def F_s_l1Cur_high : Ins c_s_l1Cur_high.ins → Option (Int × (List Int × Int × Int)) := fun x => s_l1Cur_high x.1.1 x.1.2.1 x.1.2.2
noncomputable def S_s_l1Cur_high : FSpec := mkF c_s_l1Cur_high.env.pre c_s_l1Cur_high.ins c_s_l1Cur_high.out c_s_l1Cur_high.inj F_s_l1Cur_high
theorem h_s_l1Cur_high : Cert Try.prog 193 S_s_l1Cur_high := FnCx.certF (c := c_s_l1Cur_high) F_s_l1Cur_high (tyOk _ _ _) (spOk ⟨h_s_l1Cur_one, fun _ _ _ => trivial, ⟨h_s_l1Cur_among, fun _ _ _ => trivial, ⟨h_s_l1Cur_pick, fun _ _ _ => trivial, trivial⟩⟩⟩) (fun _ _ _ _ _ hs => noDr_ok) Try.func193 rfl rfl Try.ntmps193 (by kernel_rfl) rfl rfl (fun _ => rfl) trivial (fun x => .inl ⟨c_s_l1Cur_high.start () x, fun _ => rfl⟩) (fun x t hb ht => by
  obtain ⟨⟨c0_code, c0_at, c0_seed⟩, _⟩ := x
  exact (s_l1Cur_high_e c0_code c0_at c0_seed).trans ht)
/-! spec.DrawBestRisers -/
noncomputable def c_s_DrawBestRisers : FnCx := { env := env 21 [(193, S_s_l1Cur_high), (180, S_s_l1Cur_among)] [], body := bodyOf Try.f57, res := [.tmp 2, .tmp 3, .tmp 4], ins := [.ro kSuint8], out := [(kint, true), (kint, true), (kint, true)], T := Int × Int × Int, fin := fun r => (r.1.1, r.1.2.1, r.1.2.2.1), inj := fun t => ((t.1, t.2.1, t.2.2, ()), ((), ())), pts := [], fuel := 400, dr := noDr }
noncomputable def s_DrawBestRisers (code0 : List Int) : Option (Int × Int × Int) :=
  Option.bind (s_l1Cur_high code0 0 0) fun r =>
    Option.bind (s_l1Cur_among (Prod.fst (Prod.snd r)) (Prod.fst (Prod.snd (Prod.snd r))) (Prod.snd (Prod.snd (Prod.snd r))) [10, 14, 20, 63, 2000, 2001, 0])
      fun r_1 =>
      Option.bind (s_l1Cur_among (Prod.fst (Prod.snd r_1)) (Prod.fst (Prod.snd (Prod.snd r_1))) (Prod.snd (Prod.snd (Prod.snd r_1))) [1, 4, 7, 29, 500, 501, 0])
        fun r_2 => some (Prod.fst r, Prod.fst r_1, Prod.fst r_2)
theorem s_DrawBestRisers_e (code0 : List Int) : c_s_DrawBestRisers.start c_s_DrawBestRisers.L (code0, ()) = s_DrawBestRisers code0 := by kernel_rfl
noncomputable def F_s_DrawBestRisers : Ins c_s_DrawBestRisers.ins → Option (Int × Int × Int) := fun x => s_DrawBestRisers x.1
noncomputable def S_s_DrawBestRisers : FSpec := mkF c_s_DrawBestRisers.env.pre c_s_DrawBestRisers.ins c_s_DrawBestRisers.out c_s_DrawBestRisers.inj F_s_DrawBestRisers
theorem h_s_DrawBestRisers : Cert Try.prog 57 S_s_DrawBestRisers := FnCx.certF (c := c_s_DrawBestRisers) F_s_DrawBestRisers (tyOk _ _ _) (spOk ⟨h_s_l1Cur_high, fun _ _ _ => trivial, ⟨h_s_l1Cur_among, fun _ _ _ => trivial, trivial⟩⟩) (fun _ _ _ _ _ hs => noDr_ok) Try.func57 rfl rfl Try.ntmps57 (by kernel_rfl) rfl rfl (fun _ => rfl) trivial (fun x => .inl ⟨c_s_DrawBestRisers.start () x, fun _ => rfl⟩) (fun x t hb ht => by
  obtain ⟨code0, _⟩ := x
  exact (s_DrawBestRisers_e code0).trans ht)
end Go.Proofs.Ythenlapjhlljnaa.V
