/- Functions of the program, as plain functions. No condition. -/
import Derived.Test.YtadcmhdjoglagaaGreatDoorO1
set_option linter.unusedVariables false
set_option linter.unusedSimpArgs false
set_option maxRecDepth 100000
namespace Go.Proofs.YtadcmhdjoglagaaGreatDoor.V
open Go Go.Ev Go.Proofs
/-! laws.big -/
noncomputable def c_w_big : FnCx := { env := env 16 [] [], body := bodyOf Tryz.f4, res := [.tmp 4], ins := [.ro kSuint8, .ro kSuint8], out := [(kbool, true)], T := Bool, fin := fun r => r.1.1, inj := fun t => ((t, ()), ((), (), ())), pts := [], fuel := 400, dr := noDr }
noncomputable def w_big (code0 : List Int) (more1 : List Int) : Bool :=
  bif decide ((↑(List.length code0) : Int) > 1048576) then true
  else decide ((↑(List.length more1) : Int) > IntKind.wrap IntKind.i64 (1048576 - (↑(List.length code0) : Int)))
theorem w_big_e (code0 : List Int) (more1 : List Int) : c_w_big.start c_w_big.L (code0, more1, ()) = some (w_big code0 more1) := by
  refine Eq.trans (b := (bif decide ((↑(List.length code0) : Int) > 1048576) then some true else some (decide ((↑(List.length more1) : Int) > IntKind.wrap IntKind.i64 (1048576 - (↑(List.length code0) : Int)))) : Option Bool)) (by kernel_rfl) ?_
  unfold w_big
  repeat (first | rfl | apply condS)
noncomputable def F_w_big : Ins c_w_big.ins → Bool := fun x => w_big x.1 x.2.1
noncomputable def S_w_big : FSpec := mkT c_w_big.env.pre c_w_big.ins c_w_big.out c_w_big.inj F_w_big
theorem h_w_big : Cert Tryz.prog 4 S_w_big := FnCx.certT (c := c_w_big) F_w_big (tyOk _ _ _) (spOk trivial) (fun _ _ _ _ _ hs => noDr_ok) Tryz.func4 rfl rfl Tryz.ntmps4 (by kernel_rfl) rfl rfl (fun _ => rfl) trivial (fun x => .inl ⟨c_w_big.start () x, fun _ => rfl⟩) (fun x hb => by
  obtain ⟨code0, more1, _⟩ := x
  exact w_big_e code0 more1)
/-! (*spec.l1Cur).next -/
noncomputable def c_s_l1Cur_next : FnCx := { env := env 62 [] [], body := bodyOf Tryz.f67, res := [.tmp 2], ins := [.ptr 65 ksl1Cur], out := [(kint, true)], T := Int × (List Int × Int × Int), fin := fun r => (r.1.1, r.2.1), inj := fun t => ((t.1, ()), (t.2, ())), pts := [], fuel := 400, dr := evDr (env 62 [] []) }
noncomputable def s_l1Cur_next (c0_code : List Int) (c0_at : Int) (c0_seed : Int) : Option (Int × (List Int × Int × Int)) :=
  bif decide (c0_at < (↑(List.length c0_code) : Int)) then
    bif decide (0 ≤ c0_at) then
      bif decide (c0_at < (↑(List.length c0_code) : Int)) then
        bif decide (IntKind.wrap IntKind.i64 (c0_at + 1) ≤ (↑(List.length c0_code) : Int)) then
          some
            (IntKind.wrap IntKind.i64 (rdk kuint8 c0_code c0_at), c0_code, IntKind.wrap IntKind.i64 (c0_at + 1),
              IntKind.wrap IntKind.u64
                (IntKind.wrap IntKind.u64
                    (IntKind.wrap IntKind.u64 (c0_seed * 6364136223846793005) +
                      IntKind.wrap IntKind.u64 (IntKind.wrap IntKind.i64 (rdk kuint8 c0_code c0_at))) +
                  1442695040888963407))
        else
          some
            (IntKind.wrap IntKind.i64
                (IntKind.wrap IntKind.u64
                  (↑(BitVec.toNat
                        (BitVec.ofInt (IntKind.bits IntKind.u64)
                            (Int.fdiv
                              (IntKind.wrap IntKind.u64
                                (IntKind.wrap IntKind.u64
                                    (IntKind.wrap IntKind.u64 (c0_seed * 6364136223846793005) +
                                      IntKind.wrap IntKind.u64 (IntKind.wrap IntKind.i64 (rdk kuint8 c0_code c0_at))) +
                                  1442695040888963407))
                              (2 ^ min (Int.toNat 40) (IntKind.bits IntKind.u64))) &&&
                          BitVec.ofInt (IntKind.bits IntKind.u64) 255)) :
                    Int)),
              c0_code, IntKind.wrap IntKind.i64 (c0_at + 1),
              IntKind.wrap IntKind.u64
                (IntKind.wrap IntKind.u64
                    (IntKind.wrap IntKind.u64 (c0_seed * 6364136223846793005) +
                      IntKind.wrap IntKind.u64 (IntKind.wrap IntKind.i64 (rdk kuint8 c0_code c0_at))) +
                  1442695040888963407))
      else none
    else none
  else
    bif decide (IntKind.wrap IntKind.i64 (c0_at + 1) ≤ (↑(List.length c0_code) : Int)) then
      some
        (0, c0_code, IntKind.wrap IntKind.i64 (c0_at + 1),
          IntKind.wrap IntKind.u64
            (IntKind.wrap IntKind.u64 (IntKind.wrap IntKind.u64 (c0_seed * 6364136223846793005) + IntKind.wrap IntKind.u64 0) + 1442695040888963407))
    else
      some
        (IntKind.wrap IntKind.i64
            (IntKind.wrap IntKind.u64
              (↑(BitVec.toNat
                    (BitVec.ofInt (IntKind.bits IntKind.u64)
                        (Int.fdiv
                          (IntKind.wrap IntKind.u64
                            (IntKind.wrap IntKind.u64 (IntKind.wrap IntKind.u64 (c0_seed * 6364136223846793005) + IntKind.wrap IntKind.u64 0) +
                              1442695040888963407))
                          (2 ^ min (Int.toNat 40) (IntKind.bits IntKind.u64))) &&&
                      BitVec.ofInt (IntKind.bits IntKind.u64) 255)) :
                Int)),
          c0_code, IntKind.wrap IntKind.i64 (c0_at + 1),
          IntKind.wrap IntKind.u64
            (IntKind.wrap IntKind.u64 (IntKind.wrap IntKind.u64 (c0_seed * 6364136223846793005) + IntKind.wrap IntKind.u64 0) + 1442695040888963407))
theorem s_l1Cur_next_e (c0_code : List Int) (c0_at : Int) (c0_seed : Int) : c_s_l1Cur_next.start c_s_l1Cur_next.L ((c0_code, c0_at, c0_seed), ()) = s_l1Cur_next c0_code c0_at c0_seed := by kernel_rfl
noncomputable def F_s_l1Cur_next : Ins c_s_l1Cur_next.ins → Option (Int × (List Int × Int × Int)) := fun x => s_l1Cur_next x.1.1 x.1.2.1 x.1.2.2
noncomputable def S_s_l1Cur_next : FSpec := mkF c_s_l1Cur_next.env.pre c_s_l1Cur_next.ins c_s_l1Cur_next.out c_s_l1Cur_next.inj F_s_l1Cur_next
theorem h_s_l1Cur_next : Cert Tryz.prog 67 S_s_l1Cur_next := FnCx.certF (c := c_s_l1Cur_next) F_s_l1Cur_next (tyOk _ _ _) (spOk trivial) (fun _ _ _ _ _ hs => evDr_ok (tyOk _ _ _) hs follows) Tryz.func67 rfl rfl Tryz.ntmps67 (by kernel_rfl) rfl rfl (fun _ => rfl) trivial (fun x => .inl ⟨c_s_l1Cur_next.start () x, fun _ => rfl⟩) (fun x t hb ht => by
  obtain ⟨⟨c0_code, c0_at, c0_seed⟩, _⟩ := x
  exact (s_l1Cur_next_e c0_code c0_at c0_seed).trans ht)
/-! (*spec.l1Cur).pick -/
noncomputable def c_s_l1Cur_pick : FnCx := { env := env 20 [(67, S_s_l1Cur_next)] [], body := bodyOf Tryz.f53, res := [.tmp 4], ins := [.ptr 65 ksl1Cur, .ro kint], out := [(kint, true)], T := Int × (List Int × Int × Int), fin := fun r => (r.1.1, r.2.1), inj := fun t => ((t.1, ()), (t.2, (), ())), pts := [], fuel := 400, dr := noDr }
noncomputable def s_l1Cur_pick (c0_code : List Int) (c0_at : Int) (c0_seed : Int) (n1 : Int) : Option (Int × (List Int × Int × Int)) :=
  bif decide (n1 ≤ 1) then some (0, c0_code, c0_at, c0_seed)
  else
    Option.bind (s_l1Cur_next c0_code c0_at c0_seed) fun r =>
      bif decide (n1 > 200) then
        Option.bind (s_l1Cur_next (Prod.fst (Prod.snd r)) (Prod.fst (Prod.snd (Prod.snd r))) (Prod.snd (Prod.snd (Prod.snd r)))) fun r_1 =>
          bif n1 == 0 then none
          else
            some
              (Int.tmod (IntKind.wrap IntKind.i64 (IntKind.wrap IntKind.i64 (Prod.fst r * 256) + Prod.fst r_1)) n1, Prod.fst (Prod.snd r_1),
                Prod.fst (Prod.snd (Prod.snd r_1)), Prod.snd (Prod.snd (Prod.snd r_1)))
      else bif n1 == 0 then none else some (Int.tmod (Prod.fst r) n1, Prod.fst (Prod.snd r), Prod.fst (Prod.snd (Prod.snd r)), Prod.snd (Prod.snd (Prod.snd r)))
theorem s_l1Cur_pick_e (c0_code : List Int) (c0_at : Int) (c0_seed : Int) (n1 : Int) : c_s_l1Cur_pick.start c_s_l1Cur_pick.L ((c0_code, c0_at, c0_seed), n1, ()) = s_l1Cur_pick c0_code c0_at c0_seed n1 := by kernel_rfl
noncomputable def F_s_l1Cur_pick : Ins c_s_l1Cur_pick.ins → Option (Int × (List Int × Int × Int)) := fun x => s_l1Cur_pick x.1.1 x.1.2.1 x.1.2.2 x.2.1
noncomputable def S_s_l1Cur_pick : FSpec := mkF c_s_l1Cur_pick.env.pre c_s_l1Cur_pick.ins c_s_l1Cur_pick.out c_s_l1Cur_pick.inj F_s_l1Cur_pick
theorem h_s_l1Cur_pick : Cert Tryz.prog 53 S_s_l1Cur_pick := FnCx.certF (c := c_s_l1Cur_pick) F_s_l1Cur_pick (tyOk _ _ _) (spOk ⟨h_s_l1Cur_next, fun _ _ h => h, trivial⟩) (fun _ _ _ _ _ hs => noDr_ok) Tryz.func53 rfl rfl Tryz.ntmps53 (by kernel_rfl) rfl rfl (fun _ => rfl) trivial (fun x => .inl ⟨c_s_l1Cur_pick.start () x, fun _ => rfl⟩) (fun x t hb ht => by
  obtain ⟨⟨c0_code, c0_at, c0_seed⟩, n1, _⟩ := x
  exact (s_l1Cur_pick_e c0_code c0_at c0_seed n1).trans ht)
/-! (*spec.l1Cur).sureMoving -/
noncomputable def c_s_l1Cur_sureMoving : FnCx := { env := env 12 [(53, S_s_l1Cur_pick)] [], body := bodyOf Tryz.f68, res := [.cell 2 25], ins := [.ptr 65 ksl1Cur], out := [(kMoving, true)], T := (Int × Int) × (List Int × Int × Int), fin := fun r => (r.1.1, r.2.1), inj := fun t => ((t.1, ()), (t.2, ())), pts := [], fuel := 400, dr := noDr }
noncomputable def s_l1Cur_sureMoving (c0_code : List Int) (c0_at : Int) (c0_seed : Int) : Option ((Int × Int) × (List Int × Int × Int)) :=
  Option.bind (s_l1Cur_pick c0_code c0_at c0_seed 60) fun r =>
    Option.bind (s_l1Cur_pick (Prod.fst (Prod.snd r)) (Prod.fst (Prod.snd (Prod.snd r))) (Prod.snd (Prod.snd (Prod.snd r))) 5) fun r_1 =>
      some
        ((IntKind.wrap IntKind.i64 (1 + Prod.fst r), Prod.fst r_1), Prod.fst (Prod.snd r_1), Prod.fst (Prod.snd (Prod.snd r_1)),
          Prod.snd (Prod.snd (Prod.snd r_1)))
theorem s_l1Cur_sureMoving_e (c0_code : List Int) (c0_at : Int) (c0_seed : Int) : c_s_l1Cur_sureMoving.start c_s_l1Cur_sureMoving.L ((c0_code, c0_at, c0_seed), ()) = s_l1Cur_sureMoving c0_code c0_at c0_seed := by kernel_rfl
noncomputable def F_s_l1Cur_sureMoving : Ins c_s_l1Cur_sureMoving.ins → Option ((Int × Int) × (List Int × Int × Int)) := fun x => s_l1Cur_sureMoving x.1.1 x.1.2.1 x.1.2.2
noncomputable def S_s_l1Cur_sureMoving : FSpec := mkF c_s_l1Cur_sureMoving.env.pre c_s_l1Cur_sureMoving.ins c_s_l1Cur_sureMoving.out c_s_l1Cur_sureMoving.inj F_s_l1Cur_sureMoving
theorem h_s_l1Cur_sureMoving : Cert Tryz.prog 68 S_s_l1Cur_sureMoving := FnCx.certF (c := c_s_l1Cur_sureMoving) F_s_l1Cur_sureMoving (tyOk _ _ _) (spOk ⟨h_s_l1Cur_pick, fun _ _ h => h, trivial⟩) (fun _ _ _ _ _ hs => noDr_ok) Tryz.func68 rfl rfl Tryz.ntmps68 (by kernel_rfl) rfl rfl (fun _ => rfl) trivial (fun x => .inl ⟨c_s_l1Cur_sureMoving.start () x, fun _ => rfl⟩) (fun x t hb ht => by
  obtain ⟨⟨c0_code, c0_at, c0_seed⟩, _⟩ := x
  exact (s_l1Cur_sureMoving_e c0_code c0_at c0_seed).trans ht)
/-! (*spec.l1Cur).among -/
noncomputable def c_s_l1Cur_among : FnCx := { env := env 12 [(53, S_s_l1Cur_pick)] [], body := bodyOf Tryz.f57, res := [.tmp 4], ins := [.ptr 65 ksl1Cur, .ro kSint], out := [(kint, true)], T := Int × (List Int × Int × Int), fin := fun r => (r.1.1, r.2.1), inj := fun t => ((t.1, ()), (t.2, (), ())), pts := [], fuel := 400, dr := noDr }
noncomputable def s_l1Cur_among (c0_code : List Int) (c0_at : Int) (c0_seed : Int) (list1 : List Int) : Option (Int × (List Int × Int × Int)) :=
  Option.bind (s_l1Cur_pick c0_code c0_at c0_seed (↑(List.length list1) : Int)) fun r =>
    bif decide (0 ≤ Prod.fst r) then
      bif decide (Prod.fst r < (↑(List.length list1) : Int)) then
        some (rdk kint list1 (Prod.fst r), Prod.fst (Prod.snd r), Prod.fst (Prod.snd (Prod.snd r)), Prod.snd (Prod.snd (Prod.snd r)))
      else none
    else none
theorem s_l1Cur_among_e (c0_code : List Int) (c0_at : Int) (c0_seed : Int) (list1 : List Int) : c_s_l1Cur_among.start c_s_l1Cur_among.L ((c0_code, c0_at, c0_seed), list1, ()) = s_l1Cur_among c0_code c0_at c0_seed list1 := by kernel_rfl
noncomputable def F_s_l1Cur_among : Ins c_s_l1Cur_among.ins → Option (Int × (List Int × Int × Int)) := fun x => s_l1Cur_among x.1.1 x.1.2.1 x.1.2.2 x.2.1
noncomputable def S_s_l1Cur_among : FSpec := mkF c_s_l1Cur_among.env.pre c_s_l1Cur_among.ins c_s_l1Cur_among.out c_s_l1Cur_among.inj F_s_l1Cur_among
theorem h_s_l1Cur_among : Cert Tryz.prog 57 S_s_l1Cur_among := FnCx.certF (c := c_s_l1Cur_among) F_s_l1Cur_among (tyOk _ _ _) (spOk ⟨h_s_l1Cur_pick, fun _ _ h => h, trivial⟩) (fun _ _ _ _ _ hs => noDr_ok) Tryz.func57 rfl rfl Tryz.ntmps57 (by kernel_rfl) rfl rfl (fun _ => rfl) trivial (fun x => .inl ⟨c_s_l1Cur_among.start () x, fun _ => rfl⟩) (fun x t hb ht => by
  obtain ⟨⟨c0_code, c0_at, c0_seed⟩, list1, _⟩ := x
  exact (s_l1Cur_among_e c0_code c0_at c0_seed list1).trans ht)
/-! (*spec.l1Cur).moving -/
noncomputable def c_s_l1Cur_moving : FnCx := { env := env 21 [(68, S_s_l1Cur_sureMoving), (53, S_s_l1Cur_pick), (57, S_s_l1Cur_among)] [], body := bodyOf Tryz.f59, res := [.cell 2 25], ins := [.ptr 65 ksl1Cur], out := [(kMoving, true)], T := (Int × Int) × (List Int × Int × Int), fin := fun r => (r.1.1, r.2.1), inj := fun t => ((t.1, ()), (t.2, ())), pts := [], fuel := 400, dr := noDr }
noncomputable def s_l1Cur_moving (c0_code : List Int) (c0_at : Int) (c0_seed : Int) : Option ((Int × Int) × (List Int × Int × Int)) :=
  Option.bind (s_l1Cur_sureMoving c0_code c0_at c0_seed) fun r =>
    Option.bind (s_l1Cur_pick (Prod.fst (Prod.snd r)) (Prod.fst (Prod.snd (Prod.snd r))) (Prod.snd (Prod.snd (Prod.snd r))) 14) fun r_1 =>
      bif Prod.fst r_1 == 0 then
        Option.bind
          (s_l1Cur_among (Prod.fst (Prod.snd r_1)) (Prod.fst (Prod.snd (Prod.snd r_1))) (Prod.snd (Prod.snd (Prod.snd r_1)))
            [0, -1, 500, 501, 4611686018427387904])
          fun r_2 => some ((Prod.fst r_2, Prod.snd (Prod.fst r)), Prod.fst (Prod.snd r_2), Prod.fst (Prod.snd (Prod.snd r_2)), Prod.snd (Prod.snd (Prod.snd r_2)))
      else
        bif Prod.fst r_1 == 1 then
          Option.bind
            (s_l1Cur_among (Prod.fst (Prod.snd r_1)) (Prod.fst (Prod.snd (Prod.snd r_1))) (Prod.snd (Prod.snd (Prod.snd r_1))) [-1, 20, 21, 4611686018427387904])
            fun r_2 =>
            some ((Prod.fst (Prod.fst r), Prod.fst r_2), Prod.fst (Prod.snd r_2), Prod.fst (Prod.snd (Prod.snd r_2)), Prod.snd (Prod.snd (Prod.snd r_2)))
        else
          some ((Prod.fst (Prod.fst r), Prod.snd (Prod.fst r)), Prod.fst (Prod.snd r_1), Prod.fst (Prod.snd (Prod.snd r_1)), Prod.snd (Prod.snd (Prod.snd r_1)))
theorem s_l1Cur_moving_e (c0_code : List Int) (c0_at : Int) (c0_seed : Int) : c_s_l1Cur_moving.start c_s_l1Cur_moving.L ((c0_code, c0_at, c0_seed), ()) = s_l1Cur_moving c0_code c0_at c0_seed := by kernel_rfl
noncomputable def F_s_l1Cur_moving : Ins c_s_l1Cur_moving.ins → Option ((Int × Int) × (List Int × Int × Int)) := fun x => s_l1Cur_moving x.1.1 x.1.2.1 x.1.2.2
noncomputable def S_s_l1Cur_moving : FSpec := mkF c_s_l1Cur_moving.env.pre c_s_l1Cur_moving.ins c_s_l1Cur_moving.out c_s_l1Cur_moving.inj F_s_l1Cur_moving
theorem h_s_l1Cur_moving : Cert Tryz.prog 59 S_s_l1Cur_moving := FnCx.certF (c := c_s_l1Cur_moving) F_s_l1Cur_moving (tyOk _ _ _) (spOk ⟨h_s_l1Cur_sureMoving, fun _ _ h => h, ⟨h_s_l1Cur_pick, fun _ _ h => h, ⟨h_s_l1Cur_among, fun _ _ h => h, trivial⟩⟩⟩) (fun _ _ _ _ _ hs => noDr_ok) Tryz.func59 rfl rfl Tryz.ntmps59 (by kernel_rfl) rfl rfl (fun _ => rfl) trivial (fun x => .inl ⟨c_s_l1Cur_moving.start () x, fun _ => rfl⟩) (fun x t hb ht => by
  obtain ⟨⟨c0_code, c0_at, c0_seed⟩, _⟩ := x
  exact (s_l1Cur_moving_e c0_code c0_at c0_seed).trans ht)
/-! (*spec.l1Cur).one -/
noncomputable def c_s_l1Cur_one : FnCx := { env := env 9 [(53, S_s_l1Cur_pick)] [], body := bodyOf Tryz.f54, res := [.tmp 4], ins := [.ptr 65 ksl1Cur, .ro kint], out := [(kbool, true)], T := Bool × (List Int × Int × Int), fin := fun r => (r.1.1, r.2.1), inj := fun t => ((t.1, ()), (t.2, (), ())), pts := [], fuel := 400, dr := noDr }
noncomputable def s_l1Cur_one (c0_code : List Int) (c0_at : Int) (c0_seed : Int) (n1 : Int) : Option (Bool × (List Int × Int × Int)) :=
  Option.bind (s_l1Cur_pick c0_code c0_at c0_seed n1) fun r =>
    some (Prod.fst r == 0, Prod.fst (Prod.snd r), Prod.fst (Prod.snd (Prod.snd r)), Prod.snd (Prod.snd (Prod.snd r)))
theorem s_l1Cur_one_e (c0_code : List Int) (c0_at : Int) (c0_seed : Int) (n1 : Int) : c_s_l1Cur_one.start c_s_l1Cur_one.L ((c0_code, c0_at, c0_seed), n1, ()) = s_l1Cur_one c0_code c0_at c0_seed n1 := by kernel_rfl
noncomputable def F_s_l1Cur_one : Ins c_s_l1Cur_one.ins → Option (Bool × (List Int × Int × Int)) := fun x => s_l1Cur_one x.1.1 x.1.2.1 x.1.2.2 x.2.1
noncomputable def S_s_l1Cur_one : FSpec := mkF c_s_l1Cur_one.env.pre c_s_l1Cur_one.ins c_s_l1Cur_one.out c_s_l1Cur_one.inj F_s_l1Cur_one
theorem h_s_l1Cur_one : Cert Tryz.prog 54 S_s_l1Cur_one := FnCx.certF (c := c_s_l1Cur_one) F_s_l1Cur_one (tyOk _ _ _) (spOk ⟨h_s_l1Cur_pick, fun _ _ h => h, trivial⟩) (fun _ _ _ _ _ hs => noDr_ok) Tryz.func54 rfl rfl Tryz.ntmps54 (by kernel_rfl) rfl rfl (fun _ => rfl) trivial (fun x => .inl ⟨c_s_l1Cur_one.start () x, fun _ => rfl⟩) (fun x t hb ht => by
  obtain ⟨⟨c0_code, c0_at, c0_seed⟩, n1, _⟩ := x
  exact (s_l1Cur_one_e c0_code c0_at c0_seed n1).trans ht)
/-! (*spec.l1Cur).pace -/
noncomputable def c_s_l1Cur_pace : FnCx := { env := env 10 [(54, S_s_l1Cur_one), (57, S_s_l1Cur_among), (53, S_s_l1Cur_pick)] [], body := bodyOf Tryz.f52, res := [.tmp 2], ins := [.ptr 65 ksl1Cur], out := [(kint, true)], T := Int × (List Int × Int × Int), fin := fun r => (r.1.1, r.2.1), inj := fun t => ((t.1, ()), (t.2, ())), pts := [], fuel := 400, dr := noDr }
noncomputable def s_l1Cur_pace (c0_code : List Int) (c0_at : Int) (c0_seed : Int) : Option (Int × (List Int × Int × Int)) :=
  Option.bind (s_l1Cur_one c0_code c0_at c0_seed 14) fun r =>
    bif Prod.fst r then
      Option.bind (s_l1Cur_among (Prod.fst (Prod.snd r)) (Prod.fst (Prod.snd (Prod.snd r))) (Prod.snd (Prod.snd (Prod.snd r))) [-1, 20, 21, 4611686018427387904])
        fun r => some (Prod.fst r, Prod.fst (Prod.snd r), Prod.fst (Prod.snd (Prod.snd r)), Prod.snd (Prod.snd (Prod.snd r)))
    else
      Option.bind (s_l1Cur_pick (Prod.fst (Prod.snd r)) (Prod.fst (Prod.snd (Prod.snd r))) (Prod.snd (Prod.snd (Prod.snd r))) 7) fun r =>
        some (Prod.fst r, Prod.fst (Prod.snd r), Prod.fst (Prod.snd (Prod.snd r)), Prod.snd (Prod.snd (Prod.snd r)))
theorem s_l1Cur_pace_e (c0_code : List Int) (c0_at : Int) (c0_seed : Int) : c_s_l1Cur_pace.start c_s_l1Cur_pace.L ((c0_code, c0_at, c0_seed), ()) = s_l1Cur_pace c0_code c0_at c0_seed := by kernel_rfl
noncomputable def F_s_l1Cur_pace : Ins c_s_l1Cur_pace.ins → Option (Int × (List Int × Int × Int)) := fun x => s_l1Cur_pace x.1.1 x.1.2.1 x.1.2.2
noncomputable def S_s_l1Cur_pace : FSpec := mkF c_s_l1Cur_pace.env.pre c_s_l1Cur_pace.ins c_s_l1Cur_pace.out c_s_l1Cur_pace.inj F_s_l1Cur_pace
theorem h_s_l1Cur_pace : Cert Tryz.prog 52 S_s_l1Cur_pace := FnCx.certF (c := c_s_l1Cur_pace) F_s_l1Cur_pace (tyOk _ _ _) (spOk ⟨h_s_l1Cur_one, fun _ _ h => h, ⟨h_s_l1Cur_among, fun _ _ h => h, ⟨h_s_l1Cur_pick, fun _ _ h => h, trivial⟩⟩⟩) (fun _ _ _ _ _ hs => noDr_ok) Tryz.func52 rfl rfl Tryz.ntmps52 (by kernel_rfl) rfl rfl (fun _ => rfl) trivial (fun x => .inl ⟨c_s_l1Cur_pace.start () x, fun _ => rfl⟩) (fun x t hb ht => by
  obtain ⟨⟨c0_code, c0_at, c0_seed⟩, _⟩ := x
  exact (s_l1Cur_pace_e c0_code c0_at c0_seed).trans ht)
/-! spec.DrawTimeWith -/
noncomputable def c_s_DrawTimeWith : FnCx := { env := env 14 [(59, S_s_l1Cur_moving), (52, S_s_l1Cur_pace)] [], body := bodyOf Tryz.f40, res := [.cell 2 25, .tmp 3], ins := [.ro kSuint8], out := [(kMoving, true), (kint, true)], T := (Int × Int) × Int, fin := fun r => (r.1.1, r.1.2.1), inj := fun t => ((t.1, t.2, ()), ((), ())), pts := [], fuel := 400, dr := evDr (env 14 [(59, S_s_l1Cur_moving), (52, S_s_l1Cur_pace)] []) }
noncomputable def s_DrawTimeWith (code0 : List Int) : Option ((Int × Int) × Int) :=
  Option.bind (s_l1Cur_moving code0 0 0) fun r =>
    Option.bind (s_l1Cur_pace (Prod.fst (Prod.snd r)) (Prod.fst (Prod.snd (Prod.snd r))) (Prod.snd (Prod.snd (Prod.snd r)))) fun r_1 =>
      some ((Prod.fst (Prod.fst r), Prod.snd (Prod.fst r)), Prod.fst r_1)
theorem s_DrawTimeWith_e (code0 : List Int) : c_s_DrawTimeWith.start c_s_DrawTimeWith.L (code0, ()) = s_DrawTimeWith code0 := by kernel_rfl
noncomputable def F_s_DrawTimeWith : Ins c_s_DrawTimeWith.ins → Option ((Int × Int) × Int) := fun x => s_DrawTimeWith x.1
noncomputable def S_s_DrawTimeWith : FSpec := mkF c_s_DrawTimeWith.env.pre c_s_DrawTimeWith.ins c_s_DrawTimeWith.out c_s_DrawTimeWith.inj F_s_DrawTimeWith
theorem h_s_DrawTimeWith : Cert Tryz.prog 40 S_s_DrawTimeWith := FnCx.certF (c := c_s_DrawTimeWith) F_s_DrawTimeWith (tyOk _ _ _) (spOk ⟨h_s_l1Cur_moving, fun _ _ h => h, ⟨h_s_l1Cur_pace, fun _ _ h => h, trivial⟩⟩) (fun _ _ _ _ _ hs => evDr_ok (tyOk _ _ _) hs follows) Tryz.func40 rfl rfl Tryz.ntmps40 (by kernel_rfl) rfl rfl (fun _ => rfl) trivial (fun x => .inl ⟨c_s_DrawTimeWith.start () x, fun _ => rfl⟩) (fun x t hb ht => by
  obtain ⟨code0, _⟩ := x
  exact (s_DrawTimeWith_e code0).trans ht)
/-! spec.DrawTimeAgainst -/
noncomputable def c_s_DrawTimeAgainst : FnCx := { env := env 8 [(40, S_s_DrawTimeWith)] [], body := bodyOf Tryz.f5, res := [.cell 2 25, .tmp 3], ins := [.ro kSuint8], out := [(kMoving, true), (kint, true)], T := (Int × Int) × Int, fin := fun r => (r.1.1, r.1.2.1), inj := fun t => ((t.1, t.2, ()), ((), ())), pts := [], fuel := 400, dr := noDr }
noncomputable def s_DrawTimeAgainst (code0 : List Int) : Option ((Int × Int) × Int) :=
  Option.bind (s_DrawTimeWith code0) fun r => some ((Prod.fst (Prod.fst r), Prod.snd (Prod.fst r)), Prod.snd r)
theorem s_DrawTimeAgainst_e (code0 : List Int) : c_s_DrawTimeAgainst.start c_s_DrawTimeAgainst.L (code0, ()) = s_DrawTimeAgainst code0 := by kernel_rfl
noncomputable def F_s_DrawTimeAgainst : Ins c_s_DrawTimeAgainst.ins → Option ((Int × Int) × Int) := fun x => s_DrawTimeAgainst x.1
noncomputable def S_s_DrawTimeAgainst : FSpec := mkF c_s_DrawTimeAgainst.env.pre c_s_DrawTimeAgainst.ins c_s_DrawTimeAgainst.out c_s_DrawTimeAgainst.inj F_s_DrawTimeAgainst
theorem h_s_DrawTimeAgainst : Cert Tryz.prog 5 S_s_DrawTimeAgainst := FnCx.certF (c := c_s_DrawTimeAgainst) F_s_DrawTimeAgainst (tyOk _ _ _) (spOk ⟨h_s_DrawTimeWith, fun _ _ h => h, trivial⟩) (fun _ _ _ _ _ hs => noDr_ok) Tryz.func5 rfl rfl Tryz.ntmps5 (by kernel_rfl) rfl rfl (fun _ => rfl) trivial (fun x => .inl ⟨c_s_DrawTimeAgainst.start () x, fun _ => rfl⟩) (fun x t hb ht => by
  obtain ⟨code0, _⟩ := x
  exact (s_DrawTimeAgainst_e code0).trans ht)
/-! spec.DrawVisibleFromTwo -/
noncomputable def c_s_DrawVisibleFromTwo : FnCx := { env := env 68 [(52, S_s_l1Cur_pace), (53, S_s_l1Cur_pick), (54, S_s_l1Cur_one)] [], body := bodyOf Tryz.f30, res := [.tmp 2, .tmp 3, .tmp 4, .tmp 5], ins := [.ro kSuint8], out := [(kint, true), (kint, true), (kint, true), (kint, true)], T := Int × Int × Int × Int, fin := fun r => (r.1.1, r.1.2.1, r.1.2.2.1, r.1.2.2.2.1), inj := fun t => ((t.1, t.2.1, t.2.2.1, t.2.2.2, ()), ((), ())), pts := [], fuel := 400, dr := evDr (env 68 [(52, S_s_l1Cur_pace), (53, S_s_l1Cur_pick), (54, S_s_l1Cur_one)] []) }
noncomputable def s_DrawVisibleFromTwo (code0 : List Int) : Option (Int × Int × Int × Int) :=
  Option.bind (s_l1Cur_pace code0 0 0) fun r =>
    Option.bind (s_l1Cur_pick (Prod.fst (Prod.snd r)) (Prod.fst (Prod.snd (Prod.snd r))) (Prod.snd (Prod.snd (Prod.snd r))) 30) fun r_1 =>
      Option.bind (s_l1Cur_pick (Prod.fst (Prod.snd r_1)) (Prod.fst (Prod.snd (Prod.snd r_1))) (Prod.snd (Prod.snd (Prod.snd r_1))) 4) fun r_2 =>
        Option.bind (s_l1Cur_one (Prod.fst (Prod.snd r_2)) (Prod.fst (Prod.snd (Prod.snd r_2))) (Prod.snd (Prod.snd (Prod.snd r_2))) 2) fun r_3 =>
          bif Prod.fst r_3 then
            bif decide (Prod.fst r > 0) then
              bif decide (Prod.fst r < 10) then
                bif decide (IntKind.wrap IntKind.i64 (Prod.fst r + Prod.fst r_2) > Prod.fst r) then
                  bif decide (IntKind.wrap IntKind.i64 (Prod.fst r + Prod.fst r_2) ≤ 20) then
                    bif IntKind.wrap IntKind.i64 (Prod.fst r + 2) == 0 then none
                    else
                      bif IntKind.wrap IntKind.i64 (IntKind.wrap IntKind.i64 (Prod.fst r + Prod.fst r_2) + 2) == 0 then none
                      else
                        some
                          (Prod.fst r,
                            IntKind.wrap IntKind.i64
                              (Int.tdiv
                                (IntKind.wrap IntKind.i64
                                  (IntKind.wrap IntKind.i64
                                      (IntKind.wrap IntKind.i64 (Prod.fst r + 2) *
                                        IntKind.wrap IntKind.i64 (IntKind.wrap IntKind.i64 (Prod.fst r + Prod.fst r_2) + 2)) *
                                    Prod.fst r))
                                (IntKind.wrap IntKind.i64 (Prod.fst r + 2))),
                            IntKind.wrap IntKind.i64 (Prod.fst r + Prod.fst r_2),
                            IntKind.wrap IntKind.i64
                              (Int.tdiv
                                (IntKind.wrap IntKind.i64
                                  (IntKind.wrap IntKind.i64
                                      (IntKind.wrap IntKind.i64 (Prod.fst r + 2) *
                                        IntKind.wrap IntKind.i64 (IntKind.wrap IntKind.i64 (Prod.fst r + Prod.fst r_2) + 2)) *
                                    IntKind.wrap IntKind.i64 (Prod.fst r + Prod.fst r_2)))
                                (IntKind.wrap IntKind.i64 (IntKind.wrap IntKind.i64 (Prod.fst r + Prod.fst r_2) + 2))))
                  else
                    Option.bind (s_l1Cur_pick (Prod.fst (Prod.snd r_3)) (Prod.fst (Prod.snd (Prod.snd r_3))) (Prod.snd (Prod.snd (Prod.snd r_3))) 12) fun r_4 =>
                      some
                        (Prod.fst r, IntKind.wrap IntKind.i64 (1 + Prod.fst r_1), IntKind.wrap IntKind.i64 (Prod.fst r + Prod.fst r_2),
                          IntKind.wrap IntKind.i64 (IntKind.wrap IntKind.i64 (1 + Prod.fst r_1) + Prod.fst r_4))
                else
                  Option.bind (s_l1Cur_pick (Prod.fst (Prod.snd r_3)) (Prod.fst (Prod.snd (Prod.snd r_3))) (Prod.snd (Prod.snd (Prod.snd r_3))) 12) fun r_4 =>
                    some
                      (Prod.fst r, IntKind.wrap IntKind.i64 (1 + Prod.fst r_1), IntKind.wrap IntKind.i64 (Prod.fst r + Prod.fst r_2),
                        IntKind.wrap IntKind.i64 (IntKind.wrap IntKind.i64 (1 + Prod.fst r_1) + Prod.fst r_4))
              else
                Option.bind (s_l1Cur_pick (Prod.fst (Prod.snd r_3)) (Prod.fst (Prod.snd (Prod.snd r_3))) (Prod.snd (Prod.snd (Prod.snd r_3))) 12) fun r_4 =>
                  some
                    (Prod.fst r, IntKind.wrap IntKind.i64 (1 + Prod.fst r_1), IntKind.wrap IntKind.i64 (Prod.fst r + Prod.fst r_2),
                      IntKind.wrap IntKind.i64 (IntKind.wrap IntKind.i64 (1 + Prod.fst r_1) + Prod.fst r_4))
            else
              Option.bind (s_l1Cur_pick (Prod.fst (Prod.snd r_3)) (Prod.fst (Prod.snd (Prod.snd r_3))) (Prod.snd (Prod.snd (Prod.snd r_3))) 12) fun r_4 =>
                some
                  (Prod.fst r, IntKind.wrap IntKind.i64 (1 + Prod.fst r_1), IntKind.wrap IntKind.i64 (Prod.fst r + Prod.fst r_2),
                    IntKind.wrap IntKind.i64 (IntKind.wrap IntKind.i64 (1 + Prod.fst r_1) + Prod.fst r_4))
          else
            Option.bind (s_l1Cur_pick (Prod.fst (Prod.snd r_3)) (Prod.fst (Prod.snd (Prod.snd r_3))) (Prod.snd (Prod.snd (Prod.snd r_3))) 12) fun r_4 =>
              some
                (Prod.fst r, IntKind.wrap IntKind.i64 (1 + Prod.fst r_1), IntKind.wrap IntKind.i64 (Prod.fst r + Prod.fst r_2),
                  IntKind.wrap IntKind.i64 (IntKind.wrap IntKind.i64 (1 + Prod.fst r_1) + Prod.fst r_4))
theorem s_DrawVisibleFromTwo_e (code0 : List Int) : c_s_DrawVisibleFromTwo.start c_s_DrawVisibleFromTwo.L (code0, ()) = s_DrawVisibleFromTwo code0 := by kernel_rfl
noncomputable def F_s_DrawVisibleFromTwo : Ins c_s_DrawVisibleFromTwo.ins → Option (Int × Int × Int × Int) := fun x => s_DrawVisibleFromTwo x.1
noncomputable def S_s_DrawVisibleFromTwo : FSpec := mkF c_s_DrawVisibleFromTwo.env.pre c_s_DrawVisibleFromTwo.ins c_s_DrawVisibleFromTwo.out c_s_DrawVisibleFromTwo.inj F_s_DrawVisibleFromTwo
theorem h_s_DrawVisibleFromTwo : Cert Tryz.prog 30 S_s_DrawVisibleFromTwo := FnCx.certF (c := c_s_DrawVisibleFromTwo) F_s_DrawVisibleFromTwo (tyOk _ _ _) (spOk ⟨h_s_l1Cur_pace, fun _ _ h => h, ⟨h_s_l1Cur_pick, fun _ _ h => h, ⟨h_s_l1Cur_one, fun _ _ h => h, trivial⟩⟩⟩) (fun _ _ _ _ _ hs => evDr_ok (tyOk _ _ _) hs follows) Tryz.func30 rfl rfl Tryz.ntmps30 (by kernel_rfl) rfl rfl (fun _ => rfl) trivial (fun x => .inl ⟨c_s_DrawVisibleFromTwo.start () x, fun _ => rfl⟩) (fun x t hb ht => by
  obtain ⟨code0, _⟩ := x
  exact (s_DrawVisibleFromTwo_e code0).trans ht)
/-! spec.DrawVisibleFromBoth -/
noncomputable def c_s_DrawVisibleFromBoth : FnCx := { env := env 23 [(52, S_s_l1Cur_pace), (57, S_s_l1Cur_among)] [], body := bodyOf Tryz.f35, res := [.tmp 2, .tmp 3, .tmp 4], ins := [.ro kSuint8], out := [(kint, true), (kint, true), (kint, true)], T := Int × Int × Int, fin := fun r => (r.1.1, r.1.2.1, r.1.2.2.1), inj := fun t => ((t.1, t.2.1, t.2.2, ()), ((), ())), pts := [], fuel := 400, dr := noDr }
noncomputable def s_DrawVisibleFromBoth (code0 : List Int) : Option (Int × Int × Int) :=
  Option.bind (s_l1Cur_pace code0 0 0) fun r =>
    Option.bind (s_l1Cur_among (Prod.fst (Prod.snd r)) (Prod.fst (Prod.snd (Prod.snd r))) (Prod.snd (Prod.snd (Prod.snd r))) [1, 2, 12, 36, 0, 10000]) fun r_1 =>
      Option.bind
        (s_l1Cur_among (Prod.fst (Prod.snd r_1)) (Prod.fst (Prod.snd (Prod.snd r_1))) (Prod.snd (Prod.snd (Prod.snd r_1)))
          [0, 1, 24, 144, -1, 4611686018427387904])
        fun r_2 => some (Prod.fst r, Prod.fst r_1, IntKind.wrap IntKind.i64 (Prod.fst r_1 + Prod.fst r_2))
theorem s_DrawVisibleFromBoth_e (code0 : List Int) : c_s_DrawVisibleFromBoth.start c_s_DrawVisibleFromBoth.L (code0, ()) = s_DrawVisibleFromBoth code0 := by kernel_rfl
noncomputable def F_s_DrawVisibleFromBoth : Ins c_s_DrawVisibleFromBoth.ins → Option (Int × Int × Int) := fun x => s_DrawVisibleFromBoth x.1
noncomputable def S_s_DrawVisibleFromBoth : FSpec := mkF c_s_DrawVisibleFromBoth.env.pre c_s_DrawVisibleFromBoth.ins c_s_DrawVisibleFromBoth.out c_s_DrawVisibleFromBoth.inj F_s_DrawVisibleFromBoth
theorem h_s_DrawVisibleFromBoth : Cert Tryz.prog 35 S_s_DrawVisibleFromBoth := FnCx.certF (c := c_s_DrawVisibleFromBoth) F_s_DrawVisibleFromBoth (tyOk _ _ _) (spOk ⟨h_s_l1Cur_pace, fun _ _ h => h, ⟨h_s_l1Cur_among, fun _ _ h => h, trivial⟩⟩) (fun _ _ _ _ _ hs => noDr_ok) Tryz.func35 rfl rfl Tryz.ntmps35 (by kernel_rfl) rfl rfl (fun _ => rfl) trivial (fun x => .inl ⟨c_s_DrawVisibleFromBoth.start () x, fun _ => rfl⟩) (fun x t hb ht => by
  obtain ⟨code0, _⟩ := x
  exact (s_DrawVisibleFromBoth_e code0).trans ht)
/-! spec.l1Most -/
noncomputable def c_s_l1Most : FnCx := { env := env 10 [] [], body := bodyOf Tryz.f61, res := [.tmp 4], ins := [.ro kint, .ro kint], out := [(kint, true)], T := Int, fin := fun r => r.1.1, inj := fun t => ((t, ()), ((), (), ())), pts := [], fuel := 400, dr := noDr }
noncomputable def s_l1Most (a0 : Int) (b1 : Int) : Int :=
  bif decide (a0 > b1) then a0 else b1
theorem s_l1Most_e (a0 : Int) (b1 : Int) : c_s_l1Most.start c_s_l1Most.L (a0, b1, ()) = some (s_l1Most a0 b1) := by
  refine Eq.trans (b := (bif decide (a0 > b1) then some a0 else some b1 : Option Int)) (by kernel_rfl) ?_
  unfold s_l1Most
  repeat (first | rfl | apply condS)
noncomputable def F_s_l1Most : Ins c_s_l1Most.ins → Int := fun x => s_l1Most x.1 x.2.1
noncomputable def S_s_l1Most : FSpec := mkT c_s_l1Most.env.pre c_s_l1Most.ins c_s_l1Most.out c_s_l1Most.inj F_s_l1Most
theorem h_s_l1Most : Cert Tryz.prog 61 S_s_l1Most := FnCx.certT (c := c_s_l1Most) F_s_l1Most (tyOk _ _ _) (spOk trivial) (fun _ _ _ _ _ hs => noDr_ok) Tryz.func61 rfl rfl Tryz.ntmps61 (by kernel_rfl) rfl rfl (fun _ => rfl) trivial (fun x => .inl ⟨c_s_l1Most.start () x, fun _ => rfl⟩) (fun x hb => by
  obtain ⟨a0, b1, _⟩ := x
  exact s_l1Most_e a0 b1)
/-! spec.l1Least -/
noncomputable def c_s_l1Least : FnCx := { env := env 10 [] [], body := bodyOf Tryz.f60, res := [.tmp 4], ins := [.ro kint, .ro kint], out := [(kint, true)], T := Int, fin := fun r => r.1.1, inj := fun t => ((t, ()), ((), (), ())), pts := [], fuel := 400, dr := noDr }
noncomputable def s_l1Least (a0 : Int) (b1 : Int) : Int :=
  bif decide (a0 < b1) then a0 else b1
theorem s_l1Least_e (a0 : Int) (b1 : Int) : c_s_l1Least.start c_s_l1Least.L (a0, b1, ()) = some (s_l1Least a0 b1) := by
  refine Eq.trans (b := (bif decide (a0 < b1) then some a0 else some b1 : Option Int)) (by kernel_rfl) ?_
  unfold s_l1Least
  repeat (first | rfl | apply condS)
noncomputable def F_s_l1Least : Ins c_s_l1Least.ins → Int := fun x => s_l1Least x.1 x.2.1
noncomputable def S_s_l1Least : FSpec := mkT c_s_l1Least.env.pre c_s_l1Least.ins c_s_l1Least.out c_s_l1Least.inj F_s_l1Least
theorem h_s_l1Least : Cert Tryz.prog 60 S_s_l1Least := FnCx.certT (c := c_s_l1Least) F_s_l1Least (tyOk _ _ _) (spOk trivial) (fun _ _ _ _ _ hs => noDr_ok) Tryz.func60 rfl rfl Tryz.ntmps60 (by kernel_rfl) rfl rfl (fun _ => rfl) trivial (fun x => .inl ⟨c_s_l1Least.start () x, fun _ => rfl⟩) (fun x hb => by
  obtain ⟨a0, b1, _⟩ := x
  exact s_l1Least_e a0 b1)
/-! spec.DrawPaceForSteps -/
noncomputable def c_s_DrawPaceForSteps : FnCx := { env := env 23 [(59, S_s_l1Cur_moving), (61, S_s_l1Most), (60, S_s_l1Least), (53, S_s_l1Cur_pick)] [], body := bodyOf Tryz.f37, res := [.cell 2 25, .tmp 3], ins := [.ro kSuint8], out := [(kMoving, true), (kint, true)], T := (Int × Int) × Int, fin := fun r => (r.1.1, r.1.2.1), inj := fun t => ((t.1, t.2, ()), ((), ())), pts := [], fuel := 400, dr := evDr (env 23 [(59, S_s_l1Cur_moving), (61, S_s_l1Most), (60, S_s_l1Least), (53, S_s_l1Cur_pick)] []) }
noncomputable def s_DrawPaceForSteps (code0 : List Int) : Option ((Int × Int) × Int) :=
  Option.bind (s_l1Cur_moving code0 0 0) fun r =>
    Option.bind
      (s_l1Cur_pick (Prod.fst (Prod.snd r)) (Prod.fst (Prod.snd (Prod.snd r))) (Prod.snd (Prod.snd (Prod.snd r)))
        (IntKind.wrap IntKind.i64 (s_l1Least (s_l1Most (Prod.fst (Prod.fst r)) 0) 60 + 2)))
      fun r_1 =>
      Option.bind (s_l1Cur_pick (Prod.fst (Prod.snd r_1)) (Prod.fst (Prod.snd (Prod.snd r_1))) (Prod.snd (Prod.snd (Prod.snd r_1))) 9) fun r_2 =>
        some ((Prod.fst (Prod.fst r), Prod.snd (Prod.fst r)), IntKind.wrap IntKind.i64 (Prod.fst r_1 - IntKind.wrap IntKind.i64 (Int.tdiv (Prod.fst r_2) 8)))
theorem s_DrawPaceForSteps_e (code0 : List Int) : c_s_DrawPaceForSteps.start c_s_DrawPaceForSteps.L (code0, ()) = s_DrawPaceForSteps code0 := by kernel_rfl
noncomputable def F_s_DrawPaceForSteps : Ins c_s_DrawPaceForSteps.ins → Option ((Int × Int) × Int) := fun x => s_DrawPaceForSteps x.1
noncomputable def S_s_DrawPaceForSteps : FSpec := mkF c_s_DrawPaceForSteps.env.pre c_s_DrawPaceForSteps.ins c_s_DrawPaceForSteps.out c_s_DrawPaceForSteps.inj F_s_DrawPaceForSteps
theorem h_s_DrawPaceForSteps : Cert Tryz.prog 37 S_s_DrawPaceForSteps := FnCx.certF (c := c_s_DrawPaceForSteps) F_s_DrawPaceForSteps (tyOk _ _ _) (spOk ⟨h_s_l1Cur_moving, fun _ _ h => h, ⟨h_s_l1Most, fun _ _ h => h, ⟨h_s_l1Least, fun _ _ h => h, ⟨h_s_l1Cur_pick, fun _ _ h => h, trivial⟩⟩⟩⟩) (fun _ _ _ _ _ hs => evDr_ok (tyOk _ _ _) hs follows) Tryz.func37 rfl rfl Tryz.ntmps37 (by kernel_rfl) rfl rfl (fun _ => rfl) trivial (fun x => .inl ⟨c_s_DrawPaceForSteps.start () x, fun _ => rfl⟩) (fun x t hb ht => by
  obtain ⟨code0, _⟩ := x
  exact (s_DrawPaceForSteps_e code0).trans ht)
/-! laws.FnMovingTimed -/
noncomputable def c_w_FnMovingTimed : FnCx := { env := env 747 [(4, S_w_big), (5, S_s_DrawTimeAgainst), (6, S_i_TimeWith), (7, S_s_TimeWith), (8, S_i_StepsWith), (9, S_s_StepsWith), (10, S_i_TimeAgainst), (11, S_s_TimeAgainst), (12, S_i_StepsAgainst), (13, S_s_StepsAgainst), (14, S_i_RoundTrip), (15, S_s_RoundTrip), (16, S_i_WholeTimes), (17, S_s_WholeTimes), (18, S_i_MovingText), (19, S_s_MovingText), (20, S_w_lSame), (21, S_i_IsMoving), (22, S_s_IsMoving), (23, S_w_lIs), (24, S_w_lHas), (25, S_i_PaceForSteps), (26, S_i_PlaceAt), (27, S_i_VisibleFromBoth), (28, S_i_ParseMoving), (29, S_w_lRises), (30, S_s_DrawVisibleFromTwo), (31, S_i_VisibleFromTwo), (32, S_s_VisibleFromTwo), (33, S_i_SpeedFromTwo), (34, S_s_SpeedFromTwo), (35, S_s_DrawVisibleFromBoth), (36, S_s_VisibleFromBoth), (37, S_s_DrawPaceForSteps), (38, S_s_PaceForSteps), (39, S_w_lLow)] [], body := bodyOf Tryz.f3, res := [.tmp 4], ins := [.ro kSuint8, .ro kSuint8], out := [(kbool, true)], T := Bool, fin := fun r => r.1.1, inj := fun t => ((t, ()), ((), (), ())), pts := [([.code [1, 1, 1, 1, 1, 1, 1, 1, 1, 1, 1, 1, 1, 1, 1, 1, 1, 1]], Shape.mk [Bs.row kuint8 5 false, Bs.box 25 [Cs.sc kint, Cs.sc kint], Bs.row kint 3 true] [(1, Ss.one (Cs.sl 0)), (5, Ss.one (Cs.ptr 1 0)), (6, Ss.one (Cs.sc kint)), (7, Ss.one (Cs.sc kint)), (8, Ss.one (Cs.sc kint)), (9, Ss.one (Cs.sc kbool)), (13, Ss.one (Cs.sc kint)), (14, Ss.one (Cs.sc kint)), (19, Ss.one (Cs.sc kint)), (20, Ss.one (Cs.sc kint)), (21, Ss.one (Cs.sc kbool)), (25, Ss.one (Cs.sc kint)), (26, Ss.one (Cs.sc kint)), (31, Ss.one (Cs.sc kint)), (32, Ss.one (Cs.sc kint)), (37, Ss.one (Cs.sl 2)), (38, Ss.one (Cs.sc kbool)), (41, Ss.one (Cs.sc kstring))] [Ss.one (Cs.any), Ss.one (Cs.any)]), ([.code [1, 1, 1, 1, 1, 1, 1, 1, 1, 1, 1, 1, 1, 1, 1, 1, 1, 1, 1]], Shape.mk [Bs.row kuint8 5 false, Bs.box 25 [Cs.sc kint, Cs.sc kint], Bs.row kint 3 true] [(1, Ss.one (Cs.sl 0)), (5, Ss.one (Cs.ptr 1 0)), (6, Ss.one (Cs.sc kint)), (7, Ss.one (Cs.sc kint)), (8, Ss.one (Cs.sc kint)), (13, Ss.one (Cs.sc kint)), (14, Ss.one (Cs.sc kint)), (19, Ss.one (Cs.sc kint)), (20, Ss.one (Cs.sc kint)), (21, Ss.one (Cs.sc kbool)), (25, Ss.one (Cs.sc kint)), (26, Ss.one (Cs.sc kint)), (37, Ss.one (Cs.sl 2)), (38, Ss.one (Cs.sc kbool)), (41, Ss.one (Cs.sc kstring))] [Ss.one (Cs.any), Ss.one (Cs.any)]), ([.code [1, 1, 1, 1, 1, 1, 1, 1, 1, 1, 1, 1, 1, 1, 1, 1, 1, 1, 0, 1, 0, 1, 1], .code [1, 1, 1, 1, 1, 1, 1, 1, 1, 1, 1, 1, 1, 1, 1, 1, 1, 1, 1]], Shape.mk [Bs.row kuint8 5 false, Bs.box 25 [Cs.sc kint, Cs.sc kint], Bs.row kint 3 true] [(1, Ss.one (Cs.sl 0)), (5, Ss.one (Cs.ptr 1 0)), (6, Ss.one (Cs.sc kint)), (7, Ss.one (Cs.sc kint)), (8, Ss.one (Cs.sc kint)), (13, Ss.one (Cs.sc kint)), (14, Ss.one (Cs.sc kint)), (19, Ss.one (Cs.sc kint)), (20, Ss.one (Cs.sc kint)), (21, Ss.one (Cs.sc kbool)), (25, Ss.one (Cs.sc kint)), (26, Ss.one (Cs.sc kint)), (37, Ss.one (Cs.sl 2)), (38, Ss.one (Cs.sc kbool)), (41, Ss.one (Cs.sc kstring))] [Ss.one (Cs.any), Ss.one (Cs.any)]), ([.code [1, 1, 1, 1, 1, 1, 1, 1, 1, 1, 1, 1, 1, 1, 1, 1, 1, 1, 1, 1]], Shape.mk [Bs.row kuint8 5 false, Bs.box 25 [Cs.sc kint, Cs.sc kint], Bs.row kint 3 true] [(1, Ss.one (Cs.sl 0)), (5, Ss.one (Cs.ptr 1 0)), (37, Ss.one (Cs.sl 2)), (38, Ss.one (Cs.sc kbool)), (41, Ss.one (Cs.sc kstring))] [Ss.one (Cs.any), Ss.one (Cs.any)]), ([.code [1, 1, 1, 1, 1, 1, 1, 1, 1, 1, 1, 1, 1, 1, 1, 1, 1, 1, 1, 1, 1]], Shape.mk [Bs.row kuint8 5 false] [(1, Ss.one (Cs.sl 0))] [Ss.one (Cs.any), Ss.one (Cs.any)]), ([.code [1, 1, 1, 1, 1, 1, 1, 1, 1, 1, 1, 1, 1, 1, 1, 1, 1, 1, 1, 1, 1, 1, 1, 1, 1, 1, 1, 1, 1, 1, 1, 1, 1, 1]], Shape.mk [Bs.box 25 [Cs.sc kint, Cs.sc kint]] [(72, Ss.one (Cs.sc kint)), (73, Ss.one (Cs.sc kint)), (74, Ss.one (Cs.sc kint)), (75, Ss.one (Cs.sc kint)), (76, Ss.one (Cs.sc kbool)), (80, Ss.one (Cs.ptr 0 0)), (81, Ss.one (Cs.sc kint)), (82, Ss.one (Cs.sc kint)), (83, Ss.one (Cs.sc kint)), (84, Ss.one (Cs.sc kbool))] [Ss.one (Cs.any), Ss.one (Cs.any)]), ([.code [1, 1, 1, 1, 1, 1, 1, 1, 1, 1, 1, 1, 1, 1, 1, 1, 1, 1, 1, 1, 1, 1, 1, 1, 1, 1, 1, 1, 1, 1, 1, 1, 1, 1, 1]], Shape.mk [Bs.box 25 [Cs.sc kint, Cs.sc kint]] [(80, Ss.one (Cs.ptr 0 0)), (81, Ss.one (Cs.sc kint)), (82, Ss.one (Cs.sc kint)), (83, Ss.one (Cs.sc kint)), (84, Ss.one (Cs.sc kbool))] [Ss.one (Cs.any), Ss.one (Cs.any)]), ([.code [1, 1, 1, 1, 1, 1, 1, 1, 1, 1, 1, 1, 1, 1, 1, 1, 1, 1, 1, 1, 1, 1, 1, 1, 1, 1, 1, 1, 1, 1, 1, 1, 1, 1, 1, 1]], Shape.mk [] [] [Ss.one (Cs.any), Ss.one (Cs.any)])], fuel := 400, dr := evDr (env 747 [(4, S_w_big), (5, S_s_DrawTimeAgainst), (6, S_i_TimeWith), (7, S_s_TimeWith), (8, S_i_StepsWith), (9, S_s_StepsWith), (10, S_i_TimeAgainst), (11, S_s_TimeAgainst), (12, S_i_StepsAgainst), (13, S_s_StepsAgainst), (14, S_i_RoundTrip), (15, S_s_RoundTrip), (16, S_i_WholeTimes), (17, S_s_WholeTimes), (18, S_i_MovingText), (19, S_s_MovingText), (20, S_w_lSame), (21, S_i_IsMoving), (22, S_s_IsMoving), (23, S_w_lIs), (24, S_w_lHas), (25, S_i_PaceForSteps), (26, S_i_PlaceAt), (27, S_i_VisibleFromBoth), (28, S_i_ParseMoving), (29, S_w_lRises), (30, S_s_DrawVisibleFromTwo), (31, S_i_VisibleFromTwo), (32, S_s_VisibleFromTwo), (33, S_i_SpeedFromTwo), (34, S_s_SpeedFromTwo), (35, S_s_DrawVisibleFromBoth), (36, S_s_VisibleFromBoth), (37, S_s_DrawPaceForSteps), (38, S_s_PaceForSteps), (39, S_w_lLow)] []) }
noncomputable def w_FnMovingTimed_t1 (g1 : List (Int) → Int → Int → List (Int) → Int → Int → Int → Bool → Int → Int → Int → Int → Bool → Int → Int → Int → Int → Bool → ByteArray → Option (Bool)) (g2 : List (Int) → Int → Int → List (Int) → Int → Int → Int → Int → Int → Int → Int → Bool → Int → Int → Bool → ByteArray → Option (Bool)) (g3 : List (Int) → Int → Int → List (Int) → Int → Int → Int → Int → Int → Int → Int → Bool → Int → Int → Bool → ByteArray → Option (Bool)) (g4 : List (Int) → Int → Int → List (Int) → Bool → ByteArray → Option (Bool)) (g5 : List (Int) → Option (Bool)) (g6 : Int → Int → Int → Int → Int → Int → Bool → Int → Int → Int → Bool → Option (Bool)) (g7 : Int → Int → Int → Int → Int → Bool → Option (Bool)) (g8 : Option (Bool)) (r0 : List (Int)) (b1_0 : Int) (b1_1 : Int) (r2 : List (Int)) (pace6 : Int) (time7 : Int) (den8 : Int) (ok9 : Bool) (taken13 : Int) (part14 : Int) (back19 : Int) (low20 : Int) (three21 : Bool) (steps25 : Int) (under26 : Int) (round31 : Int) (c32 : Int) (nine38 : Bool) (text41 : ByteArray) : Option Bool :=
  bif ok9 then
    Option.bind (w_lIs time7 den8 b1_0 (IntKind.wrap IntKind.i64 (b1_1 + pace6))) fun r =>
      bif !r then some false
      else
        Option.bind (w_lIs taken13 part14 (IntKind.wrap IntKind.i64 (pace6 * time7)) den8) fun r =>
          bif !r then some false
          else
            Option.bind (w_lIs round31 c32 (IntKind.wrap IntKind.i64 (2 * time7)) den8) fun r =>
              bif !r then some false
              else
                Option.bind (w_lHas r2 pace6) fun r =>
                  bif !r == (den8 == 1) then some false
                  else
                    bif part14 == 1 then
                      bif decide (taken13 < b1_0) then
                        bif decide (b1_1 > 0) then
                          Option.bind (i_PaceForSteps b1_0 b1_1 taken13) fun r =>
                            bif !Prod.snd (Prod.snd r) then some false
                            else
                              Option.bind (w_lIs (Prod.fst r) (Prod.fst (Prod.snd r)) pace6 1) fun r =>
                                bif !r then some false else g3 r0 b1_0 b1_1 r2 pace6 time7 den8 taken13 part14 back19 low20 three21 steps25 under26 nine38 text41
                        else g3 r0 b1_0 b1_1 r2 pace6 time7 den8 taken13 part14 back19 low20 three21 steps25 under26 nine38 text41
                      else g3 r0 b1_0 b1_1 r2 pace6 time7 den8 taken13 part14 back19 low20 three21 steps25 under26 nine38 text41
                    else g3 r0 b1_0 b1_1 r2 pace6 time7 den8 taken13 part14 back19 low20 three21 steps25 under26 nine38 text41
  else g2 r0 b1_0 b1_1 r2 pace6 time7 den8 taken13 part14 back19 low20 three21 steps25 under26 nine38 text41
noncomputable def w_FnMovingTimed_t2 (g1 : List (Int) → Int → Int → List (Int) → Int → Int → Int → Bool → Int → Int → Int → Int → Bool → Int → Int → Int → Int → Bool → ByteArray → Option (Bool)) (g2 : List (Int) → Int → Int → List (Int) → Int → Int → Int → Int → Int → Int → Int → Bool → Int → Int → Bool → ByteArray → Option (Bool)) (g3 : List (Int) → Int → Int → List (Int) → Int → Int → Int → Int → Int → Int → Int → Bool → Int → Int → Bool → ByteArray → Option (Bool)) (g4 : List (Int) → Int → Int → List (Int) → Bool → ByteArray → Option (Bool)) (g5 : List (Int) → Option (Bool)) (g6 : Int → Int → Int → Int → Int → Int → Bool → Int → Int → Int → Bool → Option (Bool)) (g7 : Int → Int → Int → Int → Int → Bool → Option (Bool)) (g8 : Option (Bool)) (r0 : List (Int)) (b1_0 : Int) (b1_1 : Int) (r2 : List (Int)) (pace6 : Int) (time7 : Int) (den8 : Int) (taken13 : Int) (part14 : Int) (back19 : Int) (low20 : Int) (three21 : Bool) (steps25 : Int) (under26 : Int) (nine38 : Bool) (text41 : ByteArray) : Option Bool :=
  bif three21 then
    Option.bind (w_lIs back19 low20 b1_0 (IntKind.wrap IntKind.i64 (pace6 - b1_1))) fun r =>
      bif !r then some false
      else
        Option.bind (w_lIs steps25 under26 (IntKind.wrap IntKind.i64 (pace6 * back19)) low20) fun r =>
          bif !r then some false
          else
            bif decide (IntKind.wrap IntKind.i64 (back19 * den8) < IntKind.wrap IntKind.i64 (time7 * low20)) then some false
            else
              bif part14 == 1 then
                bif under26 == 1 then
                  bif decide (taken13 ≥ 1) then
                    bif decide (steps25 ≤ 10000) then
                      Option.bind (i_VisibleFromBoth pace6 taken13 steps25) fun r =>
                        bif !Prod.snd (Prod.snd r) then some false
                        else Option.bind (w_lIs (Prod.fst r) (Prod.fst (Prod.snd r)) b1_0 1) fun r => bif !r then some false else g4 r0 b1_0 b1_1 r2 nine38 text41
                    else g4 r0 b1_0 b1_1 r2 nine38 text41
                  else g4 r0 b1_0 b1_1 r2 nine38 text41
                else g4 r0 b1_0 b1_1 r2 nine38 text41
              else g4 r0 b1_0 b1_1 r2 nine38 text41
  else g4 r0 b1_0 b1_1 r2 nine38 text41
noncomputable def w_FnMovingTimed_t3 (g1 : List (Int) → Int → Int → List (Int) → Int → Int → Int → Bool → Int → Int → Int → Int → Bool → Int → Int → Int → Int → Bool → ByteArray → Option (Bool)) (g2 : List (Int) → Int → Int → List (Int) → Int → Int → Int → Int → Int → Int → Int → Bool → Int → Int → Bool → ByteArray → Option (Bool)) (g3 : List (Int) → Int → Int → List (Int) → Int → Int → Int → Int → Int → Int → Int → Bool → Int → Int → Bool → ByteArray → Option (Bool)) (g4 : List (Int) → Int → Int → List (Int) → Bool → ByteArray → Option (Bool)) (g5 : List (Int) → Option (Bool)) (g6 : Int → Int → Int → Int → Int → Int → Bool → Int → Int → Int → Bool → Option (Bool)) (g7 : Int → Int → Int → Int → Int → Bool → Option (Bool)) (g8 : Option (Bool)) (r0 : List (Int)) (b1_0 : Int) (b1_1 : Int) (r2 : List (Int)) (pace6 : Int) (time7 : Int) (den8 : Int) (taken13 : Int) (part14 : Int) (back19 : Int) (low20 : Int) (three21 : Bool) (steps25 : Int) (under26 : Int) (nine38 : Bool) (text41 : ByteArray) : Option Bool :=
  bif den8 == 0 then none
  else
    bif den8 == 0 then none
    else
      bif decide (IntKind.wrap IntKind.i64 (Int.tdiv (IntKind.wrap IntKind.i64 (IntKind.wrap IntKind.i64 (time7 + den8) - 1)) den8) ≤ 1000) then
        bif
            !Prod.snd
                (i_PlaceAt b1_0 b1_1 pace6
                  (IntKind.wrap IntKind.i64 (Int.tdiv (IntKind.wrap IntKind.i64 (IntKind.wrap IntKind.i64 (time7 + den8) - 1)) den8))) then
          some false
        else
          bif
              Prod.fst
                  (i_PlaceAt b1_0 b1_1 pace6
                    (IntKind.wrap IntKind.i64 (Int.tdiv (IntKind.wrap IntKind.i64 (IntKind.wrap IntKind.i64 (time7 + den8) - 1)) den8))) !=
                b1_0 then
            some false
          else g2 r0 b1_0 b1_1 r2 pace6 time7 den8 taken13 part14 back19 low20 three21 steps25 under26 nine38 text41
      else g2 r0 b1_0 b1_1 r2 pace6 time7 den8 taken13 part14 back19 low20 three21 steps25 under26 nine38 text41
noncomputable def w_FnMovingTimed_t4 (g1 : List (Int) → Int → Int → List (Int) → Int → Int → Int → Bool → Int → Int → Int → Int → Bool → Int → Int → Int → Int → Bool → ByteArray → Option (Bool)) (g2 : List (Int) → Int → Int → List (Int) → Int → Int → Int → Int → Int → Int → Int → Bool → Int → Int → Bool → ByteArray → Option (Bool)) (g3 : List (Int) → Int → Int → List (Int) → Int → Int → Int → Int → Int → Int → Int → Bool → Int → Int → Bool → ByteArray → Option (Bool)) (g4 : List (Int) → Int → Int → List (Int) → Bool → ByteArray → Option (Bool)) (g5 : List (Int) → Option (Bool)) (g6 : Int → Int → Int → Int → Int → Int → Bool → Int → Int → Int → Bool → Option (Bool)) (g7 : Int → Int → Int → Int → Int → Bool → Option (Bool)) (g8 : Option (Bool)) (r0 : List (Int)) (b1_0 : Int) (b1_1 : Int) (r2 : List (Int)) (nine38 : Bool) (text41 : ByteArray) : Option Bool :=
  bif nine38 then
    Option.bind (i_ParseMoving text41) fun r =>
      Option.bind (w_lRises r2) fun r_1 =>
        bif !r_1 then some false
        else bif !Prod.snd r then some false else bif !(Prod.fst (Prod.fst r) == b1_0 && Prod.snd (Prod.fst r) == b1_1) then some false else g5 r0
  else g5 r0
noncomputable def w_FnMovingTimed_t5 (g1 : List (Int) → Int → Int → List (Int) → Int → Int → Int → Bool → Int → Int → Int → Int → Bool → Int → Int → Int → Int → Bool → ByteArray → Option (Bool)) (g2 : List (Int) → Int → Int → List (Int) → Int → Int → Int → Int → Int → Int → Int → Bool → Int → Int → Bool → ByteArray → Option (Bool)) (g3 : List (Int) → Int → Int → List (Int) → Int → Int → Int → Int → Int → Int → Int → Bool → Int → Int → Bool → ByteArray → Option (Bool)) (g4 : List (Int) → Int → Int → List (Int) → Bool → ByteArray → Option (Bool)) (g5 : List (Int) → Option (Bool)) (g6 : Int → Int → Int → Int → Int → Int → Bool → Int → Int → Int → Bool → Option (Bool)) (g7 : Int → Int → Int → Int → Int → Bool → Option (Bool)) (g8 : Option (Bool)) (r0 : List (Int)) : Option Bool :=
  Option.bind (s_DrawVisibleFromTwo r0) fun r =>
    Option.bind (i_VisibleFromTwo (Prod.fst r) (Prod.fst (Prod.snd r)) (Prod.fst (Prod.snd (Prod.snd r))) (Prod.snd (Prod.snd (Prod.snd r)))) fun r_1 =>
      Option.bind (s_VisibleFromTwo (Prod.fst r) (Prod.fst (Prod.snd r)) (Prod.fst (Prod.snd (Prod.snd r))) (Prod.snd (Prod.snd (Prod.snd r)))) fun r_2 =>
        Option.bind (i_SpeedFromTwo (Prod.fst r) (Prod.fst (Prod.snd r)) (Prod.fst (Prod.snd (Prod.snd r))) (Prod.snd (Prod.snd (Prod.snd r)))) fun r_3 =>
          Option.bind (s_SpeedFromTwo (Prod.fst r) (Prod.fst (Prod.snd r)) (Prod.fst (Prod.snd (Prod.snd r))) (Prod.snd (Prod.snd (Prod.snd r)))) fun r_4 =>
            Option.bind (s_DrawVisibleFromBoth r0) fun r_5 =>
              Option.bind (i_VisibleFromBoth (Prod.fst r_5) (Prod.fst (Prod.snd r_5)) (Prod.snd (Prod.snd r_5))) fun r_6 =>
                Option.bind (s_VisibleFromBoth (Prod.fst r_5) (Prod.fst (Prod.snd r_5)) (Prod.snd (Prod.snd r_5))) fun r_7 =>
                  Option.bind (s_DrawPaceForSteps r0) fun r_8 =>
                    Option.bind (i_PaceForSteps (Prod.fst (Prod.fst r_8)) (Prod.snd (Prod.fst r_8)) (Prod.snd r_8)) fun r_9 =>
                      Option.bind (s_PaceForSteps (Prod.fst (Prod.fst r_8)) (Prod.snd (Prod.fst r_8)) (Prod.snd r_8)) fun r_10 =>
                        bif !Prod.snd (Prod.snd r_1) == Prod.snd (Prod.snd r_2) then some false
                        else
                          bif Prod.fst r_1 != Prod.fst r_2 then some false
                          else
                            bif Prod.fst (Prod.snd r_1) != Prod.fst (Prod.snd r_2) then some false
                            else
                              bif !Prod.snd (Prod.snd r_3) == Prod.snd (Prod.snd r_4) then some false
                              else
                                bif Prod.fst r_3 != Prod.fst r_4 then some false
                                else
                                  bif Prod.fst (Prod.snd r_3) != Prod.fst (Prod.snd r_4) then some false
                                  else
                                    bif !Prod.snd (Prod.snd r_3) == Prod.snd (Prod.snd r_1) then some false
                                    else
                                      bif !Prod.snd (Prod.snd r_6) == Prod.snd (Prod.snd r_7) then some false
                                      else
                                        bif Prod.fst r_6 != Prod.fst r_7 then some false
                                        else
                                          bif Prod.fst (Prod.snd r_6) != Prod.fst (Prod.snd r_7) then some false
                                          else
                                            bif !Prod.snd (Prod.snd r_9) == Prod.snd (Prod.snd r_10) then some false
                                            else
                                              bif Prod.fst r_9 != Prod.fst r_10 then some false
                                              else
                                                bif Prod.fst (Prod.snd r_9) != Prod.fst (Prod.snd r_10) then some false
                                                else
                                                  bif Prod.snd (Prod.snd r_1) then
                                                    Option.bind (w_lLow (Prod.fst r_1) (Prod.fst (Prod.snd r_1))) fun r_11 =>
                                                      bif !r_11 then some false
                                                      else
                                                        Option.bind (w_lLow (Prod.fst r_3) (Prod.fst (Prod.snd r_3))) fun r_12 =>
                                                          bif !r_12 then some false
                                                          else
                                                            bif
                                                                IntKind.wrap IntKind.i64
                                                                    (IntKind.wrap IntKind.i64 (Prod.fst r_1 * Prod.fst r) * Prod.fst (Prod.snd r_3)) !=
                                                                  IntKind.wrap IntKind.i64
                                                                    (IntKind.wrap IntKind.i64
                                                                        (Prod.fst (Prod.snd r) *
                                                                          IntKind.wrap IntKind.i64
                                                                            (IntKind.wrap IntKind.i64 (Prod.fst r * Prod.fst (Prod.snd r_3)) + Prod.fst r_3)) *
                                                                      Prod.fst (Prod.snd r_1)) then
                                                              some false
                                                            else
                                                              bif
                                                                  IntKind.wrap IntKind.i64
                                                                      (IntKind.wrap IntKind.i64 (Prod.fst r_1 * Prod.fst (Prod.snd (Prod.snd r))) *
                                                                        Prod.fst (Prod.snd r_3)) !=
                                                                    IntKind.wrap IntKind.i64
                                                                      (IntKind.wrap IntKind.i64
                                                                          (Prod.snd (Prod.snd (Prod.snd r)) *
                                                                            IntKind.wrap IntKind.i64
                                                                              (IntKind.wrap IntKind.i64
                                                                                  (Prod.fst (Prod.snd (Prod.snd r)) * Prod.fst (Prod.snd r_3)) +
                                                                                Prod.fst r_3)) *
                                                                        Prod.fst (Prod.snd r_1)) then
                                                                some false
                                                              else
                                                                g6 (Prod.fst (Prod.fst r_8)) (Prod.snd (Prod.fst r_8)) (Prod.fst (Prod.snd r_5))
                                                                  (Prod.snd (Prod.snd r_5)) (Prod.fst r_6) (Prod.fst (Prod.snd r_6)) (Prod.snd (Prod.snd r_6))
                                                                  (Prod.snd r_8) (Prod.fst r_9) (Prod.fst (Prod.snd r_9)) (Prod.snd (Prod.snd r_9))
                                                  else
                                                    g6 (Prod.fst (Prod.fst r_8)) (Prod.snd (Prod.fst r_8)) (Prod.fst (Prod.snd r_5)) (Prod.snd (Prod.snd r_5))
                                                      (Prod.fst r_6) (Prod.fst (Prod.snd r_6)) (Prod.snd (Prod.snd r_6)) (Prod.snd r_8) (Prod.fst r_9)
                                                      (Prod.fst (Prod.snd r_9)) (Prod.snd (Prod.snd r_9))
noncomputable def w_FnMovingTimed_t6 (g1 : List (Int) → Int → Int → List (Int) → Int → Int → Int → Bool → Int → Int → Int → Int → Bool → Int → Int → Int → Int → Bool → ByteArray → Option (Bool)) (g2 : List (Int) → Int → Int → List (Int) → Int → Int → Int → Int → Int → Int → Int → Bool → Int → Int → Bool → ByteArray → Option (Bool)) (g3 : List (Int) → Int → Int → List (Int) → Int → Int → Int → Int → Int → Int → Int → Bool → Int → Int → Bool → ByteArray → Option (Bool)) (g4 : List (Int) → Int → Int → List (Int) → Bool → ByteArray → Option (Bool)) (g5 : List (Int) → Option (Bool)) (g6 : Int → Int → Int → Int → Int → Int → Bool → Int → Int → Int → Bool → Option (Bool)) (g7 : Int → Int → Int → Int → Int → Bool → Option (Bool)) (g8 : Option (Bool)) (b0_0 : Int) (b0_1 : Int) (with72 : Int) (against73 : Int) (both74 : Int) (h75 : Int) (seventeen76 : Bool) (many81 : Int) (walk82 : Int) (j83 : Int) (nineteen84 : Bool) : Option Bool :=
  bif seventeen76 then
    Option.bind (w_lIs both74 h75 (IntKind.wrap IntKind.i64 (IntKind.wrap IntKind.i64 (2 * with72) * against73)) (IntKind.wrap IntKind.i64 (with72 + against73)))
      fun r =>
      bif !r then some false
      else
        bif decide (both74 < IntKind.wrap IntKind.i64 (with72 * h75)) then some false
        else bif decide (both74 > IntKind.wrap IntKind.i64 (against73 * h75)) then some false else g7 b0_0 b0_1 many81 walk82 j83 nineteen84
  else g7 b0_0 b0_1 many81 walk82 j83 nineteen84
noncomputable def w_FnMovingTimed_t7 (g1 : List (Int) → Int → Int → List (Int) → Int → Int → Int → Bool → Int → Int → Int → Int → Bool → Int → Int → Int → Int → Bool → ByteArray → Option (Bool)) (g2 : List (Int) → Int → Int → List (Int) → Int → Int → Int → Int → Int → Int → Int → Bool → Int → Int → Bool → ByteArray → Option (Bool)) (g3 : List (Int) → Int → Int → List (Int) → Int → Int → Int → Int → Int → Int → Int → Bool → Int → Int → Bool → ByteArray → Option (Bool)) (g4 : List (Int) → Int → Int → List (Int) → Bool → ByteArray → Option (Bool)) (g5 : List (Int) → Option (Bool)) (g6 : Int → Int → Int → Int → Int → Int → Bool → Int → Int → Int → Bool → Option (Bool)) (g7 : Int → Int → Int → Int → Int → Bool → Option (Bool)) (g8 : Option (Bool)) (b0_0 : Int) (b0_1 : Int) (many81 : Int) (walk82 : Int) (j83 : Int) (nineteen84 : Bool) : Option Bool :=
  bif nineteen84 then
    Option.bind (w_lLow walk82 j83) fun r =>
      bif !r then some false
      else
        bif
            IntKind.wrap IntKind.i64 (walk82 * b0_0) !=
              IntKind.wrap IntKind.i64 (many81 * IntKind.wrap IntKind.i64 (IntKind.wrap IntKind.i64 (b0_1 * j83) + walk82)) then
          some false
        else g8
  else g8
noncomputable def w_FnMovingTimed_t8 (g1 : List (Int) → Int → Int → List (Int) → Int → Int → Int → Bool → Int → Int → Int → Int → Bool → Int → Int → Int → Int → Bool → ByteArray → Option (Bool)) (g2 : List (Int) → Int → Int → List (Int) → Int → Int → Int → Int → Int → Int → Int → Bool → Int → Int → Bool → ByteArray → Option (Bool)) (g3 : List (Int) → Int → Int → List (Int) → Int → Int → Int → Int → Int → Int → Int → Bool → Int → Int → Bool → ByteArray → Option (Bool)) (g4 : List (Int) → Int → Int → List (Int) → Bool → ByteArray → Option (Bool)) (g5 : List (Int) → Option (Bool)) (g6 : Int → Int → Int → Int → Int → Int → Bool → Int → Int → Int → Bool → Option (Bool)) (g7 : Int → Int → Int → Int → Int → Bool → Option (Bool)) (g8 : Option (Bool))  : Option Bool :=
  some true
noncomputable def w_FnMovingTimed_t0 (g1 : List (Int) → Int → Int → List (Int) → Int → Int → Int → Bool → Int → Int → Int → Int → Bool → Int → Int → Int → Int → Bool → ByteArray → Option (Bool)) (g2 : List (Int) → Int → Int → List (Int) → Int → Int → Int → Int → Int → Int → Int → Bool → Int → Int → Bool → ByteArray → Option (Bool)) (g3 : List (Int) → Int → Int → List (Int) → Int → Int → Int → Int → Int → Int → Int → Bool → Int → Int → Bool → ByteArray → Option (Bool)) (g4 : List (Int) → Int → Int → List (Int) → Bool → ByteArray → Option (Bool)) (g5 : List (Int) → Option (Bool)) (g6 : Int → Int → Int → Int → Int → Int → Bool → Int → Int → Int → Bool → Option (Bool)) (g7 : Int → Int → Int → Int → Int → Bool → Option (Bool)) (g8 : Option (Bool)) (code0 : List Int) (more1 : List Int) : Option Bool :=
  bif w_big code0 more1 then some true
  else
    Option.bind (s_DrawTimeAgainst code0) fun r =>
      Option.bind (i_TimeWith (Prod.fst (Prod.fst r)) (Prod.snd (Prod.fst r)) (Prod.snd r)) fun r_1 =>
        Option.bind (s_TimeWith (Prod.fst (Prod.fst r)) (Prod.snd (Prod.fst r)) (Prod.snd r)) fun r_2 =>
          Option.bind (i_StepsWith (Prod.fst (Prod.fst r)) (Prod.snd (Prod.fst r)) (Prod.snd r)) fun r_3 =>
            Option.bind (s_StepsWith (Prod.fst (Prod.fst r)) (Prod.snd (Prod.fst r)) (Prod.snd r)) fun r_4 =>
              Option.bind (i_TimeAgainst (Prod.fst (Prod.fst r)) (Prod.snd (Prod.fst r)) (Prod.snd r)) fun r_5 =>
                Option.bind (s_TimeAgainst (Prod.fst (Prod.fst r)) (Prod.snd (Prod.fst r)) (Prod.snd r)) fun r_6 =>
                  Option.bind (i_StepsAgainst (Prod.fst (Prod.fst r)) (Prod.snd (Prod.fst r)) (Prod.snd r)) fun r_7 =>
                    Option.bind (s_StepsAgainst (Prod.fst (Prod.fst r)) (Prod.snd (Prod.fst r)) (Prod.snd r)) fun r_8 =>
                      Option.bind (i_RoundTrip (Prod.fst (Prod.fst r)) (Prod.snd (Prod.fst r)) (Prod.snd r)) fun r_9 =>
                        Option.bind (s_RoundTrip (Prod.fst (Prod.fst r)) (Prod.snd (Prod.fst r)) (Prod.snd r)) fun r_10 =>
                          Option.bind (i_WholeTimes (Prod.fst (Prod.fst r)) (Prod.snd (Prod.fst r))) fun r_11 =>
                            Option.bind (s_WholeTimes (Prod.fst (Prod.fst r)) (Prod.snd (Prod.fst r))) fun r_12 =>
                              Option.bind (i_MovingText (Prod.fst (Prod.fst r)) (Prod.snd (Prod.fst r))) fun r_13 =>
                                Option.bind (s_MovingText (Prod.fst (Prod.fst r)) (Prod.snd (Prod.fst r))) fun r_14 =>
                                  bif !Prod.snd (Prod.snd r_1) == Prod.snd (Prod.snd r_2) then some false
                                  else
                                    bif Prod.fst r_1 != Prod.fst r_2 then some false
                                    else
                                      bif Prod.fst (Prod.snd r_1) != Prod.fst (Prod.snd r_2) then some false
                                      else
                                        bif !Prod.snd (Prod.snd r_3) == Prod.snd (Prod.snd r_4) then some false
                                        else
                                          bif Prod.fst r_3 != Prod.fst r_4 then some false
                                          else
                                            bif Prod.fst (Prod.snd r_3) != Prod.fst (Prod.snd r_4) then some false
                                            else
                                              bif !Prod.snd (Prod.snd r_5) == Prod.snd (Prod.snd r_6) then some false
                                              else
                                                bif Prod.fst r_5 != Prod.fst r_6 then some false
                                                else
                                                  bif Prod.fst (Prod.snd r_5) != Prod.fst (Prod.snd r_6) then some false
                                                  else
                                                    bif !Prod.snd (Prod.snd r_7) == Prod.snd (Prod.snd r_8) then some false
                                                    else
                                                      bif Prod.fst r_7 != Prod.fst r_8 then some false
                                                      else
                                                        bif Prod.fst (Prod.snd r_7) != Prod.fst (Prod.snd r_8) then some false
                                                        else
                                                          bif !Prod.snd (Prod.snd r_9) == Prod.snd (Prod.snd r_10) then some false
                                                          else
                                                            bif Prod.fst r_9 != Prod.fst r_10 then some false
                                                            else
                                                              bif Prod.fst (Prod.snd r_9) != Prod.fst (Prod.snd r_10) then some false
                                                              else
                                                                bif !Prod.snd r_11 == Prod.snd r_12 then some false
                                                                else
                                                                  Option.bind (w_lSame (Prod.fst r_11) (Prod.fst r_12)) fun r_15 =>
                                                                    bif !r_15 then some false
                                                                    else
                                                                      bif !Prod.snd r_13 == Prod.snd r_14 then some false
                                                                      else
                                                                        bif !ByteArray.toList (Prod.fst r_13) == ByteArray.toList (Prod.fst r_14) then some false
                                                                        else
                                                                          bif !Prod.snd (Prod.snd r_3) == Prod.snd (Prod.snd r_1) then some false
                                                                          else
                                                                            bif !Prod.snd (Prod.snd r_7) == Prod.snd (Prod.snd r_5) then some false
                                                                            else
                                                                              bif !Prod.snd (Prod.snd r_9) == Prod.snd (Prod.snd r_1) then some false
                                                                              else
                                                                                bif Prod.snd (Prod.snd r_5) then
                                                                                  bif !Prod.snd (Prod.snd r_1) then some false
                                                                                  else
                                                                                    bif
                                                                                        !Prod.snd r_11 ==
                                                                                            i_IsMoving (Prod.fst (Prod.fst r)) (Prod.snd (Prod.fst r)) then
                                                                                      some false
                                                                                    else
                                                                                      bif
                                                                                          !i_IsMoving (Prod.fst (Prod.fst r)) (Prod.snd (Prod.fst r)) ==
                                                                                              s_IsMoving (Prod.fst (Prod.fst r)) (Prod.snd (Prod.fst r)) then
                                                                                        some false
                                                                                      else
                                                                                        bif !Prod.snd r_13 == Prod.snd r_11 then some false
                                                                                        else
                                                                                          bif Prod.snd (Prod.snd r_1) then
                                                                                            bif !Prod.snd r_11 then some false
                                                                                            else
                                                                                              g1 more1 (Prod.fst (Prod.fst r)) (Prod.snd (Prod.fst r))
                                                                                                (Prod.fst r_11) (Prod.snd r) (Prod.fst r_1)
                                                                                                (Prod.fst (Prod.snd r_1)) (Prod.snd (Prod.snd r_1)) (Prod.fst r_3)
                                                                                                (Prod.fst (Prod.snd r_3)) (Prod.fst r_5) (Prod.fst (Prod.snd r_5))
                                                                                                (Prod.snd (Prod.snd r_5)) (Prod.fst r_7) (Prod.fst (Prod.snd r_7))
                                                                                                (Prod.fst r_9) (Prod.fst (Prod.snd r_9)) (Prod.snd r_11)
                                                                                                (Prod.fst r_13)
                                                                                          else
                                                                                            g1 more1 (Prod.fst (Prod.fst r)) (Prod.snd (Prod.fst r))
                                                                                              (Prod.fst r_11) (Prod.snd r) (Prod.fst r_1)
                                                                                              (Prod.fst (Prod.snd r_1)) (Prod.snd (Prod.snd r_1)) (Prod.fst r_3)
                                                                                              (Prod.fst (Prod.snd r_3)) (Prod.fst r_5) (Prod.fst (Prod.snd r_5))
                                                                                              (Prod.snd (Prod.snd r_5)) (Prod.fst r_7) (Prod.fst (Prod.snd r_7))
                                                                                              (Prod.fst r_9) (Prod.fst (Prod.snd r_9)) (Prod.snd r_11)
                                                                                              (Prod.fst r_13)
                                                                                else
                                                                                  bif
                                                                                      !Prod.snd r_11 ==
                                                                                          i_IsMoving (Prod.fst (Prod.fst r)) (Prod.snd (Prod.fst r)) then
                                                                                    some false
                                                                                  else
                                                                                    bif
                                                                                        !i_IsMoving (Prod.fst (Prod.fst r)) (Prod.snd (Prod.fst r)) ==
                                                                                            s_IsMoving (Prod.fst (Prod.fst r)) (Prod.snd (Prod.fst r)) then
                                                                                      some false
                                                                                    else
                                                                                      bif !Prod.snd r_13 == Prod.snd r_11 then some false
                                                                                      else
                                                                                        bif Prod.snd (Prod.snd r_1) then
                                                                                          bif !Prod.snd r_11 then some false
                                                                                          else
                                                                                            g1 more1 (Prod.fst (Prod.fst r)) (Prod.snd (Prod.fst r))
                                                                                              (Prod.fst r_11) (Prod.snd r) (Prod.fst r_1)
                                                                                              (Prod.fst (Prod.snd r_1)) (Prod.snd (Prod.snd r_1)) (Prod.fst r_3)
                                                                                              (Prod.fst (Prod.snd r_3)) (Prod.fst r_5) (Prod.fst (Prod.snd r_5))
                                                                                              (Prod.snd (Prod.snd r_5)) (Prod.fst r_7) (Prod.fst (Prod.snd r_7))
                                                                                              (Prod.fst r_9) (Prod.fst (Prod.snd r_9)) (Prod.snd r_11)
                                                                                              (Prod.fst r_13)
                                                                                        else
                                                                                          g1 more1 (Prod.fst (Prod.fst r)) (Prod.snd (Prod.fst r)) (Prod.fst r_11)
                                                                                            (Prod.snd r) (Prod.fst r_1) (Prod.fst (Prod.snd r_1))
                                                                                            (Prod.snd (Prod.snd r_1)) (Prod.fst r_3) (Prod.fst (Prod.snd r_3))
                                                                                            (Prod.fst r_5) (Prod.fst (Prod.snd r_5)) (Prod.snd (Prod.snd r_5))
                                                                                            (Prod.fst r_7) (Prod.fst (Prod.snd r_7)) (Prod.fst r_9)
                                                                                            (Prod.fst (Prod.snd r_9)) (Prod.snd r_11) (Prod.fst r_13)
theorem w_FnMovingTimed_ts : Tails c_w_FnMovingTimed.pts c_w_FnMovingTimed.round :=
  ⟨fun s => by
    obtain ⟨⟨r0, ⟨b1_0, b1_1, _⟩, r2, _⟩, ⟨_, _, pace6, time7, den8, ok9, taken13, part14, back19, low20, three21, steps25, under26, round31, c32, _, nine38, text41, _⟩, ⟨_, _, _⟩⟩ := s
    refine Tail.eq (Y := fun g => w_FnMovingTimed_t1 (fun r0 b1_0 b1_1 r2 pace6 time7 den8 ok9 taken13 part14 back19 low20 three21 steps25 under26 round31 c32 nine38 text41 => g.1 ((r0, (b1_0, b1_1, ()), r2, ()), ((), (), pace6, time7, den8, ok9, taken13, part14, back19, low20, three21, steps25, under26, round31, c32, (), nine38, text41, ()), ((), (), ()))) (fun r0 b1_0 b1_1 r2 pace6 time7 den8 taken13 part14 back19 low20 three21 steps25 under26 nine38 text41 => g.2.1 ((r0, (b1_0, b1_1, ()), r2, ()), ((), (), pace6, time7, den8, taken13, part14, back19, low20, three21, steps25, under26, (), nine38, text41, ()), ((), (), ()))) (fun r0 b1_0 b1_1 r2 pace6 time7 den8 taken13 part14 back19 low20 three21 steps25 under26 nine38 text41 => g.2.2.1 ((r0, (b1_0, b1_1, ()), r2, ()), ((), (), pace6, time7, den8, taken13, part14, back19, low20, three21, steps25, under26, (), nine38, text41, ()), ((), (), ()))) (fun r0 b1_0 b1_1 r2 nine38 text41 => g.2.2.2.1 ((r0, (b1_0, b1_1, ()), r2, ()), ((), (), (), nine38, text41, ()), ((), (), ()))) (fun r0 => g.2.2.2.2.1 ((r0, ()), ((), ()), ((), (), ()))) (fun b0_0 b0_1 with72 against73 both74 h75 seventeen76 many81 walk82 j83 nineteen84 => g.2.2.2.2.2.1 (((b0_0, b0_1, ()), ()), (with72, against73, both74, h75, seventeen76, (), many81, walk82, j83, nineteen84, ()), ((), (), ()))) (fun b0_0 b0_1 many81 walk82 j83 nineteen84 => g.2.2.2.2.2.2.1 (((b0_0, b0_1, ()), ()), ((), many81, walk82, j83, nineteen84, ()), ((), (), ()))) (g.2.2.2.2.2.2.2.1 ((), (), ((), (), ()))) r0 b1_0 b1_1 r2 pace6 time7 den8 ok9 taken13 part14 back19 low20 three21 steps25 under26 round31 c32 nine38 text41) ?_ (fun g => by kernel_rfl)
    simp only [w_FnMovingTimed_t1]; repeat (first | apply Tail.cond | (apply Tail.bind; intro _) | exact Tail.here _ | exact Tail.there (Tail.here _) | exact Tail.there (Tail.there (Tail.here _)) | exact Tail.there (Tail.there (Tail.there (Tail.here _))) | exact Tail.there (Tail.there (Tail.there (Tail.there (Tail.here _)))) | exact Tail.there (Tail.there (Tail.there (Tail.there (Tail.there (Tail.here _))))) | exact Tail.there (Tail.there (Tail.there (Tail.there (Tail.there (Tail.there (Tail.here _)))))) | exact Tail.there (Tail.there (Tail.there (Tail.there (Tail.there (Tail.there (Tail.there (Tail.here _))))))) | exact Tail.const _),
  fun s => by
    obtain ⟨⟨r0, ⟨b1_0, b1_1, _⟩, r2, _⟩, ⟨_, _, pace6, time7, den8, taken13, part14, back19, low20, three21, steps25, under26, _, nine38, text41, _⟩, ⟨_, _, _⟩⟩ := s
    refine Tail.eq (Y := fun g => w_FnMovingTimed_t2 (fun r0 b1_0 b1_1 r2 pace6 time7 den8 ok9 taken13 part14 back19 low20 three21 steps25 under26 round31 c32 nine38 text41 => g.1 ((r0, (b1_0, b1_1, ()), r2, ()), ((), (), pace6, time7, den8, ok9, taken13, part14, back19, low20, three21, steps25, under26, round31, c32, (), nine38, text41, ()), ((), (), ()))) (fun r0 b1_0 b1_1 r2 pace6 time7 den8 taken13 part14 back19 low20 three21 steps25 under26 nine38 text41 => g.2.1 ((r0, (b1_0, b1_1, ()), r2, ()), ((), (), pace6, time7, den8, taken13, part14, back19, low20, three21, steps25, under26, (), nine38, text41, ()), ((), (), ()))) (fun r0 b1_0 b1_1 r2 pace6 time7 den8 taken13 part14 back19 low20 three21 steps25 under26 nine38 text41 => g.2.2.1 ((r0, (b1_0, b1_1, ()), r2, ()), ((), (), pace6, time7, den8, taken13, part14, back19, low20, three21, steps25, under26, (), nine38, text41, ()), ((), (), ()))) (fun r0 b1_0 b1_1 r2 nine38 text41 => g.2.2.2.1 ((r0, (b1_0, b1_1, ()), r2, ()), ((), (), (), nine38, text41, ()), ((), (), ()))) (fun r0 => g.2.2.2.2.1 ((r0, ()), ((), ()), ((), (), ()))) (fun b0_0 b0_1 with72 against73 both74 h75 seventeen76 many81 walk82 j83 nineteen84 => g.2.2.2.2.2.1 (((b0_0, b0_1, ()), ()), (with72, against73, both74, h75, seventeen76, (), many81, walk82, j83, nineteen84, ()), ((), (), ()))) (fun b0_0 b0_1 many81 walk82 j83 nineteen84 => g.2.2.2.2.2.2.1 (((b0_0, b0_1, ()), ()), ((), many81, walk82, j83, nineteen84, ()), ((), (), ()))) (g.2.2.2.2.2.2.2.1 ((), (), ((), (), ()))) r0 b1_0 b1_1 r2 pace6 time7 den8 taken13 part14 back19 low20 three21 steps25 under26 nine38 text41) ?_ (fun g => by kernel_rfl)
    simp only [w_FnMovingTimed_t2]; repeat (first | apply Tail.cond | (apply Tail.bind; intro _) | exact Tail.here _ | exact Tail.there (Tail.here _) | exact Tail.there (Tail.there (Tail.here _)) | exact Tail.there (Tail.there (Tail.there (Tail.here _))) | exact Tail.there (Tail.there (Tail.there (Tail.there (Tail.here _)))) | exact Tail.there (Tail.there (Tail.there (Tail.there (Tail.there (Tail.here _))))) | exact Tail.there (Tail.there (Tail.there (Tail.there (Tail.there (Tail.there (Tail.here _)))))) | exact Tail.there (Tail.there (Tail.there (Tail.there (Tail.there (Tail.there (Tail.there (Tail.here _))))))) | exact Tail.const _),
  fun s => by
    obtain ⟨⟨r0, ⟨b1_0, b1_1, _⟩, r2, _⟩, ⟨_, _, pace6, time7, den8, taken13, part14, back19, low20, three21, steps25, under26, _, nine38, text41, _⟩, ⟨_, _, _⟩⟩ := s
    refine Tail.eq (Y := fun g => w_FnMovingTimed_t3 (fun r0 b1_0 b1_1 r2 pace6 time7 den8 ok9 taken13 part14 back19 low20 three21 steps25 under26 round31 c32 nine38 text41 => g.1 ((r0, (b1_0, b1_1, ()), r2, ()), ((), (), pace6, time7, den8, ok9, taken13, part14, back19, low20, three21, steps25, under26, round31, c32, (), nine38, text41, ()), ((), (), ()))) (fun r0 b1_0 b1_1 r2 pace6 time7 den8 taken13 part14 back19 low20 three21 steps25 under26 nine38 text41 => g.2.1 ((r0, (b1_0, b1_1, ()), r2, ()), ((), (), pace6, time7, den8, taken13, part14, back19, low20, three21, steps25, under26, (), nine38, text41, ()), ((), (), ()))) (fun r0 b1_0 b1_1 r2 pace6 time7 den8 taken13 part14 back19 low20 three21 steps25 under26 nine38 text41 => g.2.2.1 ((r0, (b1_0, b1_1, ()), r2, ()), ((), (), pace6, time7, den8, taken13, part14, back19, low20, three21, steps25, under26, (), nine38, text41, ()), ((), (), ()))) (fun r0 b1_0 b1_1 r2 nine38 text41 => g.2.2.2.1 ((r0, (b1_0, b1_1, ()), r2, ()), ((), (), (), nine38, text41, ()), ((), (), ()))) (fun r0 => g.2.2.2.2.1 ((r0, ()), ((), ()), ((), (), ()))) (fun b0_0 b0_1 with72 against73 both74 h75 seventeen76 many81 walk82 j83 nineteen84 => g.2.2.2.2.2.1 (((b0_0, b0_1, ()), ()), (with72, against73, both74, h75, seventeen76, (), many81, walk82, j83, nineteen84, ()), ((), (), ()))) (fun b0_0 b0_1 many81 walk82 j83 nineteen84 => g.2.2.2.2.2.2.1 (((b0_0, b0_1, ()), ()), ((), many81, walk82, j83, nineteen84, ()), ((), (), ()))) (g.2.2.2.2.2.2.2.1 ((), (), ((), (), ()))) r0 b1_0 b1_1 r2 pace6 time7 den8 taken13 part14 back19 low20 three21 steps25 under26 nine38 text41) ?_ (fun g => by kernel_rfl)
    simp only [w_FnMovingTimed_t3]; repeat (first | apply Tail.cond | (apply Tail.bind; intro _) | exact Tail.here _ | exact Tail.there (Tail.here _) | exact Tail.there (Tail.there (Tail.here _)) | exact Tail.there (Tail.there (Tail.there (Tail.here _))) | exact Tail.there (Tail.there (Tail.there (Tail.there (Tail.here _)))) | exact Tail.there (Tail.there (Tail.there (Tail.there (Tail.there (Tail.here _))))) | exact Tail.there (Tail.there (Tail.there (Tail.there (Tail.there (Tail.there (Tail.here _)))))) | exact Tail.there (Tail.there (Tail.there (Tail.there (Tail.there (Tail.there (Tail.there (Tail.here _))))))) | exact Tail.const _),
  fun s => by
    obtain ⟨⟨r0, ⟨b1_0, b1_1, _⟩, r2, _⟩, ⟨_, _, _, nine38, text41, _⟩, ⟨_, _, _⟩⟩ := s
    refine Tail.eq (Y := fun g => w_FnMovingTimed_t4 (fun r0 b1_0 b1_1 r2 pace6 time7 den8 ok9 taken13 part14 back19 low20 three21 steps25 under26 round31 c32 nine38 text41 => g.1 ((r0, (b1_0, b1_1, ()), r2, ()), ((), (), pace6, time7, den8, ok9, taken13, part14, back19, low20, three21, steps25, under26, round31, c32, (), nine38, text41, ()), ((), (), ()))) (fun r0 b1_0 b1_1 r2 pace6 time7 den8 taken13 part14 back19 low20 three21 steps25 under26 nine38 text41 => g.2.1 ((r0, (b1_0, b1_1, ()), r2, ()), ((), (), pace6, time7, den8, taken13, part14, back19, low20, three21, steps25, under26, (), nine38, text41, ()), ((), (), ()))) (fun r0 b1_0 b1_1 r2 pace6 time7 den8 taken13 part14 back19 low20 three21 steps25 under26 nine38 text41 => g.2.2.1 ((r0, (b1_0, b1_1, ()), r2, ()), ((), (), pace6, time7, den8, taken13, part14, back19, low20, three21, steps25, under26, (), nine38, text41, ()), ((), (), ()))) (fun r0 b1_0 b1_1 r2 nine38 text41 => g.2.2.2.1 ((r0, (b1_0, b1_1, ()), r2, ()), ((), (), (), nine38, text41, ()), ((), (), ()))) (fun r0 => g.2.2.2.2.1 ((r0, ()), ((), ()), ((), (), ()))) (fun b0_0 b0_1 with72 against73 both74 h75 seventeen76 many81 walk82 j83 nineteen84 => g.2.2.2.2.2.1 (((b0_0, b0_1, ()), ()), (with72, against73, both74, h75, seventeen76, (), many81, walk82, j83, nineteen84, ()), ((), (), ()))) (fun b0_0 b0_1 many81 walk82 j83 nineteen84 => g.2.2.2.2.2.2.1 (((b0_0, b0_1, ()), ()), ((), many81, walk82, j83, nineteen84, ()), ((), (), ()))) (g.2.2.2.2.2.2.2.1 ((), (), ((), (), ()))) r0 b1_0 b1_1 r2 nine38 text41) ?_ (fun g => by kernel_rfl)
    simp only [w_FnMovingTimed_t4]; repeat (first | apply Tail.cond | (apply Tail.bind; intro _) | exact Tail.here _ | exact Tail.there (Tail.here _) | exact Tail.there (Tail.there (Tail.here _)) | exact Tail.there (Tail.there (Tail.there (Tail.here _))) | exact Tail.there (Tail.there (Tail.there (Tail.there (Tail.here _)))) | exact Tail.there (Tail.there (Tail.there (Tail.there (Tail.there (Tail.here _))))) | exact Tail.there (Tail.there (Tail.there (Tail.there (Tail.there (Tail.there (Tail.here _)))))) | exact Tail.there (Tail.there (Tail.there (Tail.there (Tail.there (Tail.there (Tail.there (Tail.here _))))))) | exact Tail.const _),
  fun s => by
    obtain ⟨⟨r0, _⟩, ⟨_, _⟩, ⟨_, _, _⟩⟩ := s
    refine Tail.eq (Y := fun g => w_FnMovingTimed_t5 (fun r0 b1_0 b1_1 r2 pace6 time7 den8 ok9 taken13 part14 back19 low20 three21 steps25 under26 round31 c32 nine38 text41 => g.1 ((r0, (b1_0, b1_1, ()), r2, ()), ((), (), pace6, time7, den8, ok9, taken13, part14, back19, low20, three21, steps25, under26, round31, c32, (), nine38, text41, ()), ((), (), ()))) (fun r0 b1_0 b1_1 r2 pace6 time7 den8 taken13 part14 back19 low20 three21 steps25 under26 nine38 text41 => g.2.1 ((r0, (b1_0, b1_1, ()), r2, ()), ((), (), pace6, time7, den8, taken13, part14, back19, low20, three21, steps25, under26, (), nine38, text41, ()), ((), (), ()))) (fun r0 b1_0 b1_1 r2 pace6 time7 den8 taken13 part14 back19 low20 three21 steps25 under26 nine38 text41 => g.2.2.1 ((r0, (b1_0, b1_1, ()), r2, ()), ((), (), pace6, time7, den8, taken13, part14, back19, low20, three21, steps25, under26, (), nine38, text41, ()), ((), (), ()))) (fun r0 b1_0 b1_1 r2 nine38 text41 => g.2.2.2.1 ((r0, (b1_0, b1_1, ()), r2, ()), ((), (), (), nine38, text41, ()), ((), (), ()))) (fun r0 => g.2.2.2.2.1 ((r0, ()), ((), ()), ((), (), ()))) (fun b0_0 b0_1 with72 against73 both74 h75 seventeen76 many81 walk82 j83 nineteen84 => g.2.2.2.2.2.1 (((b0_0, b0_1, ()), ()), (with72, against73, both74, h75, seventeen76, (), many81, walk82, j83, nineteen84, ()), ((), (), ()))) (fun b0_0 b0_1 many81 walk82 j83 nineteen84 => g.2.2.2.2.2.2.1 (((b0_0, b0_1, ()), ()), ((), many81, walk82, j83, nineteen84, ()), ((), (), ()))) (g.2.2.2.2.2.2.2.1 ((), (), ((), (), ()))) r0) ?_ (fun g => by kernel_rfl)
    simp only [w_FnMovingTimed_t5]; repeat (first | apply Tail.cond | (apply Tail.bind; intro _) | exact Tail.here _ | exact Tail.there (Tail.here _) | exact Tail.there (Tail.there (Tail.here _)) | exact Tail.there (Tail.there (Tail.there (Tail.here _))) | exact Tail.there (Tail.there (Tail.there (Tail.there (Tail.here _)))) | exact Tail.there (Tail.there (Tail.there (Tail.there (Tail.there (Tail.here _))))) | exact Tail.there (Tail.there (Tail.there (Tail.there (Tail.there (Tail.there (Tail.here _)))))) | exact Tail.there (Tail.there (Tail.there (Tail.there (Tail.there (Tail.there (Tail.there (Tail.here _))))))) | exact Tail.const _),
  fun s => by
    obtain ⟨⟨⟨b0_0, b0_1, _⟩, _⟩, ⟨with72, against73, both74, h75, seventeen76, _, many81, walk82, j83, nineteen84, _⟩, ⟨_, _, _⟩⟩ := s
    refine Tail.eq (Y := fun g => w_FnMovingTimed_t6 (fun r0 b1_0 b1_1 r2 pace6 time7 den8 ok9 taken13 part14 back19 low20 three21 steps25 under26 round31 c32 nine38 text41 => g.1 ((r0, (b1_0, b1_1, ()), r2, ()), ((), (), pace6, time7, den8, ok9, taken13, part14, back19, low20, three21, steps25, under26, round31, c32, (), nine38, text41, ()), ((), (), ()))) (fun r0 b1_0 b1_1 r2 pace6 time7 den8 taken13 part14 back19 low20 three21 steps25 under26 nine38 text41 => g.2.1 ((r0, (b1_0, b1_1, ()), r2, ()), ((), (), pace6, time7, den8, taken13, part14, back19, low20, three21, steps25, under26, (), nine38, text41, ()), ((), (), ()))) (fun r0 b1_0 b1_1 r2 pace6 time7 den8 taken13 part14 back19 low20 three21 steps25 under26 nine38 text41 => g.2.2.1 ((r0, (b1_0, b1_1, ()), r2, ()), ((), (), pace6, time7, den8, taken13, part14, back19, low20, three21, steps25, under26, (), nine38, text41, ()), ((), (), ()))) (fun r0 b1_0 b1_1 r2 nine38 text41 => g.2.2.2.1 ((r0, (b1_0, b1_1, ()), r2, ()), ((), (), (), nine38, text41, ()), ((), (), ()))) (fun r0 => g.2.2.2.2.1 ((r0, ()), ((), ()), ((), (), ()))) (fun b0_0 b0_1 with72 against73 both74 h75 seventeen76 many81 walk82 j83 nineteen84 => g.2.2.2.2.2.1 (((b0_0, b0_1, ()), ()), (with72, against73, both74, h75, seventeen76, (), many81, walk82, j83, nineteen84, ()), ((), (), ()))) (fun b0_0 b0_1 many81 walk82 j83 nineteen84 => g.2.2.2.2.2.2.1 (((b0_0, b0_1, ()), ()), ((), many81, walk82, j83, nineteen84, ()), ((), (), ()))) (g.2.2.2.2.2.2.2.1 ((), (), ((), (), ()))) b0_0 b0_1 with72 against73 both74 h75 seventeen76 many81 walk82 j83 nineteen84) ?_ (fun g => by kernel_rfl)
    simp only [w_FnMovingTimed_t6]; repeat (first | apply Tail.cond | (apply Tail.bind; intro _) | exact Tail.here _ | exact Tail.there (Tail.here _) | exact Tail.there (Tail.there (Tail.here _)) | exact Tail.there (Tail.there (Tail.there (Tail.here _))) | exact Tail.there (Tail.there (Tail.there (Tail.there (Tail.here _)))) | exact Tail.there (Tail.there (Tail.there (Tail.there (Tail.there (Tail.here _))))) | exact Tail.there (Tail.there (Tail.there (Tail.there (Tail.there (Tail.there (Tail.here _)))))) | exact Tail.there (Tail.there (Tail.there (Tail.there (Tail.there (Tail.there (Tail.there (Tail.here _))))))) | exact Tail.const _),
  fun s => by
    obtain ⟨⟨⟨b0_0, b0_1, _⟩, _⟩, ⟨_, many81, walk82, j83, nineteen84, _⟩, ⟨_, _, _⟩⟩ := s
    refine Tail.eq (Y := fun g => w_FnMovingTimed_t7 (fun r0 b1_0 b1_1 r2 pace6 time7 den8 ok9 taken13 part14 back19 low20 three21 steps25 under26 round31 c32 nine38 text41 => g.1 ((r0, (b1_0, b1_1, ()), r2, ()), ((), (), pace6, time7, den8, ok9, taken13, part14, back19, low20, three21, steps25, under26, round31, c32, (), nine38, text41, ()), ((), (), ()))) (fun r0 b1_0 b1_1 r2 pace6 time7 den8 taken13 part14 back19 low20 three21 steps25 under26 nine38 text41 => g.2.1 ((r0, (b1_0, b1_1, ()), r2, ()), ((), (), pace6, time7, den8, taken13, part14, back19, low20, three21, steps25, under26, (), nine38, text41, ()), ((), (), ()))) (fun r0 b1_0 b1_1 r2 pace6 time7 den8 taken13 part14 back19 low20 three21 steps25 under26 nine38 text41 => g.2.2.1 ((r0, (b1_0, b1_1, ()), r2, ()), ((), (), pace6, time7, den8, taken13, part14, back19, low20, three21, steps25, under26, (), nine38, text41, ()), ((), (), ()))) (fun r0 b1_0 b1_1 r2 nine38 text41 => g.2.2.2.1 ((r0, (b1_0, b1_1, ()), r2, ()), ((), (), (), nine38, text41, ()), ((), (), ()))) (fun r0 => g.2.2.2.2.1 ((r0, ()), ((), ()), ((), (), ()))) (fun b0_0 b0_1 with72 against73 both74 h75 seventeen76 many81 walk82 j83 nineteen84 => g.2.2.2.2.2.1 (((b0_0, b0_1, ()), ()), (with72, against73, both74, h75, seventeen76, (), many81, walk82, j83, nineteen84, ()), ((), (), ()))) (fun b0_0 b0_1 many81 walk82 j83 nineteen84 => g.2.2.2.2.2.2.1 (((b0_0, b0_1, ()), ()), ((), many81, walk82, j83, nineteen84, ()), ((), (), ()))) (g.2.2.2.2.2.2.2.1 ((), (), ((), (), ()))) b0_0 b0_1 many81 walk82 j83 nineteen84) ?_ (fun g => by kernel_rfl)
    simp only [w_FnMovingTimed_t7]; repeat (first | apply Tail.cond | (apply Tail.bind; intro _) | exact Tail.here _ | exact Tail.there (Tail.here _) | exact Tail.there (Tail.there (Tail.here _)) | exact Tail.there (Tail.there (Tail.there (Tail.here _))) | exact Tail.there (Tail.there (Tail.there (Tail.there (Tail.here _)))) | exact Tail.there (Tail.there (Tail.there (Tail.there (Tail.there (Tail.here _))))) | exact Tail.there (Tail.there (Tail.there (Tail.there (Tail.there (Tail.there (Tail.here _)))))) | exact Tail.there (Tail.there (Tail.there (Tail.there (Tail.there (Tail.there (Tail.there (Tail.here _))))))) | exact Tail.const _),
  fun s => by
    obtain ⟨_, _, ⟨_, _, _⟩⟩ := s
    refine Tail.eq (Y := fun g => w_FnMovingTimed_t8 (fun r0 b1_0 b1_1 r2 pace6 time7 den8 ok9 taken13 part14 back19 low20 three21 steps25 under26 round31 c32 nine38 text41 => g.1 ((r0, (b1_0, b1_1, ()), r2, ()), ((), (), pace6, time7, den8, ok9, taken13, part14, back19, low20, three21, steps25, under26, round31, c32, (), nine38, text41, ()), ((), (), ()))) (fun r0 b1_0 b1_1 r2 pace6 time7 den8 taken13 part14 back19 low20 three21 steps25 under26 nine38 text41 => g.2.1 ((r0, (b1_0, b1_1, ()), r2, ()), ((), (), pace6, time7, den8, taken13, part14, back19, low20, three21, steps25, under26, (), nine38, text41, ()), ((), (), ()))) (fun r0 b1_0 b1_1 r2 pace6 time7 den8 taken13 part14 back19 low20 three21 steps25 under26 nine38 text41 => g.2.2.1 ((r0, (b1_0, b1_1, ()), r2, ()), ((), (), pace6, time7, den8, taken13, part14, back19, low20, three21, steps25, under26, (), nine38, text41, ()), ((), (), ()))) (fun r0 b1_0 b1_1 r2 nine38 text41 => g.2.2.2.1 ((r0, (b1_0, b1_1, ()), r2, ()), ((), (), (), nine38, text41, ()), ((), (), ()))) (fun r0 => g.2.2.2.2.1 ((r0, ()), ((), ()), ((), (), ()))) (fun b0_0 b0_1 with72 against73 both74 h75 seventeen76 many81 walk82 j83 nineteen84 => g.2.2.2.2.2.1 (((b0_0, b0_1, ()), ()), (with72, against73, both74, h75, seventeen76, (), many81, walk82, j83, nineteen84, ()), ((), (), ()))) (fun b0_0 b0_1 many81 walk82 j83 nineteen84 => g.2.2.2.2.2.2.1 (((b0_0, b0_1, ()), ()), ((), many81, walk82, j83, nineteen84, ()), ((), (), ()))) (g.2.2.2.2.2.2.2.1 ((), (), ((), (), ()))) ) ?_ (fun g => by kernel_rfl)
    simp only [w_FnMovingTimed_t8]; repeat (first | apply Tail.cond | (apply Tail.bind; intro _) | exact Tail.here _ | exact Tail.there (Tail.here _) | exact Tail.there (Tail.there (Tail.here _)) | exact Tail.there (Tail.there (Tail.there (Tail.here _))) | exact Tail.there (Tail.there (Tail.there (Tail.there (Tail.here _)))) | exact Tail.there (Tail.there (Tail.there (Tail.there (Tail.there (Tail.here _))))) | exact Tail.there (Tail.there (Tail.there (Tail.there (Tail.there (Tail.there (Tail.here _)))))) | exact Tail.there (Tail.there (Tail.there (Tail.there (Tail.there (Tail.there (Tail.there (Tail.here _))))))) | exact Tail.const _), trivial⟩
theorem w_FnMovingTimed_hs : ∀ x, Tail c_w_FnMovingTimed.pts (fun g => c_w_FnMovingTimed.start g x) := fun x => by
    obtain ⟨code0, more1, _⟩ := x
    refine Tail.eq (Y := fun g => w_FnMovingTimed_t0 (fun r0 b1_0 b1_1 r2 pace6 time7 den8 ok9 taken13 part14 back19 low20 three21 steps25 under26 round31 c32 nine38 text41 => g.1 ((r0, (b1_0, b1_1, ()), r2, ()), ((), (), pace6, time7, den8, ok9, taken13, part14, back19, low20, three21, steps25, under26, round31, c32, (), nine38, text41, ()), ((), (), ()))) (fun r0 b1_0 b1_1 r2 pace6 time7 den8 taken13 part14 back19 low20 three21 steps25 under26 nine38 text41 => g.2.1 ((r0, (b1_0, b1_1, ()), r2, ()), ((), (), pace6, time7, den8, taken13, part14, back19, low20, three21, steps25, under26, (), nine38, text41, ()), ((), (), ()))) (fun r0 b1_0 b1_1 r2 pace6 time7 den8 taken13 part14 back19 low20 three21 steps25 under26 nine38 text41 => g.2.2.1 ((r0, (b1_0, b1_1, ()), r2, ()), ((), (), pace6, time7, den8, taken13, part14, back19, low20, three21, steps25, under26, (), nine38, text41, ()), ((), (), ()))) (fun r0 b1_0 b1_1 r2 nine38 text41 => g.2.2.2.1 ((r0, (b1_0, b1_1, ()), r2, ()), ((), (), (), nine38, text41, ()), ((), (), ()))) (fun r0 => g.2.2.2.2.1 ((r0, ()), ((), ()), ((), (), ()))) (fun b0_0 b0_1 with72 against73 both74 h75 seventeen76 many81 walk82 j83 nineteen84 => g.2.2.2.2.2.1 (((b0_0, b0_1, ()), ()), (with72, against73, both74, h75, seventeen76, (), many81, walk82, j83, nineteen84, ()), ((), (), ()))) (fun b0_0 b0_1 many81 walk82 j83 nineteen84 => g.2.2.2.2.2.2.1 (((b0_0, b0_1, ()), ()), ((), many81, walk82, j83, nineteen84, ()), ((), (), ()))) (g.2.2.2.2.2.2.2.1 ((), (), ((), (), ()))) code0 more1) ?_ (fun g => by kernel_rfl)
    simp only [w_FnMovingTimed_t0]; repeat (first | apply Tail.cond | (apply Tail.bind; intro _) | exact Tail.here _ | exact Tail.there (Tail.here _) | exact Tail.there (Tail.there (Tail.here _)) | exact Tail.there (Tail.there (Tail.there (Tail.here _))) | exact Tail.there (Tail.there (Tail.there (Tail.there (Tail.here _)))) | exact Tail.there (Tail.there (Tail.there (Tail.there (Tail.there (Tail.here _))))) | exact Tail.there (Tail.there (Tail.there (Tail.there (Tail.there (Tail.there (Tail.here _)))))) | exact Tail.there (Tail.there (Tail.there (Tail.there (Tail.there (Tail.there (Tail.there (Tail.here _))))))) | exact Tail.const _)
noncomputable def w_FnMovingTimed_L1 (r0 : List (Int)) (b1_0 : Int) (b1_1 : Int) (r2 : List (Int)) (pace6 : Int) (time7 : Int) (den8 : Int) (ok9 : Bool) (taken13 : Int) (part14 : Int) (back19 : Int) (low20 : Int) (three21 : Bool) (steps25 : Int) (under26 : Int) (round31 : Int) (c32 : Int) (nine38 : Bool) (text41 : ByteArray) : Option Bool := c_w_FnMovingTimed.L.1 ((r0, (b1_0, b1_1, ()), r2, ()), ((), (), pace6, time7, den8, ok9, taken13, part14, back19, low20, three21, steps25, under26, round31, c32, (), nine38, text41, ()), ((), (), ()))
noncomputable def w_FnMovingTimed_L2 (r0 : List (Int)) (b1_0 : Int) (b1_1 : Int) (r2 : List (Int)) (pace6 : Int) (time7 : Int) (den8 : Int) (taken13 : Int) (part14 : Int) (back19 : Int) (low20 : Int) (three21 : Bool) (steps25 : Int) (under26 : Int) (nine38 : Bool) (text41 : ByteArray) : Option Bool := c_w_FnMovingTimed.L.2.1 ((r0, (b1_0, b1_1, ()), r2, ()), ((), (), pace6, time7, den8, taken13, part14, back19, low20, three21, steps25, under26, (), nine38, text41, ()), ((), (), ()))
noncomputable def w_FnMovingTimed_L3 (r0 : List (Int)) (b1_0 : Int) (b1_1 : Int) (r2 : List (Int)) (pace6 : Int) (time7 : Int) (den8 : Int) (taken13 : Int) (part14 : Int) (back19 : Int) (low20 : Int) (three21 : Bool) (steps25 : Int) (under26 : Int) (nine38 : Bool) (text41 : ByteArray) : Option Bool := c_w_FnMovingTimed.L.2.2.1 ((r0, (b1_0, b1_1, ()), r2, ()), ((), (), pace6, time7, den8, taken13, part14, back19, low20, three21, steps25, under26, (), nine38, text41, ()), ((), (), ()))
noncomputable def w_FnMovingTimed_L4 (r0 : List (Int)) (b1_0 : Int) (b1_1 : Int) (r2 : List (Int)) (nine38 : Bool) (text41 : ByteArray) : Option Bool := c_w_FnMovingTimed.L.2.2.2.1 ((r0, (b1_0, b1_1, ()), r2, ()), ((), (), (), nine38, text41, ()), ((), (), ()))
noncomputable def w_FnMovingTimed_L5 (r0 : List (Int)) : Option Bool := c_w_FnMovingTimed.L.2.2.2.2.1 ((r0, ()), ((), ()), ((), (), ()))
noncomputable def w_FnMovingTimed_L6 (b0_0 : Int) (b0_1 : Int) (with72 : Int) (against73 : Int) (both74 : Int) (h75 : Int) (seventeen76 : Bool) (many81 : Int) (walk82 : Int) (j83 : Int) (nineteen84 : Bool) : Option Bool := c_w_FnMovingTimed.L.2.2.2.2.2.1 (((b0_0, b0_1, ()), ()), (with72, against73, both74, h75, seventeen76, (), many81, walk82, j83, nineteen84, ()), ((), (), ()))
noncomputable def w_FnMovingTimed_L7 (b0_0 : Int) (b0_1 : Int) (many81 : Int) (walk82 : Int) (j83 : Int) (nineteen84 : Bool) : Option Bool := c_w_FnMovingTimed.L.2.2.2.2.2.2.1 (((b0_0, b0_1, ()), ()), ((), many81, walk82, j83, nineteen84, ()), ((), (), ()))
noncomputable def w_FnMovingTimed_L8  : Option Bool := c_w_FnMovingTimed.L.2.2.2.2.2.2.2.1 ((), (), ((), (), ()))
theorem w_FnMovingTimed_u1 (r0 : List (Int)) (b1_0 : Int) (b1_1 : Int) (r2 : List (Int)) (pace6 : Int) (time7 : Int) (den8 : Int) (ok9 : Bool) (taken13 : Int) (part14 : Int) (back19 : Int) (low20 : Int) (three21 : Bool) (steps25 : Int) (under26 : Int) (round31 : Int) (c32 : Int) (nine38 : Bool) (text41 : ByteArray) : w_FnMovingTimed_L1 r0 b1_0 b1_1 r2 pace6 time7 den8 ok9 taken13 part14 back19 low20 three21 steps25 under26 round31 c32 nine38 text41 = w_FnMovingTimed_t1 w_FnMovingTimed_L1 w_FnMovingTimed_L2 w_FnMovingTimed_L3 w_FnMovingTimed_L4 w_FnMovingTimed_L5 w_FnMovingTimed_L6 w_FnMovingTimed_L7 w_FnMovingTimed_L8 r0 b1_0 b1_1 r2 pace6 time7 den8 ok9 taken13 part14 back19 low20 three21 steps25 under26 round31 c32 nine38 text41 :=
  (congrArg (fun g => g.1 ((r0, (b1_0, b1_1, ()), r2, ()), ((), (), pace6, time7, den8, ok9, taken13, part14, back19, low20, three21, steps25, under26, round31, c32, (), nine38, text41, ()), ((), (), ()))) (FnCx.L_eq w_FnMovingTimed_ts)).trans (by kernel_rfl)
theorem w_FnMovingTimed_u2 (r0 : List (Int)) (b1_0 : Int) (b1_1 : Int) (r2 : List (Int)) (pace6 : Int) (time7 : Int) (den8 : Int) (taken13 : Int) (part14 : Int) (back19 : Int) (low20 : Int) (three21 : Bool) (steps25 : Int) (under26 : Int) (nine38 : Bool) (text41 : ByteArray) : w_FnMovingTimed_L2 r0 b1_0 b1_1 r2 pace6 time7 den8 taken13 part14 back19 low20 three21 steps25 under26 nine38 text41 = w_FnMovingTimed_t2 w_FnMovingTimed_L1 w_FnMovingTimed_L2 w_FnMovingTimed_L3 w_FnMovingTimed_L4 w_FnMovingTimed_L5 w_FnMovingTimed_L6 w_FnMovingTimed_L7 w_FnMovingTimed_L8 r0 b1_0 b1_1 r2 pace6 time7 den8 taken13 part14 back19 low20 three21 steps25 under26 nine38 text41 :=
  (congrArg (fun g => g.2.1 ((r0, (b1_0, b1_1, ()), r2, ()), ((), (), pace6, time7, den8, taken13, part14, back19, low20, three21, steps25, under26, (), nine38, text41, ()), ((), (), ()))) (FnCx.L_eq w_FnMovingTimed_ts)).trans (by kernel_rfl)
theorem w_FnMovingTimed_u3 (r0 : List (Int)) (b1_0 : Int) (b1_1 : Int) (r2 : List (Int)) (pace6 : Int) (time7 : Int) (den8 : Int) (taken13 : Int) (part14 : Int) (back19 : Int) (low20 : Int) (three21 : Bool) (steps25 : Int) (under26 : Int) (nine38 : Bool) (text41 : ByteArray) : w_FnMovingTimed_L3 r0 b1_0 b1_1 r2 pace6 time7 den8 taken13 part14 back19 low20 three21 steps25 under26 nine38 text41 = w_FnMovingTimed_t3 w_FnMovingTimed_L1 w_FnMovingTimed_L2 w_FnMovingTimed_L3 w_FnMovingTimed_L4 w_FnMovingTimed_L5 w_FnMovingTimed_L6 w_FnMovingTimed_L7 w_FnMovingTimed_L8 r0 b1_0 b1_1 r2 pace6 time7 den8 taken13 part14 back19 low20 three21 steps25 under26 nine38 text41 :=
  (congrArg (fun g => g.2.2.1 ((r0, (b1_0, b1_1, ()), r2, ()), ((), (), pace6, time7, den8, taken13, part14, back19, low20, three21, steps25, under26, (), nine38, text41, ()), ((), (), ()))) (FnCx.L_eq w_FnMovingTimed_ts)).trans (by kernel_rfl)
theorem w_FnMovingTimed_u4 (r0 : List (Int)) (b1_0 : Int) (b1_1 : Int) (r2 : List (Int)) (nine38 : Bool) (text41 : ByteArray) : w_FnMovingTimed_L4 r0 b1_0 b1_1 r2 nine38 text41 = w_FnMovingTimed_t4 w_FnMovingTimed_L1 w_FnMovingTimed_L2 w_FnMovingTimed_L3 w_FnMovingTimed_L4 w_FnMovingTimed_L5 w_FnMovingTimed_L6 w_FnMovingTimed_L7 w_FnMovingTimed_L8 r0 b1_0 b1_1 r2 nine38 text41 :=
  (congrArg (fun g => g.2.2.2.1 ((r0, (b1_0, b1_1, ()), r2, ()), ((), (), (), nine38, text41, ()), ((), (), ()))) (FnCx.L_eq w_FnMovingTimed_ts)).trans (by kernel_rfl)
theorem w_FnMovingTimed_u5 (r0 : List (Int)) : w_FnMovingTimed_L5 r0 = w_FnMovingTimed_t5 w_FnMovingTimed_L1 w_FnMovingTimed_L2 w_FnMovingTimed_L3 w_FnMovingTimed_L4 w_FnMovingTimed_L5 w_FnMovingTimed_L6 w_FnMovingTimed_L7 w_FnMovingTimed_L8 r0 :=
  (congrArg (fun g => g.2.2.2.2.1 ((r0, ()), ((), ()), ((), (), ()))) (FnCx.L_eq w_FnMovingTimed_ts)).trans (by kernel_rfl)
theorem w_FnMovingTimed_u6 (b0_0 : Int) (b0_1 : Int) (with72 : Int) (against73 : Int) (both74 : Int) (h75 : Int) (seventeen76 : Bool) (many81 : Int) (walk82 : Int) (j83 : Int) (nineteen84 : Bool) : w_FnMovingTimed_L6 b0_0 b0_1 with72 against73 both74 h75 seventeen76 many81 walk82 j83 nineteen84 = w_FnMovingTimed_t6 w_FnMovingTimed_L1 w_FnMovingTimed_L2 w_FnMovingTimed_L3 w_FnMovingTimed_L4 w_FnMovingTimed_L5 w_FnMovingTimed_L6 w_FnMovingTimed_L7 w_FnMovingTimed_L8 b0_0 b0_1 with72 against73 both74 h75 seventeen76 many81 walk82 j83 nineteen84 :=
  (congrArg (fun g => g.2.2.2.2.2.1 (((b0_0, b0_1, ()), ()), (with72, against73, both74, h75, seventeen76, (), many81, walk82, j83, nineteen84, ()), ((), (), ()))) (FnCx.L_eq w_FnMovingTimed_ts)).trans (by kernel_rfl)
theorem w_FnMovingTimed_u7 (b0_0 : Int) (b0_1 : Int) (many81 : Int) (walk82 : Int) (j83 : Int) (nineteen84 : Bool) : w_FnMovingTimed_L7 b0_0 b0_1 many81 walk82 j83 nineteen84 = w_FnMovingTimed_t7 w_FnMovingTimed_L1 w_FnMovingTimed_L2 w_FnMovingTimed_L3 w_FnMovingTimed_L4 w_FnMovingTimed_L5 w_FnMovingTimed_L6 w_FnMovingTimed_L7 w_FnMovingTimed_L8 b0_0 b0_1 many81 walk82 j83 nineteen84 :=
  (congrArg (fun g => g.2.2.2.2.2.2.1 (((b0_0, b0_1, ()), ()), ((), many81, walk82, j83, nineteen84, ()), ((), (), ()))) (FnCx.L_eq w_FnMovingTimed_ts)).trans (by kernel_rfl)
theorem w_FnMovingTimed_u8  : w_FnMovingTimed_L8  = w_FnMovingTimed_t8 w_FnMovingTimed_L1 w_FnMovingTimed_L2 w_FnMovingTimed_L3 w_FnMovingTimed_L4 w_FnMovingTimed_L5 w_FnMovingTimed_L6 w_FnMovingTimed_L7 w_FnMovingTimed_L8  :=
  (congrArg (fun g => g.2.2.2.2.2.2.2.1 ((), (), ((), (), ()))) (FnCx.L_eq w_FnMovingTimed_ts)).trans (by kernel_rfl)
noncomputable def w_FnMovingTimed (code0 : List Int) (more1 : List Int) : Option Bool := w_FnMovingTimed_t0 w_FnMovingTimed_L1 w_FnMovingTimed_L2 w_FnMovingTimed_L3 w_FnMovingTimed_L4 w_FnMovingTimed_L5 w_FnMovingTimed_L6 w_FnMovingTimed_L7 w_FnMovingTimed_L8 code0 more1
theorem w_FnMovingTimed_e (code0 : List Int) (more1 : List Int) : c_w_FnMovingTimed.start c_w_FnMovingTimed.L (code0, more1, ()) = w_FnMovingTimed code0 more1 := by kernel_rfl
noncomputable def F_w_FnMovingTimed : Ins c_w_FnMovingTimed.ins → Option Bool := fun x => w_FnMovingTimed x.1 x.2.1
noncomputable def S_w_FnMovingTimed : FSpec := mkF c_w_FnMovingTimed.env.pre c_w_FnMovingTimed.ins c_w_FnMovingTimed.out c_w_FnMovingTimed.inj F_w_FnMovingTimed
theorem h_w_FnMovingTimed : Cert Tryz.prog 3 S_w_FnMovingTimed := FnCx.certF (c := c_w_FnMovingTimed) F_w_FnMovingTimed (tyOk _ _ _) (spOk ⟨h_w_big, fun _ _ h => h, ⟨h_s_DrawTimeAgainst, fun _ _ h => h, ⟨h_i_TimeWith, fun _ _ h => h, ⟨h_s_TimeWith, fun _ _ h => h, ⟨h_i_StepsWith, fun _ _ h => h, ⟨h_s_StepsWith, fun _ _ h => h, ⟨h_i_TimeAgainst, fun _ _ h => h, ⟨h_s_TimeAgainst, fun _ _ h => h, ⟨h_i_StepsAgainst, fun _ _ h => h, ⟨h_s_StepsAgainst, fun _ _ h => h, ⟨h_i_RoundTrip, fun _ _ h => h, ⟨h_s_RoundTrip, fun _ _ h => h, ⟨h_i_WholeTimes, fun _ _ h => h, ⟨h_s_WholeTimes, fun _ _ h => h, ⟨h_i_MovingText, fun _ _ h => h, ⟨h_s_MovingText, fun _ _ h => h, ⟨h_w_lSame, fun _ _ h => h, ⟨h_i_IsMoving, fun _ _ h => h, ⟨h_s_IsMoving, fun _ _ h => h, ⟨h_w_lIs, fun _ _ h => h, ⟨h_w_lHas, fun _ _ h => h, ⟨h_i_PaceForSteps, fun _ _ h => h, ⟨h_i_PlaceAt, fun _ _ h => h, ⟨h_i_VisibleFromBoth, fun _ _ h => h, ⟨h_i_ParseMoving, fun _ _ h => h, ⟨h_w_lRises, fun _ _ h => h, ⟨h_s_DrawVisibleFromTwo, fun _ _ h => h, ⟨h_i_VisibleFromTwo, fun _ _ h => h, ⟨h_s_VisibleFromTwo, fun _ _ h => h, ⟨h_i_SpeedFromTwo, fun _ _ h => h, ⟨h_s_SpeedFromTwo, fun _ _ h => h, ⟨h_s_DrawVisibleFromBoth, fun _ _ h => h, ⟨h_s_VisibleFromBoth, fun _ _ h => h, ⟨h_s_DrawPaceForSteps, fun _ _ h => h, ⟨h_s_PaceForSteps, fun _ _ h => h, ⟨h_w_lLow, fun _ _ h => h, trivial⟩⟩⟩⟩⟩⟩⟩⟩⟩⟩⟩⟩⟩⟩⟩⟩⟩⟩⟩⟩⟩⟩⟩⟩⟩⟩⟩⟩⟩⟩⟩⟩⟩⟩⟩⟩) (fun _ _ _ _ _ hs => evDr_ok (tyOk _ _ _) hs follows) Tryz.func3 rfl rfl Tryz.ntmps3 (by kernel_rfl) rfl rfl (fun _ => rfl) w_FnMovingTimed_ts w_FnMovingTimed_hs (fun x t hb ht => by
  obtain ⟨code0, more1, _⟩ := x
  exact (w_FnMovingTimed_e code0 more1).trans ht)
end Go.Proofs.YtadcmhdjoglagaaGreatDoor.V
