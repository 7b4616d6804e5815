/- Functions of the program, as plain functions. No condition. -/
import Derived.Test.YtadcmhdjoglagaaDoorN1
set_option linter.unusedVariables false
set_option linter.unusedSimpArgs false
set_option maxRecDepth 100000
namespace Go.Proofs.YtadcmhdjoglagaaDoor.V
open Go Go.Ev Go.Proofs
/-! laws.big -/
noncomputable def c_w_big : FnCx := { env := env 16 [] [], body := bodyOf Tryd.f4, res := [.tmp 4], ins := [.ro kSuint8, .ro kSuint8], out := [(kbool, true)], T := Bool, fin := fun r => r.1.1, inj := fun t => ((t, ()), ((), (), ())), pts := [], fuel := 400, dr := noDr }
noncomputable def w_big (code0 : List Int) (more1 : List Int) : Bool :=
  bif decide ((↑(List.length code0) : Int) > 1048576) then true
  else decide ((↑(List.length more1) : Int) > IntKind.wrap IntKind.i64 (1048576 - (↑(List.length code0) : Int)))
theorem w_big_e (code0 : List Int) (more1 : List Int) : c_w_big.start c_w_big.L (code0, more1, ()) = some (w_big code0 more1) := by
  refine Eq.trans (b := (bif decide ((↑(List.length code0) : Int) > 1048576) then some true else some (decide ((↑(List.length more1) : Int) > IntKind.wrap IntKind.i64 (1048576 - (↑(List.length code0) : Int)))) : Option Bool)) (by kernel_rfl) ?_
  unfold w_big
  repeat (first | rfl | apply condS)
noncomputable def F_w_big : Ins c_w_big.ins → Bool := fun x => w_big x.1 x.2.1
noncomputable def S_w_big : FSpec := mkT c_w_big.env.pre c_w_big.ins c_w_big.out c_w_big.inj F_w_big
theorem h_w_big : Cert Tryd.prog 4 S_w_big := FnCx.certT (c := c_w_big) F_w_big (tyOk _ _ _) (spOk trivial) (fun _ _ _ _ _ hs => noDr_ok) Tryd.func4 rfl rfl Tryd.ntmps4 (by kernel_rfl) rfl rfl (fun _ => rfl) trivial (fun x => .inl ⟨c_w_big.start () x, fun _ => rfl⟩) (fun x hb => by
  obtain ⟨code0, more1, _⟩ := x
  exact w_big_e code0 more1)
/-! (*spec.l1Cur).next -/
noncomputable def c_s_l1Cur_next : FnCx := { env := env 62 [] [], body := bodyOf Tryd.f51, res := [.tmp 2], ins := [.ptr 48 ksl1Cur], out := [(kint, true)], T := Int × (List Int × Int × Int), fin := fun r => (r.1.1, r.2.1), inj := fun t => ((t.1, ()), (t.2, ())), pts := [], fuel := 400, dr := evDr (env 62 [] []) }
noncomputable def s_l1Cur_next (c0_code : List Int) (c0_at : Int) (c0_seed : Int) : Option (Int × (List Int × Int × Int)) :=
  bif decide (c0_at < (↑(List.length c0_code) : Int)) then
    bif decide (0 ≤ c0_at) then
      bif decide (c0_at < (↑(List.length c0_code) : Int)) then
        bif decide (IntKind.wrap IntKind.i64 (c0_at + 1) ≤ (↑(List.length c0_code) : Int)) then
          some
            (IntKind.wrap IntKind.i64 (rdk kuint8 c0_code c0_at), c0_code, IntKind.wrap IntKind.i64 (c0_at + 1),
              IntKind.wrap IntKind.u64
                (IntKind.wrap IntKind.u64
                    (IntKind.wrap IntKind.u64 (c0_seed * 6364136223846793005) +
                      IntKind.wrap IntKind.u64 (IntKind.wrap IntKind.i64 (rdk kuint8 c0_code c0_at))) +
                  1442695040888963407))
        else
          some
            (IntKind.wrap IntKind.i64
                (IntKind.wrap IntKind.u64
                  (↑(BitVec.toNat
                        (BitVec.ofInt (IntKind.bits IntKind.u64)
                            (Int.fdiv
                              (IntKind.wrap IntKind.u64
                                (IntKind.wrap IntKind.u64
                                    (IntKind.wrap IntKind.u64 (c0_seed * 6364136223846793005) +
                                      IntKind.wrap IntKind.u64 (IntKind.wrap IntKind.i64 (rdk kuint8 c0_code c0_at))) +
                                  1442695040888963407))
                              (2 ^ min (Int.toNat 40) (IntKind.bits IntKind.u64))) &&&
                          BitVec.ofInt (IntKind.bits IntKind.u64) 255)) :
                    Int)),
              c0_code, IntKind.wrap IntKind.i64 (c0_at + 1),
              IntKind.wrap IntKind.u64
                (IntKind.wrap IntKind.u64
                    (IntKind.wrap IntKind.u64 (c0_seed * 6364136223846793005) +
                      IntKind.wrap IntKind.u64 (IntKind.wrap IntKind.i64 (rdk kuint8 c0_code c0_at))) +
                  1442695040888963407))
      else none
    else none
  else
    bif decide (IntKind.wrap IntKind.i64 (c0_at + 1) ≤ (↑(List.length c0_code) : Int)) then
      some
        (0, c0_code, IntKind.wrap IntKind.i64 (c0_at + 1),
          IntKind.wrap IntKind.u64
            (IntKind.wrap IntKind.u64 (IntKind.wrap IntKind.u64 (c0_seed * 6364136223846793005) + IntKind.wrap IntKind.u64 0) + 1442695040888963407))
    else
      some
        (IntKind.wrap IntKind.i64
            (IntKind.wrap IntKind.u64
              (↑(BitVec.toNat
                    (BitVec.ofInt (IntKind.bits IntKind.u64)
                        (Int.fdiv
                          (IntKind.wrap IntKind.u64
                            (IntKind.wrap IntKind.u64 (IntKind.wrap IntKind.u64 (c0_seed * 6364136223846793005) + IntKind.wrap IntKind.u64 0) +
                              1442695040888963407))
                          (2 ^ min (Int.toNat 40) (IntKind.bits IntKind.u64))) &&&
                      BitVec.ofInt (IntKind.bits IntKind.u64) 255)) :
                Int)),
          c0_code, IntKind.wrap IntKind.i64 (c0_at + 1),
          IntKind.wrap IntKind.u64
            (IntKind.wrap IntKind.u64 (IntKind.wrap IntKind.u64 (c0_seed * 6364136223846793005) + IntKind.wrap IntKind.u64 0) + 1442695040888963407))
theorem s_l1Cur_next_e (c0_code : List Int) (c0_at : Int) (c0_seed : Int) : c_s_l1Cur_next.start c_s_l1Cur_next.L ((c0_code, c0_at, c0_seed), ()) = s_l1Cur_next c0_code c0_at c0_seed := by kernel_rfl
noncomputable def F_s_l1Cur_next : Ins c_s_l1Cur_next.ins → Option (Int × (List Int × Int × Int)) := fun x => s_l1Cur_next x.1.1 x.1.2.1 x.1.2.2
noncomputable def S_s_l1Cur_next : FSpec := mkF c_s_l1Cur_next.env.pre c_s_l1Cur_next.ins c_s_l1Cur_next.out c_s_l1Cur_next.inj F_s_l1Cur_next
theorem h_s_l1Cur_next : Cert Tryd.prog 51 S_s_l1Cur_next := FnCx.certF (c := c_s_l1Cur_next) F_s_l1Cur_next (tyOk _ _ _) (spOk trivial) (fun _ _ _ _ _ hs => evDr_ok (tyOk _ _ _) hs follows) Tryd.func51 rfl rfl Tryd.ntmps51 (by kernel_rfl) rfl rfl (fun _ => rfl) trivial (fun x => .inl ⟨c_s_l1Cur_next.start () x, fun _ => rfl⟩) (fun x t hb ht => by
  obtain ⟨⟨c0_code, c0_at, c0_seed⟩, _⟩ := x
  exact (s_l1Cur_next_e c0_code c0_at c0_seed).trans ht)
/-! (*spec.l1Cur).pick -/
noncomputable def c_s_l1Cur_pick : FnCx := { env := env 20 [(51, S_s_l1Cur_next)] [], body := bodyOf Tryd.f37, res := [.tmp 4], ins := [.ptr 48 ksl1Cur, .ro kint], out := [(kint, true)], T := Int × (List Int × Int × Int), fin := fun r => (r.1.1, r.2.1), inj := fun t => ((t.1, ()), (t.2, (), ())), pts := [], fuel := 400, dr := noDr }
noncomputable def s_l1Cur_pick (c0_code : List Int) (c0_at : Int) (c0_seed : Int) (n1 : Int) : Option (Int × (List Int × Int × Int)) :=
  bif decide (n1 ≤ 1) then some (0, c0_code, c0_at, c0_seed)
  else
    Option.bind (s_l1Cur_next c0_code c0_at c0_seed) fun r =>
      bif decide (n1 > 200) then
        Option.bind (s_l1Cur_next (Prod.fst (Prod.snd r)) (Prod.fst (Prod.snd (Prod.snd r))) (Prod.snd (Prod.snd (Prod.snd r)))) fun r_1 =>
          bif n1 == 0 then none
          else
            some
              (Int.tmod (IntKind.wrap IntKind.i64 (IntKind.wrap IntKind.i64 (Prod.fst r * 256) + Prod.fst r_1)) n1, Prod.fst (Prod.snd r_1),
                Prod.fst (Prod.snd (Prod.snd r_1)), Prod.snd (Prod.snd (Prod.snd r_1)))
      else bif n1 == 0 then none else some (Int.tmod (Prod.fst r) n1, Prod.fst (Prod.snd r), Prod.fst (Prod.snd (Prod.snd r)), Prod.snd (Prod.snd (Prod.snd r)))
theorem s_l1Cur_pick_e (c0_code : List Int) (c0_at : Int) (c0_seed : Int) (n1 : Int) : c_s_l1Cur_pick.start c_s_l1Cur_pick.L ((c0_code, c0_at, c0_seed), n1, ()) = s_l1Cur_pick c0_code c0_at c0_seed n1 := by kernel_rfl
noncomputable def F_s_l1Cur_pick : Ins c_s_l1Cur_pick.ins → Option (Int × (List Int × Int × Int)) := fun x => s_l1Cur_pick x.1.1 x.1.2.1 x.1.2.2 x.2.1
noncomputable def S_s_l1Cur_pick : FSpec := mkF c_s_l1Cur_pick.env.pre c_s_l1Cur_pick.ins c_s_l1Cur_pick.out c_s_l1Cur_pick.inj F_s_l1Cur_pick
theorem h_s_l1Cur_pick : Cert Tryd.prog 37 S_s_l1Cur_pick := FnCx.certF (c := c_s_l1Cur_pick) F_s_l1Cur_pick (tyOk _ _ _) (spOk ⟨h_s_l1Cur_next, fun _ _ h => h, trivial⟩) (fun _ _ _ _ _ hs => noDr_ok) Tryd.func37 rfl rfl Tryd.ntmps37 (by kernel_rfl) rfl rfl (fun _ => rfl) trivial (fun x => .inl ⟨c_s_l1Cur_pick.start () x, fun _ => rfl⟩) (fun x t hb ht => by
  obtain ⟨⟨c0_code, c0_at, c0_seed⟩, n1, _⟩ := x
  exact (s_l1Cur_pick_e c0_code c0_at c0_seed n1).trans ht)
/-! (*spec.l1Cur).sureMoving -/
noncomputable def c_s_l1Cur_sureMoving : FnCx := { env := env 12 [(37, S_s_l1Cur_pick)] [], body := bodyOf Tryd.f43, res := [.cell 2 25], ins := [.ptr 48 ksl1Cur], out := [(kMoving, true)], T := (Int × Int) × (List Int × Int × Int), fin := fun r => (r.1.1, r.2.1), inj := fun t => ((t.1, ()), (t.2, ())), pts := [], fuel := 400, dr := noDr }
noncomputable def s_l1Cur_sureMoving (c0_code : List Int) (c0_at : Int) (c0_seed : Int) : Option ((Int × Int) × (List Int × Int × Int)) :=
  Option.bind (s_l1Cur_pick c0_code c0_at c0_seed 60) fun r =>
    Option.bind (s_l1Cur_pick (Prod.fst (Prod.snd r)) (Prod.fst (Prod.snd (Prod.snd r))) (Prod.snd (Prod.snd (Prod.snd r))) 5) fun r_1 =>
      some
        ((IntKind.wrap IntKind.i64 (1 + Prod.fst r), Prod.fst r_1), Prod.fst (Prod.snd r_1), Prod.fst (Prod.snd (Prod.snd r_1)),
          Prod.snd (Prod.snd (Prod.snd r_1)))
theorem s_l1Cur_sureMoving_e (c0_code : List Int) (c0_at : Int) (c0_seed : Int) : c_s_l1Cur_sureMoving.start c_s_l1Cur_sureMoving.L ((c0_code, c0_at, c0_seed), ()) = s_l1Cur_sureMoving c0_code c0_at c0_seed := by kernel_rfl
noncomputable def F_s_l1Cur_sureMoving : Ins c_s_l1Cur_sureMoving.ins → Option ((Int × Int) × (List Int × Int × Int)) := fun x => s_l1Cur_sureMoving x.1.1 x.1.2.1 x.1.2.2
noncomputable def S_s_l1Cur_sureMoving : FSpec := mkF c_s_l1Cur_sureMoving.env.pre c_s_l1Cur_sureMoving.ins c_s_l1Cur_sureMoving.out c_s_l1Cur_sureMoving.inj F_s_l1Cur_sureMoving
theorem h_s_l1Cur_sureMoving : Cert Tryd.prog 43 S_s_l1Cur_sureMoving := FnCx.certF (c := c_s_l1Cur_sureMoving) F_s_l1Cur_sureMoving (tyOk _ _ _) (spOk ⟨h_s_l1Cur_pick, fun _ _ h => h, trivial⟩) (fun _ _ _ _ _ hs => noDr_ok) Tryd.func43 rfl rfl Tryd.ntmps43 (by kernel_rfl) rfl rfl (fun _ => rfl) trivial (fun x => .inl ⟨c_s_l1Cur_sureMoving.start () x, fun _ => rfl⟩) (fun x t hb ht => by
  obtain ⟨⟨c0_code, c0_at, c0_seed⟩, _⟩ := x
  exact (s_l1Cur_sureMoving_e c0_code c0_at c0_seed).trans ht)
/-! (*spec.l1Cur).among -/
noncomputable def c_s_l1Cur_among : FnCx := { env := env 12 [(37, S_s_l1Cur_pick)] [], body := bodyOf Tryd.f38, res := [.tmp 4], ins := [.ptr 48 ksl1Cur, .ro kSint], out := [(kint, true)], T := Int × (List Int × Int × Int), fin := fun r => (r.1.1, r.2.1), inj := fun t => ((t.1, ()), (t.2, (), ())), pts := [], fuel := 400, dr := noDr }
noncomputable def s_l1Cur_among (c0_code : List Int) (c0_at : Int) (c0_seed : Int) (list1 : List Int) : Option (Int × (List Int × Int × Int)) :=
  Option.bind (s_l1Cur_pick c0_code c0_at c0_seed (↑(List.length list1) : Int)) fun r =>
    bif decide (0 ≤ Prod.fst r) then
      bif decide (Prod.fst r < (↑(List.length list1) : Int)) then
        some (rdk kint list1 (Prod.fst r), Prod.fst (Prod.snd r), Prod.fst (Prod.snd (Prod.snd r)), Prod.snd (Prod.snd (Prod.snd r)))
      else none
    else none
theorem s_l1Cur_among_e (c0_code : List Int) (c0_at : Int) (c0_seed : Int) (list1 : List Int) : c_s_l1Cur_among.start c_s_l1Cur_among.L ((c0_code, c0_at, c0_seed), list1, ()) = s_l1Cur_among c0_code c0_at c0_seed list1 := by kernel_rfl
noncomputable def F_s_l1Cur_among : Ins c_s_l1Cur_among.ins → Option (Int × (List Int × Int × Int)) := fun x => s_l1Cur_among x.1.1 x.1.2.1 x.1.2.2 x.2.1
noncomputable def S_s_l1Cur_among : FSpec := mkF c_s_l1Cur_among.env.pre c_s_l1Cur_among.ins c_s_l1Cur_among.out c_s_l1Cur_among.inj F_s_l1Cur_among
theorem h_s_l1Cur_among : Cert Tryd.prog 38 S_s_l1Cur_among := FnCx.certF (c := c_s_l1Cur_among) F_s_l1Cur_among (tyOk _ _ _) (spOk ⟨h_s_l1Cur_pick, fun _ _ h => h, trivial⟩) (fun _ _ _ _ _ hs => noDr_ok) Tryd.func38 rfl rfl Tryd.ntmps38 (by kernel_rfl) rfl rfl (fun _ => rfl) trivial (fun x => .inl ⟨c_s_l1Cur_among.start () x, fun _ => rfl⟩) (fun x t hb ht => by
  obtain ⟨⟨c0_code, c0_at, c0_seed⟩, list1, _⟩ := x
  exact (s_l1Cur_among_e c0_code c0_at c0_seed list1).trans ht)
/-! (*spec.l1Cur).moving -/
noncomputable def c_s_l1Cur_moving : FnCx := { env := env 21 [(43, S_s_l1Cur_sureMoving), (37, S_s_l1Cur_pick), (38, S_s_l1Cur_among)] [], body := bodyOf Tryd.f29, res := [.cell 2 25], ins := [.ptr 48 ksl1Cur], out := [(kMoving, true)], T := (Int × Int) × (List Int × Int × Int), fin := fun r => (r.1.1, r.2.1), inj := fun t => ((t.1, ()), (t.2, ())), pts := [], fuel := 400, dr := noDr }
noncomputable def s_l1Cur_moving (c0_code : List Int) (c0_at : Int) (c0_seed : Int) : Option ((Int × Int) × (List Int × Int × Int)) :=
  Option.bind (s_l1Cur_sureMoving c0_code c0_at c0_seed) fun r =>
    Option.bind (s_l1Cur_pick (Prod.fst (Prod.snd r)) (Prod.fst (Prod.snd (Prod.snd r))) (Prod.snd (Prod.snd (Prod.snd r))) 14) fun r_1 =>
      bif Prod.fst r_1 == 0 then
        Option.bind
          (s_l1Cur_among (Prod.fst (Prod.snd r_1)) (Prod.fst (Prod.snd (Prod.snd r_1))) (Prod.snd (Prod.snd (Prod.snd r_1)))
            [0, -1, 500, 501, 4611686018427387904])
          fun r_2 => some ((Prod.fst r_2, Prod.snd (Prod.fst r)), Prod.fst (Prod.snd r_2), Prod.fst (Prod.snd (Prod.snd r_2)), Prod.snd (Prod.snd (Prod.snd r_2)))
      else
        bif Prod.fst r_1 == 1 then
          Option.bind
            (s_l1Cur_among (Prod.fst (Prod.snd r_1)) (Prod.fst (Prod.snd (Prod.snd r_1))) (Prod.snd (Prod.snd (Prod.snd r_1))) [-1, 20, 21, 4611686018427387904])
            fun r_2 =>
            some ((Prod.fst (Prod.fst r), Prod.fst r_2), Prod.fst (Prod.snd r_2), Prod.fst (Prod.snd (Prod.snd r_2)), Prod.snd (Prod.snd (Prod.snd r_2)))
        else
          some ((Prod.fst (Prod.fst r), Prod.snd (Prod.fst r)), Prod.fst (Prod.snd r_1), Prod.fst (Prod.snd (Prod.snd r_1)), Prod.snd (Prod.snd (Prod.snd r_1)))
theorem s_l1Cur_moving_e (c0_code : List Int) (c0_at : Int) (c0_seed : Int) : c_s_l1Cur_moving.start c_s_l1Cur_moving.L ((c0_code, c0_at, c0_seed), ()) = s_l1Cur_moving c0_code c0_at c0_seed := by kernel_rfl
noncomputable def F_s_l1Cur_moving : Ins c_s_l1Cur_moving.ins → Option ((Int × Int) × (List Int × Int × Int)) := fun x => s_l1Cur_moving x.1.1 x.1.2.1 x.1.2.2
noncomputable def S_s_l1Cur_moving : FSpec := mkF c_s_l1Cur_moving.env.pre c_s_l1Cur_moving.ins c_s_l1Cur_moving.out c_s_l1Cur_moving.inj F_s_l1Cur_moving
theorem h_s_l1Cur_moving : Cert Tryd.prog 29 S_s_l1Cur_moving := FnCx.certF (c := c_s_l1Cur_moving) F_s_l1Cur_moving (tyOk _ _ _) (spOk ⟨h_s_l1Cur_sureMoving, fun _ _ h => h, ⟨h_s_l1Cur_pick, fun _ _ h => h, ⟨h_s_l1Cur_among, fun _ _ h => h, trivial⟩⟩⟩) (fun _ _ _ _ _ hs => noDr_ok) Tryd.func29 rfl rfl Tryd.ntmps29 (by kernel_rfl) rfl rfl (fun _ => rfl) trivial (fun x => .inl ⟨c_s_l1Cur_moving.start () x, fun _ => rfl⟩) (fun x t hb ht => by
  obtain ⟨⟨c0_code, c0_at, c0_seed⟩, _⟩ := x
  exact (s_l1Cur_moving_e c0_code c0_at c0_seed).trans ht)
/-! (*spec.l1Cur).one -/
noncomputable def c_s_l1Cur_one : FnCx := { env := env 9 [(37, S_s_l1Cur_pick)] [], body := bodyOf Tryd.f44, res := [.tmp 4], ins := [.ptr 48 ksl1Cur, .ro kint], out := [(kbool, true)], T := Bool × (List Int × Int × Int), fin := fun r => (r.1.1, r.2.1), inj := fun t => ((t.1, ()), (t.2, (), ())), pts := [], fuel := 400, dr := noDr }
noncomputable def s_l1Cur_one (c0_code : List Int) (c0_at : Int) (c0_seed : Int) (n1 : Int) : Option (Bool × (List Int × Int × Int)) :=
  Option.bind (s_l1Cur_pick c0_code c0_at c0_seed n1) fun r =>
    some (Prod.fst r == 0, Prod.fst (Prod.snd r), Prod.fst (Prod.snd (Prod.snd r)), Prod.snd (Prod.snd (Prod.snd r)))
theorem s_l1Cur_one_e (c0_code : List Int) (c0_at : Int) (c0_seed : Int) (n1 : Int) : c_s_l1Cur_one.start c_s_l1Cur_one.L ((c0_code, c0_at, c0_seed), n1, ()) = s_l1Cur_one c0_code c0_at c0_seed n1 := by kernel_rfl
noncomputable def F_s_l1Cur_one : Ins c_s_l1Cur_one.ins → Option (Bool × (List Int × Int × Int)) := fun x => s_l1Cur_one x.1.1 x.1.2.1 x.1.2.2 x.2.1
noncomputable def S_s_l1Cur_one : FSpec := mkF c_s_l1Cur_one.env.pre c_s_l1Cur_one.ins c_s_l1Cur_one.out c_s_l1Cur_one.inj F_s_l1Cur_one
theorem h_s_l1Cur_one : Cert Tryd.prog 44 S_s_l1Cur_one := FnCx.certF (c := c_s_l1Cur_one) F_s_l1Cur_one (tyOk _ _ _) (spOk ⟨h_s_l1Cur_pick, fun _ _ h => h, trivial⟩) (fun _ _ _ _ _ hs => noDr_ok) Tryd.func44 rfl rfl Tryd.ntmps44 (by kernel_rfl) rfl rfl (fun _ => rfl) trivial (fun x => .inl ⟨c_s_l1Cur_one.start () x, fun _ => rfl⟩) (fun x t hb ht => by
  obtain ⟨⟨c0_code, c0_at, c0_seed⟩, n1, _⟩ := x
  exact (s_l1Cur_one_e c0_code c0_at c0_seed n1).trans ht)
/-! (*spec.l1Cur).pace -/
noncomputable def c_s_l1Cur_pace : FnCx := { env := env 10 [(44, S_s_l1Cur_one), (38, S_s_l1Cur_among), (37, S_s_l1Cur_pick)] [], body := bodyOf Tryd.f30, res := [.tmp 2], ins := [.ptr 48 ksl1Cur], out := [(kint, true)], T := Int × (List Int × Int × Int), fin := fun r => (r.1.1, r.2.1), inj := fun t => ((t.1, ()), (t.2, ())), pts := [], fuel := 400, dr := noDr }
noncomputable def s_l1Cur_pace (c0_code : List Int) (c0_at : Int) (c0_seed : Int) : Option (Int × (List Int × Int × Int)) :=
  Option.bind (s_l1Cur_one c0_code c0_at c0_seed 14) fun r =>
    bif Prod.fst r then
      Option.bind (s_l1Cur_among (Prod.fst (Prod.snd r)) (Prod.fst (Prod.snd (Prod.snd r))) (Prod.snd (Prod.snd (Prod.snd r))) [-1, 20, 21, 4611686018427387904])
        fun r => some (Prod.fst r, Prod.fst (Prod.snd r), Prod.fst (Prod.snd (Prod.snd r)), Prod.snd (Prod.snd (Prod.snd r)))
    else
      Option.bind (s_l1Cur_pick (Prod.fst (Prod.snd r)) (Prod.fst (Prod.snd (Prod.snd r))) (Prod.snd (Prod.snd (Prod.snd r))) 7) fun r =>
        some (Prod.fst r, Prod.fst (Prod.snd r), Prod.fst (Prod.snd (Prod.snd r)), Prod.snd (Prod.snd (Prod.snd r)))
theorem s_l1Cur_pace_e (c0_code : List Int) (c0_at : Int) (c0_seed : Int) : c_s_l1Cur_pace.start c_s_l1Cur_pace.L ((c0_code, c0_at, c0_seed), ()) = s_l1Cur_pace c0_code c0_at c0_seed := by kernel_rfl
noncomputable def F_s_l1Cur_pace : Ins c_s_l1Cur_pace.ins → Option (Int × (List Int × Int × Int)) := fun x => s_l1Cur_pace x.1.1 x.1.2.1 x.1.2.2
noncomputable def S_s_l1Cur_pace : FSpec := mkF c_s_l1Cur_pace.env.pre c_s_l1Cur_pace.ins c_s_l1Cur_pace.out c_s_l1Cur_pace.inj F_s_l1Cur_pace
theorem h_s_l1Cur_pace : Cert Tryd.prog 30 S_s_l1Cur_pace := FnCx.certF (c := c_s_l1Cur_pace) F_s_l1Cur_pace (tyOk _ _ _) (spOk ⟨h_s_l1Cur_one, fun _ _ h => h, ⟨h_s_l1Cur_among, fun _ _ h => h, ⟨h_s_l1Cur_pick, fun _ _ h => h, trivial⟩⟩⟩) (fun _ _ _ _ _ hs => noDr_ok) Tryd.func30 rfl rfl Tryd.ntmps30 (by kernel_rfl) rfl rfl (fun _ => rfl) trivial (fun x => .inl ⟨c_s_l1Cur_pace.start () x, fun _ => rfl⟩) (fun x t hb ht => by
  obtain ⟨⟨c0_code, c0_at, c0_seed⟩, _⟩ := x
  exact (s_l1Cur_pace_e c0_code c0_at c0_seed).trans ht)
/-! spec.DrawMeetTime -/
noncomputable def c_s_DrawMeetTime : FnCx := { env := env 19 [(29, S_s_l1Cur_moving), (30, S_s_l1Cur_pace)] [], body := bodyOf Tryd.f5, res := [.cell 2 25, .tmp 3, .tmp 4], ins := [.ro kSuint8], out := [(kMoving, true), (kint, true), (kint, true)], T := (Int × Int) × Int × Int, fin := fun r => (r.1.1, r.1.2.1, r.1.2.2.1), inj := fun t => ((t.1, t.2.1, t.2.2, ()), ((), ())), pts := [], fuel := 400, dr := evDr (env 19 [(29, S_s_l1Cur_moving), (30, S_s_l1Cur_pace)] []) }
noncomputable def s_DrawMeetTime (code0 : List Int) : Option ((Int × Int) × Int × Int) :=
  Option.bind (s_l1Cur_moving code0 0 0) fun r =>
    Option.bind (s_l1Cur_pace (Prod.fst (Prod.snd r)) (Prod.fst (Prod.snd (Prod.snd r))) (Prod.snd (Prod.snd (Prod.snd r)))) fun r_1 =>
      Option.bind (s_l1Cur_pace (Prod.fst (Prod.snd r_1)) (Prod.fst (Prod.snd (Prod.snd r_1))) (Prod.snd (Prod.snd (Prod.snd r_1)))) fun r_2 =>
        some ((Prod.fst (Prod.fst r), Prod.snd (Prod.fst r)), Prod.fst r_1, Prod.fst r_2)
theorem s_DrawMeetTime_e (code0 : List Int) : c_s_DrawMeetTime.start c_s_DrawMeetTime.L (code0, ()) = s_DrawMeetTime code0 := by kernel_rfl
noncomputable def F_s_DrawMeetTime : Ins c_s_DrawMeetTime.ins → Option ((Int × Int) × Int × Int) := fun x => s_DrawMeetTime x.1
noncomputable def S_s_DrawMeetTime : FSpec := mkF c_s_DrawMeetTime.env.pre c_s_DrawMeetTime.ins c_s_DrawMeetTime.out c_s_DrawMeetTime.inj F_s_DrawMeetTime
theorem h_s_DrawMeetTime : Cert Tryd.prog 5 S_s_DrawMeetTime := FnCx.certF (c := c_s_DrawMeetTime) F_s_DrawMeetTime (tyOk _ _ _) (spOk ⟨h_s_l1Cur_moving, fun _ _ h => h, ⟨h_s_l1Cur_pace, fun _ _ h => h, trivial⟩⟩) (fun _ _ _ _ _ hs => evDr_ok (tyOk _ _ _) hs follows) Tryd.func5 rfl rfl Tryd.ntmps5 (by kernel_rfl) rfl rfl (fun _ => rfl) trivial (fun x => .inl ⟨c_s_DrawMeetTime.start () x, fun _ => rfl⟩) (fun x t hb ht => by
  obtain ⟨code0, _⟩ := x
  exact (s_DrawMeetTime_e code0).trans ht)
/-! spec.DrawCatchUp -/
noncomputable def c_s_DrawCatchUp : FnCx := { env := env 25 [(29, S_s_l1Cur_moving), (30, S_s_l1Cur_pace), (37, S_s_l1Cur_pick), (38, S_s_l1Cur_among)] [], body := bodyOf Tryd.f13, res := [.cell 2 25, .tmp 3, .tmp 4, .tmp 5], ins := [.ro kSuint8], out := [(kMoving, true), (kint, true), (kint, true), (kint, true)], T := (Int × Int) × Int × Int × Int, fin := fun r => (r.1.1, r.1.2.1, r.1.2.2.1, r.1.2.2.2.1), inj := fun t => ((t.1, t.2.1, t.2.2.1, t.2.2.2, ()), ((), ())), pts := [], fuel := 400, dr := evDr (env 25 [(29, S_s_l1Cur_moving), (30, S_s_l1Cur_pace), (37, S_s_l1Cur_pick), (38, S_s_l1Cur_among)] []) }
noncomputable def s_DrawCatchUp (code0 : List Int) : Option ((Int × Int) × Int × Int × Int) :=
  Option.bind (s_l1Cur_moving code0 0 0) fun r =>
    Option.bind (s_l1Cur_pace (Prod.fst (Prod.snd r)) (Prod.fst (Prod.snd (Prod.snd r))) (Prod.snd (Prod.snd (Prod.snd r)))) fun r_1 =>
      Option.bind (s_l1Cur_pick (Prod.fst (Prod.snd r_1)) (Prod.fst (Prod.snd (Prod.snd r_1))) (Prod.snd (Prod.snd (Prod.snd r_1))) 4) fun r_2 =>
        Option.bind
          (s_l1Cur_among (Prod.fst (Prod.snd r_2)) (Prod.fst (Prod.snd (Prod.snd r_2))) (Prod.snd (Prod.snd (Prod.snd r_2))) [0, 1, 2, 4, 7, 1000, 1001, -1])
          fun r_3 => some ((Prod.fst (Prod.fst r), Prod.snd (Prod.fst r)), Prod.fst r_1, IntKind.wrap IntKind.i64 (Prod.fst r_1 + Prod.fst r_2), Prod.fst r_3)
theorem s_DrawCatchUp_e (code0 : List Int) : c_s_DrawCatchUp.start c_s_DrawCatchUp.L (code0, ()) = s_DrawCatchUp code0 := by kernel_rfl
noncomputable def F_s_DrawCatchUp : Ins c_s_DrawCatchUp.ins → Option ((Int × Int) × Int × Int × Int) := fun x => s_DrawCatchUp x.1
noncomputable def S_s_DrawCatchUp : FSpec := mkF c_s_DrawCatchUp.env.pre c_s_DrawCatchUp.ins c_s_DrawCatchUp.out c_s_DrawCatchUp.inj F_s_DrawCatchUp
theorem h_s_DrawCatchUp : Cert Tryd.prog 13 S_s_DrawCatchUp := FnCx.certF (c := c_s_DrawCatchUp) F_s_DrawCatchUp (tyOk _ _ _) (spOk ⟨h_s_l1Cur_moving, fun _ _ h => h, ⟨h_s_l1Cur_pace, fun _ _ h => h, ⟨h_s_l1Cur_pick, fun _ _ h => h, ⟨h_s_l1Cur_among, fun _ _ h => h, trivial⟩⟩⟩⟩) (fun _ _ _ _ _ hs => evDr_ok (tyOk _ _ _) hs follows) Tryd.func13 rfl rfl Tryd.ntmps13 (by kernel_rfl) rfl rfl (fun _ => rfl) trivial (fun x => .inl ⟨c_s_DrawCatchUp.start () x, fun _ => rfl⟩) (fun x t hb ht => by
  obtain ⟨code0, _⟩ := x
  exact (s_DrawCatchUp_e code0).trans ht)
/-! spec.DrawRailLead -/
noncomputable def c_s_DrawRailLead : FnCx := { env := env 31 [(29, S_s_l1Cur_moving), (40, S_s_l1Least), (37, S_s_l1Cur_pick)] [], body := bodyOf Tryd.f16, res := [.cell 2 25, .tmp 3, .tmp 4], ins := [.ro kSuint8], out := [(kMoving, true), (kint, true), (kint, true)], T := (Int × Int) × Int × Int, fin := fun r => (r.1.1, r.1.2.1, r.1.2.2.1), inj := fun t => ((t.1, t.2.1, t.2.2, ()), ((), ())), pts := [], fuel := 400, dr := evDr (env 31 [(29, S_s_l1Cur_moving), (40, S_s_l1Least), (37, S_s_l1Cur_pick)] []) }
noncomputable def s_DrawRailLead (code0 : List Int) : Option ((Int × Int) × Int × Int) :=
  Option.bind (s_l1Cur_moving code0 0 0) fun r =>
    Option.bind (s_l1Cur_pick (Prod.fst (Prod.snd r)) (Prod.fst (Prod.snd (Prod.snd r))) (Prod.snd (Prod.snd (Prod.snd r))) 5) fun r_1 =>
      Option.bind (s_l1Cur_pick (Prod.fst (Prod.snd r_1)) (Prod.fst (Prod.snd (Prod.snd r_1))) (Prod.snd (Prod.snd (Prod.snd r_1))) 9) fun r_2 =>
        Option.bind (s_l1Cur_pick (Prod.fst (Prod.snd r_2)) (Prod.fst (Prod.snd (Prod.snd r_2))) (Prod.snd (Prod.snd (Prod.snd r_2))) 4) fun r_3 =>
          Option.bind (s_l1Cur_pick (Prod.fst (Prod.snd r_3)) (Prod.fst (Prod.snd (Prod.snd r_3))) (Prod.snd (Prod.snd (Prod.snd r_3))) 9) fun r_4 =>
            some
              ((Prod.fst (Prod.fst r), Prod.snd (Prod.fst r)),
                IntKind.wrap IntKind.i64
                  (IntKind.wrap IntKind.i64 (s_l1Least (Prod.snd (Prod.fst r)) 30 + Prod.fst r_1) - IntKind.wrap IntKind.i64 (Int.tdiv (Prod.fst r_2) 8)),
                IntKind.wrap IntKind.i64 (Prod.fst r_3 - IntKind.wrap IntKind.i64 (Int.tdiv (Prod.fst r_4) 8)))
theorem s_DrawRailLead_e (code0 : List Int) : c_s_DrawRailLead.start c_s_DrawRailLead.L (code0, ()) = s_DrawRailLead code0 := by kernel_rfl
noncomputable def F_s_DrawRailLead : Ins c_s_DrawRailLead.ins → Option ((Int × Int) × Int × Int) := fun x => s_DrawRailLead x.1
noncomputable def S_s_DrawRailLead : FSpec := mkF c_s_DrawRailLead.env.pre c_s_DrawRailLead.ins c_s_DrawRailLead.out c_s_DrawRailLead.inj F_s_DrawRailLead
theorem h_s_DrawRailLead : Cert Tryd.prog 16 S_s_DrawRailLead := FnCx.certF (c := c_s_DrawRailLead) F_s_DrawRailLead (tyOk _ _ _) (spOk ⟨h_s_l1Cur_moving, fun _ _ h => h, ⟨h_s_l1Least, fun _ _ h => h, ⟨h_s_l1Cur_pick, fun _ _ h => h, trivial⟩⟩⟩) (fun _ _ _ _ _ hs => evDr_ok (tyOk _ _ _) hs follows) Tryd.func16 rfl rfl Tryd.ntmps16 (by kernel_rfl) rfl rfl (fun _ => rfl) trivial (fun x => .inl ⟨c_s_DrawRailLead.start () x, fun _ => rfl⟩) (fun x t hb ht => by
  obtain ⟨code0, _⟩ := x
  exact (s_DrawRailLead_e code0).trans ht)
/-! spec.DrawFullHouse -/
noncomputable def c_s_DrawFullHouse : FnCx := { env := env 15 [(29, S_s_l1Cur_moving), (38, S_s_l1Cur_among)] [], body := bodyOf Tryd.f19, res := [.cell 2 25, .tmp 3], ins := [.ro kSuint8], out := [(kMoving, true), (kint, true)], T := (Int × Int) × Int, fin := fun r => (r.1.1, r.1.2.1), inj := fun t => ((t.1, t.2, ()), ((), ())), pts := [], fuel := 400, dr := evDr (env 15 [(29, S_s_l1Cur_moving), (38, S_s_l1Cur_among)] []) }
noncomputable def s_DrawFullHouse (code0 : List Int) : Option ((Int × Int) × Int) :=
  Option.bind (s_l1Cur_moving code0 0 0) fun r =>
    Option.bind (s_l1Cur_among (Prod.fst (Prod.snd r)) (Prod.fst (Prod.snd (Prod.snd r))) (Prod.snd (Prod.snd (Prod.snd r))) [1, 2, 3, 5, 6, 0]) fun r_1 =>
      some ((Prod.fst (Prod.fst r), Prod.snd (Prod.fst r)), Prod.fst r_1)
theorem s_DrawFullHouse_e (code0 : List Int) : c_s_DrawFullHouse.start c_s_DrawFullHouse.L (code0, ()) = s_DrawFullHouse code0 := by kernel_rfl
noncomputable def F_s_DrawFullHouse : Ins c_s_DrawFullHouse.ins → Option ((Int × Int) × Int) := fun x => s_DrawFullHouse x.1
noncomputable def S_s_DrawFullHouse : FSpec := mkF c_s_DrawFullHouse.env.pre c_s_DrawFullHouse.ins c_s_DrawFullHouse.out c_s_DrawFullHouse.inj F_s_DrawFullHouse
theorem h_s_DrawFullHouse : Cert Tryd.prog 19 S_s_DrawFullHouse := FnCx.certF (c := c_s_DrawFullHouse) F_s_DrawFullHouse (tyOk _ _ _) (spOk ⟨h_s_l1Cur_moving, fun _ _ h => h, ⟨h_s_l1Cur_among, fun _ _ h => h, trivial⟩⟩) (fun _ _ _ _ _ hs => evDr_ok (tyOk _ _ _) hs follows) Tryd.func19 rfl rfl Tryd.ntmps19 (by kernel_rfl) rfl rfl (fun _ => rfl) trivial (fun x => .inl ⟨c_s_DrawFullHouse.start () x, fun _ => rfl⟩) (fun x t hb ht => by
  obtain ⟨code0, _⟩ := x
  exact (s_DrawFullHouse_e code0).trans ht)
/-! spec.DrawPlaceAt -/
noncomputable def c_s_DrawPlaceAt : FnCx := { env := env 20 [(29, S_s_l1Cur_moving), (30, S_s_l1Cur_pace), (38, S_s_l1Cur_among)] [], body := bodyOf Tryd.f22, res := [.cell 2 25, .tmp 3, .tmp 4], ins := [.ro kSuint8], out := [(kMoving, true), (kint, true), (kint, true)], T := (Int × Int) × Int × Int, fin := fun r => (r.1.1, r.1.2.1, r.1.2.2.1), inj := fun t => ((t.1, t.2.1, t.2.2, ()), ((), ())), pts := [], fuel := 400, dr := evDr (env 20 [(29, S_s_l1Cur_moving), (30, S_s_l1Cur_pace), (38, S_s_l1Cur_among)] []) }
noncomputable def s_DrawPlaceAt (code0 : List Int) : Option ((Int × Int) × Int × Int) :=
  Option.bind (s_l1Cur_moving code0 0 0) fun r =>
    Option.bind (s_l1Cur_pace (Prod.fst (Prod.snd r)) (Prod.fst (Prod.snd (Prod.snd r))) (Prod.snd (Prod.snd (Prod.snd r)))) fun r_1 =>
      Option.bind
        (s_l1Cur_among (Prod.fst (Prod.snd r_1)) (Prod.fst (Prod.snd (Prod.snd r_1))) (Prod.snd (Prod.snd (Prod.snd r_1))) [0, 1, 2, 5, 7, 20, 1000, 1001, -1])
        fun r_2 => some ((Prod.fst (Prod.fst r), Prod.snd (Prod.fst r)), Prod.fst r_1, Prod.fst r_2)
theorem s_DrawPlaceAt_e (code0 : List Int) : c_s_DrawPlaceAt.start c_s_DrawPlaceAt.L (code0, ()) = s_DrawPlaceAt code0 := by kernel_rfl
noncomputable def F_s_DrawPlaceAt : Ins c_s_DrawPlaceAt.ins → Option ((Int × Int) × Int × Int) := fun x => s_DrawPlaceAt x.1
noncomputable def S_s_DrawPlaceAt : FSpec := mkF c_s_DrawPlaceAt.env.pre c_s_DrawPlaceAt.ins c_s_DrawPlaceAt.out c_s_DrawPlaceAt.inj F_s_DrawPlaceAt
theorem h_s_DrawPlaceAt : Cert Tryd.prog 22 S_s_DrawPlaceAt := FnCx.certF (c := c_s_DrawPlaceAt) F_s_DrawPlaceAt (tyOk _ _ _) (spOk ⟨h_s_l1Cur_moving, fun _ _ h => h, ⟨h_s_l1Cur_pace, fun _ _ h => h, ⟨h_s_l1Cur_among, fun _ _ h => h, trivial⟩⟩⟩) (fun _ _ _ _ _ hs => evDr_ok (tyOk _ _ _) hs follows) Tryd.func22 rfl rfl Tryd.ntmps22 (by kernel_rfl) rfl rfl (fun _ => rfl) trivial (fun x => .inl ⟨c_s_DrawPlaceAt.start () x, fun _ => rfl⟩) (fun x t hb ht => by
  obtain ⟨code0, _⟩ := x
  exact (s_DrawPlaceAt_e code0).trans ht)
/-! (*spec.l1Cur).spoilt -/
noncomputable def c_s_l1Cur_spoilt : FnCx := { env := env 68 [(37, S_s_l1Cur_pick)] [], body := bodyOf Tryd.f45, res := [.tmp 6], ins := [.ptr 48 ksl1Cur, .ro kstring, .ro kstring], out := [(kstring, true)], T := ByteArray × (List Int × Int × Int), fin := fun r => (r.1.1, r.2.1), inj := fun t => ((t.1, ()), (t.2, (), (), ())), pts := [([.inLoop [1, 0, 1, 0, 0], .inBlock 0, .code [1, 1]], Shape.mk [Bs.box 48 [Cs.sl 1, Cs.sc kint, Cs.sc kuint64], Bs.row kuint8 5 false] [(0, Ss.one (Cs.ptr 0 0)), (1, Ss.one (Cs.sc kstring)), (2, Ss.one (Cs.sc kstring)), (7, Ss.one (Cs.sc kint))] [Ss.one (Cs.ptr 0 0), Ss.one (Cs.any), Ss.one (Cs.any)])], fuel := 400, dr := evDr (env 68 [(37, S_s_l1Cur_pick)] []) }
noncomputable def s_l1Cur_spoilt_t1 (g1 : Int → Int → List (Int) → ByteArray → ByteArray → Int → Option (ByteArray × (List Int × Int × Int))) (b0_1 : Int) (b0_2 : Int) (r1 : List (Int)) (t1 : ByteArray) (with2 : ByteArray) (n7 : Int) : Option (ByteArray × (List Int × Int × Int)) :=
  bif decide (n7 > 0) then
    bif decide ((↑(ByteArray.size t1) : Int) > 0) then
      Option.bind (s_l1Cur_pick r1 b0_1 b0_2 (↑(ByteArray.size t1) : Int)) fun r =>
        Option.bind (s_l1Cur_pick (Prod.fst (Prod.snd r)) (Prod.fst (Prod.snd (Prod.snd r))) (Prod.snd (Prod.snd (Prod.snd r))) (↑(ByteArray.size with2) : Int))
          fun r_1 =>
          bif decide (0 ≤ Prod.fst r_1) then
            bif decide (Prod.fst r_1 < (↑(ByteArray.size with2) : Int)) then
              Option.bind (s_l1Cur_pick (Prod.fst (Prod.snd r_1)) (Prod.fst (Prod.snd (Prod.snd r_1))) (Prod.snd (Prod.snd (Prod.snd r_1))) 3) fun r_2 =>
                bif Prod.fst r_2 == 0 then
                  bif decide (0 ≤ Prod.fst r) then
                    bif decide (Prod.fst r ≤ (↑(ByteArray.size t1) : Int)) then
                      bif
                          Nat.ble
                            (ByteArray.size (ByteArray.extract t1 (Int.toNat 0) (Int.toNat (Prod.fst r))) +
                              ByteArray.size (List.foldl (fun r n => ByteArray.push r (UInt8.ofNat (Int.toNat n))) ByteArray.empty [bt with2 (Prod.fst r_1)]))
                            9223372036854775807 then
                        bif decide (0 ≤ Prod.fst r) then
                          bif decide (Prod.fst r ≤ (↑(ByteArray.size t1) : Int)) then
                            bif
                                Nat.ble
                                  (ByteArray.size
                                      (ByteArray.extract t1 (Int.toNat 0) (Int.toNat (Prod.fst r)) ++
                                        List.foldl (fun r n => ByteArray.push r (UInt8.ofNat (Int.toNat n))) ByteArray.empty [bt with2 (Prod.fst r_1)]) +
                                    ByteArray.size (ByteArray.extract t1 (Int.toNat (Prod.fst r)) (Int.toNat (↑(ByteArray.size t1) : Int))))
                                  9223372036854775807 then
                              g1 (Prod.fst (Prod.snd (Prod.snd r_2))) (Prod.snd (Prod.snd (Prod.snd r_2))) (Prod.fst (Prod.snd r_2))
                                (ByteArray.extract t1 (Int.toNat 0) (Int.toNat (Prod.fst r)) ++
                                    List.foldl (fun r n => ByteArray.push r (UInt8.ofNat (Int.toNat n))) ByteArray.empty [bt with2 (Prod.fst r_1)] ++
                                  ByteArray.extract t1 (Int.toNat (Prod.fst r)) (Int.toNat (↑(ByteArray.size t1) : Int)))
                                with2 (IntKind.wrap IntKind.i64 (n7 - 1))
                            else none
                          else none
                        else none
                      else none
                    else none
                  else none
                else
                  bif Prod.fst r_2 == 1 then
                    bif decide (0 ≤ Prod.fst r) then
                      bif decide (Prod.fst r ≤ (↑(ByteArray.size t1) : Int)) then
                        bif
                            Nat.ble
                              (ByteArray.size (ByteArray.extract t1 (Int.toNat 0) (Int.toNat (Prod.fst r))) +
                                ByteArray.size (List.foldl (fun r n => ByteArray.push r (UInt8.ofNat (Int.toNat n))) ByteArray.empty [bt with2 (Prod.fst r_1)]))
                              9223372036854775807 then
                          bif decide (0 ≤ IntKind.wrap IntKind.i64 (Prod.fst r + 1)) then
                            bif decide (IntKind.wrap IntKind.i64 (Prod.fst r + 1) ≤ (↑(ByteArray.size t1) : Int)) then
                              bif
                                  Nat.ble
                                    (ByteArray.size
                                        (ByteArray.extract t1 (Int.toNat 0) (Int.toNat (Prod.fst r)) ++
                                          List.foldl (fun r n => ByteArray.push r (UInt8.ofNat (Int.toNat n))) ByteArray.empty [bt with2 (Prod.fst r_1)]) +
                                      ByteArray.size
                                        (ByteArray.extract t1 (Int.toNat (IntKind.wrap IntKind.i64 (Prod.fst r + 1))) (Int.toNat (↑(ByteArray.size t1) : Int))))
                                    9223372036854775807 then
                                g1 (Prod.fst (Prod.snd (Prod.snd r_2))) (Prod.snd (Prod.snd (Prod.snd r_2))) (Prod.fst (Prod.snd r_2))
                                  (ByteArray.extract t1 (Int.toNat 0) (Int.toNat (Prod.fst r)) ++
                                      List.foldl (fun r n => ByteArray.push r (UInt8.ofNat (Int.toNat n))) ByteArray.empty [bt with2 (Prod.fst r_1)] ++
                                    ByteArray.extract t1 (Int.toNat (IntKind.wrap IntKind.i64 (Prod.fst r + 1))) (Int.toNat (↑(ByteArray.size t1) : Int)))
                                  with2 (IntKind.wrap IntKind.i64 (n7 - 1))
                              else none
                            else none
                          else none
                        else none
                      else none
                    else none
                  else
                    bif decide (0 ≤ Prod.fst r) then
                      bif decide (Prod.fst r ≤ (↑(ByteArray.size t1) : Int)) then
                        bif decide (0 ≤ IntKind.wrap IntKind.i64 (Prod.fst r + 1)) then
                          bif decide (IntKind.wrap IntKind.i64 (Prod.fst r + 1) ≤ (↑(ByteArray.size t1) : Int)) then
                            bif
                                Nat.ble
                                  (ByteArray.size (ByteArray.extract t1 (Int.toNat 0) (Int.toNat (Prod.fst r))) +
                                    ByteArray.size
                                      (ByteArray.extract t1 (Int.toNat (IntKind.wrap IntKind.i64 (Prod.fst r + 1))) (Int.toNat (↑(ByteArray.size t1) : Int))))
                                  9223372036854775807 then
                              g1 (Prod.fst (Prod.snd (Prod.snd r_2))) (Prod.snd (Prod.snd (Prod.snd r_2))) (Prod.fst (Prod.snd r_2))
                                (ByteArray.extract t1 (Int.toNat 0) (Int.toNat (Prod.fst r)) ++
                                  ByteArray.extract t1 (Int.toNat (IntKind.wrap IntKind.i64 (Prod.fst r + 1))) (Int.toNat (↑(ByteArray.size t1) : Int)))
                                with2 (IntKind.wrap IntKind.i64 (n7 - 1))
                            else none
                          else none
                        else none
                      else none
                    else none
            else none
          else none
    else some (t1, r1, b0_1, b0_2)
  else some (t1, r1, b0_1, b0_2)
noncomputable def s_l1Cur_spoilt_t0 (g1 : Int → Int → List (Int) → ByteArray → ByteArray → Int → Option (ByteArray × (List Int × Int × Int))) (c0_code : List Int) (c0_at : Int) (c0_seed : Int) (t1 : ByteArray) (with2 : ByteArray) : Option (ByteArray × (List Int × Int × Int)) :=
  Option.bind (s_l1Cur_pick c0_code c0_at c0_seed 2) fun r =>
    g1 (Prod.fst (Prod.snd (Prod.snd r))) (Prod.snd (Prod.snd (Prod.snd r))) (Prod.fst (Prod.snd r)) t1 with2 (IntKind.wrap IntKind.i64 (1 + Prod.fst r))
theorem s_l1Cur_spoilt_ts : Tails c_s_l1Cur_spoilt.pts c_s_l1Cur_spoilt.round :=
  ⟨fun s => by
    obtain ⟨⟨⟨_, b0_1, b0_2, _⟩, r1, _⟩, ⟨_, t1, with2, n7, _⟩, ⟨_, _, _, _⟩⟩ := s
    refine Tail.eq (Y := fun g => s_l1Cur_spoilt_t1 (fun b0_1 b0_2 r1 t1 with2 n7 => g.1 ((((), b0_1, b0_2, ()), r1, ()), ((), t1, with2, n7, ()), ((), (), (), ()))) b0_1 b0_2 r1 t1 with2 n7) ?_ (fun g => by kernel_rfl)
    simp only [s_l1Cur_spoilt_t1]; repeat (first | apply Tail.cond | (apply Tail.bind; intro _) | exact Tail.here _ | exact Tail.there (Tail.here _) | exact Tail.there (Tail.there (Tail.here _)) | exact Tail.there (Tail.there (Tail.there (Tail.here _))) | exact Tail.there (Tail.there (Tail.there (Tail.there (Tail.here _)))) | exact Tail.there (Tail.there (Tail.there (Tail.there (Tail.there (Tail.here _))))) | exact Tail.const _), trivial⟩
theorem s_l1Cur_spoilt_hs : ∀ x, Tail c_s_l1Cur_spoilt.pts (fun g => c_s_l1Cur_spoilt.start g x) := fun x => by
    obtain ⟨⟨c0_code, c0_at, c0_seed⟩, t1, with2, _⟩ := x
    refine Tail.eq (Y := fun g => s_l1Cur_spoilt_t0 (fun b0_1 b0_2 r1 t1 with2 n7 => g.1 ((((), b0_1, b0_2, ()), r1, ()), ((), t1, with2, n7, ()), ((), (), (), ()))) c0_code c0_at c0_seed t1 with2) ?_ (fun g => by kernel_rfl)
    simp only [s_l1Cur_spoilt_t0]; repeat (first | apply Tail.cond | (apply Tail.bind; intro _) | exact Tail.here _ | exact Tail.there (Tail.here _) | exact Tail.there (Tail.there (Tail.here _)) | exact Tail.there (Tail.there (Tail.there (Tail.here _))) | exact Tail.there (Tail.there (Tail.there (Tail.there (Tail.here _)))) | exact Tail.there (Tail.there (Tail.there (Tail.there (Tail.there (Tail.here _))))) | exact Tail.const _)
noncomputable def s_l1Cur_spoilt_L1 (b0_1 : Int) (b0_2 : Int) (r1 : List (Int)) (t1 : ByteArray) (with2 : ByteArray) (n7 : Int) : Option (ByteArray × (List Int × Int × Int)) := c_s_l1Cur_spoilt.L.1 ((((), b0_1, b0_2, ()), r1, ()), ((), t1, with2, n7, ()), ((), (), (), ()))
theorem s_l1Cur_spoilt_u1 (b0_1 : Int) (b0_2 : Int) (r1 : List (Int)) (t1 : ByteArray) (with2 : ByteArray) (n7 : Int) : s_l1Cur_spoilt_L1 b0_1 b0_2 r1 t1 with2 n7 = s_l1Cur_spoilt_t1 s_l1Cur_spoilt_L1 b0_1 b0_2 r1 t1 with2 n7 :=
  (congrArg (fun g => g.1 ((((), b0_1, b0_2, ()), r1, ()), ((), t1, with2, n7, ()), ((), (), (), ()))) (FnCx.L_eq s_l1Cur_spoilt_ts)).trans (by kernel_rfl)
noncomputable def s_l1Cur_spoilt (c0_code : List Int) (c0_at : Int) (c0_seed : Int) (t1 : ByteArray) (with2 : ByteArray) : Option (ByteArray × (List Int × Int × Int)) := s_l1Cur_spoilt_t0 s_l1Cur_spoilt_L1 c0_code c0_at c0_seed t1 with2
theorem s_l1Cur_spoilt_e (c0_code : List Int) (c0_at : Int) (c0_seed : Int) (t1 : ByteArray) (with2 : ByteArray) : c_s_l1Cur_spoilt.start c_s_l1Cur_spoilt.L ((c0_code, c0_at, c0_seed), t1, with2, ()) = s_l1Cur_spoilt c0_code c0_at c0_seed t1 with2 := by kernel_rfl
noncomputable def F_s_l1Cur_spoilt : Ins c_s_l1Cur_spoilt.ins → Option (ByteArray × (List Int × Int × Int)) := fun x => s_l1Cur_spoilt x.1.1 x.1.2.1 x.1.2.2 x.2.1 x.2.2.1
noncomputable def S_s_l1Cur_spoilt : FSpec := mkF c_s_l1Cur_spoilt.env.pre c_s_l1Cur_spoilt.ins c_s_l1Cur_spoilt.out c_s_l1Cur_spoilt.inj F_s_l1Cur_spoilt
theorem h_s_l1Cur_spoilt : Cert Tryd.prog 45 S_s_l1Cur_spoilt := FnCx.certF (c := c_s_l1Cur_spoilt) F_s_l1Cur_spoilt (tyOk _ _ _) (spOk ⟨h_s_l1Cur_pick, fun _ _ h => h, trivial⟩) (fun _ _ _ _ _ hs => evDr_ok (tyOk _ _ _) hs follows) Tryd.func45 rfl rfl Tryd.ntmps45 (by kernel_rfl) rfl rfl (fun _ => rfl) s_l1Cur_spoilt_ts s_l1Cur_spoilt_hs (fun x t hb ht => by
  obtain ⟨⟨c0_code, c0_at, c0_seed⟩, t1, with2, _⟩ := x
  exact (s_l1Cur_spoilt_e c0_code c0_at c0_seed t1 with2).trans ht)
/-! spec.DrawParseMoving -/
noncomputable def c_s_DrawParseMoving : FnCx := { env := env 17 [(43, S_s_l1Cur_sureMoving), (42, S_s_moText), (44, S_s_l1Cur_one), (45, S_s_l1Cur_spoilt)] [], body := bodyOf Tryd.f24, res := [.tmp 2], ins := [.ro kSuint8], out := [(kstring, true)], T := ByteArray, fin := fun r => r.1.1, inj := fun t => ((t, ()), ((), ())), pts := [], fuel := 400, dr := noDr }
noncomputable def s_DrawParseMoving (code0 : List Int) : Option ByteArray :=
  Option.bind (s_l1Cur_sureMoving code0 0 0) fun r =>
    Option.bind (s_moText (Prod.fst (Prod.fst r)) (Prod.snd (Prod.fst r))) fun r_1 =>
      Option.bind (s_l1Cur_one (Prod.fst (Prod.snd r)) (Prod.fst (Prod.snd (Prod.snd r))) (Prod.snd (Prod.snd (Prod.snd r))) 3) fun r =>
        bif Prod.fst r then
          Option.bind
            (s_l1Cur_spoilt (Prod.fst (Prod.snd r)) (Prod.fst (Prod.snd (Prod.snd r))) (Prod.snd (Prod.snd (Prod.snd r))) r_1
              { data := #[48, 49, 50, 51, 118, 120] })
            fun r => some (Prod.fst r)
        else some r_1
theorem s_DrawParseMoving_e (code0 : List Int) : c_s_DrawParseMoving.start c_s_DrawParseMoving.L (code0, ()) = s_DrawParseMoving code0 := by kernel_rfl
noncomputable def F_s_DrawParseMoving : Ins c_s_DrawParseMoving.ins → Option ByteArray := fun x => s_DrawParseMoving x.1
noncomputable def S_s_DrawParseMoving : FSpec := mkF c_s_DrawParseMoving.env.pre c_s_DrawParseMoving.ins c_s_DrawParseMoving.out c_s_DrawParseMoving.inj F_s_DrawParseMoving
theorem h_s_DrawParseMoving : Cert Tryd.prog 24 S_s_DrawParseMoving := FnCx.certF (c := c_s_DrawParseMoving) F_s_DrawParseMoving (tyOk _ _ _) (spOk ⟨h_s_l1Cur_sureMoving, fun _ _ h => h, ⟨h_s_moText, fun _ _ h => h, ⟨h_s_l1Cur_one, fun _ _ h => h, ⟨h_s_l1Cur_spoilt, fun _ _ h => h, trivial⟩⟩⟩⟩) (fun _ _ _ _ _ hs => noDr_ok) Tryd.func24 rfl rfl Tryd.ntmps24 (by kernel_rfl) rfl rfl (fun _ => rfl) trivial (fun x => .inl ⟨c_s_DrawParseMoving.start () x, fun _ => rfl⟩) (fun x t hb ht => by
  obtain ⟨code0, _⟩ := x
  exact (s_DrawParseMoving_e code0).trans ht)
/-! laws.FnMovingMeet -/
noncomputable def c_w_FnMovingMeet : FnCx := { env := env 505 [(4, S_w_big), (5, S_s_DrawMeetTime), (6, S_i_MeetTime), (7, S_s_MeetTime), (8, S_i_MeetStep), (9, S_s_MeetStep), (10, S_w_lLow), (11, S_w_lIs), (12, S_i_PlaceAt), (13, S_s_DrawCatchUp), (14, S_i_CatchUp), (15, S_s_CatchUp), (16, S_s_DrawRailLead), (17, S_i_RailLead), (18, S_s_RailLead), (19, S_s_DrawFullHouse), (20, S_i_FullHouse), (21, S_s_FullHouse), (22, S_s_DrawPlaceAt), (23, S_s_PlaceAt), (24, S_s_DrawParseMoving), (25, S_i_ParseMoving), (26, S_s_ParseMoving), (27, S_i_TimeWith), (28, S_i_MovingText)] [], body := bodyOf Tryd.f3, res := [.tmp 4], ins := [.ro kSuint8, .ro kSuint8], out := [(kbool, true)], T := Bool, fin := fun r => r.1.1, inj := fun t => ((t, ()), ((), (), ())), pts := [([.code [1, 1, 1, 1, 1, 1, 1, 1, 1]], Shape.mk [Bs.row kuint8 5 false] [(1, Ss.one (Cs.sl 0))] [Ss.one (Cs.any), Ss.one (Cs.any)]), ([.code [1, 1, 1, 1, 1, 1, 1, 1, 1, 1, 1, 1, 1, 1, 1, 1, 1, 1, 1, 1, 1, 1, 1, 1, 1, 1]], Shape.mk [Bs.box 25 [Cs.sc kint, Cs.sc kint], Bs.box 25 [Cs.sc kint, Cs.sc kint], Bs.box 25 [Cs.sc kint, Cs.sc kint], Bs.box 25 [Cs.sc kint, Cs.sc kint]] [(35, Ss.one (Cs.ptr 0 0)), (36, Ss.one (Cs.sc kint)), (37, Ss.one (Cs.sc kint)), (38, Ss.one (Cs.sc kint)), (39, Ss.one (Cs.sc kint)), (40, Ss.one (Cs.sc kbool)), (44, Ss.one (Cs.ptr 1 0)), (45, Ss.one (Cs.sc kint)), (46, Ss.one (Cs.sc kint)), (47, Ss.one (Cs.sc kint)), (48, Ss.one (Cs.sc kbool)), (52, Ss.one (Cs.ptr 2 0)), (53, Ss.one (Cs.sc kint)), (54, Ss.one (Cs.sc kint)), (55, Ss.one (Cs.sc kint)), (56, Ss.one (Cs.sc kbool)), (59, Ss.one (Cs.sc kstring)), (60, Ss.one (Cs.ptr 3 0)), (61, Ss.one (Cs.sc kbool))] [Ss.one (Cs.any), Ss.one (Cs.any)]), ([.code [1, 1, 1, 1, 1, 1, 1, 1, 1, 1, 1, 1, 1, 1, 1, 1, 1, 1, 1, 1, 1, 1, 1, 1, 1, 1, 1]], Shape.mk [Bs.box 25 [Cs.sc kint, Cs.sc kint], Bs.box 25 [Cs.sc kint, Cs.sc kint], Bs.box 25 [Cs.sc kint, Cs.sc kint]] [(44, Ss.one (Cs.ptr 0 0)), (45, Ss.one (Cs.sc kint)), (46, Ss.one (Cs.sc kint)), (47, Ss.one (Cs.sc kint)), (48, Ss.one (Cs.sc kbool)), (52, Ss.one (Cs.ptr 1 0)), (53, Ss.one (Cs.sc kint)), (54, Ss.one (Cs.sc kint)), (55, Ss.one (Cs.sc kint)), (56, Ss.one (Cs.sc kbool)), (59, Ss.one (Cs.sc kstring)), (60, Ss.one (Cs.ptr 2 0)), (61, Ss.one (Cs.sc kbool))] [Ss.one (Cs.any), Ss.one (Cs.any)]), ([.code [1, 1, 1, 1, 1, 1, 1, 1, 1, 1, 1, 1, 1, 1, 1, 1, 1, 1, 1, 1, 1, 1, 1, 1, 1, 1, 1, 1]], Shape.mk [Bs.box 25 [Cs.sc kint, Cs.sc kint], Bs.box 25 [Cs.sc kint, Cs.sc kint]] [(52, Ss.one (Cs.ptr 0 0)), (53, Ss.one (Cs.sc kint)), (54, Ss.one (Cs.sc kint)), (55, Ss.one (Cs.sc kint)), (56, Ss.one (Cs.sc kbool)), (59, Ss.one (Cs.sc kstring)), (60, Ss.one (Cs.ptr 1 0)), (61, Ss.one (Cs.sc kbool))] [Ss.one (Cs.any), Ss.one (Cs.any)]), ([.code [1, 1, 1, 1, 1, 1, 1, 1, 1, 1, 1, 1, 1, 1, 1, 1, 1, 1, 1, 1, 1, 1, 1, 1, 1, 1, 1, 1, 1]], Shape.mk [Bs.box 25 [Cs.sc kint, Cs.sc kint]] [(59, Ss.one (Cs.sc kstring)), (60, Ss.one (Cs.ptr 0 0)), (61, Ss.one (Cs.sc kbool))] [Ss.one (Cs.any), Ss.one (Cs.any)])], fuel := 400, dr := noDr }
noncomputable def w_FnMovingMeet_t1 (g1 : List (Int) → Option (Bool)) (g2 : Int → Int → Int → Int → Int → Int → Int → Int → Int → Int → Int → Int → Bool → Int → Int → Int → Bool → Int → Int → Int → Bool → ByteArray → Bool → Option (Bool)) (g3 : Int → Int → Int → Int → Int → Int → Int → Int → Int → Bool → Int → Int → Int → Bool → ByteArray → Bool → Option (Bool)) (g4 : Int → Int → Int → Int → Int → Int → Int → Bool → ByteArray → Bool → Option (Bool)) (g5 : Int → Int → ByteArray → Bool → Option (Bool)) (r0 : List (Int)) : Option Bool :=
  Option.bind (s_DrawCatchUp r0) fun r =>
    Option.bind
      (i_CatchUp (Prod.fst (Prod.fst r)) (Prod.snd (Prod.fst r)) (Prod.fst (Prod.snd r)) (Prod.fst (Prod.snd (Prod.snd r))) (Prod.snd (Prod.snd (Prod.snd r))))
      fun r_1 =>
      Option.bind
        (s_CatchUp (Prod.fst (Prod.fst r)) (Prod.snd (Prod.fst r)) (Prod.fst (Prod.snd r)) (Prod.fst (Prod.snd (Prod.snd r))) (Prod.snd (Prod.snd (Prod.snd r))))
        fun r_2 =>
        Option.bind (s_DrawRailLead r0) fun r_3 =>
          Option.bind (i_RailLead (Prod.fst (Prod.fst r_3)) (Prod.snd (Prod.fst r_3)) (Prod.fst (Prod.snd r_3)) (Prod.snd (Prod.snd r_3))) fun r_4 =>
            Option.bind (s_RailLead (Prod.fst (Prod.fst r_3)) (Prod.snd (Prod.fst r_3)) (Prod.fst (Prod.snd r_3)) (Prod.snd (Prod.snd r_3))) fun r_5 =>
              Option.bind (s_DrawFullHouse r0) fun r_6 =>
                Option.bind (i_FullHouse (Prod.fst (Prod.fst r_6)) (Prod.snd (Prod.fst r_6)) (Prod.snd r_6)) fun r_7 =>
                  Option.bind (s_DrawPlaceAt r0) fun r_8 =>
                    Option.bind (s_DrawParseMoving r0) fun r_9 =>
                      Option.bind (i_ParseMoving r_9) fun r_10 =>
                        Option.bind (s_ParseMoving r_9) fun r_11 =>
                          bif !Prod.snd (Prod.snd r_1) == Prod.snd (Prod.snd r_2) then some false
                          else
                            bif Prod.fst r_1 != Prod.fst r_2 then some false
                            else
                              bif Prod.fst (Prod.snd r_1) != Prod.fst (Prod.snd r_2) then some false
                              else
                                bif !Prod.snd (Prod.snd r_4) == Prod.snd (Prod.snd r_5) then some false
                                else
                                  bif Prod.fst r_4 != Prod.fst r_5 then some false
                                  else
                                    bif Prod.fst (Prod.snd r_4) != Prod.fst (Prod.snd r_5) then some false
                                    else
                                      bif
                                          !Prod.snd (Prod.snd r_7) ==
                                              Prod.snd (Prod.snd (s_FullHouse (Prod.fst (Prod.fst r_6)) (Prod.snd (Prod.fst r_6)) (Prod.snd r_6))) then
                                        some false
                                      else
                                        bif Prod.fst r_7 != Prod.fst (s_FullHouse (Prod.fst (Prod.fst r_6)) (Prod.snd (Prod.fst r_6)) (Prod.snd r_6)) then
                                          some false
                                        else
                                          bif
                                              Prod.fst (Prod.snd r_7) !=
                                                Prod.fst (Prod.snd (s_FullHouse (Prod.fst (Prod.fst r_6)) (Prod.snd (Prod.fst r_6)) (Prod.snd r_6))) then
                                            some false
                                          else
                                            bif
                                                !Prod.snd
                                                      (i_PlaceAt (Prod.fst (Prod.fst r_8)) (Prod.snd (Prod.fst r_8)) (Prod.fst (Prod.snd r_8))
                                                        (Prod.snd (Prod.snd r_8))) ==
                                                    Prod.snd
                                                      (s_PlaceAt (Prod.fst (Prod.fst r_8)) (Prod.snd (Prod.fst r_8)) (Prod.fst (Prod.snd r_8))
                                                        (Prod.snd (Prod.snd r_8))) then
                                              some false
                                            else
                                              bif
                                                  Prod.fst
                                                      (i_PlaceAt (Prod.fst (Prod.fst r_8)) (Prod.snd (Prod.fst r_8)) (Prod.fst (Prod.snd r_8))
                                                        (Prod.snd (Prod.snd r_8))) !=
                                                    Prod.fst
                                                      (s_PlaceAt (Prod.fst (Prod.fst r_8)) (Prod.snd (Prod.fst r_8)) (Prod.fst (Prod.snd r_8))
                                                        (Prod.snd (Prod.snd r_8))) then
                                                some false
                                              else
                                                bif !Prod.snd r_10 == Prod.snd r_11 then some false
                                                else
                                                  bif
                                                      !(Prod.fst (Prod.fst r_10) == Prod.fst (Prod.fst r_11) &&
                                                          Prod.snd (Prod.fst r_10) == Prod.snd (Prod.fst r_11)) then
                                                    some false
                                                  else
                                                    bif Prod.snd (Prod.snd r_1) then
                                                      Option.bind (i_TimeWith (Prod.fst (Prod.fst r)) (Prod.snd (Prod.fst r)) (Prod.fst (Prod.snd r))) fun r_12 =>
                                                        Option.bind
                                                          (w_lIs (Prod.fst r_1) (Prod.fst (Prod.snd r_1))
                                                            (IntKind.wrap IntKind.i64
                                                              (IntKind.wrap IntKind.i64 (Prod.snd (Prod.fst r) + Prod.fst (Prod.snd (Prod.snd r))) *
                                                                Prod.snd (Prod.snd (Prod.snd r))))
                                                            (IntKind.wrap IntKind.i64 (Prod.fst (Prod.snd (Prod.snd r)) - Prod.fst (Prod.snd r))))
                                                          fun r_13 =>
                                                          bif !r_13 then some false
                                                          else
                                                            bif
                                                                decide
                                                                  (IntKind.wrap IntKind.i64
                                                                      (IntKind.wrap IntKind.i64 (Prod.snd (Prod.fst r) + Prod.fst (Prod.snd r)) * Prod.fst r_1) >
                                                                    IntKind.wrap IntKind.i64 (Prod.fst (Prod.fst r) * Prod.fst (Prod.snd r_1))) then
                                                              some false
                                                            else
                                                              bif decide (IntKind.wrap IntKind.i64 (Prod.snd (Prod.fst r) + Prod.fst (Prod.snd r)) > 0) then
                                                                bif !Prod.snd (Prod.snd r_12) then some false
                                                                else
                                                                  bif
                                                                      decide
                                                                        (IntKind.wrap IntKind.i64 (Prod.fst r_1 * Prod.fst (Prod.snd r_12)) >
                                                                          IntKind.wrap IntKind.i64 (Prod.fst r_12 * Prod.fst (Prod.snd r_1))) then
                                                                    some false
                                                                  else
                                                                    g2 (Prod.fst (Prod.fst r_3)) (Prod.snd (Prod.fst r_3)) (Prod.fst (Prod.fst r_6))
                                                                      (Prod.snd (Prod.fst r_6)) (Prod.fst (Prod.fst r_8)) (Prod.snd (Prod.fst r_8))
                                                                      (Prod.fst (Prod.fst r_10)) (Prod.snd (Prod.fst r_10)) (Prod.fst (Prod.snd r_3))
                                                                      (Prod.snd (Prod.snd r_3)) (Prod.fst r_4) (Prod.fst (Prod.snd r_4)) (Prod.snd (Prod.snd r_4))
                                                                      (Prod.snd r_6) (Prod.fst r_7) (Prod.fst (Prod.snd r_7)) (Prod.snd (Prod.snd r_7))
                                                                      (Prod.fst (Prod.snd r_8)) (Prod.snd (Prod.snd r_8))
                                                                      (Prod.fst
                                                                        (i_PlaceAt (Prod.fst (Prod.fst r_8)) (Prod.snd (Prod.fst r_8)) (Prod.fst (Prod.snd r_8))
                                                                          (Prod.snd (Prod.snd r_8))))
                                                                      (Prod.snd
                                                                        (i_PlaceAt (Prod.fst (Prod.fst r_8)) (Prod.snd (Prod.fst r_8)) (Prod.fst (Prod.snd r_8))
                                                                          (Prod.snd (Prod.snd r_8))))
                                                                      r_9 (Prod.snd r_10)
                                                              else
                                                                g2 (Prod.fst (Prod.fst r_3)) (Prod.snd (Prod.fst r_3)) (Prod.fst (Prod.fst r_6))
                                                                  (Prod.snd (Prod.fst r_6)) (Prod.fst (Prod.fst r_8)) (Prod.snd (Prod.fst r_8))
                                                                  (Prod.fst (Prod.fst r_10)) (Prod.snd (Prod.fst r_10)) (Prod.fst (Prod.snd r_3))
                                                                  (Prod.snd (Prod.snd r_3)) (Prod.fst r_4) (Prod.fst (Prod.snd r_4)) (Prod.snd (Prod.snd r_4))
                                                                  (Prod.snd r_6) (Prod.fst r_7) (Prod.fst (Prod.snd r_7)) (Prod.snd (Prod.snd r_7))
                                                                  (Prod.fst (Prod.snd r_8)) (Prod.snd (Prod.snd r_8))
                                                                  (Prod.fst
                                                                    (i_PlaceAt (Prod.fst (Prod.fst r_8)) (Prod.snd (Prod.fst r_8)) (Prod.fst (Prod.snd r_8))
                                                                      (Prod.snd (Prod.snd r_8))))
                                                                  (Prod.snd
                                                                    (i_PlaceAt (Prod.fst (Prod.fst r_8)) (Prod.snd (Prod.fst r_8)) (Prod.fst (Prod.snd r_8))
                                                                      (Prod.snd (Prod.snd r_8))))
                                                                  r_9 (Prod.snd r_10)
                                                    else
                                                      g2 (Prod.fst (Prod.fst r_3)) (Prod.snd (Prod.fst r_3)) (Prod.fst (Prod.fst r_6)) (Prod.snd (Prod.fst r_6))
                                                        (Prod.fst (Prod.fst r_8)) (Prod.snd (Prod.fst r_8)) (Prod.fst (Prod.fst r_10)) (Prod.snd (Prod.fst r_10))
                                                        (Prod.fst (Prod.snd r_3)) (Prod.snd (Prod.snd r_3)) (Prod.fst r_4) (Prod.fst (Prod.snd r_4))
                                                        (Prod.snd (Prod.snd r_4)) (Prod.snd r_6) (Prod.fst r_7) (Prod.fst (Prod.snd r_7))
                                                        (Prod.snd (Prod.snd r_7)) (Prod.fst (Prod.snd r_8)) (Prod.snd (Prod.snd r_8))
                                                        (Prod.fst
                                                          (i_PlaceAt (Prod.fst (Prod.fst r_8)) (Prod.snd (Prod.fst r_8)) (Prod.fst (Prod.snd r_8))
                                                            (Prod.snd (Prod.snd r_8))))
                                                        (Prod.snd
                                                          (i_PlaceAt (Prod.fst (Prod.fst r_8)) (Prod.snd (Prod.fst r_8)) (Prod.fst (Prod.snd r_8))
                                                            (Prod.snd (Prod.snd r_8))))
                                                        r_9 (Prod.snd r_10)
noncomputable def w_FnMovingMeet_t2 (g1 : List (Int) → Option (Bool)) (g2 : Int → Int → Int → Int → Int → Int → Int → Int → Int → Int → Int → Int → Bool → Int → Int → Int → Bool → Int → Int → Int → Bool → ByteArray → Bool → Option (Bool)) (g3 : Int → Int → Int → Int → Int → Int → Int → Int → Int → Bool → Int → Int → Int → Bool → ByteArray → Bool → Option (Bool)) (g4 : Int → Int → Int → Int → Int → Int → Int → Bool → ByteArray → Bool → Option (Bool)) (g5 : Int → Int → ByteArray → Bool → Option (Bool)) (b0_0 : Int) (b0_1 : Int) (b1_0 : Int) (b1_1 : Int) (b2_0 : Int) (b2_1 : Int) (b3_0 : Int) (b3_1 : Int) (rail36 : Int) (pace37 : Int) (lead38 : Int) (b39 : Int) (five40 : Bool) (each45 : Int) (full46 : Int) (d47 : Int) (seven48 : Bool) (walk53 : Int) (at54 : Int) (place55 : Int) (nine56 : Bool) (s59 : ByteArray) (eleven61 : Bool) : Option Bool :=
  bif five40 then
    Option.bind (i_TimeWith b0_0 b0_1 pace37) fun r =>
      bif !Prod.snd (Prod.snd r) then some false
      else
        Option.bind
          (w_lIs lead38 b39 (IntKind.wrap IntKind.i64 (IntKind.wrap IntKind.i64 (IntKind.wrap IntKind.i64 (rail36 - b0_1) - pace37) * Prod.fst r))
            (Prod.fst (Prod.snd r)))
          fun r => bif !r then some false else g3 b1_0 b1_1 b2_0 b2_1 b3_0 b3_1 each45 full46 d47 seven48 walk53 at54 place55 nine56 s59 eleven61
  else g3 b1_0 b1_1 b2_0 b2_1 b3_0 b3_1 each45 full46 d47 seven48 walk53 at54 place55 nine56 s59 eleven61
noncomputable def w_FnMovingMeet_t3 (g1 : List (Int) → Option (Bool)) (g2 : Int → Int → Int → Int → Int → Int → Int → Int → Int → Int → Int → Int → Bool → Int → Int → Int → Bool → Int → Int → Int → Bool → ByteArray → Bool → Option (Bool)) (g3 : Int → Int → Int → Int → Int → Int → Int → Int → Int → Bool → Int → Int → Int → Bool → ByteArray → Bool → Option (Bool)) (g4 : Int → Int → Int → Int → Int → Int → Int → Bool → ByteArray → Bool → Option (Bool)) (g5 : Int → Int → ByteArray → Bool → Option (Bool)) (b0_0 : Int) (b0_1 : Int) (b1_0 : Int) (b1_1 : Int) (b2_0 : Int) (b2_1 : Int) (each45 : Int) (full46 : Int) (d47 : Int) (seven48 : Bool) (walk53 : Int) (at54 : Int) (place55 : Int) (nine56 : Bool) (s59 : ByteArray) (eleven61 : Bool) : Option Bool :=
  bif seven48 then
    bif d47 != 1 then some false
    else
      bif full46 != IntKind.wrap IntKind.i64 (IntKind.wrap IntKind.i64 (60 * b0_1) * each45) then some false
      else g4 b1_0 b1_1 b2_0 b2_1 walk53 at54 place55 nine56 s59 eleven61
  else g4 b1_0 b1_1 b2_0 b2_1 walk53 at54 place55 nine56 s59 eleven61
noncomputable def w_FnMovingMeet_t4 (g1 : List (Int) → Option (Bool)) (g2 : Int → Int → Int → Int → Int → Int → Int → Int → Int → Int → Int → Int → Bool → Int → Int → Int → Bool → Int → Int → Int → Bool → ByteArray → Bool → Option (Bool)) (g3 : Int → Int → Int → Int → Int → Int → Int → Int → Int → Bool → Int → Int → Int → Bool → ByteArray → Bool → Option (Bool)) (g4 : Int → Int → Int → Int → Int → Int → Int → Bool → ByteArray → Bool → Option (Bool)) (g5 : Int → Int → ByteArray → Bool → Option (Bool)) (b0_0 : Int) (b0_1 : Int) (b1_0 : Int) (b1_1 : Int) (walk53 : Int) (at54 : Int) (place55 : Int) (nine56 : Bool) (s59 : ByteArray) (eleven61 : Bool) : Option Bool :=
  bif nine56 then
    bif decide (place55 < 0) then some false
    else
      bif decide (place55 > b0_0) then some false
      else
        bif decide (place55 < b0_0) then
          bif place55 != IntKind.wrap IntKind.i64 (IntKind.wrap IntKind.i64 (b0_1 + walk53) * at54) then some false else g5 b1_0 b1_1 s59 eleven61
        else g5 b1_0 b1_1 s59 eleven61
  else g5 b1_0 b1_1 s59 eleven61
noncomputable def w_FnMovingMeet_t5 (g1 : List (Int) → Option (Bool)) (g2 : Int → Int → Int → Int → Int → Int → Int → Int → Int → Int → Int → Int → Bool → Int → Int → Int → Bool → Int → Int → Int → Bool → ByteArray → Bool → Option (Bool)) (g3 : Int → Int → Int → Int → Int → Int → Int → Int → Int → Bool → Int → Int → Int → Bool → ByteArray → Bool → Option (Bool)) (g4 : Int → Int → Int → Int → Int → Int → Int → Bool → ByteArray → Bool → Option (Bool)) (g5 : Int → Int → ByteArray → Bool → Option (Bool)) (b0_0 : Int) (b0_1 : Int) (s59 : ByteArray) (eleven61 : Bool) : Option Bool :=
  bif eleven61 then Option.bind (i_MovingText b0_0 b0_1) fun r => bif Prod.snd r then some (ByteArray.toList (Prod.fst r) == ByteArray.toList s59) else some false
  else some true
noncomputable def w_FnMovingMeet_t0 (g1 : List (Int) → Option (Bool)) (g2 : Int → Int → Int → Int → Int → Int → Int → Int → Int → Int → Int → Int → Bool → Int → Int → Int → Bool → Int → Int → Int → Bool → ByteArray → Bool → Option (Bool)) (g3 : Int → Int → Int → Int → Int → Int → Int → Int → Int → Bool → Int → Int → Int → Bool → ByteArray → Bool → Option (Bool)) (g4 : Int → Int → Int → Int → Int → Int → Int → Bool → ByteArray → Bool → Option (Bool)) (g5 : Int → Int → ByteArray → Bool → Option (Bool)) (code0 : List Int) (more1 : List Int) : Option Bool :=
  bif w_big code0 more1 then some true
  else
    Option.bind (s_DrawMeetTime code0) fun r =>
      Option.bind (i_MeetTime (Prod.fst (Prod.fst r)) (Prod.snd (Prod.fst r)) (Prod.fst (Prod.snd r)) (Prod.snd (Prod.snd r))) fun r_1 =>
        Option.bind (s_MeetTime (Prod.fst (Prod.fst r)) (Prod.snd (Prod.fst r)) (Prod.fst (Prod.snd r)) (Prod.snd (Prod.snd r))) fun r_2 =>
          Option.bind (i_MeetStep (Prod.fst (Prod.fst r)) (Prod.snd (Prod.fst r)) (Prod.fst (Prod.snd r)) (Prod.snd (Prod.snd r))) fun r_3 =>
            Option.bind (s_MeetStep (Prod.fst (Prod.fst r)) (Prod.snd (Prod.fst r)) (Prod.fst (Prod.snd r)) (Prod.snd (Prod.snd r))) fun r_4 =>
              bif !Prod.snd (Prod.snd r_1) == Prod.snd (Prod.snd r_2) then some false
              else
                bif Prod.fst r_1 != Prod.fst r_2 then some false
                else
                  bif Prod.fst (Prod.snd r_1) != Prod.fst (Prod.snd r_2) then some false
                  else
                    bif !Prod.snd (Prod.snd r_3) == Prod.snd (Prod.snd r_4) then some false
                    else
                      bif Prod.fst r_3 != Prod.fst r_4 then some false
                      else
                        bif Prod.fst (Prod.snd r_3) != Prod.fst (Prod.snd r_4) then some false
                        else
                          bif !Prod.snd (Prod.snd r_3) == Prod.snd (Prod.snd r_1) then some false
                          else
                            bif Prod.snd (Prod.snd r_1) then
                              Option.bind (i_MeetStep (Prod.fst (Prod.fst r)) (Prod.snd (Prod.fst r)) (Prod.snd (Prod.snd r)) (Prod.fst (Prod.snd r))) fun r_5 =>
                                Option.bind (w_lLow (Prod.fst r_1) (Prod.fst (Prod.snd r_1))) fun r_6 =>
                                  bif !r_6 then some false
                                  else
                                    Option.bind
                                      (w_lIs (Prod.fst r_3) (Prod.fst (Prod.snd r_3))
                                        (IntKind.wrap IntKind.i64 (IntKind.wrap IntKind.i64 (Prod.snd (Prod.fst r) + Prod.fst (Prod.snd r)) * Prod.fst r_1))
                                        (Prod.fst (Prod.snd r_1)))
                                      fun r_7 =>
                                      bif !r_7 then some false
                                      else
                                        bif !Prod.snd (Prod.snd r_5) then some false
                                        else
                                          bif
                                              IntKind.wrap IntKind.i64
                                                  (IntKind.wrap IntKind.i64 (Prod.fst r_3 * Prod.fst (Prod.snd r_5)) +
                                                    IntKind.wrap IntKind.i64 (Prod.fst r_5 * Prod.fst (Prod.snd r_3))) !=
                                                IntKind.wrap IntKind.i64
                                                  (IntKind.wrap IntKind.i64 (Prod.fst (Prod.fst r) * Prod.fst (Prod.snd r_3)) * Prod.fst (Prod.snd r_5)) then
                                            some false
                                          else
                                            bif Prod.fst (Prod.snd r_1) == 1 then
                                              bif decide (Prod.fst r_1 ≤ 1000) then
                                                bif
                                                    !Prod.snd
                                                        (i_PlaceAt (Prod.fst (Prod.fst r)) (Prod.snd (Prod.fst r)) (Prod.fst (Prod.snd r)) (Prod.fst r_1)) then
                                                  some false
                                                else
                                                  Option.bind
                                                    (w_lIs (Prod.fst r_3) (Prod.fst (Prod.snd r_3))
                                                      (Prod.fst
                                                        (i_PlaceAt (Prod.fst (Prod.fst r)) (Prod.snd (Prod.fst r)) (Prod.fst (Prod.snd r)) (Prod.fst r_1)))
                                                      1)
                                                    fun r => bif !r then some false else g1 more1
                                              else g1 more1
                                            else g1 more1
                            else g1 more1
theorem w_FnMovingMeet_ts : Tails c_w_FnMovingMeet.pts c_w_FnMovingMeet.round :=
  ⟨fun s => by
    obtain ⟨⟨r0, _⟩, ⟨_, _⟩, ⟨_, _, _⟩⟩ := s
    refine Tail.eq (Y := fun g => w_FnMovingMeet_t1 (fun r0 => g.1 ((r0, ()), ((), ()), ((), (), ()))) (fun b0_0 b0_1 b1_0 b1_1 b2_0 b2_1 b3_0 b3_1 rail36 pace37 lead38 b39 five40 each45 full46 d47 seven48 walk53 at54 place55 nine56 s59 eleven61 => g.2.1 (((b0_0, b0_1, ()), (b1_0, b1_1, ()), (b2_0, b2_1, ()), (b3_0, b3_1, ()), ()), ((), rail36, pace37, lead38, b39, five40, (), each45, full46, d47, seven48, (), walk53, at54, place55, nine56, s59, (), eleven61, ()), ((), (), ()))) (fun b0_0 b0_1 b1_0 b1_1 b2_0 b2_1 each45 full46 d47 seven48 walk53 at54 place55 nine56 s59 eleven61 => g.2.2.1 (((b0_0, b0_1, ()), (b1_0, b1_1, ()), (b2_0, b2_1, ()), ()), ((), each45, full46, d47, seven48, (), walk53, at54, place55, nine56, s59, (), eleven61, ()), ((), (), ()))) (fun b0_0 b0_1 b1_0 b1_1 walk53 at54 place55 nine56 s59 eleven61 => g.2.2.2.1 (((b0_0, b0_1, ()), (b1_0, b1_1, ()), ()), ((), walk53, at54, place55, nine56, s59, (), eleven61, ()), ((), (), ()))) (fun b0_0 b0_1 s59 eleven61 => g.2.2.2.2.1 (((b0_0, b0_1, ()), ()), (s59, (), eleven61, ()), ((), (), ()))) r0) ?_ (fun g => by kernel_rfl)
    simp only [w_FnMovingMeet_t1]; repeat (first | apply Tail.cond | (apply Tail.bind; intro _) | exact Tail.here _ | exact Tail.there (Tail.here _) | exact Tail.there (Tail.there (Tail.here _)) | exact Tail.there (Tail.there (Tail.there (Tail.here _))) | exact Tail.there (Tail.there (Tail.there (Tail.there (Tail.here _)))) | exact Tail.there (Tail.there (Tail.there (Tail.there (Tail.there (Tail.here _))))) | exact Tail.const _),
  fun s => by
    obtain ⟨⟨⟨b0_0, b0_1, _⟩, ⟨b1_0, b1_1, _⟩, ⟨b2_0, b2_1, _⟩, ⟨b3_0, b3_1, _⟩, _⟩, ⟨_, rail36, pace37, lead38, b39, five40, _, each45, full46, d47, seven48, _, walk53, at54, place55, nine56, s59, _, eleven61, _⟩, ⟨_, _, _⟩⟩ := s
    refine Tail.eq (Y := fun g => w_FnMovingMeet_t2 (fun r0 => g.1 ((r0, ()), ((), ()), ((), (), ()))) (fun b0_0 b0_1 b1_0 b1_1 b2_0 b2_1 b3_0 b3_1 rail36 pace37 lead38 b39 five40 each45 full46 d47 seven48 walk53 at54 place55 nine56 s59 eleven61 => g.2.1 (((b0_0, b0_1, ()), (b1_0, b1_1, ()), (b2_0, b2_1, ()), (b3_0, b3_1, ()), ()), ((), rail36, pace37, lead38, b39, five40, (), each45, full46, d47, seven48, (), walk53, at54, place55, nine56, s59, (), eleven61, ()), ((), (), ()))) (fun b0_0 b0_1 b1_0 b1_1 b2_0 b2_1 each45 full46 d47 seven48 walk53 at54 place55 nine56 s59 eleven61 => g.2.2.1 (((b0_0, b0_1, ()), (b1_0, b1_1, ()), (b2_0, b2_1, ()), ()), ((), each45, full46, d47, seven48, (), walk53, at54, place55, nine56, s59, (), eleven61, ()), ((), (), ()))) (fun b0_0 b0_1 b1_0 b1_1 walk53 at54 place55 nine56 s59 eleven61 => g.2.2.2.1 (((b0_0, b0_1, ()), (b1_0, b1_1, ()), ()), ((), walk53, at54, place55, nine56, s59, (), eleven61, ()), ((), (), ()))) (fun b0_0 b0_1 s59 eleven61 => g.2.2.2.2.1 (((b0_0, b0_1, ()), ()), (s59, (), eleven61, ()), ((), (), ()))) b0_0 b0_1 b1_0 b1_1 b2_0 b2_1 b3_0 b3_1 rail36 pace37 lead38 b39 five40 each45 full46 d47 seven48 walk53 at54 place55 nine56 s59 eleven61) ?_ (fun g => by kernel_rfl)
    simp only [w_FnMovingMeet_t2]; repeat (first | apply Tail.cond | (apply Tail.bind; intro _) | exact Tail.here _ | exact Tail.there (Tail.here _) | exact Tail.there (Tail.there (Tail.here _)) | exact Tail.there (Tail.there (Tail.there (Tail.here _))) | exact Tail.there (Tail.there (Tail.there (Tail.there (Tail.here _)))) | exact Tail.there (Tail.there (Tail.there (Tail.there (Tail.there (Tail.here _))))) | exact Tail.const _),
  fun s => by
    obtain ⟨⟨⟨b0_0, b0_1, _⟩, ⟨b1_0, b1_1, _⟩, ⟨b2_0, b2_1, _⟩, _⟩, ⟨_, each45, full46, d47, seven48, _, walk53, at54, place55, nine56, s59, _, eleven61, _⟩, ⟨_, _, _⟩⟩ := s
    refine Tail.eq (Y := fun g => w_FnMovingMeet_t3 (fun r0 => g.1 ((r0, ()), ((), ()), ((), (), ()))) (fun b0_0 b0_1 b1_0 b1_1 b2_0 b2_1 b3_0 b3_1 rail36 pace37 lead38 b39 five40 each45 full46 d47 seven48 walk53 at54 place55 nine56 s59 eleven61 => g.2.1 (((b0_0, b0_1, ()), (b1_0, b1_1, ()), (b2_0, b2_1, ()), (b3_0, b3_1, ()), ()), ((), rail36, pace37, lead38, b39, five40, (), each45, full46, d47, seven48, (), walk53, at54, place55, nine56, s59, (), eleven61, ()), ((), (), ()))) (fun b0_0 b0_1 b1_0 b1_1 b2_0 b2_1 each45 full46 d47 seven48 walk53 at54 place55 nine56 s59 eleven61 => g.2.2.1 (((b0_0, b0_1, ()), (b1_0, b1_1, ()), (b2_0, b2_1, ()), ()), ((), each45, full46, d47, seven48, (), walk53, at54, place55, nine56, s59, (), eleven61, ()), ((), (), ()))) (fun b0_0 b0_1 b1_0 b1_1 walk53 at54 place55 nine56 s59 eleven61 => g.2.2.2.1 (((b0_0, b0_1, ()), (b1_0, b1_1, ()), ()), ((), walk53, at54, place55, nine56, s59, (), eleven61, ()), ((), (), ()))) (fun b0_0 b0_1 s59 eleven61 => g.2.2.2.2.1 (((b0_0, b0_1, ()), ()), (s59, (), eleven61, ()), ((), (), ()))) b0_0 b0_1 b1_0 b1_1 b2_0 b2_1 each45 full46 d47 seven48 walk53 at54 place55 nine56 s59 eleven61) ?_ (fun g => by kernel_rfl)
    simp only [w_FnMovingMeet_t3]; repeat (first | apply Tail.cond | (apply Tail.bind; intro _) | exact Tail.here _ | exact Tail.there (Tail.here _) | exact Tail.there (Tail.there (Tail.here _)) | exact Tail.there (Tail.there (Tail.there (Tail.here _))) | exact Tail.there (Tail.there (Tail.there (Tail.there (Tail.here _)))) | exact Tail.there (Tail.there (Tail.there (Tail.there (Tail.there (Tail.here _))))) | exact Tail.const _),
  fun s => by
    obtain ⟨⟨⟨b0_0, b0_1, _⟩, ⟨b1_0, b1_1, _⟩, _⟩, ⟨_, walk53, at54, place55, nine56, s59, _, eleven61, _⟩, ⟨_, _, _⟩⟩ := s
    refine Tail.eq (Y := fun g => w_FnMovingMeet_t4 (fun r0 => g.1 ((r0, ()), ((), ()), ((), (), ()))) (fun b0_0 b0_1 b1_0 b1_1 b2_0 b2_1 b3_0 b3_1 rail36 pace37 lead38 b39 five40 each45 full46 d47 seven48 walk53 at54 place55 nine56 s59 eleven61 => g.2.1 (((b0_0, b0_1, ()), (b1_0, b1_1, ()), (b2_0, b2_1, ()), (b3_0, b3_1, ()), ()), ((), rail36, pace37, lead38, b39, five40, (), each45, full46, d47, seven48, (), walk53, at54, place55, nine56, s59, (), eleven61, ()), ((), (), ()))) (fun b0_0 b0_1 b1_0 b1_1 b2_0 b2_1 each45 full46 d47 seven48 walk53 at54 place55 nine56 s59 eleven61 => g.2.2.1 (((b0_0, b0_1, ()), (b1_0, b1_1, ()), (b2_0, b2_1, ()), ()), ((), each45, full46, d47, seven48, (), walk53, at54, place55, nine56, s59, (), eleven61, ()), ((), (), ()))) (fun b0_0 b0_1 b1_0 b1_1 walk53 at54 place55 nine56 s59 eleven61 => g.2.2.2.1 (((b0_0, b0_1, ()), (b1_0, b1_1, ()), ()), ((), walk53, at54, place55, nine56, s59, (), eleven61, ()), ((), (), ()))) (fun b0_0 b0_1 s59 eleven61 => g.2.2.2.2.1 (((b0_0, b0_1, ()), ()), (s59, (), eleven61, ()), ((), (), ()))) b0_0 b0_1 b1_0 b1_1 walk53 at54 place55 nine56 s59 eleven61) ?_ (fun g => by kernel_rfl)
    simp only [w_FnMovingMeet_t4]; repeat (first | apply Tail.cond | (apply Tail.bind; intro _) | exact Tail.here _ | exact Tail.there (Tail.here _) | exact Tail.there (Tail.there (Tail.here _)) | exact Tail.there (Tail.there (Tail.there (Tail.here _))) | exact Tail.there (Tail.there (Tail.there (Tail.there (Tail.here _)))) | exact Tail.there (Tail.there (Tail.there (Tail.there (Tail.there (Tail.here _))))) | exact Tail.const _),
  fun s => by
    obtain ⟨⟨⟨b0_0, b0_1, _⟩, _⟩, ⟨s59, _, eleven61, _⟩, ⟨_, _, _⟩⟩ := s
    refine Tail.eq (Y := fun g => w_FnMovingMeet_t5 (fun r0 => g.1 ((r0, ()), ((), ()), ((), (), ()))) (fun b0_0 b0_1 b1_0 b1_1 b2_0 b2_1 b3_0 b3_1 rail36 pace37 lead38 b39 five40 each45 full46 d47 seven48 walk53 at54 place55 nine56 s59 eleven61 => g.2.1 (((b0_0, b0_1, ()), (b1_0, b1_1, ()), (b2_0, b2_1, ()), (b3_0, b3_1, ()), ()), ((), rail36, pace37, lead38, b39, five40, (), each45, full46, d47, seven48, (), walk53, at54, place55, nine56, s59, (), eleven61, ()), ((), (), ()))) (fun b0_0 b0_1 b1_0 b1_1 b2_0 b2_1 each45 full46 d47 seven48 walk53 at54 place55 nine56 s59 eleven61 => g.2.2.1 (((b0_0, b0_1, ()), (b1_0, b1_1, ()), (b2_0, b2_1, ()), ()), ((), each45, full46, d47, seven48, (), walk53, at54, place55, nine56, s59, (), eleven61, ()), ((), (), ()))) (fun b0_0 b0_1 b1_0 b1_1 walk53 at54 place55 nine56 s59 eleven61 => g.2.2.2.1 (((b0_0, b0_1, ()), (b1_0, b1_1, ()), ()), ((), walk53, at54, place55, nine56, s59, (), eleven61, ()), ((), (), ()))) (fun b0_0 b0_1 s59 eleven61 => g.2.2.2.2.1 (((b0_0, b0_1, ()), ()), (s59, (), eleven61, ()), ((), (), ()))) b0_0 b0_1 s59 eleven61) ?_ (fun g => by kernel_rfl)
    simp only [w_FnMovingMeet_t5]; repeat (first | apply Tail.cond | (apply Tail.bind; intro _) | exact Tail.here _ | exact Tail.there (Tail.here _) | exact Tail.there (Tail.there (Tail.here _)) | exact Tail.there (Tail.there (Tail.there (Tail.here _))) | exact Tail.there (Tail.there (Tail.there (Tail.there (Tail.here _)))) | exact Tail.there (Tail.there (Tail.there (Tail.there (Tail.there (Tail.here _))))) | exact Tail.const _), trivial⟩
theorem w_FnMovingMeet_hs : ∀ x, Tail c_w_FnMovingMeet.pts (fun g => c_w_FnMovingMeet.start g x) := fun x => by
    obtain ⟨code0, more1, _⟩ := x
    refine Tail.eq (Y := fun g => w_FnMovingMeet_t0 (fun r0 => g.1 ((r0, ()), ((), ()), ((), (), ()))) (fun b0_0 b0_1 b1_0 b1_1 b2_0 b2_1 b3_0 b3_1 rail36 pace37 lead38 b39 five40 each45 full46 d47 seven48 walk53 at54 place55 nine56 s59 eleven61 => g.2.1 (((b0_0, b0_1, ()), (b1_0, b1_1, ()), (b2_0, b2_1, ()), (b3_0, b3_1, ()), ()), ((), rail36, pace37, lead38, b39, five40, (), each45, full46, d47, seven48, (), walk53, at54, place55, nine56, s59, (), eleven61, ()), ((), (), ()))) (fun b0_0 b0_1 b1_0 b1_1 b2_0 b2_1 each45 full46 d47 seven48 walk53 at54 place55 nine56 s59 eleven61 => g.2.2.1 (((b0_0, b0_1, ()), (b1_0, b1_1, ()), (b2_0, b2_1, ()), ()), ((), each45, full46, d47, seven48, (), walk53, at54, place55, nine56, s59, (), eleven61, ()), ((), (), ()))) (fun b0_0 b0_1 b1_0 b1_1 walk53 at54 place55 nine56 s59 eleven61 => g.2.2.2.1 (((b0_0, b0_1, ()), (b1_0, b1_1, ()), ()), ((), walk53, at54, place55, nine56, s59, (), eleven61, ()), ((), (), ()))) (fun b0_0 b0_1 s59 eleven61 => g.2.2.2.2.1 (((b0_0, b0_1, ()), ()), (s59, (), eleven61, ()), ((), (), ()))) code0 more1) ?_ (fun g => by kernel_rfl)
    simp only [w_FnMovingMeet_t0]; repeat (first | apply Tail.cond | (apply Tail.bind; intro _) | exact Tail.here _ | exact Tail.there (Tail.here _) | exact Tail.there (Tail.there (Tail.here _)) | exact Tail.there (Tail.there (Tail.there (Tail.here _))) | exact Tail.there (Tail.there (Tail.there (Tail.there (Tail.here _)))) | exact Tail.there (Tail.there (Tail.there (Tail.there (Tail.there (Tail.here _))))) | exact Tail.const _)
noncomputable def w_FnMovingMeet_L1 (r0 : List (Int)) : Option Bool := c_w_FnMovingMeet.L.1 ((r0, ()), ((), ()), ((), (), ()))
noncomputable def w_FnMovingMeet_L2 (b0_0 : Int) (b0_1 : Int) (b1_0 : Int) (b1_1 : Int) (b2_0 : Int) (b2_1 : Int) (b3_0 : Int) (b3_1 : Int) (rail36 : Int) (pace37 : Int) (lead38 : Int) (b39 : Int) (five40 : Bool) (each45 : Int) (full46 : Int) (d47 : Int) (seven48 : Bool) (walk53 : Int) (at54 : Int) (place55 : Int) (nine56 : Bool) (s59 : ByteArray) (eleven61 : Bool) : Option Bool := c_w_FnMovingMeet.L.2.1 (((b0_0, b0_1, ()), (b1_0, b1_1, ()), (b2_0, b2_1, ()), (b3_0, b3_1, ()), ()), ((), rail36, pace37, lead38, b39, five40, (), each45, full46, d47, seven48, (), walk53, at54, place55, nine56, s59, (), eleven61, ()), ((), (), ()))
noncomputable def w_FnMovingMeet_L3 (b0_0 : Int) (b0_1 : Int) (b1_0 : Int) (b1_1 : Int) (b2_0 : Int) (b2_1 : Int) (each45 : Int) (full46 : Int) (d47 : Int) (seven48 : Bool) (walk53 : Int) (at54 : Int) (place55 : Int) (nine56 : Bool) (s59 : ByteArray) (eleven61 : Bool) : Option Bool := c_w_FnMovingMeet.L.2.2.1 (((b0_0, b0_1, ()), (b1_0, b1_1, ()), (b2_0, b2_1, ()), ()), ((), each45, full46, d47, seven48, (), walk53, at54, place55, nine56, s59, (), eleven61, ()), ((), (), ()))
noncomputable def w_FnMovingMeet_L4 (b0_0 : Int) (b0_1 : Int) (b1_0 : Int) (b1_1 : Int) (walk53 : Int) (at54 : Int) (place55 : Int) (nine56 : Bool) (s59 : ByteArray) (eleven61 : Bool) : Option Bool := c_w_FnMovingMeet.L.2.2.2.1 (((b0_0, b0_1, ()), (b1_0, b1_1, ()), ()), ((), walk53, at54, place55, nine56, s59, (), eleven61, ()), ((), (), ()))
noncomputable def w_FnMovingMeet_L5 (b0_0 : Int) (b0_1 : Int) (s59 : ByteArray) (eleven61 : Bool) : Option Bool := c_w_FnMovingMeet.L.2.2.2.2.1 (((b0_0, b0_1, ()), ()), (s59, (), eleven61, ()), ((), (), ()))
theorem w_FnMovingMeet_u1 (r0 : List (Int)) : w_FnMovingMeet_L1 r0 = w_FnMovingMeet_t1 w_FnMovingMeet_L1 w_FnMovingMeet_L2 w_FnMovingMeet_L3 w_FnMovingMeet_L4 w_FnMovingMeet_L5 r0 :=
  (congrArg (fun g => g.1 ((r0, ()), ((), ()), ((), (), ()))) (FnCx.L_eq w_FnMovingMeet_ts)).trans (by kernel_rfl)
theorem w_FnMovingMeet_u2 (b0_0 : Int) (b0_1 : Int) (b1_0 : Int) (b1_1 : Int) (b2_0 : Int) (b2_1 : Int) (b3_0 : Int) (b3_1 : Int) (rail36 : Int) (pace37 : Int) (lead38 : Int) (b39 : Int) (five40 : Bool) (each45 : Int) (full46 : Int) (d47 : Int) (seven48 : Bool) (walk53 : Int) (at54 : Int) (place55 : Int) (nine56 : Bool) (s59 : ByteArray) (eleven61 : Bool) : w_FnMovingMeet_L2 b0_0 b0_1 b1_0 b1_1 b2_0 b2_1 b3_0 b3_1 rail36 pace37 lead38 b39 five40 each45 full46 d47 seven48 walk53 at54 place55 nine56 s59 eleven61 = w_FnMovingMeet_t2 w_FnMovingMeet_L1 w_FnMovingMeet_L2 w_FnMovingMeet_L3 w_FnMovingMeet_L4 w_FnMovingMeet_L5 b0_0 b0_1 b1_0 b1_1 b2_0 b2_1 b3_0 b3_1 rail36 pace37 lead38 b39 five40 each45 full46 d47 seven48 walk53 at54 place55 nine56 s59 eleven61 :=
  (congrArg (fun g => g.2.1 (((b0_0, b0_1, ()), (b1_0, b1_1, ()), (b2_0, b2_1, ()), (b3_0, b3_1, ()), ()), ((), rail36, pace37, lead38, b39, five40, (), each45, full46, d47, seven48, (), walk53, at54, place55, nine56, s59, (), eleven61, ()), ((), (), ()))) (FnCx.L_eq w_FnMovingMeet_ts)).trans (by kernel_rfl)
theorem w_FnMovingMeet_u3 (b0_0 : Int) (b0_1 : Int) (b1_0 : Int) (b1_1 : Int) (b2_0 : Int) (b2_1 : Int) (each45 : Int) (full46 : Int) (d47 : Int) (seven48 : Bool) (walk53 : Int) (at54 : Int) (place55 : Int) (nine56 : Bool) (s59 : ByteArray) (eleven61 : Bool) : w_FnMovingMeet_L3 b0_0 b0_1 b1_0 b1_1 b2_0 b2_1 each45 full46 d47 seven48 walk53 at54 place55 nine56 s59 eleven61 = w_FnMovingMeet_t3 w_FnMovingMeet_L1 w_FnMovingMeet_L2 w_FnMovingMeet_L3 w_FnMovingMeet_L4 w_FnMovingMeet_L5 b0_0 b0_1 b1_0 b1_1 b2_0 b2_1 each45 full46 d47 seven48 walk53 at54 place55 nine56 s59 eleven61 :=
  (congrArg (fun g => g.2.2.1 (((b0_0, b0_1, ()), (b1_0, b1_1, ()), (b2_0, b2_1, ()), ()), ((), each45, full46, d47, seven48, (), walk53, at54, place55, nine56, s59, (), eleven61, ()), ((), (), ()))) (FnCx.L_eq w_FnMovingMeet_ts)).trans (by kernel_rfl)
theorem w_FnMovingMeet_u4 (b0_0 : Int) (b0_1 : Int) (b1_0 : Int) (b1_1 : Int) (walk53 : Int) (at54 : Int) (place55 : Int) (nine56 : Bool) (s59 : ByteArray) (eleven61 : Bool) : w_FnMovingMeet_L4 b0_0 b0_1 b1_0 b1_1 walk53 at54 place55 nine56 s59 eleven61 = w_FnMovingMeet_t4 w_FnMovingMeet_L1 w_FnMovingMeet_L2 w_FnMovingMeet_L3 w_FnMovingMeet_L4 w_FnMovingMeet_L5 b0_0 b0_1 b1_0 b1_1 walk53 at54 place55 nine56 s59 eleven61 :=
  (congrArg (fun g => g.2.2.2.1 (((b0_0, b0_1, ()), (b1_0, b1_1, ()), ()), ((), walk53, at54, place55, nine56, s59, (), eleven61, ()), ((), (), ()))) (FnCx.L_eq w_FnMovingMeet_ts)).trans (by kernel_rfl)
theorem w_FnMovingMeet_u5 (b0_0 : Int) (b0_1 : Int) (s59 : ByteArray) (eleven61 : Bool) : w_FnMovingMeet_L5 b0_0 b0_1 s59 eleven61 = w_FnMovingMeet_t5 w_FnMovingMeet_L1 w_FnMovingMeet_L2 w_FnMovingMeet_L3 w_FnMovingMeet_L4 w_FnMovingMeet_L5 b0_0 b0_1 s59 eleven61 :=
  (congrArg (fun g => g.2.2.2.2.1 (((b0_0, b0_1, ()), ()), (s59, (), eleven61, ()), ((), (), ()))) (FnCx.L_eq w_FnMovingMeet_ts)).trans (by kernel_rfl)
noncomputable def w_FnMovingMeet (code0 : List Int) (more1 : List Int) : Option Bool := w_FnMovingMeet_t0 w_FnMovingMeet_L1 w_FnMovingMeet_L2 w_FnMovingMeet_L3 w_FnMovingMeet_L4 w_FnMovingMeet_L5 code0 more1
theorem w_FnMovingMeet_e (code0 : List Int) (more1 : List Int) : c_w_FnMovingMeet.start c_w_FnMovingMeet.L (code0, more1, ()) = w_FnMovingMeet code0 more1 := by kernel_rfl
noncomputable def F_w_FnMovingMeet : Ins c_w_FnMovingMeet.ins → Option Bool := fun x => w_FnMovingMeet x.1 x.2.1
noncomputable def S_w_FnMovingMeet : FSpec := mkF c_w_FnMovingMeet.env.pre c_w_FnMovingMeet.ins c_w_FnMovingMeet.out c_w_FnMovingMeet.inj F_w_FnMovingMeet
theorem h_w_FnMovingMeet : Cert Tryd.prog 3 S_w_FnMovingMeet := FnCx.certF (c := c_w_FnMovingMeet) F_w_FnMovingMeet (tyOk _ _ _) (spOk ⟨h_w_big, fun _ _ h => h, ⟨h_s_DrawMeetTime, fun _ _ h => h, ⟨h_i_MeetTime, fun _ _ h => h, ⟨h_s_MeetTime, fun _ _ h => h, ⟨h_i_MeetStep, fun _ _ h => h, ⟨h_s_MeetStep, fun _ _ h => h, ⟨h_w_lLow, fun _ _ h => h, ⟨h_w_lIs, fun _ _ h => h, ⟨h_i_PlaceAt, fun _ _ h => h, ⟨h_s_DrawCatchUp, fun _ _ h => h, ⟨h_i_CatchUp, fun _ _ h => h, ⟨h_s_CatchUp, fun _ _ h => h, ⟨h_s_DrawRailLead, fun _ _ h => h, ⟨h_i_RailLead, fun _ _ h => h, ⟨h_s_RailLead, fun _ _ h => h, ⟨h_s_DrawFullHouse, fun _ _ h => h, ⟨h_i_FullHouse, fun _ _ h => h, ⟨h_s_FullHouse, fun _ _ h => h, ⟨h_s_DrawPlaceAt, fun _ _ h => h, ⟨h_s_PlaceAt, fun _ _ h => h, ⟨h_s_DrawParseMoving, fun _ _ h => h, ⟨h_i_ParseMoving, fun _ _ h => h, ⟨h_s_ParseMoving, fun _ _ h => h, ⟨h_i_TimeWith, fun _ _ h => h, ⟨h_i_MovingText, fun _ _ h => h, trivial⟩⟩⟩⟩⟩⟩⟩⟩⟩⟩⟩⟩⟩⟩⟩⟩⟩⟩⟩⟩⟩⟩⟩⟩⟩) (fun _ _ _ _ _ hs => noDr_ok) Tryd.func3 rfl rfl Tryd.ntmps3 (by kernel_rfl) rfl rfl (fun _ => rfl) w_FnMovingMeet_ts w_FnMovingMeet_hs (fun x t hb ht => by
  obtain ⟨code0, more1, _⟩ := x
  exact (w_FnMovingMeet_e code0 more1).trans ht)
end Go.Proofs.YtadcmhdjoglagaaDoor.V
