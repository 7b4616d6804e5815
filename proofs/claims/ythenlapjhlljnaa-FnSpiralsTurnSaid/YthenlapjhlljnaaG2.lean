/- Functions of the program, as plain functions. No condition. -/
import Derived.Test.YthenlapjhlljnaaG1
set_option linter.unusedVariables false
set_option linter.unusedSimpArgs false
set_option maxRecDepth 100000
namespace Go.Proofs.Ythenlapjhlljnaa.V
open Go Go.Ev Go.Proofs
/-! (*spec.l1Cur).next -/
noncomputable def c_s_l1Cur_next : FnCx := { env := env 62 [] [], body := bodyOf Try.f266, res := [.tmp 2], ins := [.ptr 128 ksl1Cur], out := [(kint, true)], T := Int × (List Int × Int × Int), fin := fun r => (r.1.1, r.2.1), inj := fun t => ((t.1, ()), (t.2, ())), pts := [], fuel := 400, dr := evDr (env 62 [] []) }
noncomputable def s_l1Cur_next (c0_code : List Int) (c0_at : Int) (c0_seed : Int) : Option (Int × (List Int × Int × Int)) :=
  bif decide (c0_at < (↑(List.length c0_code) : Int)) then
    bif decide (0 ≤ c0_at) then
      bif decide (c0_at < (↑(List.length c0_code) : Int)) then
        bif decide (IntKind.wrap IntKind.i64 (c0_at + 1) ≤ (↑(List.length c0_code) : Int)) then
          some
            (IntKind.wrap IntKind.i64 (rdk kuint8 c0_code c0_at), c0_code, IntKind.wrap IntKind.i64 (c0_at + 1),
              IntKind.wrap IntKind.u64
                (IntKind.wrap IntKind.u64
                    (IntKind.wrap IntKind.u64 (c0_seed * 6364136223846793005) +
                      IntKind.wrap IntKind.u64 (IntKind.wrap IntKind.i64 (rdk kuint8 c0_code c0_at))) +
                  1442695040888963407))
        else
          some
            (IntKind.wrap IntKind.i64
                (IntKind.wrap IntKind.u64
                  (↑(BitVec.toNat
                        (BitVec.ofInt (IntKind.bits IntKind.u64)
                            (Int.fdiv
                              (IntKind.wrap IntKind.u64
                                (IntKind.wrap IntKind.u64
                                    (IntKind.wrap IntKind.u64 (c0_seed * 6364136223846793005) +
                                      IntKind.wrap IntKind.u64 (IntKind.wrap IntKind.i64 (rdk kuint8 c0_code c0_at))) +
                                  1442695040888963407))
                              (2 ^ min (Int.toNat 40) (IntKind.bits IntKind.u64))) &&&
                          BitVec.ofInt (IntKind.bits IntKind.u64) 255)) :
                    Int)),
              c0_code, IntKind.wrap IntKind.i64 (c0_at + 1),
              IntKind.wrap IntKind.u64
                (IntKind.wrap IntKind.u64
                    (IntKind.wrap IntKind.u64 (c0_seed * 6364136223846793005) +
                      IntKind.wrap IntKind.u64 (IntKind.wrap IntKind.i64 (rdk kuint8 c0_code c0_at))) +
                  1442695040888963407))
      else none
    else none
  else
    bif decide (IntKind.wrap IntKind.i64 (c0_at + 1) ≤ (↑(List.length c0_code) : Int)) then
      some
        (0, c0_code, IntKind.wrap IntKind.i64 (c0_at + 1),
          IntKind.wrap IntKind.u64
            (IntKind.wrap IntKind.u64 (IntKind.wrap IntKind.u64 (c0_seed * 6364136223846793005) + IntKind.wrap IntKind.u64 0) + 1442695040888963407))
    else
      some
        (IntKind.wrap IntKind.i64
            (IntKind.wrap IntKind.u64
              (↑(BitVec.toNat
                    (BitVec.ofInt (IntKind.bits IntKind.u64)
                        (Int.fdiv
                          (IntKind.wrap IntKind.u64
                            (IntKind.wrap IntKind.u64 (IntKind.wrap IntKind.u64 (c0_seed * 6364136223846793005) + IntKind.wrap IntKind.u64 0) +
                              1442695040888963407))
                          (2 ^ min (Int.toNat 40) (IntKind.bits IntKind.u64))) &&&
                      BitVec.ofInt (IntKind.bits IntKind.u64) 255)) :
                Int)),
          c0_code, IntKind.wrap IntKind.i64 (c0_at + 1),
          IntKind.wrap IntKind.u64
            (IntKind.wrap IntKind.u64 (IntKind.wrap IntKind.u64 (c0_seed * 6364136223846793005) + IntKind.wrap IntKind.u64 0) + 1442695040888963407))
theorem s_l1Cur_next_e (c0_code : List Int) (c0_at : Int) (c0_seed : Int) : c_s_l1Cur_next.start c_s_l1Cur_next.L ((c0_code, c0_at, c0_seed), ()) = s_l1Cur_next c0_code c0_at c0_seed := by kernel_rfl
noncomputable def F_s_l1Cur_next : Ins c_s_l1Cur_next.ins → Option (Int × (List Int × Int × Int)) := fun x => s_l1Cur_next x.1.1 x.1.2.1 x.1.2.2
noncomputable def S_s_l1Cur_next : FSpec := mkF c_s_l1Cur_next.env.pre c_s_l1Cur_next.ins c_s_l1Cur_next.out c_s_l1Cur_next.inj F_s_l1Cur_next
theorem h_s_l1Cur_next : Cert Try.prog 266 S_s_l1Cur_next := FnCx.certF (c := c_s_l1Cur_next) F_s_l1Cur_next (tyOk _ _ _) (spOk trivial) (fun _ _ _ _ _ hs => evDr_ok (tyOk _ _ _) hs follows) Try.func266 rfl rfl Try.ntmps266 (by kernel_rfl) rfl rfl (fun _ => rfl) trivial (fun x => .inl ⟨c_s_l1Cur_next.start () x, fun _ => rfl⟩) (fun x t hb ht => by
  obtain ⟨⟨c0_code, c0_at, c0_seed⟩, _⟩ := x
  exact (s_l1Cur_next_e c0_code c0_at c0_seed).trans ht)
/-! (*spec.l1Cur).pick -/
noncomputable def c_s_l1Cur_pick : FnCx := { env := env 20 [(266, S_s_l1Cur_next)] [], body := bodyOf Try.f183, res := [.tmp 4], ins := [.ptr 128 ksl1Cur, .ro kint], out := [(kint, true)], T := Int × (List Int × Int × Int), fin := fun r => (r.1.1, r.2.1), inj := fun t => ((t.1, ()), (t.2, (), ())), pts := [], fuel := 400, dr := noDr }
noncomputable def s_l1Cur_pick (c0_code : List Int) (c0_at : Int) (c0_seed : Int) (n1 : Int) : Option (Int × (List Int × Int × Int)) :=
  bif decide (n1 ≤ 1) then some (0, c0_code, c0_at, c0_seed)
  else
    Option.bind (s_l1Cur_next c0_code c0_at c0_seed) fun r =>
      bif decide (n1 > 200) then
        Option.bind (s_l1Cur_next (Prod.fst (Prod.snd r)) (Prod.fst (Prod.snd (Prod.snd r))) (Prod.snd (Prod.snd (Prod.snd r)))) fun r_1 =>
          bif n1 == 0 then none
          else
            some
              (Int.tmod (IntKind.wrap IntKind.i64 (IntKind.wrap IntKind.i64 (Prod.fst r * 256) + Prod.fst r_1)) n1, Prod.fst (Prod.snd r_1),
                Prod.fst (Prod.snd (Prod.snd r_1)), Prod.snd (Prod.snd (Prod.snd r_1)))
      else bif n1 == 0 then none else some (Int.tmod (Prod.fst r) n1, Prod.fst (Prod.snd r), Prod.fst (Prod.snd (Prod.snd r)), Prod.snd (Prod.snd (Prod.snd r)))
theorem s_l1Cur_pick_e (c0_code : List Int) (c0_at : Int) (c0_seed : Int) (n1 : Int) : c_s_l1Cur_pick.start c_s_l1Cur_pick.L ((c0_code, c0_at, c0_seed), n1, ()) = s_l1Cur_pick c0_code c0_at c0_seed n1 := by kernel_rfl
noncomputable def F_s_l1Cur_pick : Ins c_s_l1Cur_pick.ins → Option (Int × (List Int × Int × Int)) := fun x => s_l1Cur_pick x.1.1 x.1.2.1 x.1.2.2 x.2.1
noncomputable def S_s_l1Cur_pick : FSpec := mkF c_s_l1Cur_pick.env.pre c_s_l1Cur_pick.ins c_s_l1Cur_pick.out c_s_l1Cur_pick.inj F_s_l1Cur_pick
theorem h_s_l1Cur_pick : Cert Try.prog 183 S_s_l1Cur_pick := FnCx.certF (c := c_s_l1Cur_pick) F_s_l1Cur_pick (tyOk _ _ _) (spOk ⟨h_s_l1Cur_next, fun _ _ _ => trivial, trivial⟩) (fun _ _ _ _ _ hs => noDr_ok) Try.func183 rfl rfl Try.ntmps183 (by kernel_rfl) rfl rfl (fun _ => rfl) trivial (fun x => .inl ⟨c_s_l1Cur_pick.start () x, fun _ => rfl⟩) (fun x t hb ht => by
  obtain ⟨⟨c0_code, c0_at, c0_seed⟩, n1, _⟩ := x
  exact (s_l1Cur_pick_e c0_code c0_at c0_seed n1).trans ht)
/-! (*spec.l1Cur).sureSpiral -/
noncomputable def c_s_l1Cur_sureSpiral : FnCx := { env := env 13 [(183, S_s_l1Cur_pick)] [], body := bodyOf Try.f275, res := [.cell 2 71], ins := [.ptr 128 ksl1Cur], out := [(kSpiral, true)], T := (Int × Int × Int) × (List Int × Int × Int), fin := fun r => (r.1.1, r.2.1), inj := fun t => ((t.1, ()), (t.2, ())), pts := [], fuel := 400, dr := noDr }
noncomputable def s_l1Cur_sureSpiral (c0_code : List Int) (c0_at : Int) (c0_seed : Int) : Option ((Int × Int × Int) × (List Int × Int × Int)) :=
  Option.bind (s_l1Cur_pick c0_code c0_at c0_seed 40) fun r =>
    Option.bind (s_l1Cur_pick (Prod.fst (Prod.snd r)) (Prod.fst (Prod.snd (Prod.snd r))) (Prod.snd (Prod.snd (Prod.snd r))) 14) fun r_1 =>
      Option.bind (s_l1Cur_pick (Prod.fst (Prod.snd r_1)) (Prod.fst (Prod.snd (Prod.snd r_1))) (Prod.snd (Prod.snd (Prod.snd r_1))) 6) fun r_2 =>
        some
          ((IntKind.wrap IntKind.i64 (1 + Prod.fst r), IntKind.wrap IntKind.i64 (3 + Prod.fst r_1), IntKind.wrap IntKind.i64 (1 + Prod.fst r_2)),
            Prod.fst (Prod.snd r_2), Prod.fst (Prod.snd (Prod.snd r_2)), Prod.snd (Prod.snd (Prod.snd r_2)))
theorem s_l1Cur_sureSpiral_e (c0_code : List Int) (c0_at : Int) (c0_seed : Int) : c_s_l1Cur_sureSpiral.start c_s_l1Cur_sureSpiral.L ((c0_code, c0_at, c0_seed), ()) = s_l1Cur_sureSpiral c0_code c0_at c0_seed := by kernel_rfl
noncomputable def F_s_l1Cur_sureSpiral : Ins c_s_l1Cur_sureSpiral.ins → Option ((Int × Int × Int) × (List Int × Int × Int)) := fun x => s_l1Cur_sureSpiral x.1.1 x.1.2.1 x.1.2.2
noncomputable def S_s_l1Cur_sureSpiral : FSpec := mkF c_s_l1Cur_sureSpiral.env.pre c_s_l1Cur_sureSpiral.ins c_s_l1Cur_sureSpiral.out c_s_l1Cur_sureSpiral.inj F_s_l1Cur_sureSpiral
theorem h_s_l1Cur_sureSpiral : Cert Try.prog 275 S_s_l1Cur_sureSpiral := FnCx.certF (c := c_s_l1Cur_sureSpiral) F_s_l1Cur_sureSpiral (tyOk _ _ _) (spOk ⟨h_s_l1Cur_pick, fun _ _ _ => trivial, trivial⟩) (fun _ _ _ _ _ hs => noDr_ok) Try.func275 rfl rfl Try.ntmps275 (by kernel_rfl) rfl rfl (fun _ => rfl) trivial (fun x => .inl ⟨c_s_l1Cur_sureSpiral.start () x, fun _ => rfl⟩) (fun x t hb ht => by
  obtain ⟨⟨c0_code, c0_at, c0_seed⟩, _⟩ := x
  exact (s_l1Cur_sureSpiral_e c0_code c0_at c0_seed).trans ht)
/-! (*spec.l1Cur).among -/
noncomputable def c_s_l1Cur_among : FnCx := { env := env 12 [(183, S_s_l1Cur_pick)] [], body := bodyOf Try.f180, res := [.tmp 4], ins := [.ptr 128 ksl1Cur, .ro kSint], out := [(kint, true)], T := Int × (List Int × Int × Int), fin := fun r => (r.1.1, r.2.1), inj := fun t => ((t.1, ()), (t.2, (), ())), pts := [], fuel := 400, dr := noDr }
noncomputable def s_l1Cur_among (c0_code : List Int) (c0_at : Int) (c0_seed : Int) (list1 : List Int) : Option (Int × (List Int × Int × Int)) :=
  Option.bind (s_l1Cur_pick c0_code c0_at c0_seed (↑(List.length list1) : Int)) fun r =>
    bif decide (0 ≤ Prod.fst r) then
      bif decide (Prod.fst r < (↑(List.length list1) : Int)) then
        some (rdk kint list1 (Prod.fst r), Prod.fst (Prod.snd r), Prod.fst (Prod.snd (Prod.snd r)), Prod.snd (Prod.snd (Prod.snd r)))
      else none
    else none
theorem s_l1Cur_among_e (c0_code : List Int) (c0_at : Int) (c0_seed : Int) (list1 : List Int) : c_s_l1Cur_among.start c_s_l1Cur_among.L ((c0_code, c0_at, c0_seed), list1, ()) = s_l1Cur_among c0_code c0_at c0_seed list1 := by kernel_rfl
noncomputable def F_s_l1Cur_among : Ins c_s_l1Cur_among.ins → Option (Int × (List Int × Int × Int)) := fun x => s_l1Cur_among x.1.1 x.1.2.1 x.1.2.2 x.2.1
noncomputable def S_s_l1Cur_among : FSpec := mkF c_s_l1Cur_among.env.pre c_s_l1Cur_among.ins c_s_l1Cur_among.out c_s_l1Cur_among.inj F_s_l1Cur_among
theorem h_s_l1Cur_among : Cert Try.prog 180 S_s_l1Cur_among := FnCx.certF (c := c_s_l1Cur_among) F_s_l1Cur_among (tyOk _ _ _) (spOk ⟨h_s_l1Cur_pick, fun _ _ _ => trivial, trivial⟩) (fun _ _ _ _ _ hs => noDr_ok) Try.func180 rfl rfl Try.ntmps180 (by kernel_rfl) rfl rfl (fun _ => rfl) trivial (fun x => .inl ⟨c_s_l1Cur_among.start () x, fun _ => rfl⟩) (fun x t hb ht => by
  obtain ⟨⟨c0_code, c0_at, c0_seed⟩, list1, _⟩ := x
  exact (s_l1Cur_among_e c0_code c0_at c0_seed list1).trans ht)
/-! (*spec.l1Cur).spiral -/
noncomputable def c_s_l1Cur_spiral : FnCx := { env := env 27 [(275, S_s_l1Cur_sureSpiral), (183, S_s_l1Cur_pick), (180, S_s_l1Cur_among)] [], body := bodyOf Try.f218, res := [.cell 2 71], ins := [.ptr 128 ksl1Cur], out := [(kSpiral, true)], T := (Int × Int × Int) × (List Int × Int × Int), fin := fun r => (r.1.1, r.2.1), inj := fun t => ((t.1, ()), (t.2, ())), pts := [], fuel := 400, dr := noDr }
noncomputable def s_l1Cur_spiral (c0_code : List Int) (c0_at : Int) (c0_seed : Int) : Option ((Int × Int × Int) × (List Int × Int × Int)) :=
  Option.bind (s_l1Cur_sureSpiral c0_code c0_at c0_seed) fun r =>
    Option.bind (s_l1Cur_pick (Prod.fst (Prod.snd r)) (Prod.fst (Prod.snd (Prod.snd r))) (Prod.snd (Prod.snd (Prod.snd r))) 20) fun r_1 =>
      bif Prod.fst r_1 == 0 then
        Option.bind
          (s_l1Cur_among (Prod.fst (Prod.snd r_1)) (Prod.fst (Prod.snd (Prod.snd r_1))) (Prod.snd (Prod.snd (Prod.snd r_1)))
            [-1, 0, 1, 400, 401, 4611686018427387904])
          fun r_2 =>
          some
            ((Prod.fst r_2, Prod.fst (Prod.snd (Prod.fst r)), Prod.snd (Prod.snd (Prod.fst r))), Prod.fst (Prod.snd r_2), Prod.fst (Prod.snd (Prod.snd r_2)),
              Prod.snd (Prod.snd (Prod.snd r_2)))
      else
        bif Prod.fst r_1 == 1 then
          Option.bind
            (s_l1Cur_among (Prod.fst (Prod.snd r_1)) (Prod.fst (Prod.snd (Prod.snd r_1))) (Prod.snd (Prod.snd (Prod.snd r_1)))
              [-1, 0, 2, 3, 60, 61, 4611686018427387904])
            fun r_2 =>
            some
              ((Prod.fst (Prod.fst r), Prod.fst r_2, Prod.snd (Prod.snd (Prod.fst r))), Prod.fst (Prod.snd r_2), Prod.fst (Prod.snd (Prod.snd r_2)),
                Prod.snd (Prod.snd (Prod.snd r_2)))
        else
          bif Prod.fst r_1 == 2 then
            Option.bind
              (s_l1Cur_among (Prod.fst (Prod.snd r_1)) (Prod.fst (Prod.snd (Prod.snd r_1))) (Prod.snd (Prod.snd (Prod.snd r_1)))
                [-1, 0, 1, 300, 301, 4611686018427387904])
              fun r_2 =>
              some
                ((Prod.fst (Prod.fst r), Prod.fst (Prod.snd (Prod.fst r)), Prod.fst r_2), Prod.fst (Prod.snd r_2), Prod.fst (Prod.snd (Prod.snd r_2)),
                  Prod.snd (Prod.snd (Prod.snd r_2)))
          else
            some
              ((Prod.fst (Prod.fst r), Prod.fst (Prod.snd (Prod.fst r)), Prod.snd (Prod.snd (Prod.fst r))), Prod.fst (Prod.snd r_1),
                Prod.fst (Prod.snd (Prod.snd r_1)), Prod.snd (Prod.snd (Prod.snd r_1)))
theorem s_l1Cur_spiral_e (c0_code : List Int) (c0_at : Int) (c0_seed : Int) : c_s_l1Cur_spiral.start c_s_l1Cur_spiral.L ((c0_code, c0_at, c0_seed), ()) = s_l1Cur_spiral c0_code c0_at c0_seed := by kernel_rfl
noncomputable def F_s_l1Cur_spiral : Ins c_s_l1Cur_spiral.ins → Option ((Int × Int × Int) × (List Int × Int × Int)) := fun x => s_l1Cur_spiral x.1.1 x.1.2.1 x.1.2.2
noncomputable def S_s_l1Cur_spiral : FSpec := mkF c_s_l1Cur_spiral.env.pre c_s_l1Cur_spiral.ins c_s_l1Cur_spiral.out c_s_l1Cur_spiral.inj F_s_l1Cur_spiral
theorem h_s_l1Cur_spiral : Cert Try.prog 218 S_s_l1Cur_spiral := FnCx.certF (c := c_s_l1Cur_spiral) F_s_l1Cur_spiral (tyOk _ _ _) (spOk ⟨h_s_l1Cur_sureSpiral, fun _ _ _ => trivial, ⟨h_s_l1Cur_pick, fun _ _ _ => trivial, ⟨h_s_l1Cur_among, fun _ _ _ => trivial, trivial⟩⟩⟩) (fun _ _ _ _ _ hs => noDr_ok) Try.func218 rfl rfl Try.ntmps218 (by kernel_rfl) rfl rfl (fun _ => rfl) trivial (fun x => .inl ⟨c_s_l1Cur_spiral.start () x, fun _ => rfl⟩) (fun x t hb ht => by
  obtain ⟨⟨c0_code, c0_at, c0_seed⟩, _⟩ := x
  exact (s_l1Cur_spiral_e c0_code c0_at c0_seed).trans ht)
/-! spec.DrawAngleOf -/
noncomputable def c_s_DrawAngleOf : FnCx := { env := env 23 [(218, S_s_l1Cur_spiral), (191, S_s_l1Most), (190, S_s_l1Least), (183, S_s_l1Cur_pick)] [], body := bodyOf Try.f85, res := [.cell 2 71, .tmp 3], ins := [.ro kSuint8], out := [(kSpiral, true), (kint, true)], T := (Int × Int × Int) × Int, fin := fun r => (r.1.1, r.1.2.1), inj := fun t => ((t.1, t.2, ()), ((), ())), pts := [], fuel := 400, dr := evDr (env 23 [(218, S_s_l1Cur_spiral), (191, S_s_l1Most), (190, S_s_l1Least), (183, S_s_l1Cur_pick)] []) }
noncomputable def s_DrawAngleOf (code0 : List Int) : Option ((Int × Int × Int) × Int) :=
  Option.bind (s_l1Cur_spiral code0 0 0) fun r =>
    Option.bind
      (s_l1Cur_pick (Prod.fst (Prod.snd r)) (Prod.fst (Prod.snd (Prod.snd r))) (Prod.snd (Prod.snd (Prod.snd r)))
        (IntKind.wrap IntKind.i64 (s_l1Least 60 (s_l1Most 1 (Prod.fst (Prod.fst r))) + 2)))
      fun r_1 =>
      Option.bind (s_l1Cur_pick (Prod.fst (Prod.snd r_1)) (Prod.fst (Prod.snd (Prod.snd r_1))) (Prod.snd (Prod.snd (Prod.snd r_1))) 9) fun r_2 =>
        some
          ((Prod.fst (Prod.fst r), Prod.fst (Prod.snd (Prod.fst r)), Prod.snd (Prod.snd (Prod.fst r))),
            IntKind.wrap IntKind.i64 (Prod.fst r_1 - IntKind.wrap IntKind.i64 (Int.tdiv (Prod.fst r_2) 8)))
theorem s_DrawAngleOf_e (code0 : List Int) : c_s_DrawAngleOf.start c_s_DrawAngleOf.L (code0, ()) = s_DrawAngleOf code0 := by kernel_rfl
noncomputable def F_s_DrawAngleOf : Ins c_s_DrawAngleOf.ins → Option ((Int × Int × Int) × Int) := fun x => s_DrawAngleOf x.1
noncomputable def S_s_DrawAngleOf : FSpec := mkF c_s_DrawAngleOf.env.pre c_s_DrawAngleOf.ins c_s_DrawAngleOf.out c_s_DrawAngleOf.inj F_s_DrawAngleOf
theorem h_s_DrawAngleOf : Cert Try.prog 85 S_s_DrawAngleOf := FnCx.certF (c := c_s_DrawAngleOf) F_s_DrawAngleOf (tyOk _ _ _) (spOk ⟨h_s_l1Cur_spiral, fun _ _ _ => trivial, ⟨h_s_l1Most, fun _ _ _ => trivial, ⟨h_s_l1Least, fun _ _ _ => trivial, ⟨h_s_l1Cur_pick, fun _ _ _ => trivial, trivial⟩⟩⟩⟩) (fun _ _ _ _ _ hs => evDr_ok (tyOk _ _ _) hs follows) Try.func85 rfl rfl Try.ntmps85 (by kernel_rfl) rfl rfl (fun _ => rfl) trivial (fun x => .inl ⟨c_s_DrawAngleOf.start () x, fun _ => rfl⟩) (fun x t hb ht => by
  obtain ⟨code0, _⟩ := x
  exact (s_DrawAngleOf_e code0).trans ht)
/-! spec.DrawAreOpposite -/
noncomputable def c_s_DrawAreOpposite : FnCx := { env := env 30 [(218, S_s_l1Cur_spiral), (191, S_s_l1Most), (190, S_s_l1Least), (183, S_s_l1Cur_pick)] [], body := bodyOf Try.f234, res := [.cell 2 71, .tmp 3, .tmp 4], ins := [.ro kSuint8], out := [(kSpiral, true), (kint, true), (kint, true)], T := (Int × Int × Int) × Int × Int, fin := fun r => (r.1.1, r.1.2.1, r.1.2.2.1), inj := fun t => ((t.1, t.2.1, t.2.2, ()), ((), ())), pts := [], fuel := 400, dr := evDr (env 30 [(218, S_s_l1Cur_spiral), (191, S_s_l1Most), (190, S_s_l1Least), (183, S_s_l1Cur_pick)] []) }
noncomputable def s_DrawAreOpposite (code0 : List Int) : Option ((Int × Int × Int) × Int × Int) :=
  Option.bind (s_l1Cur_spiral code0 0 0) fun r =>
    Option.bind
      (s_l1Cur_pick (Prod.fst (Prod.snd r)) (Prod.fst (Prod.snd (Prod.snd r))) (Prod.snd (Prod.snd (Prod.snd r)))
        (IntKind.wrap IntKind.i64 (s_l1Least 60 (s_l1Most 1 (Prod.fst (Prod.fst r))) + 2)))
      fun r_1 =>
      Option.bind (s_l1Cur_pick (Prod.fst (Prod.snd r_1)) (Prod.fst (Prod.snd (Prod.snd r_1))) (Prod.snd (Prod.snd (Prod.snd r_1))) 9) fun r_2 =>
        Option.bind
          (s_l1Cur_pick (Prod.fst (Prod.snd r_2)) (Prod.fst (Prod.snd (Prod.snd r_2))) (Prod.snd (Prod.snd (Prod.snd r_2)))
            (IntKind.wrap IntKind.i64 (s_l1Least 60 (s_l1Most 1 (Prod.fst (Prod.fst r))) + 2)))
          fun r_3 =>
          some
            ((Prod.fst (Prod.fst r), Prod.fst (Prod.snd (Prod.fst r)), Prod.snd (Prod.snd (Prod.fst r))),
              IntKind.wrap IntKind.i64 (Prod.fst r_1 - IntKind.wrap IntKind.i64 (Int.tdiv (Prod.fst r_2) 8)), Prod.fst r_3)
theorem s_DrawAreOpposite_e (code0 : List Int) : c_s_DrawAreOpposite.start c_s_DrawAreOpposite.L (code0, ()) = s_DrawAreOpposite code0 := by kernel_rfl
noncomputable def F_s_DrawAreOpposite : Ins c_s_DrawAreOpposite.ins → Option ((Int × Int × Int) × Int × Int) := fun x => s_DrawAreOpposite x.1
noncomputable def S_s_DrawAreOpposite : FSpec := mkF c_s_DrawAreOpposite.env.pre c_s_DrawAreOpposite.ins c_s_DrawAreOpposite.out c_s_DrawAreOpposite.inj F_s_DrawAreOpposite
theorem h_s_DrawAreOpposite : Cert Try.prog 234 S_s_DrawAreOpposite := FnCx.certF (c := c_s_DrawAreOpposite) F_s_DrawAreOpposite (tyOk _ _ _) (spOk ⟨h_s_l1Cur_spiral, fun _ _ _ => trivial, ⟨h_s_l1Most, fun _ _ _ => trivial, ⟨h_s_l1Least, fun _ _ _ => trivial, ⟨h_s_l1Cur_pick, fun _ _ _ => trivial, trivial⟩⟩⟩⟩) (fun _ _ _ _ _ hs => evDr_ok (tyOk _ _ _) hs follows) Try.func234 rfl rfl Try.ntmps234 (by kernel_rfl) rfl rfl (fun _ => rfl) trivial (fun x => .inl ⟨c_s_DrawAreOpposite.start () x, fun _ => rfl⟩) (fun x t hb ht => by
  obtain ⟨code0, _⟩ := x
  exact (s_DrawAreOpposite_e code0).trans ht)
/-! spec.DrawApartAround -/
noncomputable def c_s_DrawApartAround : FnCx := { env := env 10 [(234, S_s_DrawAreOpposite)] [], body := bodyOf Try.f109, res := [.cell 2 71, .tmp 3, .tmp 4], ins := [.ro kSuint8], out := [(kSpiral, true), (kint, true), (kint, true)], T := (Int × Int × Int) × Int × Int, fin := fun r => (r.1.1, r.1.2.1, r.1.2.2.1), inj := fun t => ((t.1, t.2.1, t.2.2, ()), ((), ())), pts := [], fuel := 400, dr := noDr }
noncomputable def s_DrawApartAround (code0 : List Int) : Option ((Int × Int × Int) × Int × Int) :=
  Option.bind (s_DrawAreOpposite code0) fun r =>
    some ((Prod.fst (Prod.fst r), Prod.fst (Prod.snd (Prod.fst r)), Prod.snd (Prod.snd (Prod.fst r))), Prod.fst (Prod.snd r), Prod.snd (Prod.snd r))
theorem s_DrawApartAround_e (code0 : List Int) : c_s_DrawApartAround.start c_s_DrawApartAround.L (code0, ()) = s_DrawApartAround code0 := by kernel_rfl
noncomputable def F_s_DrawApartAround : Ins c_s_DrawApartAround.ins → Option ((Int × Int × Int) × Int × Int) := fun x => s_DrawApartAround x.1
noncomputable def S_s_DrawApartAround : FSpec := mkF c_s_DrawApartAround.env.pre c_s_DrawApartAround.ins c_s_DrawApartAround.out c_s_DrawApartAround.inj F_s_DrawApartAround
theorem h_s_DrawApartAround : Cert Try.prog 109 S_s_DrawApartAround := FnCx.certF (c := c_s_DrawApartAround) F_s_DrawApartAround (tyOk _ _ _) (spOk ⟨h_s_DrawAreOpposite, fun _ _ _ => trivial, trivial⟩) (fun _ _ _ _ _ hs => noDr_ok) Try.func109 rfl rfl Try.ntmps109 (by kernel_rfl) rfl rfl (fun _ => rfl) trivial (fun x => .inl ⟨c_s_DrawApartAround.start () x, fun _ => rfl⟩) (fun x t hb ht => by
  obtain ⟨code0, _⟩ := x
  exact (s_DrawApartAround_e code0).trans ht)
/-! (*spec.l1Cur).of -/
noncomputable def c_s_l1Cur_of : FnCx := { env := env 12 [(183, S_s_l1Cur_pick)] [], body := bodyOf Try.f235, res := [.tmp 4], ins := [.ptr 128 ksl1Cur, .ro kSstring], out := [(kstring, true)], T := ByteArray × (List Int × Int × Int), fin := fun r => (r.1.1, r.2.1), inj := fun t => ((t.1, ()), (t.2, (), ())), pts := [], fuel := 400, dr := noDr }
noncomputable def s_l1Cur_of (c0_code : List Int) (c0_at : Int) (c0_seed : Int) (list1 : List ByteArray) : Option (ByteArray × (List Int × Int × Int)) :=
  Option.bind (s_l1Cur_pick c0_code c0_at c0_seed (↑(List.length list1) : Int)) fun r =>
    bif decide (0 ≤ Prod.fst r) then
      bif decide (Prod.fst r < (↑(List.length list1) : Int)) then
        some (rdk kstring list1 (Prod.fst r), Prod.fst (Prod.snd r), Prod.fst (Prod.snd (Prod.snd r)), Prod.snd (Prod.snd (Prod.snd r)))
      else none
    else none
theorem s_l1Cur_of_e (c0_code : List Int) (c0_at : Int) (c0_seed : Int) (list1 : List ByteArray) : c_s_l1Cur_of.start c_s_l1Cur_of.L ((c0_code, c0_at, c0_seed), list1, ()) = s_l1Cur_of c0_code c0_at c0_seed list1 := by kernel_rfl
noncomputable def F_s_l1Cur_of : Ins c_s_l1Cur_of.ins → Option (ByteArray × (List Int × Int × Int)) := fun x => s_l1Cur_of x.1.1 x.1.2.1 x.1.2.2 x.2.1
noncomputable def S_s_l1Cur_of : FSpec := mkF c_s_l1Cur_of.env.pre c_s_l1Cur_of.ins c_s_l1Cur_of.out c_s_l1Cur_of.inj F_s_l1Cur_of
theorem h_s_l1Cur_of : Cert Try.prog 235 S_s_l1Cur_of := FnCx.certF (c := c_s_l1Cur_of) F_s_l1Cur_of (tyOk _ _ _) (spOk ⟨h_s_l1Cur_pick, fun _ _ _ => trivial, trivial⟩) (fun _ _ _ _ _ hs => noDr_ok) Try.func235 rfl rfl Try.ntmps235 (by kernel_rfl) rfl rfl (fun _ => rfl) trivial (fun x => .inl ⟨c_s_l1Cur_of.start () x, fun _ => rfl⟩) (fun x t hb ht => by
  obtain ⟨⟨c0_code, c0_at, c0_seed⟩, list1, _⟩ := x
  exact (s_l1Cur_of_e c0_code c0_at c0_seed list1).trans ht)
/-! spec.DrawStepsAtSide -/
noncomputable def c_s_DrawStepsAtSide : FnCx := { env := env 13 [(218, S_s_l1Cur_spiral), (235, S_s_l1Cur_of)] [], body := bodyOf Try.f112, res := [.cell 2 71, .tmp 3], ins := [.ro kSuint8], out := [(kSpiral, true), (kstring, true)], T := (Int × Int × Int) × ByteArray, fin := fun r => (r.1.1, r.1.2.1), inj := fun t => ((t.1, t.2, ()), ((), ())), pts := [], fuel := 400, dr := noDr }
noncomputable def s_DrawStepsAtSide (code0 : List Int) : Option ((Int × Int × Int) × ByteArray) :=
  Option.bind (s_l1Cur_spiral code0 0 0) fun r =>
    Option.bind
      (s_l1Cur_of (Prod.fst (Prod.snd r)) (Prod.fst (Prod.snd (Prod.snd r))) (Prod.snd (Prod.snd (Prod.snd r)))
        [{ data := #[110] }, { data := #[101] }, { data := #[115] }, { data := #[119] }, { data := #[110] }, { data := #[101] }, { data := #[115] },
          { data := #[119] }, { data := #[] }, { data := #[120] }, { data := #[110, 101] }])
      fun r_1 => some ((Prod.fst (Prod.fst r), Prod.fst (Prod.snd (Prod.fst r)), Prod.snd (Prod.snd (Prod.fst r))), Prod.fst r_1)
theorem s_DrawStepsAtSide_e (code0 : List Int) : c_s_DrawStepsAtSide.start c_s_DrawStepsAtSide.L (code0, ()) = s_DrawStepsAtSide code0 := by kernel_rfl
noncomputable def F_s_DrawStepsAtSide : Ins c_s_DrawStepsAtSide.ins → Option ((Int × Int × Int) × ByteArray) := fun x => s_DrawStepsAtSide x.1
noncomputable def S_s_DrawStepsAtSide : FSpec := mkF c_s_DrawStepsAtSide.env.pre c_s_DrawStepsAtSide.ins c_s_DrawStepsAtSide.out c_s_DrawStepsAtSide.inj F_s_DrawStepsAtSide
theorem h_s_DrawStepsAtSide : Cert Try.prog 112 S_s_DrawStepsAtSide := FnCx.certF (c := c_s_DrawStepsAtSide) F_s_DrawStepsAtSide (tyOk _ _ _) (spOk ⟨h_s_l1Cur_spiral, fun _ _ _ => trivial, ⟨h_s_l1Cur_of, fun _ _ _ => trivial, trivial⟩⟩) (fun _ _ _ _ _ hs => noDr_ok) Try.func112 rfl rfl Try.ntmps112 (by kernel_rfl) rfl rfl (fun _ => rfl) trivial (fun x => .inl ⟨c_s_DrawStepsAtSide.start () x, fun _ => rfl⟩) (fun x t hb ht => by
  obtain ⟨code0, _⟩ := x
  exact (s_DrawStepsAtSide_e code0).trans ht)
/-! (*spec.l1Cur).one -/
noncomputable def c_s_l1Cur_one : FnCx := { env := env 9 [(183, S_s_l1Cur_pick)] [], body := bodyOf Try.f182, res := [.tmp 4], ins := [.ptr 128 ksl1Cur, .ro kint], out := [(kbool, true)], T := Bool × (List Int × Int × Int), fin := fun r => (r.1.1, r.2.1), inj := fun t => ((t.1, ()), (t.2, (), ())), pts := [], fuel := 400, dr := noDr }
noncomputable def s_l1Cur_one (c0_code : List Int) (c0_at : Int) (c0_seed : Int) (n1 : Int) : Option (Bool × (List Int × Int × Int)) :=
  Option.bind (s_l1Cur_pick c0_code c0_at c0_seed n1) fun r =>
    some (Prod.fst r == 0, Prod.fst (Prod.snd r), Prod.fst (Prod.snd (Prod.snd r)), Prod.snd (Prod.snd (Prod.snd r)))
theorem s_l1Cur_one_e (c0_code : List Int) (c0_at : Int) (c0_seed : Int) (n1 : Int) : c_s_l1Cur_one.start c_s_l1Cur_one.L ((c0_code, c0_at, c0_seed), n1, ()) = s_l1Cur_one c0_code c0_at c0_seed n1 := by kernel_rfl
noncomputable def F_s_l1Cur_one : Ins c_s_l1Cur_one.ins → Option (Bool × (List Int × Int × Int)) := fun x => s_l1Cur_one x.1.1 x.1.2.1 x.1.2.2 x.2.1
noncomputable def S_s_l1Cur_one : FSpec := mkF c_s_l1Cur_one.env.pre c_s_l1Cur_one.ins c_s_l1Cur_one.out c_s_l1Cur_one.inj F_s_l1Cur_one
theorem h_s_l1Cur_one : Cert Try.prog 182 S_s_l1Cur_one := FnCx.certF (c := c_s_l1Cur_one) F_s_l1Cur_one (tyOk _ _ _) (spOk ⟨h_s_l1Cur_pick, fun _ _ _ => trivial, trivial⟩) (fun _ _ _ _ _ hs => noDr_ok) Try.func182 rfl rfl Try.ntmps182 (by kernel_rfl) rfl rfl (fun _ => rfl) trivial (fun x => .inl ⟨c_s_l1Cur_one.start () x, fun _ => rfl⟩) (fun x t hb ht => by
  obtain ⟨⟨c0_code, c0_at, c0_seed⟩, n1, _⟩ := x
  exact (s_l1Cur_one_e c0_code c0_at c0_seed n1).trans ht)
/-! spec.DrawLeastRound -/
noncomputable def c_s_DrawLeastRound : FnCx := { env := env 21 [(182, S_s_l1Cur_one), (180, S_s_l1Cur_among), (183, S_s_l1Cur_pick)] [], body := bodyOf Try.f114, res := [.tmp 2, .tmp 3], ins := [.ro kSuint8], out := [(kint, true), (kint, true)], T := Int × Int, fin := fun r => (r.1.1, r.1.2.1), inj := fun t => ((t.1, t.2, ()), ((), ())), pts := [], fuel := 400, dr := noDr }
noncomputable def s_DrawLeastRound (code0 : List Int) : Option (Int × Int) :=
  Option.bind (s_l1Cur_one code0 0 0 8) fun r =>
    bif Prod.fst r then
      Option.bind (s_l1Cur_among (Prod.fst (Prod.snd r)) (Prod.fst (Prod.snd (Prod.snd r))) (Prod.snd (Prod.snd (Prod.snd r))) [-1, 0, 1, 300, 301]) fun r =>
        Option.bind
          (s_l1Cur_among (Prod.fst (Prod.snd r)) (Prod.fst (Prod.snd (Prod.snd r))) (Prod.snd (Prod.snd (Prod.snd r))) [-1, 0, 60, 61, 18000, 20000, 20001])
          fun r_1 => some (Prod.fst r, Prod.fst r_1)
    else
      Option.bind (s_l1Cur_pick (Prod.fst (Prod.snd r)) (Prod.fst (Prod.snd (Prod.snd r))) (Prod.snd (Prod.snd (Prod.snd r))) 20) fun r =>
        Option.bind (s_l1Cur_pick (Prod.fst (Prod.snd r)) (Prod.fst (Prod.snd (Prod.snd r))) (Prod.snd (Prod.snd (Prod.snd r))) 250) fun r_1 =>
          some (IntKind.wrap IntKind.i64 (1 + Prod.fst r), Prod.fst r_1)
theorem s_DrawLeastRound_e (code0 : List Int) : c_s_DrawLeastRound.start c_s_DrawLeastRound.L (code0, ()) = s_DrawLeastRound code0 := by kernel_rfl
noncomputable def F_s_DrawLeastRound : Ins c_s_DrawLeastRound.ins → Option (Int × Int) := fun x => s_DrawLeastRound x.1
noncomputable def S_s_DrawLeastRound : FSpec := mkF c_s_DrawLeastRound.env.pre c_s_DrawLeastRound.ins c_s_DrawLeastRound.out c_s_DrawLeastRound.inj F_s_DrawLeastRound
theorem h_s_DrawLeastRound : Cert Try.prog 114 S_s_DrawLeastRound := FnCx.certF (c := c_s_DrawLeastRound) F_s_DrawLeastRound (tyOk _ _ _) (spOk ⟨h_s_l1Cur_one, fun _ _ _ => trivial, ⟨h_s_l1Cur_among, fun _ _ _ => trivial, ⟨h_s_l1Cur_pick, fun _ _ _ => trivial, trivial⟩⟩⟩) (fun _ _ _ _ _ hs => noDr_ok) Try.func114 rfl rfl Try.ntmps114 (by kernel_rfl) rfl rfl (fun _ => rfl) trivial (fun x => .inl ⟨c_s_DrawLeastRound.start () x, fun _ => rfl⟩) (fun x t hb ht => by
  obtain ⟨code0, _⟩ := x
  exact (s_DrawLeastRound_e code0).trans ht)
end Go.Proofs.Ythenlapjhlljnaa.V
