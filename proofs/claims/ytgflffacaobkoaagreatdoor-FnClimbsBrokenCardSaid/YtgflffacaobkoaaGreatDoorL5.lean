/- Functions of the program, as plain functions. No condition. -/
import Derived.Test.YtgflffacaobkoaaGreatDoorL3
set_option linter.unusedVariables false
set_option linter.unusedSimpArgs false
set_option maxRecDepth 100000
namespace Go.Proofs.YtgflffacaobkoaaGreatDoor.V
open Go Go.Ev Go.Proofs
/-! laws.big -/
noncomputable def c_w_big : FnCx := { env := env 16 [] [], body := bodyOf Tryz.f32, res := [.tmp 4], ins := [.ro kSuint8, .ro kSuint8], out := [(kbool, true)], T := Bool, fin := fun r => r.1.1, inj := fun t => ((t, ()), ((), (), ())), pts := [], fuel := 400, dr := noDr }
noncomputable def w_big (code0 : List Int) (more1 : List Int) : Bool :=
  bif decide ((↑(List.length code0) : Int) > 1048576) then true
  else decide ((↑(List.length more1) : Int) > IntKind.wrap IntKind.i64 (1048576 - (↑(List.length code0) : Int)))
theorem w_big_e (code0 : List Int) (more1 : List Int) : c_w_big.start c_w_big.L (code0, more1, ()) = some (w_big code0 more1) := by
  refine Eq.trans (b := (bif decide ((↑(List.length code0) : Int) > 1048576) then some true else some (decide ((↑(List.length more1) : Int) > IntKind.wrap IntKind.i64 (1048576 - (↑(List.length code0) : Int)))) : Option Bool)) (by kernel_rfl) ?_
  unfold w_big
  repeat (first | rfl | apply condS)
noncomputable def F_w_big : Ins c_w_big.ins → Bool := fun x => w_big x.1 x.2.1
noncomputable def S_w_big : FSpec := mkT c_w_big.env.pre c_w_big.ins c_w_big.out c_w_big.inj F_w_big
theorem h_w_big : Cert Tryz.prog 32 S_w_big := FnCx.certT (c := c_w_big) F_w_big (tyOk _ _ _) (spOk trivial) (fun _ _ _ _ _ hs => noDr_ok) Tryz.func32 rfl rfl Tryz.ntmps32 (by kernel_rfl) rfl rfl (fun _ => rfl) trivial (fun x => .inl ⟨c_w_big.start () x, fun _ => rfl⟩) (fun x hb => by
  obtain ⟨code0, more1, _⟩ := x
  exact w_big_e code0 more1)
/-! (*spec.l1Cur).next -/
noncomputable def c_s_l1Cur_next : FnCx := { env := env 62 [] [], body := bodyOf Tryz.f96, res := [.tmp 2], ins := [.ptr 75 ksl1Cur], out := [(kint, true)], T := Int × (List Int × Int × Int), fin := fun r => (r.1.1, r.2.1), inj := fun t => ((t.1, ()), (t.2, ())), pts := [], fuel := 400, dr := evDr (env 62 [] []) }
noncomputable def s_l1Cur_next (c0_code : List Int) (c0_at : Int) (c0_seed : Int) : Option (Int × (List Int × Int × Int)) :=
  bif decide (c0_at < (↑(List.length c0_code) : Int)) then
    bif decide (0 ≤ c0_at) then
      bif decide (c0_at < (↑(List.length c0_code) : Int)) then
        bif decide (IntKind.wrap IntKind.i64 (c0_at + 1) ≤ (↑(List.length c0_code) : Int)) then
          some
            (IntKind.wrap IntKind.i64 (rdk kuint8 c0_code c0_at), c0_code, IntKind.wrap IntKind.i64 (c0_at + 1),
              IntKind.wrap IntKind.u64
                (IntKind.wrap IntKind.u64
                    (IntKind.wrap IntKind.u64 (c0_seed * 6364136223846793005) +
                      IntKind.wrap IntKind.u64 (IntKind.wrap IntKind.i64 (rdk kuint8 c0_code c0_at))) +
                  1442695040888963407))
        else
          some
            (IntKind.wrap IntKind.i64
                (IntKind.wrap IntKind.u64
                  (↑(BitVec.toNat
                        (BitVec.ofInt (IntKind.bits IntKind.u64)
                            (Int.fdiv
                              (IntKind.wrap IntKind.u64
                                (IntKind.wrap IntKind.u64
                                    (IntKind.wrap IntKind.u64 (c0_seed * 6364136223846793005) +
                                      IntKind.wrap IntKind.u64 (IntKind.wrap IntKind.i64 (rdk kuint8 c0_code c0_at))) +
                                  1442695040888963407))
                              (2 ^ min (Int.toNat 40) (IntKind.bits IntKind.u64))) &&&
                          BitVec.ofInt (IntKind.bits IntKind.u64) 255)) :
                    Int)),
              c0_code, IntKind.wrap IntKind.i64 (c0_at + 1),
              IntKind.wrap IntKind.u64
                (IntKind.wrap IntKind.u64
                    (IntKind.wrap IntKind.u64 (c0_seed * 6364136223846793005) +
                      IntKind.wrap IntKind.u64 (IntKind.wrap IntKind.i64 (rdk kuint8 c0_code c0_at))) +
                  1442695040888963407))
      else none
    else none
  else
    bif decide (IntKind.wrap IntKind.i64 (c0_at + 1) ≤ (↑(List.length c0_code) : Int)) then
      some
        (0, c0_code, IntKind.wrap IntKind.i64 (c0_at + 1),
          IntKind.wrap IntKind.u64
            (IntKind.wrap IntKind.u64 (IntKind.wrap IntKind.u64 (c0_seed * 6364136223846793005) + IntKind.wrap IntKind.u64 0) + 1442695040888963407))
    else
      some
        (IntKind.wrap IntKind.i64
            (IntKind.wrap IntKind.u64
              (↑(BitVec.toNat
                    (BitVec.ofInt (IntKind.bits IntKind.u64)
                        (Int.fdiv
                          (IntKind.wrap IntKind.u64
                            (IntKind.wrap IntKind.u64 (IntKind.wrap IntKind.u64 (c0_seed * 6364136223846793005) + IntKind.wrap IntKind.u64 0) +
                              1442695040888963407))
                          (2 ^ min (Int.toNat 40) (IntKind.bits IntKind.u64))) &&&
                      BitVec.ofInt (IntKind.bits IntKind.u64) 255)) :
                Int)),
          c0_code, IntKind.wrap IntKind.i64 (c0_at + 1),
          IntKind.wrap IntKind.u64
            (IntKind.wrap IntKind.u64 (IntKind.wrap IntKind.u64 (c0_seed * 6364136223846793005) + IntKind.wrap IntKind.u64 0) + 1442695040888963407))
theorem s_l1Cur_next_e (c0_code : List Int) (c0_at : Int) (c0_seed : Int) : c_s_l1Cur_next.start c_s_l1Cur_next.L ((c0_code, c0_at, c0_seed), ()) = s_l1Cur_next c0_code c0_at c0_seed := by kernel_rfl
noncomputable def F_s_l1Cur_next : Ins c_s_l1Cur_next.ins → Option (Int × (List Int × Int × Int)) := fun x => s_l1Cur_next x.1.1 x.1.2.1 x.1.2.2
noncomputable def S_s_l1Cur_next : FSpec := mkF c_s_l1Cur_next.env.pre c_s_l1Cur_next.ins c_s_l1Cur_next.out c_s_l1Cur_next.inj F_s_l1Cur_next
theorem h_s_l1Cur_next : Cert Tryz.prog 96 S_s_l1Cur_next := FnCx.certF (c := c_s_l1Cur_next) F_s_l1Cur_next (tyOk _ _ _) (spOk trivial) (fun _ _ _ _ _ hs => evDr_ok (tyOk _ _ _) hs follows) Tryz.func96 rfl rfl Tryz.ntmps96 (by kernel_rfl) rfl rfl (fun _ => rfl) trivial (fun x => .inl ⟨c_s_l1Cur_next.start () x, fun _ => rfl⟩) (fun x t hb ht => by
  obtain ⟨⟨c0_code, c0_at, c0_seed⟩, _⟩ := x
  exact (s_l1Cur_next_e c0_code c0_at c0_seed).trans ht)
/-! (*spec.l1Cur).pick -/
noncomputable def c_s_l1Cur_pick : FnCx := { env := env 20 [(96, S_s_l1Cur_next)] [], body := bodyOf Tryz.f74, res := [.tmp 4], ins := [.ptr 75 ksl1Cur, .ro kint], out := [(kint, true)], T := Int × (List Int × Int × Int), fin := fun r => (r.1.1, r.2.1), inj := fun t => ((t.1, ()), (t.2, (), ())), pts := [], fuel := 400, dr := noDr }
noncomputable def s_l1Cur_pick (c0_code : List Int) (c0_at : Int) (c0_seed : Int) (n1 : Int) : Option (Int × (List Int × Int × Int)) :=
  bif decide (n1 ≤ 1) then some (0, c0_code, c0_at, c0_seed)
  else
    Option.bind (s_l1Cur_next c0_code c0_at c0_seed) fun r =>
      bif decide (n1 > 200) then
        Option.bind (s_l1Cur_next (Prod.fst (Prod.snd r)) (Prod.fst (Prod.snd (Prod.snd r))) (Prod.snd (Prod.snd (Prod.snd r)))) fun r_1 =>
          bif n1 == 0 then none
          else
            some
              (Int.tmod (IntKind.wrap IntKind.i64 (IntKind.wrap IntKind.i64 (Prod.fst r * 256) + Prod.fst r_1)) n1, Prod.fst (Prod.snd r_1),
                Prod.fst (Prod.snd (Prod.snd r_1)), Prod.snd (Prod.snd (Prod.snd r_1)))
      else bif n1 == 0 then none else some (Int.tmod (Prod.fst r) n1, Prod.fst (Prod.snd r), Prod.fst (Prod.snd (Prod.snd r)), Prod.snd (Prod.snd (Prod.snd r)))
theorem s_l1Cur_pick_e (c0_code : List Int) (c0_at : Int) (c0_seed : Int) (n1 : Int) : c_s_l1Cur_pick.start c_s_l1Cur_pick.L ((c0_code, c0_at, c0_seed), n1, ()) = s_l1Cur_pick c0_code c0_at c0_seed n1 := by kernel_rfl
noncomputable def F_s_l1Cur_pick : Ins c_s_l1Cur_pick.ins → Option (Int × (List Int × Int × Int)) := fun x => s_l1Cur_pick x.1.1 x.1.2.1 x.1.2.2 x.2.1
noncomputable def S_s_l1Cur_pick : FSpec := mkF c_s_l1Cur_pick.env.pre c_s_l1Cur_pick.ins c_s_l1Cur_pick.out c_s_l1Cur_pick.inj F_s_l1Cur_pick
theorem h_s_l1Cur_pick : Cert Tryz.prog 74 S_s_l1Cur_pick := FnCx.certF (c := c_s_l1Cur_pick) F_s_l1Cur_pick (tyOk _ _ _) (spOk ⟨h_s_l1Cur_next, fun _ _ h => h, trivial⟩) (fun _ _ _ _ _ hs => noDr_ok) Tryz.func74 rfl rfl Tryz.ntmps74 (by kernel_rfl) rfl rfl (fun _ => rfl) trivial (fun x => .inl ⟨c_s_l1Cur_pick.start () x, fun _ => rfl⟩) (fun x t hb ht => by
  obtain ⟨⟨c0_code, c0_at, c0_seed⟩, n1, _⟩ := x
  exact (s_l1Cur_pick_e c0_code c0_at c0_seed n1).trans ht)
/-! (*spec.l1Cur).one -/
noncomputable def c_s_l1Cur_one : FnCx := { env := env 9 [(74, S_s_l1Cur_pick)] [], body := bodyOf Tryz.f72, res := [.tmp 4], ins := [.ptr 75 ksl1Cur, .ro kint], out := [(kbool, true)], T := Bool × (List Int × Int × Int), fin := fun r => (r.1.1, r.2.1), inj := fun t => ((t.1, ()), (t.2, (), ())), pts := [], fuel := 400, dr := noDr }
noncomputable def s_l1Cur_one (c0_code : List Int) (c0_at : Int) (c0_seed : Int) (n1 : Int) : Option (Bool × (List Int × Int × Int)) :=
  Option.bind (s_l1Cur_pick c0_code c0_at c0_seed n1) fun r =>
    some (Prod.fst r == 0, Prod.fst (Prod.snd r), Prod.fst (Prod.snd (Prod.snd r)), Prod.snd (Prod.snd (Prod.snd r)))
theorem s_l1Cur_one_e (c0_code : List Int) (c0_at : Int) (c0_seed : Int) (n1 : Int) : c_s_l1Cur_one.start c_s_l1Cur_one.L ((c0_code, c0_at, c0_seed), n1, ()) = s_l1Cur_one c0_code c0_at c0_seed n1 := by kernel_rfl
noncomputable def F_s_l1Cur_one : Ins c_s_l1Cur_one.ins → Option (Bool × (List Int × Int × Int)) := fun x => s_l1Cur_one x.1.1 x.1.2.1 x.1.2.2 x.2.1
noncomputable def S_s_l1Cur_one : FSpec := mkF c_s_l1Cur_one.env.pre c_s_l1Cur_one.ins c_s_l1Cur_one.out c_s_l1Cur_one.inj F_s_l1Cur_one
theorem h_s_l1Cur_one : Cert Tryz.prog 72 S_s_l1Cur_one := FnCx.certF (c := c_s_l1Cur_one) F_s_l1Cur_one (tyOk _ _ _) (spOk ⟨h_s_l1Cur_pick, fun _ _ h => h, trivial⟩) (fun _ _ _ _ _ hs => noDr_ok) Tryz.func72 rfl rfl Tryz.ntmps72 (by kernel_rfl) rfl rfl (fun _ => rfl) trivial (fun x => .inl ⟨c_s_l1Cur_one.start () x, fun _ => rfl⟩) (fun x t hb ht => by
  obtain ⟨⟨c0_code, c0_at, c0_seed⟩, n1, _⟩ := x
  exact (s_l1Cur_one_e c0_code c0_at c0_seed n1).trans ht)
/-! (*spec.l1Cur).sureStairs -/
noncomputable def c_s_l1Cur_sureStairs : FnCx := { env := env 46 [(74, S_s_l1Cur_pick), (72, S_s_l1Cur_one)] [], body := bodyOf Tryz.f75, res := [.cell 4 24], ins := [.ptr 75 ksl1Cur, .ro kint], out := [(kStairs, true)], T := (Int × List Int × List Int) × (List Int × Int × Int), fin := fun r => (r.1.1, r.2.1), inj := fun t => ((t.1, ()), (t.2, (), ())), pts := [([.inLoop [1, 1, 0, 1, 0, 0], .inBlock 0, .code [1, 1, 1]], Shape.mk [Bs.box 75 [Cs.sl 3, Cs.sc kint, Cs.sc kuint], Bs.box 24 [Cs.sc kint, Cs.sl 4, Cs.sl 5], Bs.box 24 [Cs.sc kint, Cs.sl 6, Cs.sl 7], Bs.row kuint8 5 false, Bs.row kint 3 true, Bs.row kint 3 true, Bs.row kint 3 true, Bs.row kint 3 true] [(0, Ss.one (Cs.ptr 0 0)), (4, Ss.one (Cs.ptr 1 0)), (5, Ss.one (Cs.ptr 2 0)), (6, Ss.one (Cs.sc kint))] [Ss.one (Cs.ptr 0 0), Ss.one (Cs.any)]), ([.inLoop [1, 1, 1, 1, 0, 1, 0, 0], .inBlock 2, .code [1, 1, 1, 1, 1]], Shape.mk [Bs.box 75 [Cs.sl 3, Cs.sc kint, Cs.sc kuint], Bs.box 24 [Cs.sc kint, Cs.sl 4, Cs.sl 5], Bs.box 24 [Cs.sc kint, Cs.sl 6, Cs.sl 7], Bs.row kuint8 5 false, Bs.row kint 3 true, Bs.row kint 3 true, Bs.row kint 3 true, Bs.row kint 3 true] [(0, Ss.one (Cs.ptr 0 0)), (4, Ss.one (Cs.ptr 1 0)), (5, Ss.one (Cs.ptr 2 0)), (7, Ss.one (Cs.sc kint))] [Ss.one (Cs.ptr 0 0), Ss.one (Cs.any)])], fuel := 400, dr := noDr }
noncomputable def s_l1Cur_sureStairs_t1 (g1 : Int → Int → Int → Int → List (Int) → List (Int) → List (Int) → List (Int) → List (Int) → Int → Option ((Int × List Int × List Int) × (List Int × Int × Int))) (g2 : Int → Int → Int → Int → List (Int) → List (Int) → List (Int) → List (Int) → List (Int) → Int → Option ((Int × List Int × List Int) × (List Int × Int × Int))) (b0_1 : Int) (b0_2 : Int) (b1_0 : Int) (b2_0 : Int) (r3 : List (Int)) (r4 : List (Int)) (r5 : List (Int)) (r6 : List (Int)) (r7 : List (Int)) (stride6 : Int) : Option ((Int × List Int × List Int) × (List Int × Int × Int)) :=
  bif decide (stride6 ≤ 4) then
    Option.bind (s_l1Cur_one r3 b0_1 b0_2 2) fun r =>
      bif Prod.fst r then
        bif Nat.ble (List.length r6 + 1) 4294967296 then
          g1 (Prod.fst (Prod.snd (Prod.snd r))) (Prod.snd (Prod.snd (Prod.snd r))) b1_0 b2_0 (Prod.fst (Prod.snd r)) r4 r5 (r6 ++ [stride6]) r7
            (IntKind.wrap IntKind.i64 (stride6 + 1))
        else none
      else
        g1 (Prod.fst (Prod.snd (Prod.snd r))) (Prod.snd (Prod.snd (Prod.snd r))) b1_0 b2_0 (Prod.fst (Prod.snd r)) r4 r5 r6 r7
          (IntKind.wrap IntKind.i64 (stride6 + 1))
  else bif (↑(List.length r6) : Int) == 0 then g2 b0_1 b0_2 b1_0 b2_0 r3 r4 r5 [1, 2] r7 1 else g2 b0_1 b0_2 b1_0 b2_0 r3 r4 r5 r6 r7 1
noncomputable def s_l1Cur_sureStairs_t2 (g1 : Int → Int → Int → Int → List (Int) → List (Int) → List (Int) → List (Int) → List (Int) → Int → Option ((Int × List Int × List Int) × (List Int × Int × Int))) (g2 : Int → Int → Int → Int → List (Int) → List (Int) → List (Int) → List (Int) → List (Int) → Int → Option ((Int × List Int × List Int) × (List Int × Int × Int))) (b0_1 : Int) (b0_2 : Int) (b1_0 : Int) (b2_0 : Int) (r3 : List (Int)) (r4 : List (Int)) (r5 : List (Int)) (r6 : List (Int)) (r7 : List (Int)) (step7 : Int) : Option ((Int × List Int × List Int) × (List Int × Int × Int)) :=
  bif decide (step7 < b2_0) then
    Option.bind (s_l1Cur_one r3 b0_1 b0_2 6) fun r =>
      bif Prod.fst r then
        bif Nat.ble (List.length r7 + 1) 4294967296 then
          g2 (Prod.fst (Prod.snd (Prod.snd r))) (Prod.snd (Prod.snd (Prod.snd r))) b1_0 b2_0 (Prod.fst (Prod.snd r)) r4 r5 r6 (r7 ++ [step7])
            (IntKind.wrap IntKind.i64 (step7 + 1))
        else none
      else
        g2 (Prod.fst (Prod.snd (Prod.snd r))) (Prod.snd (Prod.snd (Prod.snd r))) b1_0 b2_0 (Prod.fst (Prod.snd r)) r4 r5 r6 r7
          (IntKind.wrap IntKind.i64 (step7 + 1))
  else some ((b2_0, r6, r7), r3, b0_1, b0_2)
noncomputable def s_l1Cur_sureStairs_t0 (g1 : Int → Int → Int → Int → List (Int) → List (Int) → List (Int) → List (Int) → List (Int) → Int → Option ((Int × List Int × List Int) × (List Int × Int × Int))) (g2 : Int → Int → Int → Int → List (Int) → List (Int) → List (Int) → List (Int) → List (Int) → Int → Option ((Int × List Int × List Int) × (List Int × Int × Int))) (c0_code : List Int) (c0_at : Int) (c0_seed : Int) (most1 : Int) : Option ((Int × List Int × List Int) × (List Int × Int × Int)) :=
  Option.bind (s_l1Cur_pick c0_code c0_at c0_seed most1) fun r =>
    g1 (Prod.fst (Prod.snd (Prod.snd r))) (Prod.snd (Prod.snd (Prod.snd r))) 0 (IntKind.wrap IntKind.i64 (1 + Prod.fst r)) (Prod.fst (Prod.snd r)) [] [] [] [] 1
theorem s_l1Cur_sureStairs_ts : Tails c_s_l1Cur_sureStairs.pts c_s_l1Cur_sureStairs.round :=
  ⟨fun s => by
    obtain ⟨⟨⟨_, b0_1, b0_2, _⟩, ⟨b1_0, _, _, _⟩, ⟨b2_0, _, _, _⟩, r3, r4, r5, r6, r7, _⟩, ⟨_, _, _, stride6, _⟩, ⟨_, _, _⟩⟩ := s
    refine Tail.eq (Y := fun g => s_l1Cur_sureStairs_t1 (fun b0_1 b0_2 b1_0 b2_0 r3 r4 r5 r6 r7 stride6 => g.1 ((((), b0_1, b0_2, ()), (b1_0, (), (), ()), (b2_0, (), (), ()), r3, r4, r5, r6, r7, ()), ((), (), (), stride6, ()), ((), (), ()))) (fun b0_1 b0_2 b1_0 b2_0 r3 r4 r5 r6 r7 step7 => g.2.1 ((((), b0_1, b0_2, ()), (b1_0, (), (), ()), (b2_0, (), (), ()), r3, r4, r5, r6, r7, ()), ((), (), (), step7, ()), ((), (), ()))) b0_1 b0_2 b1_0 b2_0 r3 r4 r5 r6 r7 stride6) ?_ (fun g => by kernel_rfl)
    simp only [s_l1Cur_sureStairs_t1]; repeat (first | exact Tail.const _ | exact Tail.here _ | exact Tail.there (Tail.here _) | exact Tail.there (Tail.there (Tail.here _)) | exact Tail.there (Tail.there (Tail.there (Tail.here _))) | exact Tail.there (Tail.there (Tail.there (Tail.there (Tail.here _)))) | exact Tail.there (Tail.there (Tail.there (Tail.there (Tail.there (Tail.here _))))) | apply Tail.cond | (apply Tail.bind; intro _)),
  fun s => by
    obtain ⟨⟨⟨_, b0_1, b0_2, _⟩, ⟨b1_0, _, _, _⟩, ⟨b2_0, _, _, _⟩, r3, r4, r5, r6, r7, _⟩, ⟨_, _, _, step7, _⟩, ⟨_, _, _⟩⟩ := s
    refine Tail.eq (Y := fun g => s_l1Cur_sureStairs_t2 (fun b0_1 b0_2 b1_0 b2_0 r3 r4 r5 r6 r7 stride6 => g.1 ((((), b0_1, b0_2, ()), (b1_0, (), (), ()), (b2_0, (), (), ()), r3, r4, r5, r6, r7, ()), ((), (), (), stride6, ()), ((), (), ()))) (fun b0_1 b0_2 b1_0 b2_0 r3 r4 r5 r6 r7 step7 => g.2.1 ((((), b0_1, b0_2, ()), (b1_0, (), (), ()), (b2_0, (), (), ()), r3, r4, r5, r6, r7, ()), ((), (), (), step7, ()), ((), (), ()))) b0_1 b0_2 b1_0 b2_0 r3 r4 r5 r6 r7 step7) ?_ (fun g => by kernel_rfl)
    simp only [s_l1Cur_sureStairs_t2]; repeat (first | exact Tail.const _ | exact Tail.here _ | exact Tail.there (Tail.here _) | exact Tail.there (Tail.there (Tail.here _)) | exact Tail.there (Tail.there (Tail.there (Tail.here _))) | exact Tail.there (Tail.there (Tail.there (Tail.there (Tail.here _)))) | exact Tail.there (Tail.there (Tail.there (Tail.there (Tail.there (Tail.here _))))) | apply Tail.cond | (apply Tail.bind; intro _)), trivial⟩
theorem s_l1Cur_sureStairs_hs : ∀ x, Tail c_s_l1Cur_sureStairs.pts (fun g => c_s_l1Cur_sureStairs.start g x) := fun x => by
    obtain ⟨⟨c0_code, c0_at, c0_seed⟩, most1, _⟩ := x
    refine Tail.eq (Y := fun g => s_l1Cur_sureStairs_t0 (fun b0_1 b0_2 b1_0 b2_0 r3 r4 r5 r6 r7 stride6 => g.1 ((((), b0_1, b0_2, ()), (b1_0, (), (), ()), (b2_0, (), (), ()), r3, r4, r5, r6, r7, ()), ((), (), (), stride6, ()), ((), (), ()))) (fun b0_1 b0_2 b1_0 b2_0 r3 r4 r5 r6 r7 step7 => g.2.1 ((((), b0_1, b0_2, ()), (b1_0, (), (), ()), (b2_0, (), (), ()), r3, r4, r5, r6, r7, ()), ((), (), (), step7, ()), ((), (), ()))) c0_code c0_at c0_seed most1) ?_ (fun g => by kernel_rfl)
    simp only [s_l1Cur_sureStairs_t0]; repeat (first | exact Tail.const _ | exact Tail.here _ | exact Tail.there (Tail.here _) | exact Tail.there (Tail.there (Tail.here _)) | exact Tail.there (Tail.there (Tail.there (Tail.here _))) | exact Tail.there (Tail.there (Tail.there (Tail.there (Tail.here _)))) | exact Tail.there (Tail.there (Tail.there (Tail.there (Tail.there (Tail.here _))))) | apply Tail.cond | (apply Tail.bind; intro _))
noncomputable def s_l1Cur_sureStairs_L1 (b0_1 : Int) (b0_2 : Int) (b1_0 : Int) (b2_0 : Int) (r3 : List (Int)) (r4 : List (Int)) (r5 : List (Int)) (r6 : List (Int)) (r7 : List (Int)) (stride6 : Int) : Option ((Int × List Int × List Int) × (List Int × Int × Int)) := c_s_l1Cur_sureStairs.L.1 ((((), b0_1, b0_2, ()), (b1_0, (), (), ()), (b2_0, (), (), ()), r3, r4, r5, r6, r7, ()), ((), (), (), stride6, ()), ((), (), ()))
noncomputable def s_l1Cur_sureStairs_L2 (b0_1 : Int) (b0_2 : Int) (b1_0 : Int) (b2_0 : Int) (r3 : List (Int)) (r4 : List (Int)) (r5 : List (Int)) (r6 : List (Int)) (r7 : List (Int)) (step7 : Int) : Option ((Int × List Int × List Int) × (List Int × Int × Int)) := c_s_l1Cur_sureStairs.L.2.1 ((((), b0_1, b0_2, ()), (b1_0, (), (), ()), (b2_0, (), (), ()), r3, r4, r5, r6, r7, ()), ((), (), (), step7, ()), ((), (), ()))
theorem s_l1Cur_sureStairs_u1 (b0_1 : Int) (b0_2 : Int) (b1_0 : Int) (b2_0 : Int) (r3 : List (Int)) (r4 : List (Int)) (r5 : List (Int)) (r6 : List (Int)) (r7 : List (Int)) (stride6 : Int) : s_l1Cur_sureStairs_L1 b0_1 b0_2 b1_0 b2_0 r3 r4 r5 r6 r7 stride6 = s_l1Cur_sureStairs_t1 s_l1Cur_sureStairs_L1 s_l1Cur_sureStairs_L2 b0_1 b0_2 b1_0 b2_0 r3 r4 r5 r6 r7 stride6 :=
  (congrArg (fun g => g.1 ((((), b0_1, b0_2, ()), (b1_0, (), (), ()), (b2_0, (), (), ()), r3, r4, r5, r6, r7, ()), ((), (), (), stride6, ()), ((), (), ()))) (FnCx.L_eq s_l1Cur_sureStairs_ts)).trans (by kernel_rfl)
theorem s_l1Cur_sureStairs_u2 (b0_1 : Int) (b0_2 : Int) (b1_0 : Int) (b2_0 : Int) (r3 : List (Int)) (r4 : List (Int)) (r5 : List (Int)) (r6 : List (Int)) (r7 : List (Int)) (step7 : Int) : s_l1Cur_sureStairs_L2 b0_1 b0_2 b1_0 b2_0 r3 r4 r5 r6 r7 step7 = s_l1Cur_sureStairs_t2 s_l1Cur_sureStairs_L1 s_l1Cur_sureStairs_L2 b0_1 b0_2 b1_0 b2_0 r3 r4 r5 r6 r7 step7 :=
  (congrArg (fun g => g.2.1 ((((), b0_1, b0_2, ()), (b1_0, (), (), ()), (b2_0, (), (), ()), r3, r4, r5, r6, r7, ()), ((), (), (), step7, ()), ((), (), ()))) (FnCx.L_eq s_l1Cur_sureStairs_ts)).trans (by kernel_rfl)
noncomputable def s_l1Cur_sureStairs (c0_code : List Int) (c0_at : Int) (c0_seed : Int) (most1 : Int) : Option ((Int × List Int × List Int) × (List Int × Int × Int)) := s_l1Cur_sureStairs_t0 s_l1Cur_sureStairs_L1 s_l1Cur_sureStairs_L2 c0_code c0_at c0_seed most1
theorem s_l1Cur_sureStairs_e (c0_code : List Int) (c0_at : Int) (c0_seed : Int) (most1 : Int) : c_s_l1Cur_sureStairs.start c_s_l1Cur_sureStairs.L ((c0_code, c0_at, c0_seed), most1, ()) = s_l1Cur_sureStairs c0_code c0_at c0_seed most1 := by kernel_rfl
noncomputable def F_s_l1Cur_sureStairs : Ins c_s_l1Cur_sureStairs.ins → Option ((Int × List Int × List Int) × (List Int × Int × Int)) := fun x => s_l1Cur_sureStairs x.1.1 x.1.2.1 x.1.2.2 x.2.1
noncomputable def S_s_l1Cur_sureStairs : FSpec := mkF c_s_l1Cur_sureStairs.env.pre c_s_l1Cur_sureStairs.ins c_s_l1Cur_sureStairs.out c_s_l1Cur_sureStairs.inj F_s_l1Cur_sureStairs
theorem h_s_l1Cur_sureStairs : Cert Tryz.prog 75 S_s_l1Cur_sureStairs := FnCx.certF (c := c_s_l1Cur_sureStairs) F_s_l1Cur_sureStairs (tyOk _ _ _) (spOk ⟨h_s_l1Cur_pick, fun _ _ h => h, ⟨h_s_l1Cur_one, fun _ _ h => h, trivial⟩⟩) (fun _ _ _ _ _ hs => noDr_ok) Tryz.func75 rfl rfl Tryz.ntmps75 (by kernel_rfl) rfl rfl (fun _ => rfl) s_l1Cur_sureStairs_ts s_l1Cur_sureStairs_hs (fun x t hb ht => by
  obtain ⟨⟨c0_code, c0_at, c0_seed⟩, most1, _⟩ := x
  exact (s_l1Cur_sureStairs_e c0_code c0_at c0_seed most1).trans ht)
/-! (*spec.l1Cur).among -/
noncomputable def c_s_l1Cur_among : FnCx := { env := env 12 [(74, S_s_l1Cur_pick)] [], body := bodyOf Tryz.f73, res := [.tmp 4], ins := [.ptr 75 ksl1Cur, .ro kSint], out := [(kint, true)], T := Int × (List Int × Int × Int), fin := fun r => (r.1.1, r.2.1), inj := fun t => ((t.1, ()), (t.2, (), ())), pts := [], fuel := 400, dr := noDr }
noncomputable def s_l1Cur_among (c0_code : List Int) (c0_at : Int) (c0_seed : Int) (list1 : List Int) : Option (Int × (List Int × Int × Int)) :=
  Option.bind (s_l1Cur_pick c0_code c0_at c0_seed (↑(List.length list1) : Int)) fun r =>
    bif decide (0 ≤ Prod.fst r) then
      bif decide (Prod.fst r < (↑(List.length list1) : Int)) then
        some (rdk kint list1 (Prod.fst r), Prod.fst (Prod.snd r), Prod.fst (Prod.snd (Prod.snd r)), Prod.snd (Prod.snd (Prod.snd r)))
      else none
    else none
theorem s_l1Cur_among_e (c0_code : List Int) (c0_at : Int) (c0_seed : Int) (list1 : List Int) : c_s_l1Cur_among.start c_s_l1Cur_among.L ((c0_code, c0_at, c0_seed), list1, ()) = s_l1Cur_among c0_code c0_at c0_seed list1 := by kernel_rfl
noncomputable def F_s_l1Cur_among : Ins c_s_l1Cur_among.ins → Option (Int × (List Int × Int × Int)) := fun x => s_l1Cur_among x.1.1 x.1.2.1 x.1.2.2 x.2.1
noncomputable def S_s_l1Cur_among : FSpec := mkF c_s_l1Cur_among.env.pre c_s_l1Cur_among.ins c_s_l1Cur_among.out c_s_l1Cur_among.inj F_s_l1Cur_among
theorem h_s_l1Cur_among : Cert Tryz.prog 73 S_s_l1Cur_among := FnCx.certF (c := c_s_l1Cur_among) F_s_l1Cur_among (tyOk _ _ _) (spOk ⟨h_s_l1Cur_pick, fun _ _ h => h, trivial⟩) (fun _ _ _ _ _ hs => noDr_ok) Tryz.func73 rfl rfl Tryz.ntmps73 (by kernel_rfl) rfl rfl (fun _ => rfl) trivial (fun x => .inl ⟨c_s_l1Cur_among.start () x, fun _ => rfl⟩) (fun x t hb ht => by
  obtain ⟨⟨c0_code, c0_at, c0_seed⟩, list1, _⟩ := x
  exact (s_l1Cur_among_e c0_code c0_at c0_seed list1).trans ht)
/-! (*spec.l1Cur).stairs -/
noncomputable def c_s_l1Cur_stairs : FnCx := { env := env 49 [(75, S_s_l1Cur_sureStairs), (74, S_s_l1Cur_pick), (73, S_s_l1Cur_among)] [27], body := bodyOf Tryz.f71, res := [.cell 2 24], ins := [.ptr 75 ksl1Cur], out := [(kStairs, false)], T := (Int × List Int × List Int) × (List Int × Int × Int), fin := fun r => (r.1.1, r.2.1), inj := fun t => ((t.1, ()), (t.2, ())), pts := [], fuel := 400, dr := evDr (env 49 [(75, S_s_l1Cur_sureStairs), (74, S_s_l1Cur_pick), (73, S_s_l1Cur_among)] [27]) }
noncomputable def s_l1Cur_stairs (c0_code : List Int) (c0_at : Int) (c0_seed : Int) : Option ((Int × List Int × List Int) × (List Int × Int × Int)) :=
  Option.bind (s_l1Cur_sureStairs c0_code c0_at c0_seed 12) fun r =>
    Option.bind (s_l1Cur_pick (Prod.fst (Prod.snd r)) (Prod.fst (Prod.snd (Prod.snd r))) (Prod.snd (Prod.snd (Prod.snd r))) 18) fun r_1 =>
      bif Prod.fst r_1 == 0 then
        Option.bind
          (s_l1Cur_among (Prod.fst (Prod.snd r_1)) (Prod.fst (Prod.snd (Prod.snd r_1))) (Prod.snd (Prod.snd (Prod.snd r_1))) [0, -1, 60, 61, 4611686018427387904])
          fun r_2 =>
          some
            ((Prod.fst r_2, Prod.fst (Prod.snd (Prod.fst r)), Prod.snd (Prod.snd (Prod.fst r))), Prod.fst (Prod.snd r_2), Prod.fst (Prod.snd (Prod.snd r_2)),
              Prod.snd (Prod.snd (Prod.snd r_2)))
      else
        bif Prod.fst r_1 == 1 then
          Option.bind (s_l1Cur_pick (Prod.fst (Prod.snd r_1)) (Prod.fst (Prod.snd (Prod.snd r_1))) (Prod.snd (Prod.snd (Prod.snd r_1))) 8) fun r_2 =>
            bif decide (0 ≤ Prod.fst r_2) then
              bif decide (Prod.fst r_2 < (↑8 : Int)) then
                some
                  ((Prod.fst (Prod.fst r), rdk kSint [[], [0], [1, 1], [2, 1], [9], [10], [1, 2, 3, 4, 5], [1, 2, 3, 4, 5, 6]] (Prod.fst r_2),
                      Prod.snd (Prod.snd (Prod.fst r))),
                    Prod.fst (Prod.snd r_2), Prod.fst (Prod.snd (Prod.snd r_2)), Prod.snd (Prod.snd (Prod.snd r_2)))
              else none
            else none
        else
          bif Prod.fst r_1 == 2 then
            Option.bind
              (s_l1Cur_among (Prod.fst (Prod.snd r_1)) (Prod.fst (Prod.snd (Prod.snd r_1))) (Prod.snd (Prod.snd (Prod.snd r_1)))
                [-1, 0, IntKind.wrap IntKind.i64 (Prod.fst (Prod.fst r) - 1), Prod.fst (Prod.fst r), 1])
              fun r_2 =>
              bif Nat.ble (List.length (Prod.snd (Prod.snd (Prod.fst r))) + 1) 4294967296 then
                some
                  ((Prod.fst (Prod.fst r), Prod.fst (Prod.snd (Prod.fst r)), Prod.snd (Prod.snd (Prod.fst r)) ++ [Prod.fst r_2]), Prod.fst (Prod.snd r_2),
                    Prod.fst (Prod.snd (Prod.snd r_2)), Prod.snd (Prod.snd (Prod.snd r_2)))
              else none
          else
            bif Prod.fst r_1 == 3 then some ((60, [1, 2, 3], []), Prod.fst (Prod.snd r_1), Prod.fst (Prod.snd (Prod.snd r_1)), Prod.snd (Prod.snd (Prod.snd r_1)))
            else
              some
                ((Prod.fst (Prod.fst r), Prod.fst (Prod.snd (Prod.fst r)), Prod.snd (Prod.snd (Prod.fst r))), Prod.fst (Prod.snd r_1),
                  Prod.fst (Prod.snd (Prod.snd r_1)), Prod.snd (Prod.snd (Prod.snd r_1)))
theorem s_l1Cur_stairs_e (c0_code : List Int) (c0_at : Int) (c0_seed : Int) : c_s_l1Cur_stairs.start c_s_l1Cur_stairs.L ((c0_code, c0_at, c0_seed), ()) = s_l1Cur_stairs c0_code c0_at c0_seed := by kernel_rfl
noncomputable def F_s_l1Cur_stairs : Ins c_s_l1Cur_stairs.ins → Option ((Int × List Int × List Int) × (List Int × Int × Int)) := fun x => s_l1Cur_stairs x.1.1 x.1.2.1 x.1.2.2
noncomputable def S_s_l1Cur_stairs : FSpec := mkF c_s_l1Cur_stairs.env.pre c_s_l1Cur_stairs.ins c_s_l1Cur_stairs.out c_s_l1Cur_stairs.inj F_s_l1Cur_stairs
theorem h_s_l1Cur_stairs : Cert Tryz.prog 71 S_s_l1Cur_stairs := FnCx.certF (c := c_s_l1Cur_stairs) F_s_l1Cur_stairs (tyOk _ _ _) (spOk ⟨h_s_l1Cur_sureStairs, fun _ _ h => h, ⟨h_s_l1Cur_pick, fun _ _ h => h, ⟨h_s_l1Cur_among, fun _ _ h => h, trivial⟩⟩⟩) (fun _ _ _ _ _ hs => evDr_ok (tyOk _ _ _) hs follows) Tryz.func71 rfl rfl Tryz.ntmps71 (by kernel_rfl) rfl rfl (fun _ => rfl) trivial (fun x => .inl ⟨c_s_l1Cur_stairs.start () x, fun _ => rfl⟩) (fun x t hb ht => by
  obtain ⟨⟨c0_code, c0_at, c0_seed⟩, _⟩ := x
  exact (s_l1Cur_stairs_e c0_code c0_at c0_seed).trans ht)
/-! spec.DrawAreStairs -/
noncomputable def c_s_DrawAreStairs : FnCx := { env := env 9 [(71, S_s_l1Cur_stairs)] [], body := bodyOf Tryz.f69, res := [.cell 2 24], ins := [.ro kSuint8], out := [(kStairs, false)], T := (Int × List Int × List Int), fin := fun r => r.1.1, inj := fun t => ((t, ()), ((), ())), pts := [], fuel := 400, dr := noDr }
noncomputable def s_DrawAreStairs (code0 : List Int) : Option ((Int × List Int × List Int)) :=
  Option.bind (s_l1Cur_stairs code0 0 0) fun r => some (Prod.fst (Prod.fst r), Prod.fst (Prod.snd (Prod.fst r)), Prod.snd (Prod.snd (Prod.fst r)))
theorem s_DrawAreStairs_e (code0 : List Int) : c_s_DrawAreStairs.start c_s_DrawAreStairs.L (code0, ()) = s_DrawAreStairs code0 := by kernel_rfl
noncomputable def F_s_DrawAreStairs : Ins c_s_DrawAreStairs.ins → Option ((Int × List Int × List Int)) := fun x => s_DrawAreStairs x.1
noncomputable def S_s_DrawAreStairs : FSpec := mkF c_s_DrawAreStairs.env.pre c_s_DrawAreStairs.ins c_s_DrawAreStairs.out c_s_DrawAreStairs.inj F_s_DrawAreStairs
theorem h_s_DrawAreStairs : Cert Tryz.prog 69 S_s_DrawAreStairs := FnCx.certF (c := c_s_DrawAreStairs) F_s_DrawAreStairs (tyOk _ _ _) (spOk ⟨h_s_l1Cur_stairs, fun _ _ h => h, trivial⟩) (fun _ _ _ _ _ hs => noDr_ok) Tryz.func69 rfl rfl Tryz.ntmps69 (by kernel_rfl) rfl rfl (fun _ => rfl) trivial (fun x => .inl ⟨c_s_DrawAreStairs.start () x, fun _ => rfl⟩) (fun x t hb ht => by
  obtain ⟨code0, _⟩ := x
  exact (s_DrawAreStairs_e code0).trans ht)
/-! spec.DrawNeededSteps -/
noncomputable def c_s_DrawNeededSteps : FnCx := { env := env 5 [(69, S_s_DrawAreStairs)] [], body := bodyOf Tryz.f33, res := [.cell 2 24], ins := [.ro kSuint8], out := [(kStairs, false)], T := (Int × List Int × List Int), fin := fun r => r.1.1, inj := fun t => ((t, ()), ((), ())), pts := [], fuel := 400, dr := noDr }
noncomputable def s_DrawNeededSteps (code0 : List Int) : Option ((Int × List Int × List Int)) :=
  Option.bind (s_DrawAreStairs code0) fun r => some (Prod.fst r, Prod.fst (Prod.snd r), Prod.snd (Prod.snd r))
theorem s_DrawNeededSteps_e (code0 : List Int) : c_s_DrawNeededSteps.start c_s_DrawNeededSteps.L (code0, ()) = s_DrawNeededSteps code0 := by kernel_rfl
noncomputable def F_s_DrawNeededSteps : Ins c_s_DrawNeededSteps.ins → Option ((Int × List Int × List Int)) := fun x => s_DrawNeededSteps x.1
noncomputable def S_s_DrawNeededSteps : FSpec := mkF c_s_DrawNeededSteps.env.pre c_s_DrawNeededSteps.ins c_s_DrawNeededSteps.out c_s_DrawNeededSteps.inj F_s_DrawNeededSteps
theorem h_s_DrawNeededSteps : Cert Tryz.prog 33 S_s_DrawNeededSteps := FnCx.certF (c := c_s_DrawNeededSteps) F_s_DrawNeededSteps (tyOk _ _ _) (spOk ⟨h_s_DrawAreStairs, fun _ _ h => h, trivial⟩) (fun _ _ _ _ _ hs => noDr_ok) Tryz.func33 rfl rfl Tryz.ntmps33 (by kernel_rfl) rfl rfl (fun _ => rfl) trivial (fun x => .inl ⟨c_s_DrawNeededSteps.start () x, fun _ => rfl⟩) (fun x t hb ht => by
  obtain ⟨code0, _⟩ := x
  exact (s_DrawNeededSteps_e code0).trans ht)
/-! spec.l1Most -/
noncomputable def c_s_l1Most : FnCx := { env := env 10 [] [], body := bodyOf Tryz.f95, res := [.tmp 4], ins := [.ro kint, .ro kint], out := [(kint, true)], T := Int, fin := fun r => r.1.1, inj := fun t => ((t, ()), ((), (), ())), pts := [], fuel := 400, dr := noDr }
noncomputable def s_l1Most (a0 : Int) (b1 : Int) : Int :=
  bif decide (a0 > b1) then a0 else b1
theorem s_l1Most_e (a0 : Int) (b1 : Int) : c_s_l1Most.start c_s_l1Most.L (a0, b1, ()) = some (s_l1Most a0 b1) := by
  refine Eq.trans (b := (bif decide (a0 > b1) then some a0 else some b1 : Option Int)) (by kernel_rfl) ?_
  unfold s_l1Most
  repeat (first | rfl | apply condS)
noncomputable def F_s_l1Most : Ins c_s_l1Most.ins → Int := fun x => s_l1Most x.1 x.2.1
noncomputable def S_s_l1Most : FSpec := mkT c_s_l1Most.env.pre c_s_l1Most.ins c_s_l1Most.out c_s_l1Most.inj F_s_l1Most
theorem h_s_l1Most : Cert Tryz.prog 95 S_s_l1Most := FnCx.certT (c := c_s_l1Most) F_s_l1Most (tyOk _ _ _) (spOk trivial) (fun _ _ _ _ _ hs => noDr_ok) Tryz.func95 rfl rfl Tryz.ntmps95 (by kernel_rfl) rfl rfl (fun _ => rfl) trivial (fun x => .inl ⟨c_s_l1Most.start () x, fun _ => rfl⟩) (fun x hb => by
  obtain ⟨a0, b1, _⟩ := x
  exact s_l1Most_e a0 b1)
/-! spec.DrawClimbsThrough -/
noncomputable def c_s_DrawClimbsThrough : FnCx := { env := env 23 [(71, S_s_l1Cur_stairs), (95, S_s_l1Most), (78, S_s_l1Least), (74, S_s_l1Cur_pick)] [], body := bodyOf Tryz.f70, res := [.cell 2 24, .tmp 3], ins := [.ro kSuint8], out := [(kStairs, false), (kint, true)], T := (Int × List Int × List Int) × Int, fin := fun r => (r.1.1, r.1.2.1), inj := fun t => ((t.1, t.2, ()), ((), ())), pts := [], fuel := 400, dr := evDr (env 23 [(71, S_s_l1Cur_stairs), (95, S_s_l1Most), (78, S_s_l1Least), (74, S_s_l1Cur_pick)] []) }
noncomputable def s_DrawClimbsThrough (code0 : List Int) : Option ((Int × List Int × List Int) × Int) :=
  Option.bind (s_l1Cur_stairs code0 0 0) fun r =>
    Option.bind
      (s_l1Cur_pick (Prod.fst (Prod.snd r)) (Prod.fst (Prod.snd (Prod.snd r))) (Prod.snd (Prod.snd (Prod.snd r)))
        (IntKind.wrap IntKind.i64 (s_l1Least (s_l1Most (Prod.fst (Prod.fst r)) 0) 60 + 2)))
      fun r_1 =>
      Option.bind (s_l1Cur_pick (Prod.fst (Prod.snd r_1)) (Prod.fst (Prod.snd (Prod.snd r_1))) (Prod.snd (Prod.snd (Prod.snd r_1))) 9) fun r_2 =>
        some
          ((Prod.fst (Prod.fst r), Prod.fst (Prod.snd (Prod.fst r)), Prod.snd (Prod.snd (Prod.fst r))),
            IntKind.wrap IntKind.i64 (Prod.fst r_1 - IntKind.wrap IntKind.i64 (Int.tdiv (Prod.fst r_2) 8)))
theorem s_DrawClimbsThrough_e (code0 : List Int) : c_s_DrawClimbsThrough.start c_s_DrawClimbsThrough.L (code0, ()) = s_DrawClimbsThrough code0 := by kernel_rfl
noncomputable def F_s_DrawClimbsThrough : Ins c_s_DrawClimbsThrough.ins → Option ((Int × List Int × List Int) × Int) := fun x => s_DrawClimbsThrough x.1
noncomputable def S_s_DrawClimbsThrough : FSpec := mkF c_s_DrawClimbsThrough.env.pre c_s_DrawClimbsThrough.ins c_s_DrawClimbsThrough.out c_s_DrawClimbsThrough.inj F_s_DrawClimbsThrough
theorem h_s_DrawClimbsThrough : Cert Tryz.prog 70 S_s_DrawClimbsThrough := FnCx.certF (c := c_s_DrawClimbsThrough) F_s_DrawClimbsThrough (tyOk _ _ _) (spOk ⟨h_s_l1Cur_stairs, fun _ _ h => h, ⟨h_s_l1Most, fun _ _ h => h, ⟨h_s_l1Least, fun _ _ h => h, ⟨h_s_l1Cur_pick, fun _ _ h => h, trivial⟩⟩⟩⟩) (fun _ _ _ _ _ hs => evDr_ok (tyOk _ _ _) hs follows) Tryz.func70 rfl rfl Tryz.ntmps70 (by kernel_rfl) rfl rfl (fun _ => rfl) trivial (fun x => .inl ⟨c_s_DrawClimbsThrough.start () x, fun _ => rfl⟩) (fun x t hb ht => by
  obtain ⟨code0, _⟩ := x
  exact (s_DrawClimbsThrough_e code0).trans ht)
/-! spec.DrawBreakStep -/
noncomputable def c_s_DrawBreakStep : FnCx := { env := env 8 [(70, S_s_DrawClimbsThrough)] [], body := bodyOf Tryz.f34, res := [.cell 2 24, .tmp 3], ins := [.ro kSuint8], out := [(kStairs, false), (kint, true)], T := (Int × List Int × List Int) × Int, fin := fun r => (r.1.1, r.1.2.1), inj := fun t => ((t.1, t.2, ()), ((), ())), pts := [], fuel := 400, dr := noDr }
noncomputable def s_DrawBreakStep (code0 : List Int) : Option ((Int × List Int × List Int) × Int) :=
  Option.bind (s_DrawClimbsThrough code0) fun r => some ((Prod.fst (Prod.fst r), Prod.fst (Prod.snd (Prod.fst r)), Prod.snd (Prod.snd (Prod.fst r))), Prod.snd r)
theorem s_DrawBreakStep_e (code0 : List Int) : c_s_DrawBreakStep.start c_s_DrawBreakStep.L (code0, ()) = s_DrawBreakStep code0 := by kernel_rfl
noncomputable def F_s_DrawBreakStep : Ins c_s_DrawBreakStep.ins → Option ((Int × List Int × List Int) × Int) := fun x => s_DrawBreakStep x.1
noncomputable def S_s_DrawBreakStep : FSpec := mkF c_s_DrawBreakStep.env.pre c_s_DrawBreakStep.ins c_s_DrawBreakStep.out c_s_DrawBreakStep.inj F_s_DrawBreakStep
theorem h_s_DrawBreakStep : Cert Tryz.prog 34 S_s_DrawBreakStep := FnCx.certF (c := c_s_DrawBreakStep) F_s_DrawBreakStep (tyOk _ _ _) (spOk ⟨h_s_DrawClimbsThrough, fun _ _ h => h, trivial⟩) (fun _ _ _ _ _ hs => noDr_ok) Tryz.func34 rfl rfl Tryz.ntmps34 (by kernel_rfl) rfl rfl (fun _ => rfl) trivial (fun x => .inl ⟨c_s_DrawBreakStep.start () x, fun _ => rfl⟩) (fun x t hb ht => by
  obtain ⟨code0, _⟩ := x
  exact (s_DrawBreakStep_e code0).trans ht)
/-! spec.DrawMendStep -/
noncomputable def c_s_DrawMendStep : FnCx := { env := env 29 [(71, S_s_l1Cur_stairs), (72, S_s_l1Cur_one), (73, S_s_l1Cur_among), (74, S_s_l1Cur_pick)] [], body := bodyOf Tryz.f35, res := [.cell 2 24, .tmp 3], ins := [.ro kSuint8], out := [(kStairs, false), (kint, true)], T := (Int × List Int × List Int) × Int, fin := fun r => (r.1.1, r.1.2.1), inj := fun t => ((t.1, t.2, ()), ((), ())), pts := [], fuel := 400, dr := evDr (env 29 [(71, S_s_l1Cur_stairs), (72, S_s_l1Cur_one), (73, S_s_l1Cur_among), (74, S_s_l1Cur_pick)] []) }
noncomputable def s_DrawMendStep (code0 : List Int) : Option ((Int × List Int × List Int) × Int) :=
  Option.bind (s_l1Cur_stairs code0 0 0) fun r =>
    bif decide ((↑(List.length (Prod.snd (Prod.snd (Prod.fst r)))) : Int) > 0) then
      Option.bind (s_l1Cur_one (Prod.fst (Prod.snd r)) (Prod.fst (Prod.snd (Prod.snd r))) (Prod.snd (Prod.snd (Prod.snd r))) 4) fun r_1 =>
        bif !Prod.fst r_1 then
          Option.bind
            (s_l1Cur_among (Prod.fst (Prod.snd r_1)) (Prod.fst (Prod.snd (Prod.snd r_1))) (Prod.snd (Prod.snd (Prod.snd r_1))) (Prod.snd (Prod.snd (Prod.fst r))))
            fun r_2 => some ((Prod.fst (Prod.fst r), Prod.fst (Prod.snd (Prod.fst r)), Prod.snd (Prod.snd (Prod.fst r))), Prod.fst r_2)
        else
          Option.bind (s_l1Cur_pick (Prod.fst (Prod.snd r_1)) (Prod.fst (Prod.snd (Prod.snd r_1))) (Prod.snd (Prod.snd (Prod.snd r_1))) 10) fun r_2 =>
            some ((Prod.fst (Prod.fst r), Prod.fst (Prod.snd (Prod.fst r)), Prod.snd (Prod.snd (Prod.fst r))), IntKind.wrap IntKind.i64 (Prod.fst r_2 - 1))
    else
      Option.bind (s_l1Cur_pick (Prod.fst (Prod.snd r)) (Prod.fst (Prod.snd (Prod.snd r))) (Prod.snd (Prod.snd (Prod.snd r))) 10) fun r_1 =>
        some ((Prod.fst (Prod.fst r), Prod.fst (Prod.snd (Prod.fst r)), Prod.snd (Prod.snd (Prod.fst r))), IntKind.wrap IntKind.i64 (Prod.fst r_1 - 1))
theorem s_DrawMendStep_e (code0 : List Int) : c_s_DrawMendStep.start c_s_DrawMendStep.L (code0, ()) = s_DrawMendStep code0 := by kernel_rfl
noncomputable def F_s_DrawMendStep : Ins c_s_DrawMendStep.ins → Option ((Int × List Int × List Int) × Int) := fun x => s_DrawMendStep x.1
noncomputable def S_s_DrawMendStep : FSpec := mkF c_s_DrawMendStep.env.pre c_s_DrawMendStep.ins c_s_DrawMendStep.out c_s_DrawMendStep.inj F_s_DrawMendStep
theorem h_s_DrawMendStep : Cert Tryz.prog 35 S_s_DrawMendStep := FnCx.certF (c := c_s_DrawMendStep) F_s_DrawMendStep (tyOk _ _ _) (spOk ⟨h_s_l1Cur_stairs, fun _ _ h => h, ⟨h_s_l1Cur_one, fun _ _ h => h, ⟨h_s_l1Cur_among, fun _ _ h => h, ⟨h_s_l1Cur_pick, fun _ _ h => h, trivial⟩⟩⟩⟩) (fun _ _ _ _ _ hs => evDr_ok (tyOk _ _ _) hs follows) Tryz.func35 rfl rfl Tryz.ntmps35 (by kernel_rfl) rfl rfl (fun _ => rfl) trivial (fun x => .inl ⟨c_s_DrawMendStep.start () x, fun _ => rfl⟩) (fun x t hb ht => by
  obtain ⟨code0, _⟩ := x
  exact (s_DrawMendStep_e code0).trans ht)
/-! (*spec.l1Cur).spoilt -/
noncomputable def c_s_l1Cur_spoilt : FnCx := { env := env 68 [(74, S_s_l1Cur_pick)] [], body := bodyOf Tryz.f76, res := [.tmp 6], ins := [.ptr 75 ksl1Cur, .ro kstring, .ro kstring], out := [(kstring, true)], T := ByteArray × (List Int × Int × Int), fin := fun r => (r.1.1, r.2.1), inj := fun t => ((t.1, ()), (t.2, (), (), ())), pts := [([.inLoop [1, 0, 1, 0, 0], .inBlock 0, .code [1, 1]], Shape.mk [Bs.box 75 [Cs.sl 1, Cs.sc kint, Cs.sc kuint], Bs.row kuint8 5 false] [(0, Ss.one (Cs.ptr 0 0)), (1, Ss.one (Cs.sc kstring)), (2, Ss.one (Cs.sc kstring)), (7, Ss.one (Cs.sc kint))] [Ss.one (Cs.ptr 0 0), Ss.one (Cs.any), Ss.one (Cs.any)])], fuel := 400, dr := evDr (env 68 [(74, S_s_l1Cur_pick)] []) }
noncomputable def s_l1Cur_spoilt_t1 (g1 : Int → Int → List (Int) → ByteArray → ByteArray → Int → Option (ByteArray × (List Int × Int × Int))) (b0_1 : Int) (b0_2 : Int) (r1 : List (Int)) (t1 : ByteArray) (with2 : ByteArray) (n7 : Int) : Option (ByteArray × (List Int × Int × Int)) :=
  bif decide (n7 > 0) then
    bif decide ((↑(ByteArray.size t1) : Int) > 0) then
      Option.bind (s_l1Cur_pick r1 b0_1 b0_2 (↑(ByteArray.size t1) : Int)) fun r =>
        Option.bind (s_l1Cur_pick (Prod.fst (Prod.snd r)) (Prod.fst (Prod.snd (Prod.snd r))) (Prod.snd (Prod.snd (Prod.snd r))) (↑(ByteArray.size with2) : Int))
          fun r_1 =>
          bif decide (0 ≤ Prod.fst r_1) then
            bif decide (Prod.fst r_1 < (↑(ByteArray.size with2) : Int)) then
              Option.bind (s_l1Cur_pick (Prod.fst (Prod.snd r_1)) (Prod.fst (Prod.snd (Prod.snd r_1))) (Prod.snd (Prod.snd (Prod.snd r_1))) 3) fun r_2 =>
                bif Prod.fst r_2 == 0 then
                  bif decide (0 ≤ Prod.fst r) then
                    bif decide (Prod.fst r ≤ (↑(ByteArray.size t1) : Int)) then
                      bif
                          Nat.ble
                            (ByteArray.size (ByteArray.extract t1 (Int.toNat 0) (Int.toNat (Prod.fst r))) +
                              ByteArray.size (List.foldl (fun r n => ByteArray.push r (UInt8.ofNat (Int.toNat n))) ByteArray.empty [bt with2 (Prod.fst r_1)]))
                            9223372036854775807 then
                        bif decide (0 ≤ Prod.fst r) then
                          bif decide (Prod.fst r ≤ (↑(ByteArray.size t1) : Int)) then
                            bif
                                Nat.ble
                                  (ByteArray.size
                                      (ByteArray.extract t1 (Int.toNat 0) (Int.toNat (Prod.fst r)) ++
                                        List.foldl (fun r n => ByteArray.push r (UInt8.ofNat (Int.toNat n))) ByteArray.empty [bt with2 (Prod.fst r_1)]) +
                                    ByteArray.size (ByteArray.extract t1 (Int.toNat (Prod.fst r)) (Int.toNat (↑(ByteArray.size t1) : Int))))
                                  9223372036854775807 then
                              g1 (Prod.fst (Prod.snd (Prod.snd r_2))) (Prod.snd (Prod.snd (Prod.snd r_2))) (Prod.fst (Prod.snd r_2))
                                (ByteArray.extract t1 (Int.toNat 0) (Int.toNat (Prod.fst r)) ++
                                    List.foldl (fun r n => ByteArray.push r (UInt8.ofNat (Int.toNat n))) ByteArray.empty [bt with2 (Prod.fst r_1)] ++
                                  ByteArray.extract t1 (Int.toNat (Prod.fst r)) (Int.toNat (↑(ByteArray.size t1) : Int)))
                                with2 (IntKind.wrap IntKind.i64 (n7 - 1))
                            else none
                          else none
                        else none
                      else none
                    else none
                  else none
                else
                  bif Prod.fst r_2 == 1 then
                    bif decide (0 ≤ Prod.fst r) then
                      bif decide (Prod.fst r ≤ (↑(ByteArray.size t1) : Int)) then
                        bif
                            Nat.ble
                              (ByteArray.size (ByteArray.extract t1 (Int.toNat 0) (Int.toNat (Prod.fst r))) +
                                ByteArray.size (List.foldl (fun r n => ByteArray.push r (UInt8.ofNat (Int.toNat n))) ByteArray.empty [bt with2 (Prod.fst r_1)]))
                              9223372036854775807 then
                          bif decide (0 ≤ IntKind.wrap IntKind.i64 (Prod.fst r + 1)) then
                            bif decide (IntKind.wrap IntKind.i64 (Prod.fst r + 1) ≤ (↑(ByteArray.size t1) : Int)) then
                              bif
                                  Nat.ble
                                    (ByteArray.size
                                        (ByteArray.extract t1 (Int.toNat 0) (Int.toNat (Prod.fst r)) ++
                                          List.foldl (fun r n => ByteArray.push r (UInt8.ofNat (Int.toNat n))) ByteArray.empty [bt with2 (Prod.fst r_1)]) +
                                      ByteArray.size
                                        (ByteArray.extract t1 (Int.toNat (IntKind.wrap IntKind.i64 (Prod.fst r + 1))) (Int.toNat (↑(ByteArray.size t1) : Int))))
                                    9223372036854775807 then
                                g1 (Prod.fst (Prod.snd (Prod.snd r_2))) (Prod.snd (Prod.snd (Prod.snd r_2))) (Prod.fst (Prod.snd r_2))
                                  (ByteArray.extract t1 (Int.toNat 0) (Int.toNat (Prod.fst r)) ++
                                      List.foldl (fun r n => ByteArray.push r (UInt8.ofNat (Int.toNat n))) ByteArray.empty [bt with2 (Prod.fst r_1)] ++
                                    ByteArray.extract t1 (Int.toNat (IntKind.wrap IntKind.i64 (Prod.fst r + 1))) (Int.toNat (↑(ByteArray.size t1) : Int)))
                                  with2 (IntKind.wrap IntKind.i64 (n7 - 1))
                              else none
                            else none
                          else none
                        else none
                      else none
                    else none
                  else
                    bif decide (0 ≤ Prod.fst r) then
                      bif decide (Prod.fst r ≤ (↑(ByteArray.size t1) : Int)) then
                        bif decide (0 ≤ IntKind.wrap IntKind.i64 (Prod.fst r + 1)) then
                          bif decide (IntKind.wrap IntKind.i64 (Prod.fst r + 1) ≤ (↑(ByteArray.size t1) : Int)) then
                            bif
                                Nat.ble
                                  (ByteArray.size (ByteArray.extract t1 (Int.toNat 0) (Int.toNat (Prod.fst r))) +
                                    ByteArray.size
                                      (ByteArray.extract t1 (Int.toNat (IntKind.wrap IntKind.i64 (Prod.fst r + 1))) (Int.toNat (↑(ByteArray.size t1) : Int))))
                                  9223372036854775807 then
                              g1 (Prod.fst (Prod.snd (Prod.snd r_2))) (Prod.snd (Prod.snd (Prod.snd r_2))) (Prod.fst (Prod.snd r_2))
                                (ByteArray.extract t1 (Int.toNat 0) (Int.toNat (Prod.fst r)) ++
                                  ByteArray.extract t1 (Int.toNat (IntKind.wrap IntKind.i64 (Prod.fst r + 1))) (Int.toNat (↑(ByteArray.size t1) : Int)))
                                with2 (IntKind.wrap IntKind.i64 (n7 - 1))
                            else none
                          else none
                        else none
                      else none
                    else none
            else none
          else none
    else some (t1, r1, b0_1, b0_2)
  else some (t1, r1, b0_1, b0_2)
noncomputable def s_l1Cur_spoilt_t0 (g1 : Int → Int → List (Int) → ByteArray → ByteArray → Int → Option (ByteArray × (List Int × Int × Int))) (c0_code : List Int) (c0_at : Int) (c0_seed : Int) (t1 : ByteArray) (with2 : ByteArray) : Option (ByteArray × (List Int × Int × Int)) :=
  Option.bind (s_l1Cur_pick c0_code c0_at c0_seed 2) fun r =>
    g1 (Prod.fst (Prod.snd (Prod.snd r))) (Prod.snd (Prod.snd (Prod.snd r))) (Prod.fst (Prod.snd r)) t1 with2 (IntKind.wrap IntKind.i64 (1 + Prod.fst r))
theorem s_l1Cur_spoilt_ts : Tails c_s_l1Cur_spoilt.pts c_s_l1Cur_spoilt.round :=
  ⟨fun s => by
    obtain ⟨⟨⟨_, b0_1, b0_2, _⟩, r1, _⟩, ⟨_, t1, with2, n7, _⟩, ⟨_, _, _, _⟩⟩ := s
    refine Tail.eq (Y := fun g => s_l1Cur_spoilt_t1 (fun b0_1 b0_2 r1 t1 with2 n7 => g.1 ((((), b0_1, b0_2, ()), r1, ()), ((), t1, with2, n7, ()), ((), (), (), ()))) b0_1 b0_2 r1 t1 with2 n7) ?_ (fun g => by kernel_rfl)
    simp only [s_l1Cur_spoilt_t1]; repeat (first | apply Tail.cond | (apply Tail.bind; intro _) | exact Tail.here _ | exact Tail.there (Tail.here _) | exact Tail.there (Tail.there (Tail.here _)) | exact Tail.there (Tail.there (Tail.there (Tail.here _))) | exact Tail.there (Tail.there (Tail.there (Tail.there (Tail.here _)))) | exact Tail.there (Tail.there (Tail.there (Tail.there (Tail.there (Tail.here _))))) | exact Tail.const _), trivial⟩
theorem s_l1Cur_spoilt_hs : ∀ x, Tail c_s_l1Cur_spoilt.pts (fun g => c_s_l1Cur_spoilt.start g x) := fun x => by
    obtain ⟨⟨c0_code, c0_at, c0_seed⟩, t1, with2, _⟩ := x
    refine Tail.eq (Y := fun g => s_l1Cur_spoilt_t0 (fun b0_1 b0_2 r1 t1 with2 n7 => g.1 ((((), b0_1, b0_2, ()), r1, ()), ((), t1, with2, n7, ()), ((), (), (), ()))) c0_code c0_at c0_seed t1 with2) ?_ (fun g => by kernel_rfl)
    simp only [s_l1Cur_spoilt_t0]; repeat (first | apply Tail.cond | (apply Tail.bind; intro _) | exact Tail.here _ | exact Tail.there (Tail.here _) | exact Tail.there (Tail.there (Tail.here _)) | exact Tail.there (Tail.there (Tail.there (Tail.here _))) | exact Tail.there (Tail.there (Tail.there (Tail.there (Tail.here _)))) | exact Tail.there (Tail.there (Tail.there (Tail.there (Tail.there (Tail.here _))))) | exact Tail.const _)
noncomputable def s_l1Cur_spoilt_L1 (b0_1 : Int) (b0_2 : Int) (r1 : List (Int)) (t1 : ByteArray) (with2 : ByteArray) (n7 : Int) : Option (ByteArray × (List Int × Int × Int)) := c_s_l1Cur_spoilt.L.1 ((((), b0_1, b0_2, ()), r1, ()), ((), t1, with2, n7, ()), ((), (), (), ()))
theorem s_l1Cur_spoilt_u1 (b0_1 : Int) (b0_2 : Int) (r1 : List (Int)) (t1 : ByteArray) (with2 : ByteArray) (n7 : Int) : s_l1Cur_spoilt_L1 b0_1 b0_2 r1 t1 with2 n7 = s_l1Cur_spoilt_t1 s_l1Cur_spoilt_L1 b0_1 b0_2 r1 t1 with2 n7 :=
  (congrArg (fun g => g.1 ((((), b0_1, b0_2, ()), r1, ()), ((), t1, with2, n7, ()), ((), (), (), ()))) (FnCx.L_eq s_l1Cur_spoilt_ts)).trans (by kernel_rfl)
noncomputable def s_l1Cur_spoilt (c0_code : List Int) (c0_at : Int) (c0_seed : Int) (t1 : ByteArray) (with2 : ByteArray) : Option (ByteArray × (List Int × Int × Int)) := s_l1Cur_spoilt_t0 s_l1Cur_spoilt_L1 c0_code c0_at c0_seed t1 with2
theorem s_l1Cur_spoilt_e (c0_code : List Int) (c0_at : Int) (c0_seed : Int) (t1 : ByteArray) (with2 : ByteArray) : c_s_l1Cur_spoilt.start c_s_l1Cur_spoilt.L ((c0_code, c0_at, c0_seed), t1, with2, ()) = s_l1Cur_spoilt c0_code c0_at c0_seed t1 with2 := by kernel_rfl
noncomputable def F_s_l1Cur_spoilt : Ins c_s_l1Cur_spoilt.ins → Option (ByteArray × (List Int × Int × Int)) := fun x => s_l1Cur_spoilt x.1.1 x.1.2.1 x.1.2.2 x.2.1 x.2.2.1
noncomputable def S_s_l1Cur_spoilt : FSpec := mkF c_s_l1Cur_spoilt.env.pre c_s_l1Cur_spoilt.ins c_s_l1Cur_spoilt.out c_s_l1Cur_spoilt.inj F_s_l1Cur_spoilt
theorem h_s_l1Cur_spoilt : Cert Tryz.prog 76 S_s_l1Cur_spoilt := FnCx.certF (c := c_s_l1Cur_spoilt) F_s_l1Cur_spoilt (tyOk _ _ _) (spOk ⟨h_s_l1Cur_pick, fun _ _ h => h, trivial⟩) (fun _ _ _ _ _ hs => evDr_ok (tyOk _ _ _) hs follows) Tryz.func76 rfl rfl Tryz.ntmps76 (by kernel_rfl) rfl rfl (fun _ => rfl) s_l1Cur_spoilt_ts s_l1Cur_spoilt_hs (fun x t hb ht => by
  obtain ⟨⟨c0_code, c0_at, c0_seed⟩, t1, with2, _⟩ := x
  exact (s_l1Cur_spoilt_e c0_code c0_at c0_seed t1 with2).trans ht)
/-! spec.DrawParseStairs -/
noncomputable def c_s_DrawParseStairs : FnCx := { env := env 17 [(75, S_s_l1Cur_sureStairs), (56, S_s_clText), (72, S_s_l1Cur_one), (76, S_s_l1Cur_spoilt)] [], body := bodyOf Tryz.f36, res := [.tmp 2], ins := [.ro kSuint8], out := [(kstring, true)], T := ByteArray, fin := fun r => r.1.1, inj := fun t => ((t, ()), ((), ())), pts := [], fuel := 400, dr := noDr }
noncomputable def s_DrawParseStairs (code0 : List Int) : Option ByteArray :=
  Option.bind (s_l1Cur_sureStairs code0 0 0 12) fun r =>
    Option.bind (s_clText (Prod.fst (Prod.fst r)) (Prod.fst (Prod.snd (Prod.fst r))) (Prod.snd (Prod.snd (Prod.fst r)))) fun r_1 =>
      Option.bind (s_l1Cur_one (Prod.fst (Prod.snd r)) (Prod.fst (Prod.snd (Prod.snd r))) (Prod.snd (Prod.snd (Prod.snd r))) 3) fun r =>
        bif Prod.fst r then
          Option.bind
            (s_l1Cur_spoilt (Prod.fst (Prod.snd r)) (Prod.fst (Prod.snd (Prod.snd r))) (Prod.snd (Prod.snd (Prod.snd r))) r_1
              { data := #[48, 49, 50, 51, 115, 120, 44] })
            fun r => some (Prod.fst r)
        else some r_1
theorem s_DrawParseStairs_e (code0 : List Int) : c_s_DrawParseStairs.start c_s_DrawParseStairs.L (code0, ()) = s_DrawParseStairs code0 := by kernel_rfl
noncomputable def F_s_DrawParseStairs : Ins c_s_DrawParseStairs.ins → Option ByteArray := fun x => s_DrawParseStairs x.1
noncomputable def S_s_DrawParseStairs : FSpec := mkF c_s_DrawParseStairs.env.pre c_s_DrawParseStairs.ins c_s_DrawParseStairs.out c_s_DrawParseStairs.inj F_s_DrawParseStairs
theorem h_s_DrawParseStairs : Cert Tryz.prog 36 S_s_DrawParseStairs := FnCx.certF (c := c_s_DrawParseStairs) F_s_DrawParseStairs (tyOk _ _ _) (spOk ⟨h_s_l1Cur_sureStairs, fun _ _ h => h, ⟨h_s_clText, fun _ _ h => h, ⟨h_s_l1Cur_one, fun _ _ h => h, ⟨h_s_l1Cur_spoilt, fun _ _ h => h, trivial⟩⟩⟩⟩) (fun _ _ _ _ _ hs => noDr_ok) Tryz.func36 rfl rfl Tryz.ntmps36 (by kernel_rfl) rfl rfl (fun _ => rfl) trivial (fun x => .inl ⟨c_s_DrawParseStairs.start () x, fun _ => rfl⟩) (fun x t hb ht => by
  obtain ⟨code0, _⟩ := x
  exact (s_DrawParseStairs_e code0).trans ht)
/-! laws.FnClimbsBroken -/
noncomputable def c_w_FnClimbsBroken : FnCx := { env := env 591 [(32, S_w_big), (33, S_s_DrawNeededSteps), (5, S_i_NeededSteps), (6, S_s_NeededSteps), (7, S_i_ReachedSteps), (8, S_s_ReachedSteps), (9, S_i_StuckSteps), (10, S_s_StuckSteps), (11, S_i_WorstToBreak), (12, S_s_WorstToBreak), (13, S_i_TurnStairs), (14, S_s_TurnStairs), (15, S_i_StairsText), (16, S_s_StairsText), (17, S_w_lSame), (18, S_w_lStairs), (19, S_i_AreStairs), (20, S_s_AreStairs), (21, S_i_ParseStairs), (22, S_w_lRises), (23, S_w_lHas), (24, S_i_CountClimbs), (25, S_i_ClimbsThrough), (26, S_i_BreakStep), (34, S_s_DrawBreakStep), (27, S_s_BreakStep), (28, S_s_ClimbsThrough), (35, S_s_DrawMendStep), (29, S_i_MendStep), (30, S_s_MendStep), (36, S_s_DrawParseStairs), (31, S_s_ParseStairs)] [], body := bodyOf Tryz.f4, res := [.tmp 4], ins := [.ro kSuint8, .ro kSuint8], out := [(kbool, true)], T := Bool, fin := fun r => r.1.1, inj := fun t => ((t, ()), ((), (), ())), pts := [([.code [1, 1, 1, 1, 1, 1, 1, 1, 1, 1, 1, 1, 1, 1, 1, 1]], Shape.mk [Bs.row kuint8 5 false, Bs.box 24 [Cs.sc kint, Cs.sl 6, Cs.sl 7], Bs.row kint 3 true, Bs.row kint 3 true, Bs.row kint 3 true, Bs.box 24 [Cs.sc kint, Cs.sl 8, Cs.sl 9], Bs.row kint 3 false, Bs.row kint 3 false, Bs.row kint 3 true, Bs.row kint 3 true] [(1, Ss.one (Cs.sl 0)), (5, Ss.one (Cs.ptr 1 0)), (6, Ss.one (Cs.sl 2)), (7, Ss.one (Cs.sc kbool)), (10, Ss.one (Cs.sl 3)), (11, Ss.one (Cs.sc kbool)), (14, Ss.one (Cs.sl 4)), (18, Ss.one (Cs.sc kint)), (19, Ss.one (Cs.sc kint)), (20, Ss.one (Cs.sc kbool)), (24, Ss.one (Cs.ptr 5 0)), (28, Ss.one (Cs.sc kstring))] [Ss.one (Cs.any), Ss.one (Cs.any)]), ([.code [1, 1, 1, 1, 1, 1, 1, 1, 1, 1, 1, 1, 1, 1, 1, 1, 1]], Shape.mk [Bs.row kuint8 5 false, Bs.box 24 [Cs.sc kint, Cs.sl 5, Cs.sl 6], Bs.row kint 3 true, Bs.row kint 3 true, Bs.row kint 3 true, Bs.row kint 3 false, Bs.row kint 3 false] [(1, Ss.one (Cs.sl 0)), (5, Ss.one (Cs.ptr 1 0)), (6, Ss.one (Cs.sl 2)), (7, Ss.one (Cs.sc kbool)), (10, Ss.one (Cs.sl 3)), (14, Ss.one (Cs.sl 4)), (18, Ss.one (Cs.sc kint)), (19, Ss.one (Cs.sc kint)), (20, Ss.one (Cs.sc kbool))] [Ss.one (Cs.any), Ss.one (Cs.any)]), ([.code [1, 1, 1, 1, 1, 1, 1, 1, 1, 1, 1, 1, 1, 1, 1, 1, 0, 1, 0, 1, 1, 1], .code [1, 1, 1, 1, 1, 1, 1, 1, 1, 1, 1, 1, 1, 1, 1, 1, 1]], Shape.mk [Bs.row kuint8 5 false, Bs.box 24 [Cs.sc kint, Cs.sl 5, Cs.sl 6], Bs.row kint 3 true, Bs.row kint 3 true, Bs.row kint 3 true, Bs.row kint 3 false, Bs.row kint 3 false] [(1, Ss.one (Cs.sl 0)), (5, Ss.one (Cs.ptr 1 0)), (6, Ss.one (Cs.sl 2)), (7, Ss.one (Cs.sc kbool)), (10, Ss.one (Cs.sl 3)), (14, Ss.one (Cs.sl 4)), (18, Ss.one (Cs.sc kint)), (19, Ss.one (Cs.sc kint)), (20, Ss.one (Cs.sc kbool))] [Ss.one (Cs.any), Ss.one (Cs.any)]), ([.code [1, 1, 1, 1, 1, 1, 1, 1, 1, 1, 1, 1, 1, 1, 1, 1, 1, 1, 1]], Shape.mk [Bs.row kuint8 5 false] [(1, Ss.one (Cs.sl 0))] [Ss.one (Cs.any), Ss.one (Cs.any)]), ([.code [1, 1, 1, 1, 1, 1, 1, 1, 1, 1, 1, 1, 1, 1, 1, 1, 1, 1, 1, 1, 1, 1, 1, 1, 1, 1, 1, 1, 1, 1, 1, 1]], Shape.mk [Bs.box 24 [Cs.sc kint, Cs.sl 3, Cs.sl 4], Bs.box 24 [Cs.sc kint, Cs.sl 5, Cs.sl 6], Bs.box 24 [Cs.sc kint, Cs.sl 7, Cs.sl 8], Bs.row kint 3 false, Bs.row kint 3 false, Bs.row kint 3 true, Bs.row kint 3 true, Bs.row kint 3 true, Bs.row kint 3 true] [(60, Ss.one (Cs.ptr 0 0)), (61, Ss.one (Cs.sc kint)), (62, Ss.one (Cs.ptr 1 0)), (63, Ss.one (Cs.sc kbool)), (66, Ss.one (Cs.sc kstring)), (67, Ss.one (Cs.ptr 2 0)), (68, Ss.one (Cs.sc kbool))] [Ss.one (Cs.any), Ss.one (Cs.any)]), ([.code [1, 1, 1, 1, 1, 1, 1, 1, 1, 1, 1, 1, 1, 1, 1, 1, 1, 1, 1, 1, 1, 1, 1, 1, 1, 1, 1, 1, 1, 1, 1, 1, 1]], Shape.mk [Bs.box 24 [Cs.sc kint, Cs.sl 1, Cs.sl 2], Bs.row kint 3 true, Bs.row kint 3 true] [(66, Ss.one (Cs.sc kstring)), (67, Ss.one (Cs.ptr 0 0)), (68, Ss.one (Cs.sc kbool))] [Ss.one (Cs.any), Ss.one (Cs.any)]), ([.inLoop [1, 1, 1, 1, 1, 1, 1, 1, 1, 1, 1, 1, 1, 1, 1, 1, 0, 1, 0, 1, 1, 1, 0, 1, 0, 0], .inBlock 0, .code [1, 1, 1, 1, 1, 1, 1, 1, 1, 1, 1, 1, 1, 1, 1, 1, 0, 1, 0, 1, 1, 1, 1], .code [1, 1, 1, 1, 1, 1, 1, 1, 1, 1, 1, 1, 1, 1, 1, 1, 1]], Shape.mk [Bs.row kuint8 5 false, Bs.box 24 [Cs.sc kint, Cs.sl 5, Cs.sl 6], Bs.row kint 3 true, Bs.row kint 3 true, Bs.row kint 3 true, Bs.row kint 3 false, Bs.row kint 3 false] [(1, Ss.one (Cs.sl 0)), (5, Ss.one (Cs.ptr 1 0)), (6, Ss.one (Cs.sl 2)), (7, Ss.one (Cs.sc kbool)), (10, Ss.one (Cs.sl 3)), (14, Ss.one (Cs.sl 4)), (18, Ss.one (Cs.sc kint)), (19, Ss.one (Cs.sc kint)), (20, Ss.one (Cs.sc kbool)), (316, Ss.one (Cs.sl 4)), (317, Ss.one (Cs.sc kint)), (318, Ss.one (Cs.sc kint))] [Ss.one (Cs.any), Ss.one (Cs.any)]), ([.inLoop [1, 1, 1, 1, 1, 1, 1, 1, 1, 1, 1, 1, 1, 1, 1, 1, 0, 1, 0, 1, 1, 1, 1, 1, 0, 0], .inBlock 2, .code [1, 1, 1, 1, 1, 1, 1, 1, 1, 1, 1, 1, 1, 1, 1, 1, 1]], Shape.mk [Bs.row kuint8 5 false, Bs.box 24 [Cs.sc kint, Cs.sl 6, Cs.sl 5], Bs.row kint 3 true, Bs.row kint 3 true, Bs.row kint 3 true, Bs.row kint 3 false, Bs.row kint 3 false] [(1, Ss.one (Cs.sl 0)), (5, Ss.one (Cs.ptr 1 0)), (6, Ss.one (Cs.sl 2)), (7, Ss.one (Cs.sc kbool)), (10, Ss.one (Cs.sl 3)), (14, Ss.one (Cs.sl 4)), (18, Ss.one (Cs.sc kint)), (19, Ss.one (Cs.sc kint)), (20, Ss.one (Cs.sc kbool)), (333, Ss.one (Cs.sl 5)), (334, Ss.one (Cs.sc kint)), (335, Ss.one (Cs.sc kint))] [Ss.one (Cs.any), Ss.one (Cs.any)]), ([.inLoop [1, 1, 1, 1, 1, 1, 1, 1, 1, 1, 1, 1, 1, 1, 1, 1, 1, 1, 0, 1, 0, 1, 1, 0, 1, 0, 0], .inBlock 4, .code [1, 1, 1, 1, 1, 1, 1, 1, 1, 1, 1, 1, 1, 1, 1, 1, 1, 1, 1]], Shape.mk [Bs.row kuint8 5 false, Bs.box 24 [Cs.sc kint, Cs.sl 5, Cs.sl 6], Bs.row kint 3 true, Bs.row kint 3 true, Bs.row kint 3 true, Bs.row kint 3 false, Bs.row kint 3 false] [(1, Ss.one (Cs.sl 0)), (5, Ss.one (Cs.ptr 1 0)), (6, Ss.one (Cs.sl 2)), (14, Ss.one (Cs.sl 3)), (18, Ss.one (Cs.sc kint)), (19, Ss.one (Cs.sc kint)), (20, Ss.one (Cs.sc kbool)), (40, Ss.one (Cs.sc kint)), (360, Ss.one (Cs.sl 4)), (361, Ss.one (Cs.sc kint)), (362, Ss.one (Cs.sc kint))] [Ss.one (Cs.any), Ss.one (Cs.any)])], fuel := 400, dr := evDr (env 591 [(32, S_w_big), (33, S_s_DrawNeededSteps), (5, S_i_NeededSteps), (6, S_s_NeededSteps), (7, S_i_ReachedSteps), (8, S_s_ReachedSteps), (9, S_i_StuckSteps), (10, S_s_StuckSteps), (11, S_i_WorstToBreak), (12, S_s_WorstToBreak), (13, S_i_TurnStairs), (14, S_s_TurnStairs), (15, S_i_StairsText), (16, S_s_StairsText), (17, S_w_lSame), (18, S_w_lStairs), (19, S_i_AreStairs), (20, S_s_AreStairs), (21, S_i_ParseStairs), (22, S_w_lRises), (23, S_w_lHas), (24, S_i_CountClimbs), (25, S_i_ClimbsThrough), (26, S_i_BreakStep), (34, S_s_DrawBreakStep), (27, S_s_BreakStep), (28, S_s_ClimbsThrough), (35, S_s_DrawMendStep), (29, S_i_MendStep), (30, S_s_MendStep), (36, S_s_DrawParseStairs), (31, S_s_ParseStairs)] []) }
noncomputable def w_FnClimbsBroken_t1 (g1 : List (Int) → Int → List (Int) → List (Int) → List (Int) → Int → List (Int) → List (Int) → List (Int) → List (Int) → Bool → Bool → Int → Int → Bool → ByteArray → Option (Bool)) (g2 : List (Int) → Int → List (Int) → List (Int) → List (Int) → List (Int) → List (Int) → Bool → Int → Int → Bool → Option (Bool)) (g3 : List (Int) → Int → List (Int) → List (Int) → List (Int) → List (Int) → List (Int) → Bool → Int → Int → Bool → Option (Bool)) (g4 : List (Int) → Option (Bool)) (g5 : Int → Int → Int → List (Int) → List (Int) → List (Int) → List (Int) → List (Int) → List (Int) → Int → Bool → ByteArray → Bool → Option (Bool)) (g6 : Int → List (Int) → List (Int) → ByteArray → Bool → Option (Bool)) (g7 : List (Int) → Int → List (Int) → List (Int) → List (Int) → List (Int) → List (Int) → Bool → Int → Int → Bool → Int → Int → Option (Bool)) (g8 : List (Int) → Int → List (Int) → List (Int) → List (Int) → List (Int) → List (Int) → Bool → Int → Int → Bool → Int → Int → Option (Bool)) (g9 : List (Int) → Int → List (Int) → List (Int) → List (Int) → List (Int) → List (Int) → Int → Int → Bool → Int → Int → Int → Option (Bool)) (r0 : List (Int)) (b1_0 : Int) (r2 : List (Int)) (r3 : List (Int)) (r4 : List (Int)) (b5_0 : Int) (r6 : List (Int)) (r7 : List (Int)) (r8 : List (Int)) (r9 : List (Int)) (ok7 : Bool) (one11 : Bool) (worst18 : Int) (most19 : Int) (five20 : Bool) (text28 : ByteArray) : Option Bool :=
  bif one11 then
    Option.bind (i_ParseStairs text28) fun r =>
      Option.bind (w_lRises r3) fun r_1 =>
        bif !r_1 then some false
        else
          Option.bind (w_lRises r4) fun r_2 =>
            bif !r_2 then some false
            else
              bif !Prod.snd (i_TurnStairs_n b5_0 r8 r9) then some false
              else
                Option.bind
                  (w_lStairs (Prod.fst (Prod.fst (i_TurnStairs_n b5_0 r8 r9))) (Prod.fst (Prod.snd (Prod.fst (i_TurnStairs_n b5_0 r8 r9))))
                    (Prod.snd (Prod.snd (Prod.fst (i_TurnStairs_n b5_0 r8 r9)))) b1_0 r6 r7)
                  fun r_3 =>
                  bif !r_3 then some false
                  else
                    bif !Prod.snd r then some false
                    else
                      Option.bind (w_lStairs (Prod.fst (Prod.fst r)) (Prod.fst (Prod.snd (Prod.fst r))) (Prod.snd (Prod.snd (Prod.fst r))) b1_0 r6 r7) fun r =>
                        bif !r then some false
                        else
                          Option.bind (w_lHas r3 b1_0) fun r =>
                            bif !ok7 == r then some false
                            else
                              Option.bind (w_lHas r4 b1_0) fun r =>
                                bif r then some false
                                else
                                  bif !ok7 then
                                    Option.bind (w_lSame r4 r3) fun r => bif !r then some false else g3 r0 b1_0 r2 r3 r4 r6 r7 ok7 worst18 most19 five20
                                  else g3 r0 b1_0 r2 r3 r4 r6 r7 ok7 worst18 most19 five20
  else g2 r0 b1_0 r2 r3 r4 r6 r7 ok7 worst18 most19 five20
noncomputable def w_FnClimbsBroken_t2 (g1 : List (Int) → Int → List (Int) → List (Int) → List (Int) → Int → List (Int) → List (Int) → List (Int) → List (Int) → Bool → Bool → Int → Int → Bool → ByteArray → Option (Bool)) (g2 : List (Int) → Int → List (Int) → List (Int) → List (Int) → List (Int) → List (Int) → Bool → Int → Int → Bool → Option (Bool)) (g3 : List (Int) → Int → List (Int) → List (Int) → List (Int) → List (Int) → List (Int) → Bool → Int → Int → Bool → Option (Bool)) (g4 : List (Int) → Option (Bool)) (g5 : Int → Int → Int → List (Int) → List (Int) → List (Int) → List (Int) → List (Int) → List (Int) → Int → Bool → ByteArray → Bool → Option (Bool)) (g6 : Int → List (Int) → List (Int) → ByteArray → Bool → Option (Bool)) (g7 : List (Int) → Int → List (Int) → List (Int) → List (Int) → List (Int) → List (Int) → Bool → Int → Int → Bool → Int → Int → Option (Bool)) (g8 : List (Int) → Int → List (Int) → List (Int) → List (Int) → List (Int) → List (Int) → Bool → Int → Int → Bool → Int → Int → Option (Bool)) (g9 : List (Int) → Int → List (Int) → List (Int) → List (Int) → List (Int) → List (Int) → Int → Int → Bool → Int → Int → Int → Option (Bool)) (r0 : List (Int)) (b1_0 : Int) (r2 : List (Int)) (r3 : List (Int)) (r4 : List (Int)) (r5 : List (Int)) (r6 : List (Int)) (ok7 : Bool) (worst18 : Int) (most19 : Int) (five20 : Bool) : Option Bool :=
  Option.bind (i_CountClimbs b1_0 r5 r6) fun r =>
    bif ok7 then
      Option.bind (w_lRises r2) fun r_1 =>
        bif !r_1 then some false
        else
          Option.bind (w_lHas r2 b1_0) fun r_2 =>
            bif !r_2 then some false else bif Prod.snd r then g9 r0 b1_0 r2 r4 r3 r5 r6 worst18 most19 five20 (Prod.fst r) (↑(List.length r3) : Int) 0 else g4 r0
    else g4 r0
noncomputable def w_FnClimbsBroken_t3 (g1 : List (Int) → Int → List (Int) → List (Int) → List (Int) → Int → List (Int) → List (Int) → List (Int) → List (Int) → Bool → Bool → Int → Int → Bool → ByteArray → Option (Bool)) (g2 : List (Int) → Int → List (Int) → List (Int) → List (Int) → List (Int) → List (Int) → Bool → Int → Int → Bool → Option (Bool)) (g3 : List (Int) → Int → List (Int) → List (Int) → List (Int) → List (Int) → List (Int) → Bool → Int → Int → Bool → Option (Bool)) (g4 : List (Int) → Option (Bool)) (g5 : Int → Int → Int → List (Int) → List (Int) → List (Int) → List (Int) → List (Int) → List (Int) → Int → Bool → ByteArray → Bool → Option (Bool)) (g6 : Int → List (Int) → List (Int) → ByteArray → Bool → Option (Bool)) (g7 : List (Int) → Int → List (Int) → List (Int) → List (Int) → List (Int) → List (Int) → Bool → Int → Int → Bool → Int → Int → Option (Bool)) (g8 : List (Int) → Int → List (Int) → List (Int) → List (Int) → List (Int) → List (Int) → Bool → Int → Int → Bool → Int → Int → Option (Bool)) (g9 : List (Int) → Int → List (Int) → List (Int) → List (Int) → List (Int) → List (Int) → Int → Int → Bool → Int → Int → Int → Option (Bool)) (r0 : List (Int)) (b1_0 : Int) (r2 : List (Int)) (r3 : List (Int)) (r4 : List (Int)) (r5 : List (Int)) (r6 : List (Int)) (ok7 : Bool) (worst18 : Int) (most19 : Int) (five20 : Bool) : Option Bool :=
  g7 r0 b1_0 r2 r3 r4 r5 r6 ok7 worst18 most19 five20 (↑(List.length r4) : Int) 0
noncomputable def w_FnClimbsBroken_t4 (g1 : List (Int) → Int → List (Int) → List (Int) → List (Int) → Int → List (Int) → List (Int) → List (Int) → List (Int) → Bool → Bool → Int → Int → Bool → ByteArray → Option (Bool)) (g2 : List (Int) → Int → List (Int) → List (Int) → List (Int) → List (Int) → List (Int) → Bool → Int → Int → Bool → Option (Bool)) (g3 : List (Int) → Int → List (Int) → List (Int) → List (Int) → List (Int) → List (Int) → Bool → Int → Int → Bool → Option (Bool)) (g4 : List (Int) → Option (Bool)) (g5 : Int → Int → Int → List (Int) → List (Int) → List (Int) → List (Int) → List (Int) → List (Int) → Int → Bool → ByteArray → Bool → Option (Bool)) (g6 : Int → List (Int) → List (Int) → ByteArray → Bool → Option (Bool)) (g7 : List (Int) → Int → List (Int) → List (Int) → List (Int) → List (Int) → List (Int) → Bool → Int → Int → Bool → Int → Int → Option (Bool)) (g8 : List (Int) → Int → List (Int) → List (Int) → List (Int) → List (Int) → List (Int) → Bool → Int → Int → Bool → Int → Int → Option (Bool)) (g9 : List (Int) → Int → List (Int) → List (Int) → List (Int) → List (Int) → List (Int) → Int → Int → Bool → Int → Int → Int → Option (Bool)) (r0 : List (Int)) : Option Bool :=
  Option.bind (s_DrawBreakStep r0) fun r =>
    Option.bind (i_BreakStep (Prod.fst (Prod.fst r)) (Prod.fst (Prod.snd (Prod.fst r))) (Prod.snd (Prod.snd (Prod.fst r))) (Prod.snd r)) fun r_1 =>
      Option.bind (s_BreakStep (Prod.fst (Prod.fst r)) (Prod.fst (Prod.snd (Prod.fst r))) (Prod.snd (Prod.snd (Prod.fst r))) (Prod.snd r)) fun r_2 =>
        Option.bind (i_ClimbsThrough (Prod.fst (Prod.fst r)) (Prod.fst (Prod.snd (Prod.fst r))) (Prod.snd (Prod.snd (Prod.fst r))) (Prod.snd r)) fun r_3 =>
          Option.bind (s_ClimbsThrough (Prod.fst (Prod.fst r)) (Prod.fst (Prod.snd (Prod.fst r))) (Prod.snd (Prod.snd (Prod.fst r))) (Prod.snd r)) fun r_4 =>
            Option.bind (s_DrawMendStep r0) fun r_5 =>
              Option.bind (s_DrawParseStairs r0) fun r_6 =>
                Option.bind (i_ParseStairs r_6) fun r_7 =>
                  Option.bind (s_ParseStairs r_6) fun r_8 =>
                    bif !Prod.snd r_1 == Prod.snd r_2 then some false
                    else
                      Option.bind
                        (w_lStairs (Prod.fst (Prod.fst r_1)) (Prod.fst (Prod.snd (Prod.fst r_1))) (Prod.snd (Prod.snd (Prod.fst r_1))) (Prod.fst (Prod.fst r_2))
                          (Prod.fst (Prod.snd (Prod.fst r_2))) (Prod.snd (Prod.snd (Prod.fst r_2))))
                        fun r_9 =>
                        bif !r_9 then some false
                        else
                          bif !Prod.snd r_3 == Prod.snd r_4 then some false
                          else
                            bif Prod.fst r_3 != Prod.fst r_4 then some false
                            else
                              bif
                                  !Prod.snd
                                        (i_MendStep_n (Prod.fst (Prod.fst r_5)) (Prod.fst (Prod.snd (Prod.fst r_5))) (Prod.snd (Prod.snd (Prod.fst r_5)))
                                          (Prod.snd r_5)) ==
                                      Prod.snd
                                        (s_MendStep_n (Prod.fst (Prod.fst r_5)) (Prod.fst (Prod.snd (Prod.fst r_5))) (Prod.snd (Prod.snd (Prod.fst r_5)))
                                          (Prod.snd r_5)) then
                                some false
                              else
                                Option.bind
                                  (w_lStairs
                                    (Prod.fst
                                      (Prod.fst
                                        (i_MendStep_n (Prod.fst (Prod.fst r_5)) (Prod.fst (Prod.snd (Prod.fst r_5))) (Prod.snd (Prod.snd (Prod.fst r_5)))
                                          (Prod.snd r_5))))
                                    (Prod.fst
                                      (Prod.snd
                                        (Prod.fst
                                          (i_MendStep_n (Prod.fst (Prod.fst r_5)) (Prod.fst (Prod.snd (Prod.fst r_5))) (Prod.snd (Prod.snd (Prod.fst r_5)))
                                            (Prod.snd r_5)))))
                                    (Prod.snd
                                      (Prod.snd
                                        (Prod.fst
                                          (i_MendStep_n (Prod.fst (Prod.fst r_5)) (Prod.fst (Prod.snd (Prod.fst r_5))) (Prod.snd (Prod.snd (Prod.fst r_5)))
                                            (Prod.snd r_5)))))
                                    (Prod.fst
                                      (Prod.fst
                                        (s_MendStep_n (Prod.fst (Prod.fst r_5)) (Prod.fst (Prod.snd (Prod.fst r_5))) (Prod.snd (Prod.snd (Prod.fst r_5)))
                                          (Prod.snd r_5))))
                                    (Prod.fst
                                      (Prod.snd
                                        (Prod.fst
                                          (s_MendStep_n (Prod.fst (Prod.fst r_5)) (Prod.fst (Prod.snd (Prod.fst r_5))) (Prod.snd (Prod.snd (Prod.fst r_5)))
                                            (Prod.snd r_5)))))
                                    (Prod.snd
                                      (Prod.snd
                                        (Prod.fst
                                          (s_MendStep_n (Prod.fst (Prod.fst r_5)) (Prod.fst (Prod.snd (Prod.fst r_5))) (Prod.snd (Prod.snd (Prod.fst r_5)))
                                            (Prod.snd r_5))))))
                                  fun r_10 =>
                                  bif !r_10 then some false
                                  else
                                    bif !Prod.snd r_7 == Prod.snd r_8 then some false
                                    else
                                      Option.bind
                                        (w_lStairs (Prod.fst (Prod.fst r_7)) (Prod.fst (Prod.snd (Prod.fst r_7))) (Prod.snd (Prod.snd (Prod.fst r_7)))
                                          (Prod.fst (Prod.fst r_8)) (Prod.fst (Prod.snd (Prod.fst r_8))) (Prod.snd (Prod.snd (Prod.fst r_8))))
                                        fun r_11 =>
                                        bif !r_11 then some false
                                        else
                                          bif Prod.snd r_1 then
                                            bif
                                                !Prod.snd
                                                    (i_MendStep_n (Prod.fst (Prod.fst r_1)) (Prod.fst (Prod.snd (Prod.fst r_1)))
                                                      (Prod.snd (Prod.snd (Prod.fst r_1))) (Prod.snd r)) then
                                              some false
                                            else
                                              Option.bind
                                                (w_lStairs
                                                  (Prod.fst
                                                    (Prod.fst
                                                      (i_MendStep_n (Prod.fst (Prod.fst r_1)) (Prod.fst (Prod.snd (Prod.fst r_1)))
                                                        (Prod.snd (Prod.snd (Prod.fst r_1))) (Prod.snd r))))
                                                  (Prod.fst
                                                    (Prod.snd
                                                      (Prod.fst
                                                        (i_MendStep_n (Prod.fst (Prod.fst r_1)) (Prod.fst (Prod.snd (Prod.fst r_1)))
                                                          (Prod.snd (Prod.snd (Prod.fst r_1))) (Prod.snd r)))))
                                                  (Prod.snd
                                                    (Prod.snd
                                                      (Prod.fst
                                                        (i_MendStep_n (Prod.fst (Prod.fst r_1)) (Prod.fst (Prod.snd (Prod.fst r_1)))
                                                          (Prod.snd (Prod.snd (Prod.fst r_1))) (Prod.snd r)))))
                                                  (Prod.fst (Prod.fst r)) (Prod.fst (Prod.snd (Prod.fst r))) (Prod.snd (Prod.snd (Prod.fst r))))
                                                fun r =>
                                                bif !r then some false
                                                else
                                                  g5 (Prod.fst (Prod.fst r_5))
                                                    (Prod.fst
                                                      (Prod.fst
                                                        (i_MendStep_n (Prod.fst (Prod.fst r_5)) (Prod.fst (Prod.snd (Prod.fst r_5)))
                                                          (Prod.snd (Prod.snd (Prod.fst r_5))) (Prod.snd r_5))))
                                                    (Prod.fst (Prod.fst r_7)) (Prod.fst (Prod.snd (Prod.fst r_5))) (Prod.snd (Prod.snd (Prod.fst r_5)))
                                                    (Prod.fst
                                                      (Prod.snd
                                                        (Prod.fst
                                                          (i_MendStep_n (Prod.fst (Prod.fst r_5)) (Prod.fst (Prod.snd (Prod.fst r_5)))
                                                            (Prod.snd (Prod.snd (Prod.fst r_5))) (Prod.snd r_5)))))
                                                    (Prod.snd
                                                      (Prod.snd
                                                        (Prod.fst
                                                          (i_MendStep_n (Prod.fst (Prod.fst r_5)) (Prod.fst (Prod.snd (Prod.fst r_5)))
                                                            (Prod.snd (Prod.snd (Prod.fst r_5))) (Prod.snd r_5)))))
                                                    (Prod.fst (Prod.snd (Prod.fst r_7))) (Prod.snd (Prod.snd (Prod.fst r_7))) (Prod.snd r_5)
                                                    (Prod.snd
                                                      (i_MendStep_n (Prod.fst (Prod.fst r_5)) (Prod.fst (Prod.snd (Prod.fst r_5)))
                                                        (Prod.snd (Prod.snd (Prod.fst r_5))) (Prod.snd r_5)))
                                                    r_6 (Prod.snd r_7)
                                          else
                                            g5 (Prod.fst (Prod.fst r_5))
                                              (Prod.fst
                                                (Prod.fst
                                                  (i_MendStep_n (Prod.fst (Prod.fst r_5)) (Prod.fst (Prod.snd (Prod.fst r_5)))
                                                    (Prod.snd (Prod.snd (Prod.fst r_5))) (Prod.snd r_5))))
                                              (Prod.fst (Prod.fst r_7)) (Prod.fst (Prod.snd (Prod.fst r_5))) (Prod.snd (Prod.snd (Prod.fst r_5)))
                                              (Prod.fst
                                                (Prod.snd
                                                  (Prod.fst
                                                    (i_MendStep_n (Prod.fst (Prod.fst r_5)) (Prod.fst (Prod.snd (Prod.fst r_5)))
                                                      (Prod.snd (Prod.snd (Prod.fst r_5))) (Prod.snd r_5)))))
                                              (Prod.snd
                                                (Prod.snd
                                                  (Prod.fst
                                                    (i_MendStep_n (Prod.fst (Prod.fst r_5)) (Prod.fst (Prod.snd (Prod.fst r_5)))
                                                      (Prod.snd (Prod.snd (Prod.fst r_5))) (Prod.snd r_5)))))
                                              (Prod.fst (Prod.snd (Prod.fst r_7))) (Prod.snd (Prod.snd (Prod.fst r_7))) (Prod.snd r_5)
                                              (Prod.snd
                                                (i_MendStep_n (Prod.fst (Prod.fst r_5)) (Prod.fst (Prod.snd (Prod.fst r_5))) (Prod.snd (Prod.snd (Prod.fst r_5)))
                                                  (Prod.snd r_5)))
                                              r_6 (Prod.snd r_7)
noncomputable def w_FnClimbsBroken_t5 (g1 : List (Int) → Int → List (Int) → List (Int) → List (Int) → Int → List (Int) → List (Int) → List (Int) → List (Int) → Bool → Bool → Int → Int → Bool → ByteArray → Option (Bool)) (g2 : List (Int) → Int → List (Int) → List (Int) → List (Int) → List (Int) → List (Int) → Bool → Int → Int → Bool → Option (Bool)) (g3 : List (Int) → Int → List (Int) → List (Int) → List (Int) → List (Int) → List (Int) → Bool → Int → Int → Bool → Option (Bool)) (g4 : List (Int) → Option (Bool)) (g5 : Int → Int → Int → List (Int) → List (Int) → List (Int) → List (Int) → List (Int) → List (Int) → Int → Bool → ByteArray → Bool → Option (Bool)) (g6 : Int → List (Int) → List (Int) → ByteArray → Bool → Option (Bool)) (g7 : List (Int) → Int → List (Int) → List (Int) → List (Int) → List (Int) → List (Int) → Bool → Int → Int → Bool → Int → Int → Option (Bool)) (g8 : List (Int) → Int → List (Int) → List (Int) → List (Int) → List (Int) → List (Int) → Bool → Int → Int → Bool → Int → Int → Option (Bool)) (g9 : List (Int) → Int → List (Int) → List (Int) → List (Int) → List (Int) → List (Int) → Int → Int → Bool → Int → Int → Int → Option (Bool)) (b0_0 : Int) (b1_0 : Int) (b2_0 : Int) (r3 : List (Int)) (r4 : List (Int)) (r5 : List (Int)) (r6 : List (Int)) (r7 : List (Int)) (r8 : List (Int)) (k61 : Int) (sixteen63 : Bool) (x66 : ByteArray) (eighteen68 : Bool) : Option Bool :=
  bif sixteen63 then
    Option.bind (i_BreakStep b1_0 r5 r6 k61) fun r =>
      bif !Prod.snd r then some false
      else
        Option.bind (w_lStairs (Prod.fst (Prod.fst r)) (Prod.fst (Prod.snd (Prod.fst r))) (Prod.snd (Prod.snd (Prod.fst r))) b0_0 r3 r4) fun r =>
          bif !r then some false else g6 b2_0 r7 r8 x66 eighteen68
  else g6 b2_0 r7 r8 x66 eighteen68
noncomputable def w_FnClimbsBroken_t6 (g1 : List (Int) → Int → List (Int) → List (Int) → List (Int) → Int → List (Int) → List (Int) → List (Int) → List (Int) → Bool → Bool → Int → Int → Bool → ByteArray → Option (Bool)) (g2 : List (Int) → Int → List (Int) → List (Int) → List (Int) → List (Int) → List (Int) → Bool → Int → Int → Bool → Option (Bool)) (g3 : List (Int) → Int → List (Int) → List (Int) → List (Int) → List (Int) → List (Int) → Bool → Int → Int → Bool → Option (Bool)) (g4 : List (Int) → Option (Bool)) (g5 : Int → Int → Int → List (Int) → List (Int) → List (Int) → List (Int) → List (Int) → List (Int) → Int → Bool → ByteArray → Bool → Option (Bool)) (g6 : Int → List (Int) → List (Int) → ByteArray → Bool → Option (Bool)) (g7 : List (Int) → Int → List (Int) → List (Int) → List (Int) → List (Int) → List (Int) → Bool → Int → Int → Bool → Int → Int → Option (Bool)) (g8 : List (Int) → Int → List (Int) → List (Int) → List (Int) → List (Int) → List (Int) → Bool → Int → Int → Bool → Int → Int → Option (Bool)) (g9 : List (Int) → Int → List (Int) → List (Int) → List (Int) → List (Int) → List (Int) → Int → Int → Bool → Int → Int → Int → Option (Bool)) (b0_0 : Int) (r1 : List (Int)) (r2 : List (Int)) (x66 : ByteArray) (eighteen68 : Bool) : Option Bool :=
  bif eighteen68 then
    Option.bind (i_StairsText b0_0 r1 r2) fun r => bif Prod.snd r then some (ByteArray.toList (Prod.fst r) == ByteArray.toList x66) else some false
  else some true
noncomputable def w_FnClimbsBroken_t7 (g1 : List (Int) → Int → List (Int) → List (Int) → List (Int) → Int → List (Int) → List (Int) → List (Int) → List (Int) → Bool → Bool → Int → Int → Bool → ByteArray → Option (Bool)) (g2 : List (Int) → Int → List (Int) → List (Int) → List (Int) → List (Int) → List (Int) → Bool → Int → Int → Bool → Option (Bool)) (g3 : List (Int) → Int → List (Int) → List (Int) → List (Int) → List (Int) → List (Int) → Bool → Int → Int → Bool → Option (Bool)) (g4 : List (Int) → Option (Bool)) (g5 : Int → Int → Int → List (Int) → List (Int) → List (Int) → List (Int) → List (Int) → List (Int) → Int → Bool → ByteArray → Bool → Option (Bool)) (g6 : Int → List (Int) → List (Int) → ByteArray → Bool → Option (Bool)) (g7 : List (Int) → Int → List (Int) → List (Int) → List (Int) → List (Int) → List (Int) → Bool → Int → Int → Bool → Int → Int → Option (Bool)) (g8 : List (Int) → Int → List (Int) → List (Int) → List (Int) → List (Int) → List (Int) → Bool → Int → Int → Bool → Int → Int → Option (Bool)) (g9 : List (Int) → Int → List (Int) → List (Int) → List (Int) → List (Int) → List (Int) → Int → Int → Bool → Int → Int → Int → Option (Bool)) (r0 : List (Int)) (b1_0 : Int) (r2 : List (Int)) (r3 : List (Int)) (r4 : List (Int)) (r5 : List (Int)) (r6 : List (Int)) (ok7 : Bool) (worst18 : Int) (most19 : Int) (five20 : Bool) (s317 : Int) (s318 : Int) : Option Bool :=
  bif decide (s318 < s317) then
    bif decide (0 ≤ s318) then
      bif decide (s318 < (↑(List.length r4) : Int)) then
        Option.bind (w_lHas r3 (rdk kint r4 s318)) fun r =>
          bif !r then some false
          else
            Option.bind (w_lHas r2 (rdk kint r4 s318)) fun r =>
              bif r then some false else g7 r0 b1_0 r2 r3 r4 r5 r6 ok7 worst18 most19 five20 s317 (IntKind.wrap IntKind.i64 (s318 + 1))
      else none
    else none
  else g8 r0 b1_0 r2 r3 r4 r6 r5 ok7 worst18 most19 five20 (↑(List.length r6) : Int) 0
noncomputable def w_FnClimbsBroken_t8 (g1 : List (Int) → Int → List (Int) → List (Int) → List (Int) → Int → List (Int) → List (Int) → List (Int) → List (Int) → Bool → Bool → Int → Int → Bool → ByteArray → Option (Bool)) (g2 : List (Int) → Int → List (Int) → List (Int) → List (Int) → List (Int) → List (Int) → Bool → Int → Int → Bool → Option (Bool)) (g3 : List (Int) → Int → List (Int) → List (Int) → List (Int) → List (Int) → List (Int) → Bool → Int → Int → Bool → Option (Bool)) (g4 : List (Int) → Option (Bool)) (g5 : Int → Int → Int → List (Int) → List (Int) → List (Int) → List (Int) → List (Int) → List (Int) → Int → Bool → ByteArray → Bool → Option (Bool)) (g6 : Int → List (Int) → List (Int) → ByteArray → Bool → Option (Bool)) (g7 : List (Int) → Int → List (Int) → List (Int) → List (Int) → List (Int) → List (Int) → Bool → Int → Int → Bool → Int → Int → Option (Bool)) (g8 : List (Int) → Int → List (Int) → List (Int) → List (Int) → List (Int) → List (Int) → Bool → Int → Int → Bool → Int → Int → Option (Bool)) (g9 : List (Int) → Int → List (Int) → List (Int) → List (Int) → List (Int) → List (Int) → Int → Int → Bool → Int → Int → Int → Option (Bool)) (r0 : List (Int)) (b1_0 : Int) (r2 : List (Int)) (r3 : List (Int)) (r4 : List (Int)) (r5 : List (Int)) (r6 : List (Int)) (ok7 : Bool) (worst18 : Int) (most19 : Int) (five20 : Bool) (s334 : Int) (s335 : Int) : Option Bool :=
  bif decide (s335 < s334) then
    bif decide (0 ≤ s335) then
      bif decide (s335 < (↑(List.length r5) : Int)) then
        Option.bind (w_lHas r3 (rdk kint r5 s335)) fun r =>
          bif r then some false else g8 r0 b1_0 r2 r3 r4 r5 r6 ok7 worst18 most19 five20 s334 (IntKind.wrap IntKind.i64 (s335 + 1))
      else none
    else none
  else g2 r0 b1_0 r2 r3 r4 r6 r5 ok7 worst18 most19 five20
noncomputable def w_FnClimbsBroken_t9 (g1 : List (Int) → Int → List (Int) → List (Int) → List (Int) → Int → List (Int) → List (Int) → List (Int) → List (Int) → Bool → Bool → Int → Int → Bool → ByteArray → Option (Bool)) (g2 : List (Int) → Int → List (Int) → List (Int) → List (Int) → List (Int) → List (Int) → Bool → Int → Int → Bool → Option (Bool)) (g3 : List (Int) → Int → List (Int) → List (Int) → List (Int) → List (Int) → List (Int) → Bool → Int → Int → Bool → Option (Bool)) (g4 : List (Int) → Option (Bool)) (g5 : Int → Int → Int → List (Int) → List (Int) → List (Int) → List (Int) → List (Int) → List (Int) → Int → Bool → ByteArray → Bool → Option (Bool)) (g6 : Int → List (Int) → List (Int) → ByteArray → Bool → Option (Bool)) (g7 : List (Int) → Int → List (Int) → List (Int) → List (Int) → List (Int) → List (Int) → Bool → Int → Int → Bool → Int → Int → Option (Bool)) (g8 : List (Int) → Int → List (Int) → List (Int) → List (Int) → List (Int) → List (Int) → Bool → Int → Int → Bool → Int → Int → Option (Bool)) (g9 : List (Int) → Int → List (Int) → List (Int) → List (Int) → List (Int) → List (Int) → Int → Int → Bool → Int → Int → Int → Option (Bool)) (r0 : List (Int)) (b1_0 : Int) (r2 : List (Int)) (r3 : List (Int)) (r4 : List (Int)) (r5 : List (Int)) (r6 : List (Int)) (worst18 : Int) (most19 : Int) (five20 : Bool) (count40 : Int) (s361 : Int) (s362 : Int) : Option Bool :=
  bif decide (s362 < s361) then
    bif decide (0 ≤ s362) then
      bif decide (s362 < (↑(List.length r4) : Int)) then
        Option.bind (i_ClimbsThrough b1_0 r5 r6 (rdk kint r4 s362)) fun r =>
          bif !Prod.snd r then some false
          else
            bif decide (Prod.fst r < 0) then some false
            else
              bif decide (Prod.fst r > count40) then some false
              else
                Option.bind (w_lHas r2 (rdk kint r4 s362)) fun r_1 =>
                  bif !r_1 == (Prod.fst r == count40) then some false
                  else
                    Option.bind (w_lHas r3 (rdk kint r4 s362)) fun r_2 =>
                      bif !r_2 == (Prod.fst r == 0) then some false
                      else
                        bif decide (rdk kint r4 s362 < b1_0) then
                          Option.bind (i_BreakStep b1_0 r5 r6 (rdk kint r4 s362)) fun r_3 =>
                            Option.bind (i_CountClimbs (Prod.fst (Prod.fst r_3)) (Prod.fst (Prod.snd (Prod.fst r_3))) (Prod.snd (Prod.snd (Prod.fst r_3))))
                              fun r_4 =>
                              bif !Prod.snd r_3 then some false
                              else
                                bif !Prod.snd r_4 then some false
                                else
                                  bif Prod.fst r_4 != IntKind.wrap IntKind.i64 (count40 - Prod.fst r) then some false
                                  else
                                    bif five20 then
                                      bif decide (Prod.fst r > most19) then some false
                                      else
                                        bif five20 then
                                          bif Prod.fst r == most19 then
                                            bif decide (rdk kint r4 s362 < worst18) then some false
                                            else g9 r0 b1_0 r2 r3 r4 r5 r6 worst18 most19 five20 count40 s361 (IntKind.wrap IntKind.i64 (s362 + 1))
                                          else g9 r0 b1_0 r2 r3 r4 r5 r6 worst18 most19 five20 count40 s361 (IntKind.wrap IntKind.i64 (s362 + 1))
                                        else g9 r0 b1_0 r2 r3 r4 r5 r6 worst18 most19 five20 count40 s361 (IntKind.wrap IntKind.i64 (s362 + 1))
                                    else
                                      bif five20 then
                                        bif Prod.fst r == most19 then
                                          bif decide (rdk kint r4 s362 < worst18) then some false
                                          else g9 r0 b1_0 r2 r3 r4 r5 r6 worst18 most19 five20 count40 s361 (IntKind.wrap IntKind.i64 (s362 + 1))
                                        else g9 r0 b1_0 r2 r3 r4 r5 r6 worst18 most19 five20 count40 s361 (IntKind.wrap IntKind.i64 (s362 + 1))
                                      else g9 r0 b1_0 r2 r3 r4 r5 r6 worst18 most19 five20 count40 s361 (IntKind.wrap IntKind.i64 (s362 + 1))
                        else g9 r0 b1_0 r2 r3 r4 r5 r6 worst18 most19 five20 count40 s361 (IntKind.wrap IntKind.i64 (s362 + 1))
      else none
    else none
  else g4 r0
noncomputable def w_FnClimbsBroken_t0 (g1 : List (Int) → Int → List (Int) → List (Int) → List (Int) → Int → List (Int) → List (Int) → List (Int) → List (Int) → Bool → Bool → Int → Int → Bool → ByteArray → Option (Bool)) (g2 : List (Int) → Int → List (Int) → List (Int) → List (Int) → List (Int) → List (Int) → Bool → Int → Int → Bool → Option (Bool)) (g3 : List (Int) → Int → List (Int) → List (Int) → List (Int) → List (Int) → List (Int) → Bool → Int → Int → Bool → Option (Bool)) (g4 : List (Int) → Option (Bool)) (g5 : Int → Int → Int → List (Int) → List (Int) → List (Int) → List (Int) → List (Int) → List (Int) → Int → Bool → ByteArray → Bool → Option (Bool)) (g6 : Int → List (Int) → List (Int) → ByteArray → Bool → Option (Bool)) (g7 : List (Int) → Int → List (Int) → List (Int) → List (Int) → List (Int) → List (Int) → Bool → Int → Int → Bool → Int → Int → Option (Bool)) (g8 : List (Int) → Int → List (Int) → List (Int) → List (Int) → List (Int) → List (Int) → Bool → Int → Int → Bool → Int → Int → Option (Bool)) (g9 : List (Int) → Int → List (Int) → List (Int) → List (Int) → List (Int) → List (Int) → Int → Int → Bool → Int → Int → Int → Option (Bool)) (code0 : List Int) (more1 : List Int) : Option Bool :=
  bif w_big code0 more1 then some true
  else
    Option.bind (s_DrawNeededSteps code0) fun r =>
      Option.bind (i_NeededSteps (Prod.fst r) (Prod.fst (Prod.snd r)) (Prod.snd (Prod.snd r))) fun r_1 =>
        Option.bind (s_NeededSteps (Prod.fst r) (Prod.fst (Prod.snd r)) (Prod.snd (Prod.snd r))) fun r_2 =>
          Option.bind (i_ReachedSteps (Prod.fst r) (Prod.fst (Prod.snd r)) (Prod.snd (Prod.snd r))) fun r_3 =>
            Option.bind (s_ReachedSteps (Prod.fst r) (Prod.fst (Prod.snd r)) (Prod.snd (Prod.snd r))) fun r_4 =>
              Option.bind (i_StuckSteps (Prod.fst r) (Prod.fst (Prod.snd r)) (Prod.snd (Prod.snd r))) fun r_5 =>
                Option.bind (s_StuckSteps (Prod.fst r) (Prod.fst (Prod.snd r)) (Prod.snd (Prod.snd r))) fun r_6 =>
                  Option.bind (i_WorstToBreak (Prod.fst r) (Prod.fst (Prod.snd r)) (Prod.snd (Prod.snd r))) fun r_7 =>
                    Option.bind (s_WorstToBreak (Prod.fst r) (Prod.fst (Prod.snd r)) (Prod.snd (Prod.snd r))) fun r_8 =>
                      Option.bind (i_StairsText (Prod.fst r) (Prod.fst (Prod.snd r)) (Prod.snd (Prod.snd r))) fun r_9 =>
                        Option.bind (s_StairsText (Prod.fst r) (Prod.fst (Prod.snd r)) (Prod.snd (Prod.snd r))) fun r_10 =>
                          bif !Prod.snd r_1 == Prod.snd r_2 then some false
                          else
                            Option.bind (w_lSame (Prod.fst r_1) (Prod.fst r_2)) fun r_11 =>
                              bif !r_11 then some false
                              else
                                bif !Prod.snd r_3 == Prod.snd r_4 then some false
                                else
                                  Option.bind (w_lSame (Prod.fst r_3) (Prod.fst r_4)) fun r_12 =>
                                    bif !r_12 then some false
                                    else
                                      bif !Prod.snd r_5 == Prod.snd r_6 then some false
                                      else
                                        Option.bind (w_lSame (Prod.fst r_5) (Prod.fst r_6)) fun r_13 =>
                                          bif !r_13 then some false
                                          else
                                            bif !Prod.snd (Prod.snd r_7) == Prod.snd (Prod.snd r_8) then some false
                                            else
                                              bif Prod.fst r_7 != Prod.fst r_8 then some false
                                              else
                                                bif Prod.fst (Prod.snd r_7) != Prod.fst (Prod.snd r_8) then some false
                                                else
                                                  bif
                                                      !Prod.snd (i_TurnStairs_n (Prod.fst r) (Prod.fst (Prod.snd r)) (Prod.snd (Prod.snd r))) ==
                                                          Prod.snd (s_TurnStairs_n (Prod.fst r) (Prod.fst (Prod.snd r)) (Prod.snd (Prod.snd r))) then
                                                    some false
                                                  else
                                                    Option.bind
                                                      (w_lStairs
                                                        (Prod.fst (Prod.fst (i_TurnStairs_n (Prod.fst r) (Prod.fst (Prod.snd r)) (Prod.snd (Prod.snd r)))))
                                                        (Prod.fst
                                                          (Prod.snd (Prod.fst (i_TurnStairs_n (Prod.fst r) (Prod.fst (Prod.snd r)) (Prod.snd (Prod.snd r))))))
                                                        (Prod.snd
                                                          (Prod.snd (Prod.fst (i_TurnStairs_n (Prod.fst r) (Prod.fst (Prod.snd r)) (Prod.snd (Prod.snd r))))))
                                                        (Prod.fst (Prod.fst (s_TurnStairs_n (Prod.fst r) (Prod.fst (Prod.snd r)) (Prod.snd (Prod.snd r)))))
                                                        (Prod.fst
                                                          (Prod.snd (Prod.fst (s_TurnStairs_n (Prod.fst r) (Prod.fst (Prod.snd r)) (Prod.snd (Prod.snd r))))))
                                                        (Prod.snd
                                                          (Prod.snd (Prod.fst (s_TurnStairs_n (Prod.fst r) (Prod.fst (Prod.snd r)) (Prod.snd (Prod.snd r)))))))
                                                      fun r_14 =>
                                                      bif !r_14 then some false
                                                      else
                                                        bif !Prod.snd r_9 == Prod.snd r_10 then some false
                                                        else
                                                          bif !ByteArray.toList (Prod.fst r_9) == ByteArray.toList (Prod.fst r_10) then some false
                                                          else
                                                            bif !Prod.snd r_3 == i_AreStairs (Prod.fst r) (Prod.fst (Prod.snd r)) (Prod.snd (Prod.snd r)) then
                                                              some false
                                                            else
                                                              bif
                                                                  !i_AreStairs (Prod.fst r) (Prod.fst (Prod.snd r)) (Prod.snd (Prod.snd r)) ==
                                                                      s_AreStairs (Prod.fst r) (Prod.fst (Prod.snd r)) (Prod.snd (Prod.snd r)) then
                                                                some false
                                                              else
                                                                bif !Prod.snd r_5 == Prod.snd r_3 then some false
                                                                else
                                                                  bif
                                                                      !Prod.snd (i_TurnStairs_n (Prod.fst r) (Prod.fst (Prod.snd r)) (Prod.snd (Prod.snd r))) ==
                                                                          Prod.snd r_3 then
                                                                    some false
                                                                  else
                                                                    bif !Prod.snd r_9 == Prod.snd r_3 then some false
                                                                    else
                                                                      bif Prod.snd r_1 then
                                                                        bif !Prod.snd r_3 then some false
                                                                        else
                                                                          bif Prod.snd (Prod.snd r_7) then
                                                                            bif !Prod.snd r_1 then some false
                                                                            else
                                                                              g1 more1 (Prod.fst r) (Prod.fst r_1) (Prod.fst r_3) (Prod.fst r_5)
                                                                                (Prod.fst
                                                                                  (Prod.fst
                                                                                    (i_TurnStairs_n (Prod.fst r) (Prod.fst (Prod.snd r))
                                                                                      (Prod.snd (Prod.snd r)))))
                                                                                (Prod.fst (Prod.snd r)) (Prod.snd (Prod.snd r))
                                                                                (Prod.fst
                                                                                  (Prod.snd
                                                                                    (Prod.fst
                                                                                      (i_TurnStairs_n (Prod.fst r) (Prod.fst (Prod.snd r))
                                                                                        (Prod.snd (Prod.snd r))))))
                                                                                (Prod.snd
                                                                                  (Prod.snd
                                                                                    (Prod.fst
                                                                                      (i_TurnStairs_n (Prod.fst r) (Prod.fst (Prod.snd r))
                                                                                        (Prod.snd (Prod.snd r))))))
                                                                                (Prod.snd r_1) (Prod.snd r_3) (Prod.fst r_7) (Prod.fst (Prod.snd r_7))
                                                                                (Prod.snd (Prod.snd r_7)) (Prod.fst r_9)
                                                                          else
                                                                            g1 more1 (Prod.fst r) (Prod.fst r_1) (Prod.fst r_3) (Prod.fst r_5)
                                                                              (Prod.fst
                                                                                (Prod.fst
                                                                                  (i_TurnStairs_n (Prod.fst r) (Prod.fst (Prod.snd r)) (Prod.snd (Prod.snd r)))))
                                                                              (Prod.fst (Prod.snd r)) (Prod.snd (Prod.snd r))
                                                                              (Prod.fst
                                                                                (Prod.snd
                                                                                  (Prod.fst
                                                                                    (i_TurnStairs_n (Prod.fst r) (Prod.fst (Prod.snd r))
                                                                                      (Prod.snd (Prod.snd r))))))
                                                                              (Prod.snd
                                                                                (Prod.snd
                                                                                  (Prod.fst
                                                                                    (i_TurnStairs_n (Prod.fst r) (Prod.fst (Prod.snd r))
                                                                                      (Prod.snd (Prod.snd r))))))
                                                                              (Prod.snd r_1) (Prod.snd r_3) (Prod.fst r_7) (Prod.fst (Prod.snd r_7))
                                                                              (Prod.snd (Prod.snd r_7)) (Prod.fst r_9)
                                                                      else
                                                                        bif Prod.snd (Prod.snd r_7) then
                                                                          bif !Prod.snd r_1 then some false
                                                                          else
                                                                            g1 more1 (Prod.fst r) (Prod.fst r_1) (Prod.fst r_3) (Prod.fst r_5)
                                                                              (Prod.fst
                                                                                (Prod.fst
                                                                                  (i_TurnStairs_n (Prod.fst r) (Prod.fst (Prod.snd r)) (Prod.snd (Prod.snd r)))))
                                                                              (Prod.fst (Prod.snd r)) (Prod.snd (Prod.snd r))
                                                                              (Prod.fst
                                                                                (Prod.snd
                                                                                  (Prod.fst
                                                                                    (i_TurnStairs_n (Prod.fst r) (Prod.fst (Prod.snd r))
                                                                                      (Prod.snd (Prod.snd r))))))
                                                                              (Prod.snd
                                                                                (Prod.snd
                                                                                  (Prod.fst
                                                                                    (i_TurnStairs_n (Prod.fst r) (Prod.fst (Prod.snd r))
                                                                                      (Prod.snd (Prod.snd r))))))
                                                                              (Prod.snd r_1) (Prod.snd r_3) (Prod.fst r_7) (Prod.fst (Prod.snd r_7))
                                                                              (Prod.snd (Prod.snd r_7)) (Prod.fst r_9)
                                                                        else
                                                                          g1 more1 (Prod.fst r) (Prod.fst r_1) (Prod.fst r_3) (Prod.fst r_5)
                                                                            (Prod.fst
                                                                              (Prod.fst
                                                                                (i_TurnStairs_n (Prod.fst r) (Prod.fst (Prod.snd r)) (Prod.snd (Prod.snd r)))))
                                                                            (Prod.fst (Prod.snd r)) (Prod.snd (Prod.snd r))
                                                                            (Prod.fst
                                                                              (Prod.snd
                                                                                (Prod.fst
                                                                                  (i_TurnStairs_n (Prod.fst r) (Prod.fst (Prod.snd r)) (Prod.snd (Prod.snd r))))))
                                                                            (Prod.snd
                                                                              (Prod.snd
                                                                                (Prod.fst
                                                                                  (i_TurnStairs_n (Prod.fst r) (Prod.fst (Prod.snd r)) (Prod.snd (Prod.snd r))))))
                                                                            (Prod.snd r_1) (Prod.snd r_3) (Prod.fst r_7) (Prod.fst (Prod.snd r_7))
                                                                            (Prod.snd (Prod.snd r_7)) (Prod.fst r_9)
theorem w_FnClimbsBroken_ts : Tails c_w_FnClimbsBroken.pts c_w_FnClimbsBroken.round :=
  ⟨fun s => by
    obtain ⟨⟨r0, ⟨b1_0, _, _, _⟩, r2, r3, r4, ⟨b5_0, _, _, _⟩, r6, r7, r8, r9, _⟩, ⟨_, _, _, ok7, _, one11, _, worst18, most19, five20, _, text28, _⟩, ⟨_, _, _⟩⟩ := s
    refine Tail.eq (Y := fun g => w_FnClimbsBroken_t1 (fun r0 b1_0 r2 r3 r4 b5_0 r6 r7 r8 r9 ok7 one11 worst18 most19 five20 text28 => g.1 ((r0, (b1_0, (), (), ()), r2, r3, r4, (b5_0, (), (), ()), r6, r7, r8, r9, ()), ((), (), (), ok7, (), one11, (), worst18, most19, five20, (), text28, ()), ((), (), ()))) (fun r0 b1_0 r2 r3 r4 r5 r6 ok7 worst18 most19 five20 => g.2.1 ((r0, (b1_0, (), (), ()), r2, r3, r4, r5, r6, ()), ((), (), (), ok7, (), (), worst18, most19, five20, ()), ((), (), ()))) (fun r0 b1_0 r2 r3 r4 r5 r6 ok7 worst18 most19 five20 => g.2.2.1 ((r0, (b1_0, (), (), ()), r2, r3, r4, r5, r6, ()), ((), (), (), ok7, (), (), worst18, most19, five20, ()), ((), (), ()))) (fun r0 => g.2.2.2.1 ((r0, ()), ((), ()), ((), (), ()))) (fun b0_0 b1_0 b2_0 r3 r4 r5 r6 r7 r8 k61 sixteen63 x66 eighteen68 => g.2.2.2.2.1 (((b0_0, (), (), ()), (b1_0, (), (), ()), (b2_0, (), (), ()), r3, r4, r5, r6, r7, r8, ()), ((), k61, (), sixteen63, x66, (), eighteen68, ()), ((), (), ()))) (fun b0_0 r1 r2 x66 eighteen68 => g.2.2.2.2.2.1 (((b0_0, (), (), ()), r1, r2, ()), (x66, (), eighteen68, ()), ((), (), ()))) (fun r0 b1_0 r2 r3 r4 r5 r6 ok7 worst18 most19 five20 s317 s318 => g.2.2.2.2.2.2.1 ((r0, (b1_0, (), (), ()), r2, r3, r4, r5, r6, ()), ((), (), (), ok7, (), (), worst18, most19, five20, (), s317, s318, ()), ((), (), ()))) (fun r0 b1_0 r2 r3 r4 r5 r6 ok7 worst18 most19 five20 s334 s335 => g.2.2.2.2.2.2.2.1 ((r0, (b1_0, (), (), ()), r2, r3, r4, r5, r6, ()), ((), (), (), ok7, (), (), worst18, most19, five20, (), s334, s335, ()), ((), (), ()))) (fun r0 b1_0 r2 r3 r4 r5 r6 worst18 most19 five20 count40 s361 s362 => g.2.2.2.2.2.2.2.2.1 ((r0, (b1_0, (), (), ()), r2, r3, r4, r5, r6, ()), ((), (), (), (), worst18, most19, five20, count40, (), s361, s362, ()), ((), (), ()))) r0 b1_0 r2 r3 r4 b5_0 r6 r7 r8 r9 ok7 one11 worst18 most19 five20 text28) ?_ (fun g => by kernel_rfl)
    simp only [w_FnClimbsBroken_t1]; repeat (first | apply Tail.cond | (apply Tail.bind; intro _) | exact Tail.here _ | exact Tail.there (Tail.here _) | exact Tail.there (Tail.there (Tail.here _)) | exact Tail.there (Tail.there (Tail.there (Tail.here _))) | exact Tail.there (Tail.there (Tail.there (Tail.there (Tail.here _)))) | exact Tail.there (Tail.there (Tail.there (Tail.there (Tail.there (Tail.here _))))) | exact Tail.there (Tail.there (Tail.there (Tail.there (Tail.there (Tail.there (Tail.here _)))))) | exact Tail.there (Tail.there (Tail.there (Tail.there (Tail.there (Tail.there (Tail.there (Tail.here _))))))) | exact Tail.there (Tail.there (Tail.there (Tail.there (Tail.there (Tail.there (Tail.there (Tail.there (Tail.here _)))))))) | exact Tail.const _),
  fun s => by
    obtain ⟨⟨r0, ⟨b1_0, _, _, _⟩, r2, r3, r4, r5, r6, _⟩, ⟨_, _, _, ok7, _, _, worst18, most19, five20, _⟩, ⟨_, _, _⟩⟩ := s
    refine Tail.eq (Y := fun g => w_FnClimbsBroken_t2 (fun r0 b1_0 r2 r3 r4 b5_0 r6 r7 r8 r9 ok7 one11 worst18 most19 five20 text28 => g.1 ((r0, (b1_0, (), (), ()), r2, r3, r4, (b5_0, (), (), ()), r6, r7, r8, r9, ()), ((), (), (), ok7, (), one11, (), worst18, most19, five20, (), text28, ()), ((), (), ()))) (fun r0 b1_0 r2 r3 r4 r5 r6 ok7 worst18 most19 five20 => g.2.1 ((r0, (b1_0, (), (), ()), r2, r3, r4, r5, r6, ()), ((), (), (), ok7, (), (), worst18, most19, five20, ()), ((), (), ()))) (fun r0 b1_0 r2 r3 r4 r5 r6 ok7 worst18 most19 five20 => g.2.2.1 ((r0, (b1_0, (), (), ()), r2, r3, r4, r5, r6, ()), ((), (), (), ok7, (), (), worst18, most19, five20, ()), ((), (), ()))) (fun r0 => g.2.2.2.1 ((r0, ()), ((), ()), ((), (), ()))) (fun b0_0 b1_0 b2_0 r3 r4 r5 r6 r7 r8 k61 sixteen63 x66 eighteen68 => g.2.2.2.2.1 (((b0_0, (), (), ()), (b1_0, (), (), ()), (b2_0, (), (), ()), r3, r4, r5, r6, r7, r8, ()), ((), k61, (), sixteen63, x66, (), eighteen68, ()), ((), (), ()))) (fun b0_0 r1 r2 x66 eighteen68 => g.2.2.2.2.2.1 (((b0_0, (), (), ()), r1, r2, ()), (x66, (), eighteen68, ()), ((), (), ()))) (fun r0 b1_0 r2 r3 r4 r5 r6 ok7 worst18 most19 five20 s317 s318 => g.2.2.2.2.2.2.1 ((r0, (b1_0, (), (), ()), r2, r3, r4, r5, r6, ()), ((), (), (), ok7, (), (), worst18, most19, five20, (), s317, s318, ()), ((), (), ()))) (fun r0 b1_0 r2 r3 r4 r5 r6 ok7 worst18 most19 five20 s334 s335 => g.2.2.2.2.2.2.2.1 ((r0, (b1_0, (), (), ()), r2, r3, r4, r5, r6, ()), ((), (), (), ok7, (), (), worst18, most19, five20, (), s334, s335, ()), ((), (), ()))) (fun r0 b1_0 r2 r3 r4 r5 r6 worst18 most19 five20 count40 s361 s362 => g.2.2.2.2.2.2.2.2.1 ((r0, (b1_0, (), (), ()), r2, r3, r4, r5, r6, ()), ((), (), (), (), worst18, most19, five20, count40, (), s361, s362, ()), ((), (), ()))) r0 b1_0 r2 r3 r4 r5 r6 ok7 worst18 most19 five20) ?_ (fun g => by kernel_rfl)
    simp only [w_FnClimbsBroken_t2]; repeat (first | apply Tail.cond | (apply Tail.bind; intro _) | exact Tail.here _ | exact Tail.there (Tail.here _) | exact Tail.there (Tail.there (Tail.here _)) | exact Tail.there (Tail.there (Tail.there (Tail.here _))) | exact Tail.there (Tail.there (Tail.there (Tail.there (Tail.here _)))) | exact Tail.there (Tail.there (Tail.there (Tail.there (Tail.there (Tail.here _))))) | exact Tail.there (Tail.there (Tail.there (Tail.there (Tail.there (Tail.there (Tail.here _)))))) | exact Tail.there (Tail.there (Tail.there (Tail.there (Tail.there (Tail.there (Tail.there (Tail.here _))))))) | exact Tail.there (Tail.there (Tail.there (Tail.there (Tail.there (Tail.there (Tail.there (Tail.there (Tail.here _)))))))) | exact Tail.const _),
  fun s => by
    obtain ⟨⟨r0, ⟨b1_0, _, _, _⟩, r2, r3, r4, r5, r6, _⟩, ⟨_, _, _, ok7, _, _, worst18, most19, five20, _⟩, ⟨_, _, _⟩⟩ := s
    refine Tail.eq (Y := fun g => w_FnClimbsBroken_t3 (fun r0 b1_0 r2 r3 r4 b5_0 r6 r7 r8 r9 ok7 one11 worst18 most19 five20 text28 => g.1 ((r0, (b1_0, (), (), ()), r2, r3, r4, (b5_0, (), (), ()), r6, r7, r8, r9, ()), ((), (), (), ok7, (), one11, (), worst18, most19, five20, (), text28, ()), ((), (), ()))) (fun r0 b1_0 r2 r3 r4 r5 r6 ok7 worst18 most19 five20 => g.2.1 ((r0, (b1_0, (), (), ()), r2, r3, r4, r5, r6, ()), ((), (), (), ok7, (), (), worst18, most19, five20, ()), ((), (), ()))) (fun r0 b1_0 r2 r3 r4 r5 r6 ok7 worst18 most19 five20 => g.2.2.1 ((r0, (b1_0, (), (), ()), r2, r3, r4, r5, r6, ()), ((), (), (), ok7, (), (), worst18, most19, five20, ()), ((), (), ()))) (fun r0 => g.2.2.2.1 ((r0, ()), ((), ()), ((), (), ()))) (fun b0_0 b1_0 b2_0 r3 r4 r5 r6 r7 r8 k61 sixteen63 x66 eighteen68 => g.2.2.2.2.1 (((b0_0, (), (), ()), (b1_0, (), (), ()), (b2_0, (), (), ()), r3, r4, r5, r6, r7, r8, ()), ((), k61, (), sixteen63, x66, (), eighteen68, ()), ((), (), ()))) (fun b0_0 r1 r2 x66 eighteen68 => g.2.2.2.2.2.1 (((b0_0, (), (), ()), r1, r2, ()), (x66, (), eighteen68, ()), ((), (), ()))) (fun r0 b1_0 r2 r3 r4 r5 r6 ok7 worst18 most19 five20 s317 s318 => g.2.2.2.2.2.2.1 ((r0, (b1_0, (), (), ()), r2, r3, r4, r5, r6, ()), ((), (), (), ok7, (), (), worst18, most19, five20, (), s317, s318, ()), ((), (), ()))) (fun r0 b1_0 r2 r3 r4 r5 r6 ok7 worst18 most19 five20 s334 s335 => g.2.2.2.2.2.2.2.1 ((r0, (b1_0, (), (), ()), r2, r3, r4, r5, r6, ()), ((), (), (), ok7, (), (), worst18, most19, five20, (), s334, s335, ()), ((), (), ()))) (fun r0 b1_0 r2 r3 r4 r5 r6 worst18 most19 five20 count40 s361 s362 => g.2.2.2.2.2.2.2.2.1 ((r0, (b1_0, (), (), ()), r2, r3, r4, r5, r6, ()), ((), (), (), (), worst18, most19, five20, count40, (), s361, s362, ()), ((), (), ()))) r0 b1_0 r2 r3 r4 r5 r6 ok7 worst18 most19 five20) ?_ (fun g => by kernel_rfl)
    simp only [w_FnClimbsBroken_t3]; repeat (first | apply Tail.cond | (apply Tail.bind; intro _) | exact Tail.here _ | exact Tail.there (Tail.here _) | exact Tail.there (Tail.there (Tail.here _)) | exact Tail.there (Tail.there (Tail.there (Tail.here _))) | exact Tail.there (Tail.there (Tail.there (Tail.there (Tail.here _)))) | exact Tail.there (Tail.there (Tail.there (Tail.there (Tail.there (Tail.here _))))) | exact Tail.there (Tail.there (Tail.there (Tail.there (Tail.there (Tail.there (Tail.here _)))))) | exact Tail.there (Tail.there (Tail.there (Tail.there (Tail.there (Tail.there (Tail.there (Tail.here _))))))) | exact Tail.there (Tail.there (Tail.there (Tail.there (Tail.there (Tail.there (Tail.there (Tail.there (Tail.here _)))))))) | exact Tail.const _),
  fun s => by
    obtain ⟨⟨r0, _⟩, ⟨_, _⟩, ⟨_, _, _⟩⟩ := s
    refine Tail.eq (Y := fun g => w_FnClimbsBroken_t4 (fun r0 b1_0 r2 r3 r4 b5_0 r6 r7 r8 r9 ok7 one11 worst18 most19 five20 text28 => g.1 ((r0, (b1_0, (), (), ()), r2, r3, r4, (b5_0, (), (), ()), r6, r7, r8, r9, ()), ((), (), (), ok7, (), one11, (), worst18, most19, five20, (), text28, ()), ((), (), ()))) (fun r0 b1_0 r2 r3 r4 r5 r6 ok7 worst18 most19 five20 => g.2.1 ((r0, (b1_0, (), (), ()), r2, r3, r4, r5, r6, ()), ((), (), (), ok7, (), (), worst18, most19, five20, ()), ((), (), ()))) (fun r0 b1_0 r2 r3 r4 r5 r6 ok7 worst18 most19 five20 => g.2.2.1 ((r0, (b1_0, (), (), ()), r2, r3, r4, r5, r6, ()), ((), (), (), ok7, (), (), worst18, most19, five20, ()), ((), (), ()))) (fun r0 => g.2.2.2.1 ((r0, ()), ((), ()), ((), (), ()))) (fun b0_0 b1_0 b2_0 r3 r4 r5 r6 r7 r8 k61 sixteen63 x66 eighteen68 => g.2.2.2.2.1 (((b0_0, (), (), ()), (b1_0, (), (), ()), (b2_0, (), (), ()), r3, r4, r5, r6, r7, r8, ()), ((), k61, (), sixteen63, x66, (), eighteen68, ()), ((), (), ()))) (fun b0_0 r1 r2 x66 eighteen68 => g.2.2.2.2.2.1 (((b0_0, (), (), ()), r1, r2, ()), (x66, (), eighteen68, ()), ((), (), ()))) (fun r0 b1_0 r2 r3 r4 r5 r6 ok7 worst18 most19 five20 s317 s318 => g.2.2.2.2.2.2.1 ((r0, (b1_0, (), (), ()), r2, r3, r4, r5, r6, ()), ((), (), (), ok7, (), (), worst18, most19, five20, (), s317, s318, ()), ((), (), ()))) (fun r0 b1_0 r2 r3 r4 r5 r6 ok7 worst18 most19 five20 s334 s335 => g.2.2.2.2.2.2.2.1 ((r0, (b1_0, (), (), ()), r2, r3, r4, r5, r6, ()), ((), (), (), ok7, (), (), worst18, most19, five20, (), s334, s335, ()), ((), (), ()))) (fun r0 b1_0 r2 r3 r4 r5 r6 worst18 most19 five20 count40 s361 s362 => g.2.2.2.2.2.2.2.2.1 ((r0, (b1_0, (), (), ()), r2, r3, r4, r5, r6, ()), ((), (), (), (), worst18, most19, five20, count40, (), s361, s362, ()), ((), (), ()))) r0) ?_ (fun g => by kernel_rfl)
    simp only [w_FnClimbsBroken_t4]; repeat (first | apply Tail.cond | (apply Tail.bind; intro _) | exact Tail.here _ | exact Tail.there (Tail.here _) | exact Tail.there (Tail.there (Tail.here _)) | exact Tail.there (Tail.there (Tail.there (Tail.here _))) | exact Tail.there (Tail.there (Tail.there (Tail.there (Tail.here _)))) | exact Tail.there (Tail.there (Tail.there (Tail.there (Tail.there (Tail.here _))))) | exact Tail.there (Tail.there (Tail.there (Tail.there (Tail.there (Tail.there (Tail.here _)))))) | exact Tail.there (Tail.there (Tail.there (Tail.there (Tail.there (Tail.there (Tail.there (Tail.here _))))))) | exact Tail.there (Tail.there (Tail.there (Tail.there (Tail.there (Tail.there (Tail.there (Tail.there (Tail.here _)))))))) | exact Tail.const _),
  fun s => by
    obtain ⟨⟨⟨b0_0, _, _, _⟩, ⟨b1_0, _, _, _⟩, ⟨b2_0, _, _, _⟩, r3, r4, r5, r6, r7, r8, _⟩, ⟨_, k61, _, sixteen63, x66, _, eighteen68, _⟩, ⟨_, _, _⟩⟩ := s
    refine Tail.eq (Y := fun g => w_FnClimbsBroken_t5 (fun r0 b1_0 r2 r3 r4 b5_0 r6 r7 r8 r9 ok7 one11 worst18 most19 five20 text28 => g.1 ((r0, (b1_0, (), (), ()), r2, r3, r4, (b5_0, (), (), ()), r6, r7, r8, r9, ()), ((), (), (), ok7, (), one11, (), worst18, most19, five20, (), text28, ()), ((), (), ()))) (fun r0 b1_0 r2 r3 r4 r5 r6 ok7 worst18 most19 five20 => g.2.1 ((r0, (b1_0, (), (), ()), r2, r3, r4, r5, r6, ()), ((), (), (), ok7, (), (), worst18, most19, five20, ()), ((), (), ()))) (fun r0 b1_0 r2 r3 r4 r5 r6 ok7 worst18 most19 five20 => g.2.2.1 ((r0, (b1_0, (), (), ()), r2, r3, r4, r5, r6, ()), ((), (), (), ok7, (), (), worst18, most19, five20, ()), ((), (), ()))) (fun r0 => g.2.2.2.1 ((r0, ()), ((), ()), ((), (), ()))) (fun b0_0 b1_0 b2_0 r3 r4 r5 r6 r7 r8 k61 sixteen63 x66 eighteen68 => g.2.2.2.2.1 (((b0_0, (), (), ()), (b1_0, (), (), ()), (b2_0, (), (), ()), r3, r4, r5, r6, r7, r8, ()), ((), k61, (), sixteen63, x66, (), eighteen68, ()), ((), (), ()))) (fun b0_0 r1 r2 x66 eighteen68 => g.2.2.2.2.2.1 (((b0_0, (), (), ()), r1, r2, ()), (x66, (), eighteen68, ()), ((), (), ()))) (fun r0 b1_0 r2 r3 r4 r5 r6 ok7 worst18 most19 five20 s317 s318 => g.2.2.2.2.2.2.1 ((r0, (b1_0, (), (), ()), r2, r3, r4, r5, r6, ()), ((), (), (), ok7, (), (), worst18, most19, five20, (), s317, s318, ()), ((), (), ()))) (fun r0 b1_0 r2 r3 r4 r5 r6 ok7 worst18 most19 five20 s334 s335 => g.2.2.2.2.2.2.2.1 ((r0, (b1_0, (), (), ()), r2, r3, r4, r5, r6, ()), ((), (), (), ok7, (), (), worst18, most19, five20, (), s334, s335, ()), ((), (), ()))) (fun r0 b1_0 r2 r3 r4 r5 r6 worst18 most19 five20 count40 s361 s362 => g.2.2.2.2.2.2.2.2.1 ((r0, (b1_0, (), (), ()), r2, r3, r4, r5, r6, ()), ((), (), (), (), worst18, most19, five20, count40, (), s361, s362, ()), ((), (), ()))) b0_0 b1_0 b2_0 r3 r4 r5 r6 r7 r8 k61 sixteen63 x66 eighteen68) ?_ (fun g => by kernel_rfl)
    simp only [w_FnClimbsBroken_t5]; repeat (first | apply Tail.cond | (apply Tail.bind; intro _) | exact Tail.here _ | exact Tail.there (Tail.here _) | exact Tail.there (Tail.there (Tail.here _)) | exact Tail.there (Tail.there (Tail.there (Tail.here _))) | exact Tail.there (Tail.there (Tail.there (Tail.there (Tail.here _)))) | exact Tail.there (Tail.there (Tail.there (Tail.there (Tail.there (Tail.here _))))) | exact Tail.there (Tail.there (Tail.there (Tail.there (Tail.there (Tail.there (Tail.here _)))))) | exact Tail.there (Tail.there (Tail.there (Tail.there (Tail.there (Tail.there (Tail.there (Tail.here _))))))) | exact Tail.there (Tail.there (Tail.there (Tail.there (Tail.there (Tail.there (Tail.there (Tail.there (Tail.here _)))))))) | exact Tail.const _),
  fun s => by
    obtain ⟨⟨⟨b0_0, _, _, _⟩, r1, r2, _⟩, ⟨x66, _, eighteen68, _⟩, ⟨_, _, _⟩⟩ := s
    refine Tail.eq (Y := fun g => w_FnClimbsBroken_t6 (fun r0 b1_0 r2 r3 r4 b5_0 r6 r7 r8 r9 ok7 one11 worst18 most19 five20 text28 => g.1 ((r0, (b1_0, (), (), ()), r2, r3, r4, (b5_0, (), (), ()), r6, r7, r8, r9, ()), ((), (), (), ok7, (), one11, (), worst18, most19, five20, (), text28, ()), ((), (), ()))) (fun r0 b1_0 r2 r3 r4 r5 r6 ok7 worst18 most19 five20 => g.2.1 ((r0, (b1_0, (), (), ()), r2, r3, r4, r5, r6, ()), ((), (), (), ok7, (), (), worst18, most19, five20, ()), ((), (), ()))) (fun r0 b1_0 r2 r3 r4 r5 r6 ok7 worst18 most19 five20 => g.2.2.1 ((r0, (b1_0, (), (), ()), r2, r3, r4, r5, r6, ()), ((), (), (), ok7, (), (), worst18, most19, five20, ()), ((), (), ()))) (fun r0 => g.2.2.2.1 ((r0, ()), ((), ()), ((), (), ()))) (fun b0_0 b1_0 b2_0 r3 r4 r5 r6 r7 r8 k61 sixteen63 x66 eighteen68 => g.2.2.2.2.1 (((b0_0, (), (), ()), (b1_0, (), (), ()), (b2_0, (), (), ()), r3, r4, r5, r6, r7, r8, ()), ((), k61, (), sixteen63, x66, (), eighteen68, ()), ((), (), ()))) (fun b0_0 r1 r2 x66 eighteen68 => g.2.2.2.2.2.1 (((b0_0, (), (), ()), r1, r2, ()), (x66, (), eighteen68, ()), ((), (), ()))) (fun r0 b1_0 r2 r3 r4 r5 r6 ok7 worst18 most19 five20 s317 s318 => g.2.2.2.2.2.2.1 ((r0, (b1_0, (), (), ()), r2, r3, r4, r5, r6, ()), ((), (), (), ok7, (), (), worst18, most19, five20, (), s317, s318, ()), ((), (), ()))) (fun r0 b1_0 r2 r3 r4 r5 r6 ok7 worst18 most19 five20 s334 s335 => g.2.2.2.2.2.2.2.1 ((r0, (b1_0, (), (), ()), r2, r3, r4, r5, r6, ()), ((), (), (), ok7, (), (), worst18, most19, five20, (), s334, s335, ()), ((), (), ()))) (fun r0 b1_0 r2 r3 r4 r5 r6 worst18 most19 five20 count40 s361 s362 => g.2.2.2.2.2.2.2.2.1 ((r0, (b1_0, (), (), ()), r2, r3, r4, r5, r6, ()), ((), (), (), (), worst18, most19, five20, count40, (), s361, s362, ()), ((), (), ()))) b0_0 r1 r2 x66 eighteen68) ?_ (fun g => by kernel_rfl)
    simp only [w_FnClimbsBroken_t6]; repeat (first | apply Tail.cond | (apply Tail.bind; intro _) | exact Tail.here _ | exact Tail.there (Tail.here _) | exact Tail.there (Tail.there (Tail.here _)) | exact Tail.there (Tail.there (Tail.there (Tail.here _))) | exact Tail.there (Tail.there (Tail.there (Tail.there (Tail.here _)))) | exact Tail.there (Tail.there (Tail.there (Tail.there (Tail.there (Tail.here _))))) | exact Tail.there (Tail.there (Tail.there (Tail.there (Tail.there (Tail.there (Tail.here _)))))) | exact Tail.there (Tail.there (Tail.there (Tail.there (Tail.there (Tail.there (Tail.there (Tail.here _))))))) | exact Tail.there (Tail.there (Tail.there (Tail.there (Tail.there (Tail.there (Tail.there (Tail.there (Tail.here _)))))))) | exact Tail.const _),
  fun s => by
    obtain ⟨⟨r0, ⟨b1_0, _, _, _⟩, r2, r3, r4, r5, r6, _⟩, ⟨_, _, _, ok7, _, _, worst18, most19, five20, _, s317, s318, _⟩, ⟨_, _, _⟩⟩ := s
    refine Tail.eq (Y := fun g => w_FnClimbsBroken_t7 (fun r0 b1_0 r2 r3 r4 b5_0 r6 r7 r8 r9 ok7 one11 worst18 most19 five20 text28 => g.1 ((r0, (b1_0, (), (), ()), r2, r3, r4, (b5_0, (), (), ()), r6, r7, r8, r9, ()), ((), (), (), ok7, (), one11, (), worst18, most19, five20, (), text28, ()), ((), (), ()))) (fun r0 b1_0 r2 r3 r4 r5 r6 ok7 worst18 most19 five20 => g.2.1 ((r0, (b1_0, (), (), ()), r2, r3, r4, r5, r6, ()), ((), (), (), ok7, (), (), worst18, most19, five20, ()), ((), (), ()))) (fun r0 b1_0 r2 r3 r4 r5 r6 ok7 worst18 most19 five20 => g.2.2.1 ((r0, (b1_0, (), (), ()), r2, r3, r4, r5, r6, ()), ((), (), (), ok7, (), (), worst18, most19, five20, ()), ((), (), ()))) (fun r0 => g.2.2.2.1 ((r0, ()), ((), ()), ((), (), ()))) (fun b0_0 b1_0 b2_0 r3 r4 r5 r6 r7 r8 k61 sixteen63 x66 eighteen68 => g.2.2.2.2.1 (((b0_0, (), (), ()), (b1_0, (), (), ()), (b2_0, (), (), ()), r3, r4, r5, r6, r7, r8, ()), ((), k61, (), sixteen63, x66, (), eighteen68, ()), ((), (), ()))) (fun b0_0 r1 r2 x66 eighteen68 => g.2.2.2.2.2.1 (((b0_0, (), (), ()), r1, r2, ()), (x66, (), eighteen68, ()), ((), (), ()))) (fun r0 b1_0 r2 r3 r4 r5 r6 ok7 worst18 most19 five20 s317 s318 => g.2.2.2.2.2.2.1 ((r0, (b1_0, (), (), ()), r2, r3, r4, r5, r6, ()), ((), (), (), ok7, (), (), worst18, most19, five20, (), s317, s318, ()), ((), (), ()))) (fun r0 b1_0 r2 r3 r4 r5 r6 ok7 worst18 most19 five20 s334 s335 => g.2.2.2.2.2.2.2.1 ((r0, (b1_0, (), (), ()), r2, r3, r4, r5, r6, ()), ((), (), (), ok7, (), (), worst18, most19, five20, (), s334, s335, ()), ((), (), ()))) (fun r0 b1_0 r2 r3 r4 r5 r6 worst18 most19 five20 count40 s361 s362 => g.2.2.2.2.2.2.2.2.1 ((r0, (b1_0, (), (), ()), r2, r3, r4, r5, r6, ()), ((), (), (), (), worst18, most19, five20, count40, (), s361, s362, ()), ((), (), ()))) r0 b1_0 r2 r3 r4 r5 r6 ok7 worst18 most19 five20 s317 s318) ?_ (fun g => by kernel_rfl)
    simp only [w_FnClimbsBroken_t7]; repeat (first | apply Tail.cond | (apply Tail.bind; intro _) | exact Tail.here _ | exact Tail.there (Tail.here _) | exact Tail.there (Tail.there (Tail.here _)) | exact Tail.there (Tail.there (Tail.there (Tail.here _))) | exact Tail.there (Tail.there (Tail.there (Tail.there (Tail.here _)))) | exact Tail.there (Tail.there (Tail.there (Tail.there (Tail.there (Tail.here _))))) | exact Tail.there (Tail.there (Tail.there (Tail.there (Tail.there (Tail.there (Tail.here _)))))) | exact Tail.there (Tail.there (Tail.there (Tail.there (Tail.there (Tail.there (Tail.there (Tail.here _))))))) | exact Tail.there (Tail.there (Tail.there (Tail.there (Tail.there (Tail.there (Tail.there (Tail.there (Tail.here _)))))))) | exact Tail.const _),
  fun s => by
    obtain ⟨⟨r0, ⟨b1_0, _, _, _⟩, r2, r3, r4, r5, r6, _⟩, ⟨_, _, _, ok7, _, _, worst18, most19, five20, _, s334, s335, _⟩, ⟨_, _, _⟩⟩ := s
    refine Tail.eq (Y := fun g => w_FnClimbsBroken_t8 (fun r0 b1_0 r2 r3 r4 b5_0 r6 r7 r8 r9 ok7 one11 worst18 most19 five20 text28 => g.1 ((r0, (b1_0, (), (), ()), r2, r3, r4, (b5_0, (), (), ()), r6, r7, r8, r9, ()), ((), (), (), ok7, (), one11, (), worst18, most19, five20, (), text28, ()), ((), (), ()))) (fun r0 b1_0 r2 r3 r4 r5 r6 ok7 worst18 most19 five20 => g.2.1 ((r0, (b1_0, (), (), ()), r2, r3, r4, r5, r6, ()), ((), (), (), ok7, (), (), worst18, most19, five20, ()), ((), (), ()))) (fun r0 b1_0 r2 r3 r4 r5 r6 ok7 worst18 most19 five20 => g.2.2.1 ((r0, (b1_0, (), (), ()), r2, r3, r4, r5, r6, ()), ((), (), (), ok7, (), (), worst18, most19, five20, ()), ((), (), ()))) (fun r0 => g.2.2.2.1 ((r0, ()), ((), ()), ((), (), ()))) (fun b0_0 b1_0 b2_0 r3 r4 r5 r6 r7 r8 k61 sixteen63 x66 eighteen68 => g.2.2.2.2.1 (((b0_0, (), (), ()), (b1_0, (), (), ()), (b2_0, (), (), ()), r3, r4, r5, r6, r7, r8, ()), ((), k61, (), sixteen63, x66, (), eighteen68, ()), ((), (), ()))) (fun b0_0 r1 r2 x66 eighteen68 => g.2.2.2.2.2.1 (((b0_0, (), (), ()), r1, r2, ()), (x66, (), eighteen68, ()), ((), (), ()))) (fun r0 b1_0 r2 r3 r4 r5 r6 ok7 worst18 most19 five20 s317 s318 => g.2.2.2.2.2.2.1 ((r0, (b1_0, (), (), ()), r2, r3, r4, r5, r6, ()), ((), (), (), ok7, (), (), worst18, most19, five20, (), s317, s318, ()), ((), (), ()))) (fun r0 b1_0 r2 r3 r4 r5 r6 ok7 worst18 most19 five20 s334 s335 => g.2.2.2.2.2.2.2.1 ((r0, (b1_0, (), (), ()), r2, r3, r4, r5, r6, ()), ((), (), (), ok7, (), (), worst18, most19, five20, (), s334, s335, ()), ((), (), ()))) (fun r0 b1_0 r2 r3 r4 r5 r6 worst18 most19 five20 count40 s361 s362 => g.2.2.2.2.2.2.2.2.1 ((r0, (b1_0, (), (), ()), r2, r3, r4, r5, r6, ()), ((), (), (), (), worst18, most19, five20, count40, (), s361, s362, ()), ((), (), ()))) r0 b1_0 r2 r3 r4 r5 r6 ok7 worst18 most19 five20 s334 s335) ?_ (fun g => by kernel_rfl)
    simp only [w_FnClimbsBroken_t8]; repeat (first | apply Tail.cond | (apply Tail.bind; intro _) | exact Tail.here _ | exact Tail.there (Tail.here _) | exact Tail.there (Tail.there (Tail.here _)) | exact Tail.there (Tail.there (Tail.there (Tail.here _))) | exact Tail.there (Tail.there (Tail.there (Tail.there (Tail.here _)))) | exact Tail.there (Tail.there (Tail.there (Tail.there (Tail.there (Tail.here _))))) | exact Tail.there (Tail.there (Tail.there (Tail.there (Tail.there (Tail.there (Tail.here _)))))) | exact Tail.there (Tail.there (Tail.there (Tail.there (Tail.there (Tail.there (Tail.there (Tail.here _))))))) | exact Tail.there (Tail.there (Tail.there (Tail.there (Tail.there (Tail.there (Tail.there (Tail.there (Tail.here _)))))))) | exact Tail.const _),
  fun s => by
    obtain ⟨⟨r0, ⟨b1_0, _, _, _⟩, r2, r3, r4, r5, r6, _⟩, ⟨_, _, _, _, worst18, most19, five20, count40, _, s361, s362, _⟩, ⟨_, _, _⟩⟩ := s
    refine Tail.eq (Y := fun g => w_FnClimbsBroken_t9 (fun r0 b1_0 r2 r3 r4 b5_0 r6 r7 r8 r9 ok7 one11 worst18 most19 five20 text28 => g.1 ((r0, (b1_0, (), (), ()), r2, r3, r4, (b5_0, (), (), ()), r6, r7, r8, r9, ()), ((), (), (), ok7, (), one11, (), worst18, most19, five20, (), text28, ()), ((), (), ()))) (fun r0 b1_0 r2 r3 r4 r5 r6 ok7 worst18 most19 five20 => g.2.1 ((r0, (b1_0, (), (), ()), r2, r3, r4, r5, r6, ()), ((), (), (), ok7, (), (), worst18, most19, five20, ()), ((), (), ()))) (fun r0 b1_0 r2 r3 r4 r5 r6 ok7 worst18 most19 five20 => g.2.2.1 ((r0, (b1_0, (), (), ()), r2, r3, r4, r5, r6, ()), ((), (), (), ok7, (), (), worst18, most19, five20, ()), ((), (), ()))) (fun r0 => g.2.2.2.1 ((r0, ()), ((), ()), ((), (), ()))) (fun b0_0 b1_0 b2_0 r3 r4 r5 r6 r7 r8 k61 sixteen63 x66 eighteen68 => g.2.2.2.2.1 (((b0_0, (), (), ()), (b1_0, (), (), ()), (b2_0, (), (), ()), r3, r4, r5, r6, r7, r8, ()), ((), k61, (), sixteen63, x66, (), eighteen68, ()), ((), (), ()))) (fun b0_0 r1 r2 x66 eighteen68 => g.2.2.2.2.2.1 (((b0_0, (), (), ()), r1, r2, ()), (x66, (), eighteen68, ()), ((), (), ()))) (fun r0 b1_0 r2 r3 r4 r5 r6 ok7 worst18 most19 five20 s317 s318 => g.2.2.2.2.2.2.1 ((r0, (b1_0, (), (), ()), r2, r3, r4, r5, r6, ()), ((), (), (), ok7, (), (), worst18, most19, five20, (), s317, s318, ()), ((), (), ()))) (fun r0 b1_0 r2 r3 r4 r5 r6 ok7 worst18 most19 five20 s334 s335 => g.2.2.2.2.2.2.2.1 ((r0, (b1_0, (), (), ()), r2, r3, r4, r5, r6, ()), ((), (), (), ok7, (), (), worst18, most19, five20, (), s334, s335, ()), ((), (), ()))) (fun r0 b1_0 r2 r3 r4 r5 r6 worst18 most19 five20 count40 s361 s362 => g.2.2.2.2.2.2.2.2.1 ((r0, (b1_0, (), (), ()), r2, r3, r4, r5, r6, ()), ((), (), (), (), worst18, most19, five20, count40, (), s361, s362, ()), ((), (), ()))) r0 b1_0 r2 r3 r4 r5 r6 worst18 most19 five20 count40 s361 s362) ?_ (fun g => by kernel_rfl)
    simp only [w_FnClimbsBroken_t9]; repeat (first | apply Tail.cond | (apply Tail.bind; intro _) | exact Tail.here _ | exact Tail.there (Tail.here _) | exact Tail.there (Tail.there (Tail.here _)) | exact Tail.there (Tail.there (Tail.there (Tail.here _))) | exact Tail.there (Tail.there (Tail.there (Tail.there (Tail.here _)))) | exact Tail.there (Tail.there (Tail.there (Tail.there (Tail.there (Tail.here _))))) | exact Tail.there (Tail.there (Tail.there (Tail.there (Tail.there (Tail.there (Tail.here _)))))) | exact Tail.there (Tail.there (Tail.there (Tail.there (Tail.there (Tail.there (Tail.there (Tail.here _))))))) | exact Tail.there (Tail.there (Tail.there (Tail.there (Tail.there (Tail.there (Tail.there (Tail.there (Tail.here _)))))))) | exact Tail.const _), trivial⟩
theorem w_FnClimbsBroken_hs : ∀ x, Tail c_w_FnClimbsBroken.pts (fun g => c_w_FnClimbsBroken.start g x) := fun x => by
    obtain ⟨code0, more1, _⟩ := x
    refine Tail.eq (Y := fun g => w_FnClimbsBroken_t0 (fun r0 b1_0 r2 r3 r4 b5_0 r6 r7 r8 r9 ok7 one11 worst18 most19 five20 text28 => g.1 ((r0, (b1_0, (), (), ()), r2, r3, r4, (b5_0, (), (), ()), r6, r7, r8, r9, ()), ((), (), (), ok7, (), one11, (), worst18, most19, five20, (), text28, ()), ((), (), ()))) (fun r0 b1_0 r2 r3 r4 r5 r6 ok7 worst18 most19 five20 => g.2.1 ((r0, (b1_0, (), (), ()), r2, r3, r4, r5, r6, ()), ((), (), (), ok7, (), (), worst18, most19, five20, ()), ((), (), ()))) (fun r0 b1_0 r2 r3 r4 r5 r6 ok7 worst18 most19 five20 => g.2.2.1 ((r0, (b1_0, (), (), ()), r2, r3, r4, r5, r6, ()), ((), (), (), ok7, (), (), worst18, most19, five20, ()), ((), (), ()))) (fun r0 => g.2.2.2.1 ((r0, ()), ((), ()), ((), (), ()))) (fun b0_0 b1_0 b2_0 r3 r4 r5 r6 r7 r8 k61 sixteen63 x66 eighteen68 => g.2.2.2.2.1 (((b0_0, (), (), ()), (b1_0, (), (), ()), (b2_0, (), (), ()), r3, r4, r5, r6, r7, r8, ()), ((), k61, (), sixteen63, x66, (), eighteen68, ()), ((), (), ()))) (fun b0_0 r1 r2 x66 eighteen68 => g.2.2.2.2.2.1 (((b0_0, (), (), ()), r1, r2, ()), (x66, (), eighteen68, ()), ((), (), ()))) (fun r0 b1_0 r2 r3 r4 r5 r6 ok7 worst18 most19 five20 s317 s318 => g.2.2.2.2.2.2.1 ((r0, (b1_0, (), (), ()), r2, r3, r4, r5, r6, ()), ((), (), (), ok7, (), (), worst18, most19, five20, (), s317, s318, ()), ((), (), ()))) (fun r0 b1_0 r2 r3 r4 r5 r6 ok7 worst18 most19 five20 s334 s335 => g.2.2.2.2.2.2.2.1 ((r0, (b1_0, (), (), ()), r2, r3, r4, r5, r6, ()), ((), (), (), ok7, (), (), worst18, most19, five20, (), s334, s335, ()), ((), (), ()))) (fun r0 b1_0 r2 r3 r4 r5 r6 worst18 most19 five20 count40 s361 s362 => g.2.2.2.2.2.2.2.2.1 ((r0, (b1_0, (), (), ()), r2, r3, r4, r5, r6, ()), ((), (), (), (), worst18, most19, five20, count40, (), s361, s362, ()), ((), (), ()))) code0 more1) ?_ (fun g => by kernel_rfl)
    simp only [w_FnClimbsBroken_t0]; repeat (first | apply Tail.cond | (apply Tail.bind; intro _) | exact Tail.here _ | exact Tail.there (Tail.here _) | exact Tail.there (Tail.there (Tail.here _)) | exact Tail.there (Tail.there (Tail.there (Tail.here _))) | exact Tail.there (Tail.there (Tail.there (Tail.there (Tail.here _)))) | exact Tail.there (Tail.there (Tail.there (Tail.there (Tail.there (Tail.here _))))) | exact Tail.there (Tail.there (Tail.there (Tail.there (Tail.there (Tail.there (Tail.here _)))))) | exact Tail.there (Tail.there (Tail.there (Tail.there (Tail.there (Tail.there (Tail.there (Tail.here _))))))) | exact Tail.there (Tail.there (Tail.there (Tail.there (Tail.there (Tail.there (Tail.there (Tail.there (Tail.here _)))))))) | exact Tail.const _)
noncomputable def w_FnClimbsBroken_L1 (r0 : List (Int)) (b1_0 : Int) (r2 : List (Int)) (r3 : List (Int)) (r4 : List (Int)) (b5_0 : Int) (r6 : List (Int)) (r7 : List (Int)) (r8 : List (Int)) (r9 : List (Int)) (ok7 : Bool) (one11 : Bool) (worst18 : Int) (most19 : Int) (five20 : Bool) (text28 : ByteArray) : Option Bool := c_w_FnClimbsBroken.L.1 ((r0, (b1_0, (), (), ()), r2, r3, r4, (b5_0, (), (), ()), r6, r7, r8, r9, ()), ((), (), (), ok7, (), one11, (), worst18, most19, five20, (), text28, ()), ((), (), ()))
noncomputable def w_FnClimbsBroken_L2 (r0 : List (Int)) (b1_0 : Int) (r2 : List (Int)) (r3 : List (Int)) (r4 : List (Int)) (r5 : List (Int)) (r6 : List (Int)) (ok7 : Bool) (worst18 : Int) (most19 : Int) (five20 : Bool) : Option Bool := c_w_FnClimbsBroken.L.2.1 ((r0, (b1_0, (), (), ()), r2, r3, r4, r5, r6, ()), ((), (), (), ok7, (), (), worst18, most19, five20, ()), ((), (), ()))
noncomputable def w_FnClimbsBroken_L3 (r0 : List (Int)) (b1_0 : Int) (r2 : List (Int)) (r3 : List (Int)) (r4 : List (Int)) (r5 : List (Int)) (r6 : List (Int)) (ok7 : Bool) (worst18 : Int) (most19 : Int) (five20 : Bool) : Option Bool := c_w_FnClimbsBroken.L.2.2.1 ((r0, (b1_0, (), (), ()), r2, r3, r4, r5, r6, ()), ((), (), (), ok7, (), (), worst18, most19, five20, ()), ((), (), ()))
noncomputable def w_FnClimbsBroken_L4 (r0 : List (Int)) : Option Bool := c_w_FnClimbsBroken.L.2.2.2.1 ((r0, ()), ((), ()), ((), (), ()))
noncomputable def w_FnClimbsBroken_L5 (b0_0 : Int) (b1_0 : Int) (b2_0 : Int) (r3 : List (Int)) (r4 : List (Int)) (r5 : List (Int)) (r6 : List (Int)) (r7 : List (Int)) (r8 : List (Int)) (k61 : Int) (sixteen63 : Bool) (x66 : ByteArray) (eighteen68 : Bool) : Option Bool := c_w_FnClimbsBroken.L.2.2.2.2.1 (((b0_0, (), (), ()), (b1_0, (), (), ()), (b2_0, (), (), ()), r3, r4, r5, r6, r7, r8, ()), ((), k61, (), sixteen63, x66, (), eighteen68, ()), ((), (), ()))
noncomputable def w_FnClimbsBroken_L6 (b0_0 : Int) (r1 : List (Int)) (r2 : List (Int)) (x66 : ByteArray) (eighteen68 : Bool) : Option Bool := c_w_FnClimbsBroken.L.2.2.2.2.2.1 (((b0_0, (), (), ()), r1, r2, ()), (x66, (), eighteen68, ()), ((), (), ()))
noncomputable def w_FnClimbsBroken_L7 (r0 : List (Int)) (b1_0 : Int) (r2 : List (Int)) (r3 : List (Int)) (r4 : List (Int)) (r5 : List (Int)) (r6 : List (Int)) (ok7 : Bool) (worst18 : Int) (most19 : Int) (five20 : Bool) (s317 : Int) (s318 : Int) : Option Bool := c_w_FnClimbsBroken.L.2.2.2.2.2.2.1 ((r0, (b1_0, (), (), ()), r2, r3, r4, r5, r6, ()), ((), (), (), ok7, (), (), worst18, most19, five20, (), s317, s318, ()), ((), (), ()))
noncomputable def w_FnClimbsBroken_L8 (r0 : List (Int)) (b1_0 : Int) (r2 : List (Int)) (r3 : List (Int)) (r4 : List (Int)) (r5 : List (Int)) (r6 : List (Int)) (ok7 : Bool) (worst18 : Int) (most19 : Int) (five20 : Bool) (s334 : Int) (s335 : Int) : Option Bool := c_w_FnClimbsBroken.L.2.2.2.2.2.2.2.1 ((r0, (b1_0, (), (), ()), r2, r3, r4, r5, r6, ()), ((), (), (), ok7, (), (), worst18, most19, five20, (), s334, s335, ()), ((), (), ()))
noncomputable def w_FnClimbsBroken_L9 (r0 : List (Int)) (b1_0 : Int) (r2 : List (Int)) (r3 : List (Int)) (r4 : List (Int)) (r5 : List (Int)) (r6 : List (Int)) (worst18 : Int) (most19 : Int) (five20 : Bool) (count40 : Int) (s361 : Int) (s362 : Int) : Option Bool := c_w_FnClimbsBroken.L.2.2.2.2.2.2.2.2.1 ((r0, (b1_0, (), (), ()), r2, r3, r4, r5, r6, ()), ((), (), (), (), worst18, most19, five20, count40, (), s361, s362, ()), ((), (), ()))
theorem w_FnClimbsBroken_u1 (r0 : List (Int)) (b1_0 : Int) (r2 : List (Int)) (r3 : List (Int)) (r4 : List (Int)) (b5_0 : Int) (r6 : List (Int)) (r7 : List (Int)) (r8 : List (Int)) (r9 : List (Int)) (ok7 : Bool) (one11 : Bool) (worst18 : Int) (most19 : Int) (five20 : Bool) (text28 : ByteArray) : w_FnClimbsBroken_L1 r0 b1_0 r2 r3 r4 b5_0 r6 r7 r8 r9 ok7 one11 worst18 most19 five20 text28 = w_FnClimbsBroken_t1 w_FnClimbsBroken_L1 w_FnClimbsBroken_L2 w_FnClimbsBroken_L3 w_FnClimbsBroken_L4 w_FnClimbsBroken_L5 w_FnClimbsBroken_L6 w_FnClimbsBroken_L7 w_FnClimbsBroken_L8 w_FnClimbsBroken_L9 r0 b1_0 r2 r3 r4 b5_0 r6 r7 r8 r9 ok7 one11 worst18 most19 five20 text28 :=
  (congrArg (fun g => g.1 ((r0, (b1_0, (), (), ()), r2, r3, r4, (b5_0, (), (), ()), r6, r7, r8, r9, ()), ((), (), (), ok7, (), one11, (), worst18, most19, five20, (), text28, ()), ((), (), ()))) (FnCx.L_eq w_FnClimbsBroken_ts)).trans (by kernel_rfl)
theorem w_FnClimbsBroken_u2 (r0 : List (Int)) (b1_0 : Int) (r2 : List (Int)) (r3 : List (Int)) (r4 : List (Int)) (r5 : List (Int)) (r6 : List (Int)) (ok7 : Bool) (worst18 : Int) (most19 : Int) (five20 : Bool) : w_FnClimbsBroken_L2 r0 b1_0 r2 r3 r4 r5 r6 ok7 worst18 most19 five20 = w_FnClimbsBroken_t2 w_FnClimbsBroken_L1 w_FnClimbsBroken_L2 w_FnClimbsBroken_L3 w_FnClimbsBroken_L4 w_FnClimbsBroken_L5 w_FnClimbsBroken_L6 w_FnClimbsBroken_L7 w_FnClimbsBroken_L8 w_FnClimbsBroken_L9 r0 b1_0 r2 r3 r4 r5 r6 ok7 worst18 most19 five20 :=
  (congrArg (fun g => g.2.1 ((r0, (b1_0, (), (), ()), r2, r3, r4, r5, r6, ()), ((), (), (), ok7, (), (), worst18, most19, five20, ()), ((), (), ()))) (FnCx.L_eq w_FnClimbsBroken_ts)).trans (by kernel_rfl)
theorem w_FnClimbsBroken_u3 (r0 : List (Int)) (b1_0 : Int) (r2 : List (Int)) (r3 : List (Int)) (r4 : List (Int)) (r5 : List (Int)) (r6 : List (Int)) (ok7 : Bool) (worst18 : Int) (most19 : Int) (five20 : Bool) : w_FnClimbsBroken_L3 r0 b1_0 r2 r3 r4 r5 r6 ok7 worst18 most19 five20 = w_FnClimbsBroken_t3 w_FnClimbsBroken_L1 w_FnClimbsBroken_L2 w_FnClimbsBroken_L3 w_FnClimbsBroken_L4 w_FnClimbsBroken_L5 w_FnClimbsBroken_L6 w_FnClimbsBroken_L7 w_FnClimbsBroken_L8 w_FnClimbsBroken_L9 r0 b1_0 r2 r3 r4 r5 r6 ok7 worst18 most19 five20 :=
  (congrArg (fun g => g.2.2.1 ((r0, (b1_0, (), (), ()), r2, r3, r4, r5, r6, ()), ((), (), (), ok7, (), (), worst18, most19, five20, ()), ((), (), ()))) (FnCx.L_eq w_FnClimbsBroken_ts)).trans (by kernel_rfl)
theorem w_FnClimbsBroken_u4 (r0 : List (Int)) : w_FnClimbsBroken_L4 r0 = w_FnClimbsBroken_t4 w_FnClimbsBroken_L1 w_FnClimbsBroken_L2 w_FnClimbsBroken_L3 w_FnClimbsBroken_L4 w_FnClimbsBroken_L5 w_FnClimbsBroken_L6 w_FnClimbsBroken_L7 w_FnClimbsBroken_L8 w_FnClimbsBroken_L9 r0 :=
  (congrArg (fun g => g.2.2.2.1 ((r0, ()), ((), ()), ((), (), ()))) (FnCx.L_eq w_FnClimbsBroken_ts)).trans (by kernel_rfl)
theorem w_FnClimbsBroken_u5 (b0_0 : Int) (b1_0 : Int) (b2_0 : Int) (r3 : List (Int)) (r4 : List (Int)) (r5 : List (Int)) (r6 : List (Int)) (r7 : List (Int)) (r8 : List (Int)) (k61 : Int) (sixteen63 : Bool) (x66 : ByteArray) (eighteen68 : Bool) : w_FnClimbsBroken_L5 b0_0 b1_0 b2_0 r3 r4 r5 r6 r7 r8 k61 sixteen63 x66 eighteen68 = w_FnClimbsBroken_t5 w_FnClimbsBroken_L1 w_FnClimbsBroken_L2 w_FnClimbsBroken_L3 w_FnClimbsBroken_L4 w_FnClimbsBroken_L5 w_FnClimbsBroken_L6 w_FnClimbsBroken_L7 w_FnClimbsBroken_L8 w_FnClimbsBroken_L9 b0_0 b1_0 b2_0 r3 r4 r5 r6 r7 r8 k61 sixteen63 x66 eighteen68 :=
  (congrArg (fun g => g.2.2.2.2.1 (((b0_0, (), (), ()), (b1_0, (), (), ()), (b2_0, (), (), ()), r3, r4, r5, r6, r7, r8, ()), ((), k61, (), sixteen63, x66, (), eighteen68, ()), ((), (), ()))) (FnCx.L_eq w_FnClimbsBroken_ts)).trans (by kernel_rfl)
theorem w_FnClimbsBroken_u6 (b0_0 : Int) (r1 : List (Int)) (r2 : List (Int)) (x66 : ByteArray) (eighteen68 : Bool) : w_FnClimbsBroken_L6 b0_0 r1 r2 x66 eighteen68 = w_FnClimbsBroken_t6 w_FnClimbsBroken_L1 w_FnClimbsBroken_L2 w_FnClimbsBroken_L3 w_FnClimbsBroken_L4 w_FnClimbsBroken_L5 w_FnClimbsBroken_L6 w_FnClimbsBroken_L7 w_FnClimbsBroken_L8 w_FnClimbsBroken_L9 b0_0 r1 r2 x66 eighteen68 :=
  (congrArg (fun g => g.2.2.2.2.2.1 (((b0_0, (), (), ()), r1, r2, ()), (x66, (), eighteen68, ()), ((), (), ()))) (FnCx.L_eq w_FnClimbsBroken_ts)).trans (by kernel_rfl)
theorem w_FnClimbsBroken_u7 (r0 : List (Int)) (b1_0 : Int) (r2 : List (Int)) (r3 : List (Int)) (r4 : List (Int)) (r5 : List (Int)) (r6 : List (Int)) (ok7 : Bool) (worst18 : Int) (most19 : Int) (five20 : Bool) (s317 : Int) (s318 : Int) : w_FnClimbsBroken_L7 r0 b1_0 r2 r3 r4 r5 r6 ok7 worst18 most19 five20 s317 s318 = w_FnClimbsBroken_t7 w_FnClimbsBroken_L1 w_FnClimbsBroken_L2 w_FnClimbsBroken_L3 w_FnClimbsBroken_L4 w_FnClimbsBroken_L5 w_FnClimbsBroken_L6 w_FnClimbsBroken_L7 w_FnClimbsBroken_L8 w_FnClimbsBroken_L9 r0 b1_0 r2 r3 r4 r5 r6 ok7 worst18 most19 five20 s317 s318 :=
  (congrArg (fun g => g.2.2.2.2.2.2.1 ((r0, (b1_0, (), (), ()), r2, r3, r4, r5, r6, ()), ((), (), (), ok7, (), (), worst18, most19, five20, (), s317, s318, ()), ((), (), ()))) (FnCx.L_eq w_FnClimbsBroken_ts)).trans (by kernel_rfl)
theorem w_FnClimbsBroken_u8 (r0 : List (Int)) (b1_0 : Int) (r2 : List (Int)) (r3 : List (Int)) (r4 : List (Int)) (r5 : List (Int)) (r6 : List (Int)) (ok7 : Bool) (worst18 : Int) (most19 : Int) (five20 : Bool) (s334 : Int) (s335 : Int) : w_FnClimbsBroken_L8 r0 b1_0 r2 r3 r4 r5 r6 ok7 worst18 most19 five20 s334 s335 = w_FnClimbsBroken_t8 w_FnClimbsBroken_L1 w_FnClimbsBroken_L2 w_FnClimbsBroken_L3 w_FnClimbsBroken_L4 w_FnClimbsBroken_L5 w_FnClimbsBroken_L6 w_FnClimbsBroken_L7 w_FnClimbsBroken_L8 w_FnClimbsBroken_L9 r0 b1_0 r2 r3 r4 r5 r6 ok7 worst18 most19 five20 s334 s335 :=
  (congrArg (fun g => g.2.2.2.2.2.2.2.1 ((r0, (b1_0, (), (), ()), r2, r3, r4, r5, r6, ()), ((), (), (), ok7, (), (), worst18, most19, five20, (), s334, s335, ()), ((), (), ()))) (FnCx.L_eq w_FnClimbsBroken_ts)).trans (by kernel_rfl)
theorem w_FnClimbsBroken_u9 (r0 : List (Int)) (b1_0 : Int) (r2 : List (Int)) (r3 : List (Int)) (r4 : List (Int)) (r5 : List (Int)) (r6 : List (Int)) (worst18 : Int) (most19 : Int) (five20 : Bool) (count40 : Int) (s361 : Int) (s362 : Int) : w_FnClimbsBroken_L9 r0 b1_0 r2 r3 r4 r5 r6 worst18 most19 five20 count40 s361 s362 = w_FnClimbsBroken_t9 w_FnClimbsBroken_L1 w_FnClimbsBroken_L2 w_FnClimbsBroken_L3 w_FnClimbsBroken_L4 w_FnClimbsBroken_L5 w_FnClimbsBroken_L6 w_FnClimbsBroken_L7 w_FnClimbsBroken_L8 w_FnClimbsBroken_L9 r0 b1_0 r2 r3 r4 r5 r6 worst18 most19 five20 count40 s361 s362 :=
  (congrArg (fun g => g.2.2.2.2.2.2.2.2.1 ((r0, (b1_0, (), (), ()), r2, r3, r4, r5, r6, ()), ((), (), (), (), worst18, most19, five20, count40, (), s361, s362, ()), ((), (), ()))) (FnCx.L_eq w_FnClimbsBroken_ts)).trans (by kernel_rfl)
noncomputable def w_FnClimbsBroken (code0 : List Int) (more1 : List Int) : Option Bool := w_FnClimbsBroken_t0 w_FnClimbsBroken_L1 w_FnClimbsBroken_L2 w_FnClimbsBroken_L3 w_FnClimbsBroken_L4 w_FnClimbsBroken_L5 w_FnClimbsBroken_L6 w_FnClimbsBroken_L7 w_FnClimbsBroken_L8 w_FnClimbsBroken_L9 code0 more1
theorem w_FnClimbsBroken_e (code0 : List Int) (more1 : List Int) : c_w_FnClimbsBroken.start c_w_FnClimbsBroken.L (code0, more1, ()) = w_FnClimbsBroken code0 more1 := by kernel_rfl
noncomputable def F_w_FnClimbsBroken : Ins c_w_FnClimbsBroken.ins → Option Bool := fun x => w_FnClimbsBroken x.1 x.2.1
noncomputable def S_w_FnClimbsBroken : FSpec := mkF c_w_FnClimbsBroken.env.pre c_w_FnClimbsBroken.ins c_w_FnClimbsBroken.out c_w_FnClimbsBroken.inj F_w_FnClimbsBroken
theorem h_w_FnClimbsBroken : Cert Tryz.prog 4 S_w_FnClimbsBroken := FnCx.certF (c := c_w_FnClimbsBroken) F_w_FnClimbsBroken (tyOk _ _ _) (spOk ⟨h_w_big, fun _ _ h => h, ⟨h_s_DrawNeededSteps, fun _ _ h => h, ⟨h_i_NeededSteps, fun _ _ h => h, ⟨h_s_NeededSteps, fun _ _ h => h, ⟨h_i_ReachedSteps, fun _ _ h => h, ⟨h_s_ReachedSteps, fun _ _ h => h, ⟨h_i_StuckSteps, fun _ _ h => h, ⟨h_s_StuckSteps, fun _ _ h => h, ⟨h_i_WorstToBreak, fun _ _ h => h, ⟨h_s_WorstToBreak, fun _ _ h => h, ⟨h_i_TurnStairs, fun _ _ h => h, ⟨h_s_TurnStairs, fun _ _ h => h, ⟨h_i_StairsText, fun _ _ h => h, ⟨h_s_StairsText, fun _ _ h => h, ⟨h_w_lSame, fun _ _ h => h, ⟨h_w_lStairs, fun _ _ h => h, ⟨h_i_AreStairs, fun _ _ h => h, ⟨h_s_AreStairs, fun _ _ h => h, ⟨h_i_ParseStairs, fun _ _ h => h, ⟨h_w_lRises, fun _ _ h => h, ⟨h_w_lHas, fun _ _ h => h, ⟨h_i_CountClimbs, fun _ _ h => h, ⟨h_i_ClimbsThrough, fun _ _ h => h, ⟨h_i_BreakStep, fun _ _ h => h, ⟨h_s_DrawBreakStep, fun _ _ h => h, ⟨h_s_BreakStep, fun _ _ h => h, ⟨h_s_ClimbsThrough, fun _ _ h => h, ⟨h_s_DrawMendStep, fun _ _ h => h, ⟨h_i_MendStep, fun _ _ h => h, ⟨h_s_MendStep, fun _ _ h => h, ⟨h_s_DrawParseStairs, fun _ _ h => h, ⟨h_s_ParseStairs, fun _ _ h => h, trivial⟩⟩⟩⟩⟩⟩⟩⟩⟩⟩⟩⟩⟩⟩⟩⟩⟩⟩⟩⟩⟩⟩⟩⟩⟩⟩⟩⟩⟩⟩⟩⟩) (fun _ _ _ _ _ hs => evDr_ok (tyOk _ _ _) hs follows) Tryz.func4 rfl rfl Tryz.ntmps4 (by kernel_rfl) rfl rfl (fun _ => rfl) w_FnClimbsBroken_ts w_FnClimbsBroken_hs (fun x t hb ht => by
  obtain ⟨code0, more1, _⟩ := x
  exact (w_FnClimbsBroken_e code0 more1).trans ht)
end Go.Proofs.YtgflffacaobkoaaGreatDoor.V
