/- Functions of the program, as plain functions. No condition. -/
import Derived.Test.YtbemnabojjiikaaB12
set_option linter.unusedVariables false
set_option linter.unusedSimpArgs false
set_option maxRecDepth 100000
namespace Go.Proofs.Ytbemnabojjiikaa.V
open Go Go.Ev Go.Proofs
/-! laws.big -/
noncomputable def c_w_big : FnCx := { env := env 16 [] [], body := bodyOf Try.f65, res := [.tmp 4], ins := [.ro kSuint8, .ro kSuint8], out := [(kbool, true)], T := Bool, fin := fun r => r.1.1, inj := fun t => ((t, ()), ((), (), ())), pts := [], fuel := 400, dr := noDr }
noncomputable def w_big (code0 : List Int) (more1 : List Int) : Bool :=
  bif decide ((↑(List.length code0) : Int) > 1048576) then true
  else decide ((↑(List.length more1) : Int) > IntKind.wrap IntKind.i64 (1048576 - (↑(List.length code0) : Int)))
theorem w_big_e (code0 : List Int) (more1 : List Int) : c_w_big.start c_w_big.L (code0, more1, ()) = some (w_big code0 more1) := by
  refine Eq.trans (b := (bif decide ((↑(List.length code0) : Int) > 1048576) then some true else some (decide ((↑(List.length more1) : Int) > IntKind.wrap IntKind.i64 (1048576 - (↑(List.length code0) : Int)))) : Option Bool)) (by kernel_rfl) ?_
  unfold w_big
  repeat (first | rfl | apply condS)
noncomputable def F_w_big : Ins c_w_big.ins → Bool := fun x => w_big x.1 x.2.1
noncomputable def S_w_big : FSpec := mkT c_w_big.env.pre c_w_big.ins c_w_big.out c_w_big.inj F_w_big
theorem h_w_big : Cert Try.prog 65 S_w_big := FnCx.certT (c := c_w_big) F_w_big (tyOk _ _ _) (spOk trivial) (fun _ _ _ _ _ hs => noDr_ok) Try.func65 rfl rfl Try.ntmps65 (by kernel_rfl) rfl rfl (fun _ => rfl) trivial (fun x => .inl ⟨c_w_big.start () x, fun _ => rfl⟩) (fun x hb => by
  obtain ⟨code0, more1, _⟩ := x
  exact w_big_e code0 more1)
/-! (*spec.l1Cur).next -/
noncomputable def c_s_l1Cur_next : FnCx := { env := env 62 [] [], body := bodyOf Try.f136, res := [.tmp 2], ins := [.ptr 109 ksl1Cur], out := [(kint, true)], T := Int × (List Int × Int × Int), fin := fun r => (r.1.1, r.2.1), inj := fun t => ((t.1, ()), (t.2, ())), pts := [], fuel := 400, dr := evDr (env 62 [] []) }
noncomputable def s_l1Cur_next (c0_code : List Int) (c0_at : Int) (c0_seed : Int) : Option (Int × (List Int × Int × Int)) :=
  bif decide (c0_at < (↑(List.length c0_code) : Int)) then
    bif decide (0 ≤ c0_at) then
      bif decide (c0_at < (↑(List.length c0_code) : Int)) then
        bif decide (IntKind.wrap IntKind.i64 (c0_at + 1) ≤ (↑(List.length c0_code) : Int)) then
          some
            (IntKind.wrap IntKind.i64 (rdk kuint8 c0_code c0_at), c0_code, IntKind.wrap IntKind.i64 (c0_at + 1),
              IntKind.wrap IntKind.u64
                (IntKind.wrap IntKind.u64
                    (IntKind.wrap IntKind.u64 (c0_seed * 6364136223846793005) +
                      IntKind.wrap IntKind.u64 (IntKind.wrap IntKind.i64 (rdk kuint8 c0_code c0_at))) +
                  1442695040888963407))
        else
          some
            (IntKind.wrap IntKind.i64
                (IntKind.wrap IntKind.u64
                  (↑(BitVec.toNat
                        (BitVec.ofInt (IntKind.bits IntKind.u64)
                            (Int.fdiv
                              (IntKind.wrap IntKind.u64
                                (IntKind.wrap IntKind.u64
                                    (IntKind.wrap IntKind.u64 (c0_seed * 6364136223846793005) +
                                      IntKind.wrap IntKind.u64 (IntKind.wrap IntKind.i64 (rdk kuint8 c0_code c0_at))) +
                                  1442695040888963407))
                              (2 ^ min (Int.toNat 40) (IntKind.bits IntKind.u64))) &&&
                          BitVec.ofInt (IntKind.bits IntKind.u64) 255)) :
                    Int)),
              c0_code, IntKind.wrap IntKind.i64 (c0_at + 1),
              IntKind.wrap IntKind.u64
                (IntKind.wrap IntKind.u64
                    (IntKind.wrap IntKind.u64 (c0_seed * 6364136223846793005) +
                      IntKind.wrap IntKind.u64 (IntKind.wrap IntKind.i64 (rdk kuint8 c0_code c0_at))) +
                  1442695040888963407))
      else none
    else none
  else
    bif decide (IntKind.wrap IntKind.i64 (c0_at + 1) ≤ (↑(List.length c0_code) : Int)) then
      some
        (0, c0_code, IntKind.wrap IntKind.i64 (c0_at + 1),
          IntKind.wrap IntKind.u64
            (IntKind.wrap IntKind.u64 (IntKind.wrap IntKind.u64 (c0_seed * 6364136223846793005) + IntKind.wrap IntKind.u64 0) + 1442695040888963407))
    else
      some
        (IntKind.wrap IntKind.i64
            (IntKind.wrap IntKind.u64
              (↑(BitVec.toNat
                    (BitVec.ofInt (IntKind.bits IntKind.u64)
                        (Int.fdiv
                          (IntKind.wrap IntKind.u64
                            (IntKind.wrap IntKind.u64 (IntKind.wrap IntKind.u64 (c0_seed * 6364136223846793005) + IntKind.wrap IntKind.u64 0) +
                              1442695040888963407))
                          (2 ^ min (Int.toNat 40) (IntKind.bits IntKind.u64))) &&&
                      BitVec.ofInt (IntKind.bits IntKind.u64) 255)) :
                Int)),
          c0_code, IntKind.wrap IntKind.i64 (c0_at + 1),
          IntKind.wrap IntKind.u64
            (IntKind.wrap IntKind.u64 (IntKind.wrap IntKind.u64 (c0_seed * 6364136223846793005) + IntKind.wrap IntKind.u64 0) + 1442695040888963407))
theorem s_l1Cur_next_e (c0_code : List Int) (c0_at : Int) (c0_seed : Int) : c_s_l1Cur_next.start c_s_l1Cur_next.L ((c0_code, c0_at, c0_seed), ()) = s_l1Cur_next c0_code c0_at c0_seed := by kernel_rfl
noncomputable def F_s_l1Cur_next : Ins c_s_l1Cur_next.ins → Option (Int × (List Int × Int × Int)) := fun x => s_l1Cur_next x.1.1 x.1.2.1 x.1.2.2
noncomputable def S_s_l1Cur_next : FSpec := mkF c_s_l1Cur_next.env.pre c_s_l1Cur_next.ins c_s_l1Cur_next.out c_s_l1Cur_next.inj F_s_l1Cur_next
theorem h_s_l1Cur_next : Cert Try.prog 136 S_s_l1Cur_next := FnCx.certF (c := c_s_l1Cur_next) F_s_l1Cur_next (tyOk _ _ _) (spOk trivial) (fun _ _ _ _ _ hs => evDr_ok (tyOk _ _ _) hs follows) Try.func136 rfl rfl Try.ntmps136 (by kernel_rfl) rfl rfl (fun _ => rfl) trivial (fun x => .inl ⟨c_s_l1Cur_next.start () x, fun _ => rfl⟩) (fun x t hb ht => by
  obtain ⟨⟨c0_code, c0_at, c0_seed⟩, _⟩ := x
  exact (s_l1Cur_next_e c0_code c0_at c0_seed).trans ht)
/-! (*spec.l1Cur).pick -/
noncomputable def c_s_l1Cur_pick : FnCx := { env := env 20 [(136, S_s_l1Cur_next)] [], body := bodyOf Try.f111, res := [.tmp 4], ins := [.ptr 109 ksl1Cur, .ro kint], out := [(kint, true)], T := Int × (List Int × Int × Int), fin := fun r => (r.1.1, r.2.1), inj := fun t => ((t.1, ()), (t.2, (), ())), pts := [], fuel := 400, dr := noDr }
noncomputable def s_l1Cur_pick (c0_code : List Int) (c0_at : Int) (c0_seed : Int) (n1 : Int) : Option (Int × (List Int × Int × Int)) :=
  bif decide (n1 ≤ 1) then some (0, c0_code, c0_at, c0_seed)
  else
    Option.bind (s_l1Cur_next c0_code c0_at c0_seed) fun r =>
      bif decide (n1 > 200) then
        Option.bind (s_l1Cur_next (Prod.fst (Prod.snd r)) (Prod.fst (Prod.snd (Prod.snd r))) (Prod.snd (Prod.snd (Prod.snd r)))) fun r_1 =>
          bif n1 == 0 then none
          else
            some
              (Int.tmod (IntKind.wrap IntKind.i64 (IntKind.wrap IntKind.i64 (Prod.fst r * 256) + Prod.fst r_1)) n1, Prod.fst (Prod.snd r_1),
                Prod.fst (Prod.snd (Prod.snd r_1)), Prod.snd (Prod.snd (Prod.snd r_1)))
      else bif n1 == 0 then none else some (Int.tmod (Prod.fst r) n1, Prod.fst (Prod.snd r), Prod.fst (Prod.snd (Prod.snd r)), Prod.snd (Prod.snd (Prod.snd r)))
theorem s_l1Cur_pick_e (c0_code : List Int) (c0_at : Int) (c0_seed : Int) (n1 : Int) : c_s_l1Cur_pick.start c_s_l1Cur_pick.L ((c0_code, c0_at, c0_seed), n1, ()) = s_l1Cur_pick c0_code c0_at c0_seed n1 := by kernel_rfl
noncomputable def F_s_l1Cur_pick : Ins c_s_l1Cur_pick.ins → Option (Int × (List Int × Int × Int)) := fun x => s_l1Cur_pick x.1.1 x.1.2.1 x.1.2.2 x.2.1
noncomputable def S_s_l1Cur_pick : FSpec := mkF c_s_l1Cur_pick.env.pre c_s_l1Cur_pick.ins c_s_l1Cur_pick.out c_s_l1Cur_pick.inj F_s_l1Cur_pick
theorem h_s_l1Cur_pick : Cert Try.prog 111 S_s_l1Cur_pick := FnCx.certF (c := c_s_l1Cur_pick) F_s_l1Cur_pick (tyOk _ _ _) (spOk ⟨h_s_l1Cur_next, fun _ _ _ => trivial, trivial⟩) (fun _ _ _ _ _ hs => noDr_ok) Try.func111 rfl rfl Try.ntmps111 (by kernel_rfl) rfl rfl (fun _ => rfl) trivial (fun x => .inl ⟨c_s_l1Cur_pick.start () x, fun _ => rfl⟩) (fun x t hb ht => by
  obtain ⟨⟨c0_code, c0_at, c0_seed⟩, n1, _⟩ := x
  exact (s_l1Cur_pick_e c0_code c0_at c0_seed n1).trans ht)
/-! (*spec.l1Cur).one -/
noncomputable def c_s_l1Cur_one : FnCx := { env := env 9 [(111, S_s_l1Cur_pick)] [], body := bodyOf Try.f107, res := [.tmp 4], ins := [.ptr 109 ksl1Cur, .ro kint], out := [(kbool, true)], T := Bool × (List Int × Int × Int), fin := fun r => (r.1.1, r.2.1), inj := fun t => ((t.1, ()), (t.2, (), ())), pts := [], fuel := 400, dr := noDr }
noncomputable def s_l1Cur_one (c0_code : List Int) (c0_at : Int) (c0_seed : Int) (n1 : Int) : Option (Bool × (List Int × Int × Int)) :=
  Option.bind (s_l1Cur_pick c0_code c0_at c0_seed n1) fun r =>
    some (Prod.fst r == 0, Prod.fst (Prod.snd r), Prod.fst (Prod.snd (Prod.snd r)), Prod.snd (Prod.snd (Prod.snd r)))
theorem s_l1Cur_one_e (c0_code : List Int) (c0_at : Int) (c0_seed : Int) (n1 : Int) : c_s_l1Cur_one.start c_s_l1Cur_one.L ((c0_code, c0_at, c0_seed), n1, ()) = s_l1Cur_one c0_code c0_at c0_seed n1 := by kernel_rfl
noncomputable def F_s_l1Cur_one : Ins c_s_l1Cur_one.ins → Option (Bool × (List Int × Int × Int)) := fun x => s_l1Cur_one x.1.1 x.1.2.1 x.1.2.2 x.2.1
noncomputable def S_s_l1Cur_one : FSpec := mkF c_s_l1Cur_one.env.pre c_s_l1Cur_one.ins c_s_l1Cur_one.out c_s_l1Cur_one.inj F_s_l1Cur_one
theorem h_s_l1Cur_one : Cert Try.prog 107 S_s_l1Cur_one := FnCx.certF (c := c_s_l1Cur_one) F_s_l1Cur_one (tyOk _ _ _) (spOk ⟨h_s_l1Cur_pick, fun _ _ _ => trivial, trivial⟩) (fun _ _ _ _ _ hs => noDr_ok) Try.func107 rfl rfl Try.ntmps107 (by kernel_rfl) rfl rfl (fun _ => rfl) trivial (fun x => .inl ⟨c_s_l1Cur_one.start () x, fun _ => rfl⟩) (fun x t hb ht => by
  obtain ⟨⟨c0_code, c0_at, c0_seed⟩, n1, _⟩ := x
  exact (s_l1Cur_one_e c0_code c0_at c0_seed n1).trans ht)
/-! (*spec.l1Cur).sureStairs -/
noncomputable def c_s_l1Cur_sureStairs : FnCx := { env := env 46 [(111, S_s_l1Cur_pick), (107, S_s_l1Cur_one)] [], body := bodyOf Try.f135, res := [.cell 4 31], ins := [.ptr 109 ksl1Cur, .ro kint], out := [(kStairs, true)], T := (Int × List Int × List Int) × (List Int × Int × Int), fin := fun r => (r.1.1, r.2.1), inj := fun t => ((t.1, ()), (t.2, (), ())), pts := [([.inLoop [1, 1, 0, 1, 0, 0], .inBlock 0, .code [1, 1, 1]], Shape.mk [Bs.box 109 [Cs.sl 3, Cs.sc kint, Cs.sc kuint64], Bs.box 31 [Cs.sc kint, Cs.sl 4, Cs.sl 5], Bs.box 31 [Cs.sc kint, Cs.sl 6, Cs.sl 7], Bs.row kuint8 5 false, Bs.row kint 3 true, Bs.row kint 3 true, Bs.row kint 3 true, Bs.row kint 3 true] [(0, Ss.one (Cs.ptr 0 0)), (4, Ss.one (Cs.ptr 1 0)), (5, Ss.one (Cs.ptr 2 0)), (6, Ss.one (Cs.sc kint))] [Ss.one (Cs.ptr 0 0), Ss.one (Cs.any)]), ([.inLoop [1, 1, 1, 1, 0, 1, 0, 0], .inBlock 2, .code [1, 1, 1, 1, 1]], Shape.mk [Bs.box 109 [Cs.sl 3, Cs.sc kint, Cs.sc kuint64], Bs.box 31 [Cs.sc kint, Cs.sl 4, Cs.sl 5], Bs.box 31 [Cs.sc kint, Cs.sl 6, Cs.sl 7], Bs.row kuint8 5 false, Bs.row kint 3 true, Bs.row kint 3 true, Bs.row kint 3 true, Bs.row kint 3 true] [(0, Ss.one (Cs.ptr 0 0)), (4, Ss.one (Cs.ptr 1 0)), (5, Ss.one (Cs.ptr 2 0)), (7, Ss.one (Cs.sc kint))] [Ss.one (Cs.ptr 0 0), Ss.one (Cs.any)])], fuel := 400, dr := noDr }
noncomputable def s_l1Cur_sureStairs_t1 (g1 : Int → Int → Int → Int → List (Int) → List (Int) → List (Int) → List (Int) → List (Int) → Int → Option ((Int × List Int × List Int) × (List Int × Int × Int))) (g2 : Int → Int → Int → Int → List (Int) → List (Int) → List (Int) → List (Int) → List (Int) → Int → Option ((Int × List Int × List Int) × (List Int × Int × Int))) (b0_1 : Int) (b0_2 : Int) (b1_0 : Int) (b2_0 : Int) (r3 : List (Int)) (r4 : List (Int)) (r5 : List (Int)) (r6 : List (Int)) (r7 : List (Int)) (stride6 : Int) : Option ((Int × List Int × List Int) × (List Int × Int × Int)) :=
  bif decide (stride6 ≤ 4) then
    Option.bind (s_l1Cur_one r3 b0_1 b0_2 2) fun r =>
      bif Prod.fst r then
        bif Nat.ble (List.length r6 + 1) 4294967296 then
          g1 (Prod.fst (Prod.snd (Prod.snd r))) (Prod.snd (Prod.snd (Prod.snd r))) b1_0 b2_0 (Prod.fst (Prod.snd r)) r4 r5 (r6 ++ [stride6]) r7
            (IntKind.wrap IntKind.i64 (stride6 + 1))
        else none
      else
        g1 (Prod.fst (Prod.snd (Prod.snd r))) (Prod.snd (Prod.snd (Prod.snd r))) b1_0 b2_0 (Prod.fst (Prod.snd r)) r4 r5 r6 r7
          (IntKind.wrap IntKind.i64 (stride6 + 1))
  else bif (↑(List.length r6) : Int) == 0 then g2 b0_1 b0_2 b1_0 b2_0 r3 r4 r5 [1, 2] r7 1 else g2 b0_1 b0_2 b1_0 b2_0 r3 r4 r5 r6 r7 1
noncomputable def s_l1Cur_sureStairs_t2 (g1 : Int → Int → Int → Int → List (Int) → List (Int) → List (Int) → List (Int) → List (Int) → Int → Option ((Int × List Int × List Int) × (List Int × Int × Int))) (g2 : Int → Int → Int → Int → List (Int) → List (Int) → List (Int) → List (Int) → List (Int) → Int → Option ((Int × List Int × List Int) × (List Int × Int × Int))) (b0_1 : Int) (b0_2 : Int) (b1_0 : Int) (b2_0 : Int) (r3 : List (Int)) (r4 : List (Int)) (r5 : List (Int)) (r6 : List (Int)) (r7 : List (Int)) (step7 : Int) : Option ((Int × List Int × List Int) × (List Int × Int × Int)) :=
  bif decide (step7 < b2_0) then
    Option.bind (s_l1Cur_one r3 b0_1 b0_2 6) fun r =>
      bif Prod.fst r then
        bif Nat.ble (List.length r7 + 1) 4294967296 then
          g2 (Prod.fst (Prod.snd (Prod.snd r))) (Prod.snd (Prod.snd (Prod.snd r))) b1_0 b2_0 (Prod.fst (Prod.snd r)) r4 r5 r6 (r7 ++ [step7])
            (IntKind.wrap IntKind.i64 (step7 + 1))
        else none
      else
        g2 (Prod.fst (Prod.snd (Prod.snd r))) (Prod.snd (Prod.snd (Prod.snd r))) b1_0 b2_0 (Prod.fst (Prod.snd r)) r4 r5 r6 r7
          (IntKind.wrap IntKind.i64 (step7 + 1))
  else some ((b2_0, r6, r7), r3, b0_1, b0_2)
noncomputable def s_l1Cur_sureStairs_t0 (g1 : Int → Int → Int → Int → List (Int) → List (Int) → List (Int) → List (Int) → List (Int) → Int → Option ((Int × List Int × List Int) × (List Int × Int × Int))) (g2 : Int → Int → Int → Int → List (Int) → List (Int) → List (Int) → List (Int) → List (Int) → Int → Option ((Int × List Int × List Int) × (List Int × Int × Int))) (c0_code : List Int) (c0_at : Int) (c0_seed : Int) (most1 : Int) : Option ((Int × List Int × List Int) × (List Int × Int × Int)) :=
  Option.bind (s_l1Cur_pick c0_code c0_at c0_seed most1) fun r =>
    g1 (Prod.fst (Prod.snd (Prod.snd r))) (Prod.snd (Prod.snd (Prod.snd r))) 0 (IntKind.wrap IntKind.i64 (1 + Prod.fst r)) (Prod.fst (Prod.snd r)) [] [] [] [] 1
theorem s_l1Cur_sureStairs_ts : Tails c_s_l1Cur_sureStairs.pts c_s_l1Cur_sureStairs.round :=
  ⟨fun s => by
    obtain ⟨⟨⟨_, b0_1, b0_2, _⟩, ⟨b1_0, _, _, _⟩, ⟨b2_0, _, _, _⟩, r3, r4, r5, r6, r7, _⟩, ⟨_, _, _, stride6, _⟩, ⟨_, _, _⟩⟩ := s
    refine Tail.eq (Y := fun g => s_l1Cur_sureStairs_t1 (fun b0_1 b0_2 b1_0 b2_0 r3 r4 r5 r6 r7 stride6 => g.1 ((((), b0_1, b0_2, ()), (b1_0, (), (), ()), (b2_0, (), (), ()), r3, r4, r5, r6, r7, ()), ((), (), (), stride6, ()), ((), (), ()))) (fun b0_1 b0_2 b1_0 b2_0 r3 r4 r5 r6 r7 step7 => g.2.1 ((((), b0_1, b0_2, ()), (b1_0, (), (), ()), (b2_0, (), (), ()), r3, r4, r5, r6, r7, ()), ((), (), (), step7, ()), ((), (), ()))) b0_1 b0_2 b1_0 b2_0 r3 r4 r5 r6 r7 stride6) ?_ (fun g => by kernel_rfl)
    simp only [s_l1Cur_sureStairs_t1]; repeat (first | exact Tail.const _ | exact Tail.here _ | exact Tail.there (Tail.here _) | exact Tail.there (Tail.there (Tail.here _)) | exact Tail.there (Tail.there (Tail.there (Tail.here _))) | exact Tail.there (Tail.there (Tail.there (Tail.there (Tail.here _)))) | exact Tail.there (Tail.there (Tail.there (Tail.there (Tail.there (Tail.here _))))) | apply Tail.cond | (apply Tail.bind; intro _)),
  fun s => by
    obtain ⟨⟨⟨_, b0_1, b0_2, _⟩, ⟨b1_0, _, _, _⟩, ⟨b2_0, _, _, _⟩, r3, r4, r5, r6, r7, _⟩, ⟨_, _, _, step7, _⟩, ⟨_, _, _⟩⟩ := s
    refine Tail.eq (Y := fun g => s_l1Cur_sureStairs_t2 (fun b0_1 b0_2 b1_0 b2_0 r3 r4 r5 r6 r7 stride6 => g.1 ((((), b0_1, b0_2, ()), (b1_0, (), (), ()), (b2_0, (), (), ()), r3, r4, r5, r6, r7, ()), ((), (), (), stride6, ()), ((), (), ()))) (fun b0_1 b0_2 b1_0 b2_0 r3 r4 r5 r6 r7 step7 => g.2.1 ((((), b0_1, b0_2, ()), (b1_0, (), (), ()), (b2_0, (), (), ()), r3, r4, r5, r6, r7, ()), ((), (), (), step7, ()), ((), (), ()))) b0_1 b0_2 b1_0 b2_0 r3 r4 r5 r6 r7 step7) ?_ (fun g => by kernel_rfl)
    simp only [s_l1Cur_sureStairs_t2]; repeat (first | exact Tail.const _ | exact Tail.here _ | exact Tail.there (Tail.here _) | exact Tail.there (Tail.there (Tail.here _)) | exact Tail.there (Tail.there (Tail.there (Tail.here _))) | exact Tail.there (Tail.there (Tail.there (Tail.there (Tail.here _)))) | exact Tail.there (Tail.there (Tail.there (Tail.there (Tail.there (Tail.here _))))) | apply Tail.cond | (apply Tail.bind; intro _)), trivial⟩
theorem s_l1Cur_sureStairs_hs : ∀ x, Tail c_s_l1Cur_sureStairs.pts (fun g => c_s_l1Cur_sureStairs.start g x) := fun x => by
    obtain ⟨⟨c0_code, c0_at, c0_seed⟩, most1, _⟩ := x
    refine Tail.eq (Y := fun g => s_l1Cur_sureStairs_t0 (fun b0_1 b0_2 b1_0 b2_0 r3 r4 r5 r6 r7 stride6 => g.1 ((((), b0_1, b0_2, ()), (b1_0, (), (), ()), (b2_0, (), (), ()), r3, r4, r5, r6, r7, ()), ((), (), (), stride6, ()), ((), (), ()))) (fun b0_1 b0_2 b1_0 b2_0 r3 r4 r5 r6 r7 step7 => g.2.1 ((((), b0_1, b0_2, ()), (b1_0, (), (), ()), (b2_0, (), (), ()), r3, r4, r5, r6, r7, ()), ((), (), (), step7, ()), ((), (), ()))) c0_code c0_at c0_seed most1) ?_ (fun g => by kernel_rfl)
    simp only [s_l1Cur_sureStairs_t0]; repeat (first | exact Tail.const _ | exact Tail.here _ | exact Tail.there (Tail.here _) | exact Tail.there (Tail.there (Tail.here _)) | exact Tail.there (Tail.there (Tail.there (Tail.here _))) | exact Tail.there (Tail.there (Tail.there (Tail.there (Tail.here _)))) | exact Tail.there (Tail.there (Tail.there (Tail.there (Tail.there (Tail.here _))))) | apply Tail.cond | (apply Tail.bind; intro _))
noncomputable def s_l1Cur_sureStairs_L1 (b0_1 : Int) (b0_2 : Int) (b1_0 : Int) (b2_0 : Int) (r3 : List (Int)) (r4 : List (Int)) (r5 : List (Int)) (r6 : List (Int)) (r7 : List (Int)) (stride6 : Int) : Option ((Int × List Int × List Int) × (List Int × Int × Int)) := c_s_l1Cur_sureStairs.L.1 ((((), b0_1, b0_2, ()), (b1_0, (), (), ()), (b2_0, (), (), ()), r3, r4, r5, r6, r7, ()), ((), (), (), stride6, ()), ((), (), ()))
noncomputable def s_l1Cur_sureStairs_L2 (b0_1 : Int) (b0_2 : Int) (b1_0 : Int) (b2_0 : Int) (r3 : List (Int)) (r4 : List (Int)) (r5 : List (Int)) (r6 : List (Int)) (r7 : List (Int)) (step7 : Int) : Option ((Int × List Int × List Int) × (List Int × Int × Int)) := c_s_l1Cur_sureStairs.L.2.1 ((((), b0_1, b0_2, ()), (b1_0, (), (), ()), (b2_0, (), (), ()), r3, r4, r5, r6, r7, ()), ((), (), (), step7, ()), ((), (), ()))
theorem s_l1Cur_sureStairs_u1 (b0_1 : Int) (b0_2 : Int) (b1_0 : Int) (b2_0 : Int) (r3 : List (Int)) (r4 : List (Int)) (r5 : List (Int)) (r6 : List (Int)) (r7 : List (Int)) (stride6 : Int) : s_l1Cur_sureStairs_L1 b0_1 b0_2 b1_0 b2_0 r3 r4 r5 r6 r7 stride6 = s_l1Cur_sureStairs_t1 s_l1Cur_sureStairs_L1 s_l1Cur_sureStairs_L2 b0_1 b0_2 b1_0 b2_0 r3 r4 r5 r6 r7 stride6 :=
  (congrArg (fun g => g.1 ((((), b0_1, b0_2, ()), (b1_0, (), (), ()), (b2_0, (), (), ()), r3, r4, r5, r6, r7, ()), ((), (), (), stride6, ()), ((), (), ()))) (FnCx.L_eq s_l1Cur_sureStairs_ts)).trans (by kernel_rfl)
theorem s_l1Cur_sureStairs_u2 (b0_1 : Int) (b0_2 : Int) (b1_0 : Int) (b2_0 : Int) (r3 : List (Int)) (r4 : List (Int)) (r5 : List (Int)) (r6 : List (Int)) (r7 : List (Int)) (step7 : Int) : s_l1Cur_sureStairs_L2 b0_1 b0_2 b1_0 b2_0 r3 r4 r5 r6 r7 step7 = s_l1Cur_sureStairs_t2 s_l1Cur_sureStairs_L1 s_l1Cur_sureStairs_L2 b0_1 b0_2 b1_0 b2_0 r3 r4 r5 r6 r7 step7 :=
  (congrArg (fun g => g.2.1 ((((), b0_1, b0_2, ()), (b1_0, (), (), ()), (b2_0, (), (), ()), r3, r4, r5, r6, r7, ()), ((), (), (), step7, ()), ((), (), ()))) (FnCx.L_eq s_l1Cur_sureStairs_ts)).trans (by kernel_rfl)
noncomputable def s_l1Cur_sureStairs (c0_code : List Int) (c0_at : Int) (c0_seed : Int) (most1 : Int) : Option ((Int × List Int × List Int) × (List Int × Int × Int)) := s_l1Cur_sureStairs_t0 s_l1Cur_sureStairs_L1 s_l1Cur_sureStairs_L2 c0_code c0_at c0_seed most1
theorem s_l1Cur_sureStairs_e (c0_code : List Int) (c0_at : Int) (c0_seed : Int) (most1 : Int) : c_s_l1Cur_sureStairs.start c_s_l1Cur_sureStairs.L ((c0_code, c0_at, c0_seed), most1, ()) = s_l1Cur_sureStairs c0_code c0_at c0_seed most1 := by kernel_rfl
noncomputable def F_s_l1Cur_sureStairs : Ins c_s_l1Cur_sureStairs.ins → Option ((Int × List Int × List Int) × (List Int × Int × Int)) := fun x => s_l1Cur_sureStairs x.1.1 x.1.2.1 x.1.2.2 x.2.1
noncomputable def S_s_l1Cur_sureStairs : FSpec := mkF c_s_l1Cur_sureStairs.env.pre c_s_l1Cur_sureStairs.ins c_s_l1Cur_sureStairs.out c_s_l1Cur_sureStairs.inj F_s_l1Cur_sureStairs
theorem h_s_l1Cur_sureStairs : Cert Try.prog 135 S_s_l1Cur_sureStairs := FnCx.certF (c := c_s_l1Cur_sureStairs) F_s_l1Cur_sureStairs (tyOk _ _ _) (spOk ⟨h_s_l1Cur_pick, fun _ _ _ => trivial, ⟨h_s_l1Cur_one, fun _ _ _ => trivial, trivial⟩⟩) (fun _ _ _ _ _ hs => noDr_ok) Try.func135 rfl rfl Try.ntmps135 (by kernel_rfl) rfl rfl (fun _ => rfl) s_l1Cur_sureStairs_ts s_l1Cur_sureStairs_hs (fun x t hb ht => by
  obtain ⟨⟨c0_code, c0_at, c0_seed⟩, most1, _⟩ := x
  exact (s_l1Cur_sureStairs_e c0_code c0_at c0_seed most1).trans ht)
/-! (*spec.l1Cur).among -/
noncomputable def c_s_l1Cur_among : FnCx := { env := env 12 [(111, S_s_l1Cur_pick)] [], body := bodyOf Try.f109, res := [.tmp 4], ins := [.ptr 109 ksl1Cur, .ro kSint], out := [(kint, true)], T := Int × (List Int × Int × Int), fin := fun r => (r.1.1, r.2.1), inj := fun t => ((t.1, ()), (t.2, (), ())), pts := [], fuel := 400, dr := noDr }
noncomputable def s_l1Cur_among (c0_code : List Int) (c0_at : Int) (c0_seed : Int) (list1 : List Int) : Option (Int × (List Int × Int × Int)) :=
  Option.bind (s_l1Cur_pick c0_code c0_at c0_seed (↑(List.length list1) : Int)) fun r =>
    bif decide (0 ≤ Prod.fst r) then
      bif decide (Prod.fst r < (↑(List.length list1) : Int)) then
        some (rdk kint list1 (Prod.fst r), Prod.fst (Prod.snd r), Prod.fst (Prod.snd (Prod.snd r)), Prod.snd (Prod.snd (Prod.snd r)))
      else none
    else none
theorem s_l1Cur_among_e (c0_code : List Int) (c0_at : Int) (c0_seed : Int) (list1 : List Int) : c_s_l1Cur_among.start c_s_l1Cur_among.L ((c0_code, c0_at, c0_seed), list1, ()) = s_l1Cur_among c0_code c0_at c0_seed list1 := by kernel_rfl
noncomputable def F_s_l1Cur_among : Ins c_s_l1Cur_among.ins → Option (Int × (List Int × Int × Int)) := fun x => s_l1Cur_among x.1.1 x.1.2.1 x.1.2.2 x.2.1
noncomputable def S_s_l1Cur_among : FSpec := mkF c_s_l1Cur_among.env.pre c_s_l1Cur_among.ins c_s_l1Cur_among.out c_s_l1Cur_among.inj F_s_l1Cur_among
theorem h_s_l1Cur_among : Cert Try.prog 109 S_s_l1Cur_among := FnCx.certF (c := c_s_l1Cur_among) F_s_l1Cur_among (tyOk _ _ _) (spOk ⟨h_s_l1Cur_pick, fun _ _ _ => trivial, trivial⟩) (fun _ _ _ _ _ hs => noDr_ok) Try.func109 rfl rfl Try.ntmps109 (by kernel_rfl) rfl rfl (fun _ => rfl) trivial (fun x => .inl ⟨c_s_l1Cur_among.start () x, fun _ => rfl⟩) (fun x t hb ht => by
  obtain ⟨⟨c0_code, c0_at, c0_seed⟩, list1, _⟩ := x
  exact (s_l1Cur_among_e c0_code c0_at c0_seed list1).trans ht)
/-! (*spec.l1Cur).stairs -/
noncomputable def c_s_l1Cur_stairs : FnCx := { env := env 49 [(135, S_s_l1Cur_sureStairs), (111, S_s_l1Cur_pick), (109, S_s_l1Cur_among)] [27], body := bodyOf Try.f108, res := [.cell 2 31], ins := [.ptr 109 ksl1Cur], out := [(kStairs, true)], T := (Int × List Int × List Int) × (List Int × Int × Int), fin := fun r => (r.1.1, r.2.1), inj := fun t => ((t.1, ()), (t.2, ())), pts := [], fuel := 400, dr := evDr (env 49 [(135, S_s_l1Cur_sureStairs), (111, S_s_l1Cur_pick), (109, S_s_l1Cur_among)] [27]) }
noncomputable def s_l1Cur_stairs (c0_code : List Int) (c0_at : Int) (c0_seed : Int) : Option ((Int × List Int × List Int) × (List Int × Int × Int)) :=
  Option.bind (s_l1Cur_sureStairs c0_code c0_at c0_seed 12) fun r =>
    Option.bind (s_l1Cur_pick (Prod.fst (Prod.snd r)) (Prod.fst (Prod.snd (Prod.snd r))) (Prod.snd (Prod.snd (Prod.snd r))) 18) fun r_1 =>
      bif Prod.fst r_1 == 0 then
        Option.bind
          (s_l1Cur_among (Prod.fst (Prod.snd r_1)) (Prod.fst (Prod.snd (Prod.snd r_1))) (Prod.snd (Prod.snd (Prod.snd r_1))) [0, -1, 60, 61, 4611686018427387904])
          fun r_2 =>
          some
            ((Prod.fst r_2, Prod.fst (Prod.snd (Prod.fst r)), Prod.snd (Prod.snd (Prod.fst r))), Prod.fst (Prod.snd r_2), Prod.fst (Prod.snd (Prod.snd r_2)),
              Prod.snd (Prod.snd (Prod.snd r_2)))
      else
        bif Prod.fst r_1 == 1 then
          Option.bind (s_l1Cur_pick (Prod.fst (Prod.snd r_1)) (Prod.fst (Prod.snd (Prod.snd r_1))) (Prod.snd (Prod.snd (Prod.snd r_1))) 8) fun r_2 =>
            bif decide (0 ≤ Prod.fst r_2) then
              bif decide (Prod.fst r_2 < (↑8 : Int)) then
                some
                  ((Prod.fst (Prod.fst r), rdk kSint [[], [0], [1, 1], [2, 1], [9], [10], [1, 2, 3, 4, 5], [1, 2, 3, 4, 5, 6]] (Prod.fst r_2),
                      Prod.snd (Prod.snd (Prod.fst r))),
                    Prod.fst (Prod.snd r_2), Prod.fst (Prod.snd (Prod.snd r_2)), Prod.snd (Prod.snd (Prod.snd r_2)))
              else none
            else none
        else
          bif Prod.fst r_1 == 2 then
            Option.bind
              (s_l1Cur_among (Prod.fst (Prod.snd r_1)) (Prod.fst (Prod.snd (Prod.snd r_1))) (Prod.snd (Prod.snd (Prod.snd r_1)))
                [-1, 0, IntKind.wrap IntKind.i64 (Prod.fst (Prod.fst r) - 1), Prod.fst (Prod.fst r), 1])
              fun r_2 =>
              bif Nat.ble (List.length (Prod.snd (Prod.snd (Prod.fst r))) + 1) 4294967296 then
                some
                  ((Prod.fst (Prod.fst r), Prod.fst (Prod.snd (Prod.fst r)), Prod.snd (Prod.snd (Prod.fst r)) ++ [Prod.fst r_2]), Prod.fst (Prod.snd r_2),
                    Prod.fst (Prod.snd (Prod.snd r_2)), Prod.snd (Prod.snd (Prod.snd r_2)))
              else none
          else
            bif Prod.fst r_1 == 3 then some ((60, [1, 2, 3], []), Prod.fst (Prod.snd r_1), Prod.fst (Prod.snd (Prod.snd r_1)), Prod.snd (Prod.snd (Prod.snd r_1)))
            else
              some
                ((Prod.fst (Prod.fst r), Prod.fst (Prod.snd (Prod.fst r)), Prod.snd (Prod.snd (Prod.fst r))), Prod.fst (Prod.snd r_1),
                  Prod.fst (Prod.snd (Prod.snd r_1)), Prod.snd (Prod.snd (Prod.snd r_1)))
theorem s_l1Cur_stairs_e (c0_code : List Int) (c0_at : Int) (c0_seed : Int) : c_s_l1Cur_stairs.start c_s_l1Cur_stairs.L ((c0_code, c0_at, c0_seed), ()) = s_l1Cur_stairs c0_code c0_at c0_seed := by kernel_rfl
noncomputable def F_s_l1Cur_stairs : Ins c_s_l1Cur_stairs.ins → Option ((Int × List Int × List Int) × (List Int × Int × Int)) := fun x => s_l1Cur_stairs x.1.1 x.1.2.1 x.1.2.2
noncomputable def S_s_l1Cur_stairs : FSpec := mkF c_s_l1Cur_stairs.env.pre c_s_l1Cur_stairs.ins c_s_l1Cur_stairs.out c_s_l1Cur_stairs.inj F_s_l1Cur_stairs
theorem h_s_l1Cur_stairs : Cert Try.prog 108 S_s_l1Cur_stairs := FnCx.certF (c := c_s_l1Cur_stairs) F_s_l1Cur_stairs (tyOk _ _ _) (spOk ⟨h_s_l1Cur_sureStairs, fun _ _ _ => trivial, ⟨h_s_l1Cur_pick, fun _ _ _ => trivial, ⟨h_s_l1Cur_among, fun _ _ _ => trivial, trivial⟩⟩⟩) (fun _ _ _ _ _ hs => evDr_ok (tyOk _ _ _) hs follows) Try.func108 rfl rfl Try.ntmps108 (by kernel_rfl) rfl rfl (fun _ => rfl) trivial (fun x => .inl ⟨c_s_l1Cur_stairs.start () x, fun _ => rfl⟩) (fun x t hb ht => by
  obtain ⟨⟨c0_code, c0_at, c0_seed⟩, _⟩ := x
  exact (s_l1Cur_stairs_e c0_code c0_at c0_seed).trans ht)
/-! (*spec.l1Cur).hidden -/
noncomputable def c_s_l1Cur_hidden : FnCx := { env := env 21 [(111, S_s_l1Cur_pick), (119, S_s_pzStrides), (120, S_s_pzStairs)] [], body := bodyOf Try.f110, res := [.cell 2 31], ins := [.ptr 109 ksl1Cur], out := [(kStairs, true)], T := (Int × List Int × List Int) × (List Int × Int × Int), fin := fun r => (r.1.1, r.2.1), inj := fun t => ((t.1, ()), (t.2, ())), pts := [], fuel := 400, dr := evDr (env 21 [(111, S_s_l1Cur_pick), (119, S_s_pzStrides), (120, S_s_pzStairs)] []) }
noncomputable def s_l1Cur_hidden (c0_code : List Int) (c0_at : Int) (c0_seed : Int) : Option ((Int × List Int × List Int) × (List Int × Int × Int)) :=
  Option.bind (s_l1Cur_pick c0_code c0_at c0_seed 7) fun r =>
    Option.bind (s_l1Cur_pick (Prod.fst (Prod.snd r)) (Prod.fst (Prod.snd (Prod.snd r))) (Prod.snd (Prod.snd (Prod.snd r))) (↑(List.length s_pzStrides) : Int))
      fun r_1 =>
      bif decide (0 ≤ Prod.fst r_1) then
        bif decide (Prod.fst r_1 < (↑(List.length s_pzStrides) : Int)) then
          Option.bind
            (s_l1Cur_pick (Prod.fst (Prod.snd r_1)) (Prod.fst (Prod.snd (Prod.snd r_1))) (Prod.snd (Prod.snd (Prod.snd r_1)))
              (IntKind.wrap IntKind.i64 (1 + Prod.fst r)))
            fun r_2 =>
            Option.bind (s_pzStairs (IntKind.wrap IntKind.i64 (1 + Prod.fst r)) (rdk kSint s_pzStrides (Prod.fst r_1)) (Prod.fst r_2))
              fun r =>
              some
                ((Prod.fst r, Prod.fst (Prod.snd r), Prod.snd (Prod.snd r)), Prod.fst (Prod.snd r_2), Prod.fst (Prod.snd (Prod.snd r_2)),
                  Prod.snd (Prod.snd (Prod.snd r_2)))
        else none
      else none
theorem s_l1Cur_hidden_e (c0_code : List Int) (c0_at : Int) (c0_seed : Int) : c_s_l1Cur_hidden.start c_s_l1Cur_hidden.L ((c0_code, c0_at, c0_seed), ()) = s_l1Cur_hidden c0_code c0_at c0_seed := by kernel_rfl
noncomputable def F_s_l1Cur_hidden : Ins c_s_l1Cur_hidden.ins → Option ((Int × List Int × List Int) × (List Int × Int × Int)) := fun x => s_l1Cur_hidden x.1.1 x.1.2.1 x.1.2.2
noncomputable def S_s_l1Cur_hidden : FSpec := mkF c_s_l1Cur_hidden.env.pre c_s_l1Cur_hidden.ins c_s_l1Cur_hidden.out c_s_l1Cur_hidden.inj F_s_l1Cur_hidden
theorem h_s_l1Cur_hidden : Cert Try.prog 110 S_s_l1Cur_hidden := FnCx.certF (c := c_s_l1Cur_hidden) F_s_l1Cur_hidden (tyOk _ _ _) (spOk ⟨h_s_l1Cur_pick, fun _ _ _ => trivial, ⟨h_s_pzStrides, fun _ _ _ => trivial, ⟨h_s_pzStairs, fun _ _ _ => trivial, trivial⟩⟩⟩) (fun _ _ _ _ _ hs => evDr_ok (tyOk _ _ _) hs follows) Try.func110 rfl rfl Try.ntmps110 (by kernel_rfl) rfl rfl (fun _ => rfl) trivial (fun x => .inl ⟨c_s_l1Cur_hidden.start () x, fun _ => rfl⟩) (fun x t hb ht => by
  obtain ⟨⟨c0_code, c0_at, c0_seed⟩, _⟩ := x
  exact (s_l1Cur_hidden_e c0_code c0_at c0_seed).trans ht)
/-! spec.DrawMakePuzzle -/
noncomputable def c_s_DrawMakePuzzle : FnCx := { env := env 25 [(107, S_s_l1Cur_one), (108, S_s_l1Cur_stairs), (109, S_s_l1Cur_among), (110, S_s_l1Cur_hidden), (111, S_s_l1Cur_pick)] [], body := bodyOf Try.f66, res := [.cell 2 31, .tmp 3, .tmp 4], ins := [.ro kSuint8], out := [(kStairs, true), (kint, true), (kint, true)], T := (Int × List Int × List Int) × Int × Int, fin := fun r => (r.1.1, r.1.2.1, r.1.2.2.1), inj := fun t => ((t.1, t.2.1, t.2.2, ()), ((), ())), pts := [], fuel := 400, dr := noDr }
noncomputable def s_DrawMakePuzzle (code0 : List Int) : Option ((Int × List Int × List Int) × Int × Int) :=
  Option.bind (s_l1Cur_one code0 0 0 12) fun r =>
    bif Prod.fst r then
      Option.bind (s_l1Cur_stairs (Prod.fst (Prod.snd r)) (Prod.fst (Prod.snd (Prod.snd r))) (Prod.snd (Prod.snd (Prod.snd r)))) fun r =>
        Option.bind (s_l1Cur_among (Prod.fst (Prod.snd r)) (Prod.fst (Prod.snd (Prod.snd r))) (Prod.snd (Prod.snd (Prod.snd r))) [-1, 6, 7]) fun r_1 =>
          Option.bind (s_l1Cur_among (Prod.fst (Prod.snd r_1)) (Prod.fst (Prod.snd (Prod.snd r_1))) (Prod.snd (Prod.snd (Prod.snd r_1))) [-1, 9999, 10000])
            fun r_2 => some ((Prod.fst (Prod.fst r), Prod.fst (Prod.snd (Prod.fst r)), Prod.snd (Prod.snd (Prod.fst r))), Prod.fst r_1, Prod.fst r_2)
    else
      Option.bind (s_l1Cur_hidden (Prod.fst (Prod.snd r)) (Prod.fst (Prod.snd (Prod.snd r))) (Prod.snd (Prod.snd (Prod.snd r)))) fun r =>
        Option.bind (s_l1Cur_pick (Prod.fst (Prod.snd r)) (Prod.fst (Prod.snd (Prod.snd r))) (Prod.snd (Prod.snd (Prod.snd r))) 7) fun r_1 =>
          Option.bind (s_l1Cur_pick (Prod.fst (Prod.snd r_1)) (Prod.fst (Prod.snd (Prod.snd r_1))) (Prod.snd (Prod.snd (Prod.snd r_1))) 10000) fun r_2 =>
            some ((Prod.fst (Prod.fst r), Prod.fst (Prod.snd (Prod.fst r)), Prod.snd (Prod.snd (Prod.fst r))), Prod.fst r_1, Prod.fst r_2)
theorem s_DrawMakePuzzle_e (code0 : List Int) : c_s_DrawMakePuzzle.start c_s_DrawMakePuzzle.L (code0, ()) = s_DrawMakePuzzle code0 := by kernel_rfl
noncomputable def F_s_DrawMakePuzzle : Ins c_s_DrawMakePuzzle.ins → Option ((Int × List Int × List Int) × Int × Int) := fun x => s_DrawMakePuzzle x.1
noncomputable def S_s_DrawMakePuzzle : FSpec := mkF c_s_DrawMakePuzzle.env.pre c_s_DrawMakePuzzle.ins c_s_DrawMakePuzzle.out c_s_DrawMakePuzzle.inj F_s_DrawMakePuzzle
theorem h_s_DrawMakePuzzle : Cert Try.prog 66 S_s_DrawMakePuzzle := FnCx.certF (c := c_s_DrawMakePuzzle) F_s_DrawMakePuzzle (tyOk _ _ _) (spOk ⟨h_s_l1Cur_one, fun _ _ _ => trivial, ⟨h_s_l1Cur_stairs, fun _ _ _ => trivial, ⟨h_s_l1Cur_among, fun _ _ _ => trivial, ⟨h_s_l1Cur_hidden, fun _ _ _ => trivial, ⟨h_s_l1Cur_pick, fun _ _ _ => trivial, trivial⟩⟩⟩⟩⟩) (fun _ _ _ _ _ hs => noDr_ok) Try.func66 rfl rfl Try.ntmps66 (by kernel_rfl) rfl rfl (fun _ => rfl) trivial (fun x => .inl ⟨c_s_DrawMakePuzzle.start () x, fun _ => rfl⟩) (fun x t hb ht => by
  obtain ⟨code0, _⟩ := x
  exact (s_DrawMakePuzzle_e code0).trans ht)
/-! (*spec.l1Cur).surePuzzle -/
noncomputable def c_s_l1Cur_surePuzzle : FnCx := { env := env 20 [(110, S_s_l1Cur_hidden), (111, S_s_l1Cur_pick), (16, S_s_MakePuzzle)] [], body := bodyOf Try.f137, res := [.cell 4 28], ins := [.ptr 109 ksl1Cur, .ro kint], out := [(kPuzzle, true)], T := List (Int × Int × Int) × (List Int × Int × Int), fin := fun r => (r.1.1, r.2.1), inj := fun t => ((t.1, ()), (t.2, (), ())), pts := [], fuel := 400, dr := noDr }
noncomputable def s_l1Cur_surePuzzle (c0_code : List Int) (c0_at : Int) (c0_seed : Int) (most1 : Int) : Option (List (Int × Int × Int) × (List Int × Int × Int)) :=
  Option.bind (s_l1Cur_hidden c0_code c0_at c0_seed) fun r =>
    Option.bind
      (s_l1Cur_pick (Prod.fst (Prod.snd r)) (Prod.fst (Prod.snd (Prod.snd r))) (Prod.snd (Prod.snd (Prod.snd r))) (IntKind.wrap IntKind.i64 (most1 + 1)))
      fun r_1 =>
      Option.bind (s_l1Cur_pick (Prod.fst (Prod.snd r_1)) (Prod.fst (Prod.snd (Prod.snd r_1))) (Prod.snd (Prod.snd (Prod.snd r_1))) 10000) fun r_2 =>
        Option.bind (s_MakePuzzle (Prod.fst (Prod.fst r)) (Prod.fst (Prod.snd (Prod.fst r))) (Prod.snd (Prod.snd (Prod.fst r))) (Prod.fst r_1) (Prod.fst r_2))
          fun r => some (Prod.fst r, Prod.fst (Prod.snd r_2), Prod.fst (Prod.snd (Prod.snd r_2)), Prod.snd (Prod.snd (Prod.snd r_2)))
theorem s_l1Cur_surePuzzle_e (c0_code : List Int) (c0_at : Int) (c0_seed : Int) (most1 : Int) : c_s_l1Cur_surePuzzle.start c_s_l1Cur_surePuzzle.L ((c0_code, c0_at, c0_seed), most1, ()) = s_l1Cur_surePuzzle c0_code c0_at c0_seed most1 := by kernel_rfl
noncomputable def F_s_l1Cur_surePuzzle : Ins c_s_l1Cur_surePuzzle.ins → Option (List (Int × Int × Int) × (List Int × Int × Int)) := fun x => s_l1Cur_surePuzzle x.1.1 x.1.2.1 x.1.2.2 x.2.1
noncomputable def S_s_l1Cur_surePuzzle : FSpec := mkF c_s_l1Cur_surePuzzle.env.pre c_s_l1Cur_surePuzzle.ins c_s_l1Cur_surePuzzle.out c_s_l1Cur_surePuzzle.inj F_s_l1Cur_surePuzzle
theorem h_s_l1Cur_surePuzzle : Cert Try.prog 137 S_s_l1Cur_surePuzzle := FnCx.certF (c := c_s_l1Cur_surePuzzle) F_s_l1Cur_surePuzzle (tyOk _ _ _) (spOk ⟨h_s_l1Cur_hidden, fun _ _ _ => trivial, ⟨h_s_l1Cur_pick, fun _ _ _ => trivial, ⟨h_s_MakePuzzle, fun _ _ _ => trivial, trivial⟩⟩⟩) (fun _ _ _ _ _ hs => noDr_ok) Try.func137 rfl rfl Try.ntmps137 (by kernel_rfl) rfl rfl (fun _ => rfl) trivial (fun x => .inl ⟨c_s_l1Cur_surePuzzle.start () x, fun _ => rfl⟩) (fun x t hb ht => by
  obtain ⟨⟨c0_code, c0_at, c0_seed⟩, most1, _⟩ := x
  exact (s_l1Cur_surePuzzle_e c0_code c0_at c0_seed most1).trans ht)
/-! (*spec.l1Cur).clue -/
noncomputable def c_s_l1Cur_clue : FnCx := { env := env 35 [(111, S_s_l1Cur_pick), (107, S_s_l1Cur_one)] [], body := bodyOf Try.f113, res := [.cell 2 63], ins := [.ptr 109 ksl1Cur], out := [(kClue, true)], T := (Int × Int × Int) × (List Int × Int × Int), fin := fun r => (r.1.1, r.2.1), inj := fun t => ((t.1, ()), (t.2, ())), pts := [], fuel := 400, dr := noDr }
noncomputable def s_l1Cur_clue (c0_code : List Int) (c0_at : Int) (c0_seed : Int) : Option ((Int × Int × Int) × (List Int × Int × Int)) :=
  Option.bind (s_l1Cur_pick c0_code c0_at c0_seed 6) fun r =>
    Option.bind (s_l1Cur_pick (Prod.fst (Prod.snd r)) (Prod.fst (Prod.snd (Prod.snd r))) (Prod.snd (Prod.snd (Prod.snd r))) 9) fun r_1 =>
      Option.bind (s_l1Cur_pick (Prod.fst (Prod.snd r_1)) (Prod.fst (Prod.snd (Prod.snd r_1))) (Prod.snd (Prod.snd (Prod.snd r_1))) 8) fun r_2 =>
        Option.bind (s_l1Cur_pick (Prod.fst (Prod.snd r_2)) (Prod.fst (Prod.snd (Prod.snd r_2))) (Prod.snd (Prod.snd (Prod.snd r_2))) 9) fun r_3 =>
          bif IntKind.wrap IntKind.i64 (Prod.fst r + IntKind.wrap IntKind.i64 (Int.tdiv (Prod.fst r_1) 8)) == 2 then
            Option.bind (s_l1Cur_pick (Prod.fst (Prod.snd r_3)) (Prod.fst (Prod.snd (Prod.snd r_3))) (Prod.snd (Prod.snd (Prod.snd r_3))) 8) fun r_4 =>
              Option.bind (s_l1Cur_pick (Prod.fst (Prod.snd r_4)) (Prod.fst (Prod.snd (Prod.snd r_4))) (Prod.snd (Prod.snd (Prod.snd r_4))) 3) fun r_5 =>
                Option.bind (s_l1Cur_one (Prod.fst (Prod.snd r_5)) (Prod.fst (Prod.snd (Prod.snd r_5))) (Prod.snd (Prod.snd (Prod.snd r_5))) 14) fun r_6 =>
                  bif Prod.fst r_6 then
                    Option.bind (s_l1Cur_pick (Prod.fst (Prod.snd r_6)) (Prod.fst (Prod.snd (Prod.snd r_6))) (Prod.snd (Prod.snd (Prod.snd r_6))) 3) fun r_7 =>
                      some
                        ((IntKind.wrap IntKind.i64 (Prod.fst r + IntKind.wrap IntKind.i64 (Int.tdiv (Prod.fst r_1) 8)),
                            IntKind.wrap IntKind.i64 (Prod.fst r_7 - 1), Prod.fst r_5),
                          Prod.fst (Prod.snd r_7), Prod.fst (Prod.snd (Prod.snd r_7)), Prod.snd (Prod.snd (Prod.snd r_7)))
                  else
                    some
                      ((IntKind.wrap IntKind.i64 (Prod.fst r + IntKind.wrap IntKind.i64 (Int.tdiv (Prod.fst r_1) 8)), Prod.fst r_4, Prod.fst r_5),
                        Prod.fst (Prod.snd r_6), Prod.fst (Prod.snd (Prod.snd r_6)), Prod.snd (Prod.snd (Prod.snd r_6)))
          else
            bif IntKind.wrap IntKind.i64 (Prod.fst r + IntKind.wrap IntKind.i64 (Int.tdiv (Prod.fst r_1) 8)) == 3 then
              Option.bind (s_l1Cur_pick (Prod.fst (Prod.snd r_3)) (Prod.fst (Prod.snd (Prod.snd r_3))) (Prod.snd (Prod.snd (Prod.snd r_3))) 8) fun r_4 =>
                Option.bind (s_l1Cur_pick (Prod.fst (Prod.snd r_4)) (Prod.fst (Prod.snd (Prod.snd r_4))) (Prod.snd (Prod.snd (Prod.snd r_4))) 3) fun r_5 =>
                  Option.bind (s_l1Cur_one (Prod.fst (Prod.snd r_5)) (Prod.fst (Prod.snd (Prod.snd r_5))) (Prod.snd (Prod.snd (Prod.snd r_5))) 14) fun r_6 =>
                    bif Prod.fst r_6 then
                      Option.bind (s_l1Cur_pick (Prod.fst (Prod.snd r_6)) (Prod.fst (Prod.snd (Prod.snd r_6))) (Prod.snd (Prod.snd (Prod.snd r_6))) 3) fun r_7 =>
                        some
                          ((IntKind.wrap IntKind.i64 (Prod.fst r + IntKind.wrap IntKind.i64 (Int.tdiv (Prod.fst r_1) 8)),
                              IntKind.wrap IntKind.i64 (Prod.fst r_7 - 1), Prod.fst r_5),
                            Prod.fst (Prod.snd r_7), Prod.fst (Prod.snd (Prod.snd r_7)), Prod.snd (Prod.snd (Prod.snd r_7)))
                    else
                      some
                        ((IntKind.wrap IntKind.i64 (Prod.fst r + IntKind.wrap IntKind.i64 (Int.tdiv (Prod.fst r_1) 8)), Prod.fst r_4, Prod.fst r_5),
                          Prod.fst (Prod.snd r_6), Prod.fst (Prod.snd (Prod.snd r_6)), Prod.snd (Prod.snd (Prod.snd r_6)))
            else
              Option.bind (s_l1Cur_one (Prod.fst (Prod.snd r_3)) (Prod.fst (Prod.snd (Prod.snd r_3))) (Prod.snd (Prod.snd (Prod.snd r_3))) 14) fun r_4 =>
                bif Prod.fst r_4 then
                  Option.bind (s_l1Cur_pick (Prod.fst (Prod.snd r_4)) (Prod.fst (Prod.snd (Prod.snd r_4))) (Prod.snd (Prod.snd (Prod.snd r_4))) 3) fun r_5 =>
                    some
                      ((IntKind.wrap IntKind.i64 (Prod.fst r + IntKind.wrap IntKind.i64 (Int.tdiv (Prod.fst r_1) 8)), IntKind.wrap IntKind.i64 (Prod.fst r_5 - 1),
                          IntKind.wrap IntKind.i64 (Prod.fst r_2 - IntKind.wrap IntKind.i64 (Int.tdiv (Prod.fst r_3) 8))),
                        Prod.fst (Prod.snd r_5), Prod.fst (Prod.snd (Prod.snd r_5)), Prod.snd (Prod.snd (Prod.snd r_5)))
                else
                  some
                    ((IntKind.wrap IntKind.i64 (Prod.fst r + IntKind.wrap IntKind.i64 (Int.tdiv (Prod.fst r_1) 8)), 0,
                        IntKind.wrap IntKind.i64 (Prod.fst r_2 - IntKind.wrap IntKind.i64 (Int.tdiv (Prod.fst r_3) 8))),
                      Prod.fst (Prod.snd r_4), Prod.fst (Prod.snd (Prod.snd r_4)), Prod.snd (Prod.snd (Prod.snd r_4)))
theorem s_l1Cur_clue_e (c0_code : List Int) (c0_at : Int) (c0_seed : Int) : c_s_l1Cur_clue.start c_s_l1Cur_clue.L ((c0_code, c0_at, c0_seed), ()) = s_l1Cur_clue c0_code c0_at c0_seed := by kernel_rfl
noncomputable def F_s_l1Cur_clue : Ins c_s_l1Cur_clue.ins → Option ((Int × Int × Int) × (List Int × Int × Int)) := fun x => s_l1Cur_clue x.1.1 x.1.2.1 x.1.2.2
noncomputable def S_s_l1Cur_clue : FSpec := mkF c_s_l1Cur_clue.env.pre c_s_l1Cur_clue.ins c_s_l1Cur_clue.out c_s_l1Cur_clue.inj F_s_l1Cur_clue
theorem h_s_l1Cur_clue : Cert Try.prog 113 S_s_l1Cur_clue := FnCx.certF (c := c_s_l1Cur_clue) F_s_l1Cur_clue (tyOk _ _ _) (spOk ⟨h_s_l1Cur_pick, fun _ _ _ => trivial, ⟨h_s_l1Cur_one, fun _ _ _ => trivial, trivial⟩⟩) (fun _ _ _ _ _ hs => noDr_ok) Try.func113 rfl rfl Try.ntmps113 (by kernel_rfl) rfl rfl (fun _ => rfl) trivial (fun x => .inl ⟨c_s_l1Cur_clue.start () x, fun _ => rfl⟩) (fun x t hb ht => by
  obtain ⟨⟨c0_code, c0_at, c0_seed⟩, _⟩ := x
  exact (s_l1Cur_clue_e c0_code c0_at c0_seed).trans ht)
/-! (*spec.l1Cur).puzzle -/
noncomputable def c_s_l1Cur_puzzle : FnCx := { env := env 34 [(137, S_s_l1Cur_surePuzzle), (111, S_s_l1Cur_pick), (113, S_s_l1Cur_clue)] [], body := bodyOf Try.f112, res := [.cell 2 28], ins := [.ptr 109 ksl1Cur], out := [(kPuzzle, true)], T := List (Int × Int × Int) × (List Int × Int × Int), fin := fun r => (r.1.1, r.2.1), inj := fun t => ((t.1, ()), (t.2, ())), pts := [([.inLoop [1, 1, 0, 1, 0, 1, 1, 1, 0, 0, 0], .inBlock 1, .inBlock 0, .code [1, 1, 1]], Shape.mk [Bs.box 109 [Cs.sl 3, Cs.sc kint, Cs.sc kuint64], Bs.box 28 [Cs.sl 4], Bs.box 28 [Cs.sl 5], Bs.row kuint8 5 false, Bs.row kClue 63 true, Bs.row kClue 63 true] [(0, Ss.one (Cs.ptr 0 0)), (2, Ss.one (Cs.ptr 1 0)), (3, Ss.one (Cs.ptr 2 0))] [Ss.one (Cs.ptr 0 0)])], fuel := 400, dr := evDr (env 34 [(137, S_s_l1Cur_surePuzzle), (111, S_s_l1Cur_pick), (113, S_s_l1Cur_clue)] []) }
noncomputable def s_l1Cur_puzzle_t1 (g1 : Int → Int → List (Int) → List (Int × (Int × Int)) → List (Int × (Int × Int)) → Option (List (Int × Int × Int) × (List Int × Int × Int))) (b0_1 : Int) (b0_2 : Int) (r3 : List (Int)) (r4 : List (Int × (Int × Int))) (r5 : List (Int × (Int × Int))) : Option (List (Int × Int × Int) × (List Int × Int × Int)) :=
  Option.bind (s_l1Cur_pick r3 b0_1 b0_2 2) fun r =>
    bif decide ((↑(List.length r5) : Int) < IntKind.wrap IntKind.i64 (6 + Prod.fst r)) then
      bif Nat.ble (List.length r5 + 1) 4294967296 then
        g1 (Prod.fst (Prod.snd (Prod.snd r))) (Prod.snd (Prod.snd (Prod.snd r))) (Prod.fst (Prod.snd r)) r4 (r5 ++ [(4, 0, 5)])
      else none
    else some (r5, Prod.fst (Prod.snd r), Prod.fst (Prod.snd (Prod.snd r)), Prod.snd (Prod.snd (Prod.snd r)))
noncomputable def s_l1Cur_puzzle_t0 (g1 : Int → Int → List (Int) → List (Int × (Int × Int)) → List (Int × (Int × Int)) → Option (List (Int × Int × Int) × (List Int × Int × Int))) (c0_code : List Int) (c0_at : Int) (c0_seed : Int) : Option (List (Int × Int × Int) × (List Int × Int × Int)) :=
  Option.bind (s_l1Cur_surePuzzle c0_code c0_at c0_seed 5) fun r =>
    Option.bind (s_l1Cur_pick (Prod.fst (Prod.snd r)) (Prod.fst (Prod.snd (Prod.snd r))) (Prod.snd (Prod.snd (Prod.snd r))) 12) fun r_1 =>
      bif Prod.fst r_1 == 0 then
        Option.bind (s_l1Cur_clue (Prod.fst (Prod.snd r_1)) (Prod.fst (Prod.snd (Prod.snd r_1))) (Prod.snd (Prod.snd (Prod.snd r_1)))) fun r_2 =>
          bif Nat.ble (List.length (Prod.fst r) + 1) 4294967296 then
            some
              (Prod.fst r ++ [(Prod.fst (Prod.fst r_2), Prod.fst (Prod.snd (Prod.fst r_2)), Prod.snd (Prod.snd (Prod.fst r_2)))], Prod.fst (Prod.snd r_2),
                Prod.fst (Prod.snd (Prod.snd r_2)), Prod.snd (Prod.snd (Prod.snd r_2)))
          else none
      else
        bif Prod.fst r_1 == 1 then
          Option.bind (s_l1Cur_clue (Prod.fst (Prod.snd r_1)) (Prod.fst (Prod.snd (Prod.snd r_1))) (Prod.snd (Prod.snd (Prod.snd r_1)))) fun r_2 =>
            bif Nat.ble (List.length (Prod.fst r) + 1) 4294967296 then
              some
                (Prod.fst r ++ [(Prod.fst (Prod.fst r_2), Prod.fst (Prod.snd (Prod.fst r_2)), Prod.snd (Prod.snd (Prod.fst r_2)))], Prod.fst (Prod.snd r_2),
                  Prod.fst (Prod.snd (Prod.snd r_2)), Prod.snd (Prod.snd (Prod.snd r_2)))
            else none
        else
          bif Prod.fst r_1 == 2 then g1 (Prod.fst (Prod.snd (Prod.snd r_1))) (Prod.snd (Prod.snd (Prod.snd r_1))) (Prod.fst (Prod.snd r_1)) [] (Prod.fst r)
          else some (Prod.fst r, Prod.fst (Prod.snd r_1), Prod.fst (Prod.snd (Prod.snd r_1)), Prod.snd (Prod.snd (Prod.snd r_1)))
theorem s_l1Cur_puzzle_ts : Tails c_s_l1Cur_puzzle.pts c_s_l1Cur_puzzle.round :=
  ⟨fun s => by
    obtain ⟨⟨⟨_, b0_1, b0_2, _⟩, ⟨_, _⟩, ⟨_, _⟩, r3, r4, r5, _⟩, ⟨_, _, _, _⟩, ⟨_, _⟩⟩ := s
    refine Tail.eq (Y := fun g => s_l1Cur_puzzle_t1 (fun b0_1 b0_2 r3 r4 r5 => g.1 ((((), b0_1, b0_2, ()), ((), ()), ((), ()), r3, r4, r5, ()), ((), (), (), ()), ((), ()))) b0_1 b0_2 r3 r4 r5) ?_ (fun g => by kernel_rfl)
    simp only [s_l1Cur_puzzle_t1]; repeat (first | exact Tail.const _ | exact Tail.here _ | exact Tail.there (Tail.here _) | exact Tail.there (Tail.there (Tail.here _)) | exact Tail.there (Tail.there (Tail.there (Tail.here _))) | exact Tail.there (Tail.there (Tail.there (Tail.there (Tail.here _)))) | exact Tail.there (Tail.there (Tail.there (Tail.there (Tail.there (Tail.here _))))) | apply Tail.cond | (apply Tail.bind; intro _)), trivial⟩
theorem s_l1Cur_puzzle_hs : ∀ x, Tail c_s_l1Cur_puzzle.pts (fun g => c_s_l1Cur_puzzle.start g x) := fun x => by
    obtain ⟨⟨c0_code, c0_at, c0_seed⟩, _⟩ := x
    refine Tail.eq (Y := fun g => s_l1Cur_puzzle_t0 (fun b0_1 b0_2 r3 r4 r5 => g.1 ((((), b0_1, b0_2, ()), ((), ()), ((), ()), r3, r4, r5, ()), ((), (), (), ()), ((), ()))) c0_code c0_at c0_seed) ?_ (fun g => by kernel_rfl)
    simp only [s_l1Cur_puzzle_t0]; repeat (first | exact Tail.const _ | exact Tail.here _ | exact Tail.there (Tail.here _) | exact Tail.there (Tail.there (Tail.here _)) | exact Tail.there (Tail.there (Tail.there (Tail.here _))) | exact Tail.there (Tail.there (Tail.there (Tail.there (Tail.here _)))) | exact Tail.there (Tail.there (Tail.there (Tail.there (Tail.there (Tail.here _))))) | apply Tail.cond | (apply Tail.bind; intro _))
noncomputable def s_l1Cur_puzzle_L1 (b0_1 : Int) (b0_2 : Int) (r3 : List (Int)) (r4 : List (Int × (Int × Int))) (r5 : List (Int × (Int × Int))) : Option (List (Int × Int × Int) × (List Int × Int × Int)) := c_s_l1Cur_puzzle.L.1 ((((), b0_1, b0_2, ()), ((), ()), ((), ()), r3, r4, r5, ()), ((), (), (), ()), ((), ()))
theorem s_l1Cur_puzzle_u1 (b0_1 : Int) (b0_2 : Int) (r3 : List (Int)) (r4 : List (Int × (Int × Int))) (r5 : List (Int × (Int × Int))) : s_l1Cur_puzzle_L1 b0_1 b0_2 r3 r4 r5 = s_l1Cur_puzzle_t1 s_l1Cur_puzzle_L1 b0_1 b0_2 r3 r4 r5 :=
  (congrArg (fun g => g.1 ((((), b0_1, b0_2, ()), ((), ()), ((), ()), r3, r4, r5, ()), ((), (), (), ()), ((), ()))) (FnCx.L_eq s_l1Cur_puzzle_ts)).trans (by kernel_rfl)
noncomputable def s_l1Cur_puzzle (c0_code : List Int) (c0_at : Int) (c0_seed : Int) : Option (List (Int × Int × Int) × (List Int × Int × Int)) := s_l1Cur_puzzle_t0 s_l1Cur_puzzle_L1 c0_code c0_at c0_seed
theorem s_l1Cur_puzzle_e (c0_code : List Int) (c0_at : Int) (c0_seed : Int) : c_s_l1Cur_puzzle.start c_s_l1Cur_puzzle.L ((c0_code, c0_at, c0_seed), ()) = s_l1Cur_puzzle c0_code c0_at c0_seed := by kernel_rfl
noncomputable def F_s_l1Cur_puzzle : Ins c_s_l1Cur_puzzle.ins → Option (List (Int × Int × Int) × (List Int × Int × Int)) := fun x => s_l1Cur_puzzle x.1.1 x.1.2.1 x.1.2.2
noncomputable def S_s_l1Cur_puzzle : FSpec := mkF c_s_l1Cur_puzzle.env.pre c_s_l1Cur_puzzle.ins c_s_l1Cur_puzzle.out c_s_l1Cur_puzzle.inj F_s_l1Cur_puzzle
theorem h_s_l1Cur_puzzle : Cert Try.prog 112 S_s_l1Cur_puzzle := FnCx.certF (c := c_s_l1Cur_puzzle) F_s_l1Cur_puzzle (tyOk _ _ _) (spOk ⟨h_s_l1Cur_surePuzzle, fun _ _ _ => trivial, ⟨h_s_l1Cur_pick, fun _ _ _ => trivial, ⟨h_s_l1Cur_clue, fun _ _ _ => trivial, trivial⟩⟩⟩) (fun _ _ _ _ _ hs => evDr_ok (tyOk _ _ _) hs follows) Try.func112 rfl rfl Try.ntmps112 (by kernel_rfl) rfl rfl (fun _ => rfl) s_l1Cur_puzzle_ts s_l1Cur_puzzle_hs (fun x t hb ht => by
  obtain ⟨⟨c0_code, c0_at, c0_seed⟩, _⟩ := x
  exact (s_l1Cur_puzzle_e c0_code c0_at c0_seed).trans ht)
/-! spec.DrawHarderPuzzle -/
noncomputable def c_s_DrawHarderPuzzle : FnCx := { env := env 60 [(107, S_s_l1Cur_one), (112, S_s_l1Cur_puzzle), (110, S_s_l1Cur_hidden), (111, S_s_l1Cur_pick), (16, S_s_MakePuzzle), (76, S_s_pzOf)] [], body := bodyOf Try.f67, res := [.cell 2 28], ins := [.ro kSuint8], out := [(kPuzzle, true)], T := List (Int × Int × Int), fin := fun r => r.1.1, inj := fun t => ((t, ()), ((), ())), pts := [([.inLoop [1, 1, 1, 1, 1, 1, 0, 1, 0, 0], .inBlock 0, .code [1, 1, 1, 1, 1, 1, 1]], Shape.mk [Bs.box 28 [Cs.sl 3], Bs.box 31 [Cs.sc kint, Cs.sl 4, Cs.sl 5], Bs.box 28 [Cs.sl 6], Bs.row kClue 63 true, Bs.row kint 3 true, Bs.row kint 3 true, Bs.row kClue 63 true] [(2, Ss.one (Cs.ptr 0 0)), (4, Ss.one (Cs.ptr 1 0)), (5, Ss.one (Cs.ptr 2 0)), (7, Ss.one (Cs.sc kint))] [Ss.one (Cs.any)])], fuel := 400, dr := evDr (env 60 [(107, S_s_l1Cur_one), (112, S_s_l1Cur_puzzle), (110, S_s_l1Cur_hidden), (111, S_s_l1Cur_pick), (16, S_s_MakePuzzle), (76, S_s_pzOf)] []) }
noncomputable def s_DrawHarderPuzzle_t1 (g1 : Int → List (Int × (Int × Int)) → List (Int) → List (Int) → List (Int × (Int × Int)) → Int → Option (List (Int × Int × Int))) (b1_0 : Int) (r3 : List (Int × (Int × Int))) (r4 : List (Int)) (r5 : List (Int)) (r6 : List (Int × (Int × Int))) (k7 : Int) : Option (List (Int × Int × Int)) :=
  bif decide (k7 < 3) then
    Option.bind (s_pzOf 2 k7 b1_0 r4 r5) fun r =>
      bif Nat.ble (List.length r6 + 1) 4294967296 then
        g1 b1_0 r3 r4 r5 (r6 ++ [(Prod.fst r, Prod.fst (Prod.snd r), Prod.snd (Prod.snd r))]) (IntKind.wrap IntKind.i64 (k7 + 1))
      else none
  else
    bif decide ((↑(List.length r5) : Int) > 0) then
      bif decide (0 < (↑(List.length r5) : Int)) then
        bif Nat.ble (List.length r6 + 1) 4294967296 then some (r6 ++ [(3, rdk kint r5 0, 1)]) else none
      else none
    else some r6
noncomputable def s_DrawHarderPuzzle_t0 (g1 : Int → List (Int × (Int × Int)) → List (Int) → List (Int) → List (Int × (Int × Int)) → Int → Option (List (Int × Int × Int))) (code0 : List Int) : Option (List (Int × Int × Int)) :=
  Option.bind (s_l1Cur_one code0 0 0 4) fun r =>
    bif Prod.fst r then
      Option.bind (s_l1Cur_puzzle (Prod.fst (Prod.snd r)) (Prod.fst (Prod.snd (Prod.snd r))) (Prod.snd (Prod.snd (Prod.snd r)))) fun r => some (Prod.fst r)
    else
      Option.bind (s_l1Cur_hidden (Prod.fst (Prod.snd r)) (Prod.fst (Prod.snd (Prod.snd r))) (Prod.snd (Prod.snd (Prod.snd r)))) fun r =>
        Option.bind (s_l1Cur_pick (Prod.fst (Prod.snd r)) (Prod.fst (Prod.snd (Prod.snd r))) (Prod.snd (Prod.snd (Prod.snd r))) 2) fun r_1 =>
          Option.bind (s_l1Cur_pick (Prod.fst (Prod.snd r_1)) (Prod.fst (Prod.snd (Prod.snd r_1))) (Prod.snd (Prod.snd (Prod.snd r_1))) 10000) fun r_2 =>
            Option.bind (s_MakePuzzle (Prod.fst (Prod.fst r)) (Prod.fst (Prod.snd (Prod.fst r))) (Prod.snd (Prod.snd (Prod.fst r))) (Prod.fst r_1) (Prod.fst r_2))
              fun r_3 =>
              bif Nat.ble (List.length (Prod.fst r_3) + 1) 4294967296 then
                g1 (Prod.fst (Prod.fst r)) [] (Prod.fst (Prod.snd (Prod.fst r))) (Prod.snd (Prod.snd (Prod.fst r)))
                  (Prod.fst r_3 ++ [(4, 0, Prod.fst (Prod.fst r))]) 0
              else none
theorem s_DrawHarderPuzzle_ts : Tails c_s_DrawHarderPuzzle.pts c_s_DrawHarderPuzzle.round :=
  ⟨fun s => by
    obtain ⟨⟨⟨_, _⟩, ⟨b1_0, _, _, _⟩, ⟨_, _⟩, r3, r4, r5, r6, _⟩, ⟨_, _, _, k7, _⟩, ⟨_, _⟩⟩ := s
    refine Tail.eq (Y := fun g => s_DrawHarderPuzzle_t1 (fun b1_0 r3 r4 r5 r6 k7 => g.1 ((((), ()), (b1_0, (), (), ()), ((), ()), r3, r4, r5, r6, ()), ((), (), (), k7, ()), ((), ()))) b1_0 r3 r4 r5 r6 k7) ?_ (fun g => by kernel_rfl)
    simp only [s_DrawHarderPuzzle_t1]; repeat (first | exact Tail.const _ | exact Tail.here _ | exact Tail.there (Tail.here _) | exact Tail.there (Tail.there (Tail.here _)) | exact Tail.there (Tail.there (Tail.there (Tail.here _))) | exact Tail.there (Tail.there (Tail.there (Tail.there (Tail.here _)))) | exact Tail.there (Tail.there (Tail.there (Tail.there (Tail.there (Tail.here _))))) | apply Tail.cond | (apply Tail.bind; intro _)), trivial⟩
theorem s_DrawHarderPuzzle_hs : ∀ x, Tail c_s_DrawHarderPuzzle.pts (fun g => c_s_DrawHarderPuzzle.start g x) := fun x => by
    obtain ⟨code0, _⟩ := x
    refine Tail.eq (Y := fun g => s_DrawHarderPuzzle_t0 (fun b1_0 r3 r4 r5 r6 k7 => g.1 ((((), ()), (b1_0, (), (), ()), ((), ()), r3, r4, r5, r6, ()), ((), (), (), k7, ()), ((), ()))) code0) ?_ (fun g => by kernel_rfl)
    simp only [s_DrawHarderPuzzle_t0]; repeat (first | exact Tail.const _ | exact Tail.here _ | exact Tail.there (Tail.here _) | exact Tail.there (Tail.there (Tail.here _)) | exact Tail.there (Tail.there (Tail.there (Tail.here _))) | exact Tail.there (Tail.there (Tail.there (Tail.there (Tail.here _)))) | exact Tail.there (Tail.there (Tail.there (Tail.there (Tail.there (Tail.here _))))) | apply Tail.cond | (apply Tail.bind; intro _))
noncomputable def s_DrawHarderPuzzle_L1 (b1_0 : Int) (r3 : List (Int × (Int × Int))) (r4 : List (Int)) (r5 : List (Int)) (r6 : List (Int × (Int × Int))) (k7 : Int) : Option (List (Int × Int × Int)) := c_s_DrawHarderPuzzle.L.1 ((((), ()), (b1_0, (), (), ()), ((), ()), r3, r4, r5, r6, ()), ((), (), (), k7, ()), ((), ()))
theorem s_DrawHarderPuzzle_u1 (b1_0 : Int) (r3 : List (Int × (Int × Int))) (r4 : List (Int)) (r5 : List (Int)) (r6 : List (Int × (Int × Int))) (k7 : Int) : s_DrawHarderPuzzle_L1 b1_0 r3 r4 r5 r6 k7 = s_DrawHarderPuzzle_t1 s_DrawHarderPuzzle_L1 b1_0 r3 r4 r5 r6 k7 :=
  (congrArg (fun g => g.1 ((((), ()), (b1_0, (), (), ()), ((), ()), r3, r4, r5, r6, ()), ((), (), (), k7, ()), ((), ()))) (FnCx.L_eq s_DrawHarderPuzzle_ts)).trans (by kernel_rfl)
noncomputable def s_DrawHarderPuzzle (code0 : List Int) : Option (List (Int × Int × Int)) := s_DrawHarderPuzzle_t0 s_DrawHarderPuzzle_L1 code0
theorem s_DrawHarderPuzzle_e (code0 : List Int) : c_s_DrawHarderPuzzle.start c_s_DrawHarderPuzzle.L (code0, ()) = s_DrawHarderPuzzle code0 := by kernel_rfl
noncomputable def F_s_DrawHarderPuzzle : Ins c_s_DrawHarderPuzzle.ins → Option (List (Int × Int × Int)) := fun x => s_DrawHarderPuzzle x.1
noncomputable def S_s_DrawHarderPuzzle : FSpec := mkF c_s_DrawHarderPuzzle.env.pre c_s_DrawHarderPuzzle.ins c_s_DrawHarderPuzzle.out c_s_DrawHarderPuzzle.inj F_s_DrawHarderPuzzle
theorem h_s_DrawHarderPuzzle : Cert Try.prog 67 S_s_DrawHarderPuzzle := FnCx.certF (c := c_s_DrawHarderPuzzle) F_s_DrawHarderPuzzle (tyOk _ _ _) (spOk ⟨h_s_l1Cur_one, fun _ _ _ => trivial, ⟨h_s_l1Cur_puzzle, fun _ _ _ => trivial, ⟨h_s_l1Cur_hidden, fun _ _ _ => trivial, ⟨h_s_l1Cur_pick, fun _ _ _ => trivial, ⟨h_s_MakePuzzle, fun _ _ _ => trivial, ⟨h_s_pzOf, fun _ _ _ => trivial, trivial⟩⟩⟩⟩⟩⟩) (fun _ _ _ _ _ hs => evDr_ok (tyOk _ _ _) hs follows) Try.func67 rfl rfl Try.ntmps67 (by kernel_rfl) rfl rfl (fun _ => rfl) s_DrawHarderPuzzle_ts s_DrawHarderPuzzle_hs (fun x t hb ht => by
  obtain ⟨code0, _⟩ := x
  exact (s_DrawHarderPuzzle_e code0).trans ht)
/-! spec.DrawAddClue -/
noncomputable def c_s_DrawAddClue : FnCx := { env := env 12 [(112, S_s_l1Cur_puzzle), (113, S_s_l1Cur_clue)] [], body := bodyOf Try.f68, res := [.cell 2 28, .cell 3 63], ins := [.ro kSuint8], out := [(kPuzzle, true), (kClue, true)], T := List (Int × Int × Int) × (Int × Int × Int), fin := fun r => (r.1.1, r.1.2.1), inj := fun t => ((t.1, t.2, ()), ((), ())), pts := [], fuel := 400, dr := noDr }
noncomputable def s_DrawAddClue (code0 : List Int) : Option (List (Int × Int × Int) × (Int × Int × Int)) :=
  Option.bind (s_l1Cur_puzzle code0 0 0) fun r =>
    Option.bind (s_l1Cur_clue (Prod.fst (Prod.snd r)) (Prod.fst (Prod.snd (Prod.snd r))) (Prod.snd (Prod.snd (Prod.snd r)))) fun r_1 =>
      some (Prod.fst r, Prod.fst (Prod.fst r_1), Prod.fst (Prod.snd (Prod.fst r_1)), Prod.snd (Prod.snd (Prod.fst r_1)))
theorem s_DrawAddClue_e (code0 : List Int) : c_s_DrawAddClue.start c_s_DrawAddClue.L (code0, ()) = s_DrawAddClue code0 := by kernel_rfl
noncomputable def F_s_DrawAddClue : Ins c_s_DrawAddClue.ins → Option (List (Int × Int × Int) × (Int × Int × Int)) := fun x => s_DrawAddClue x.1
noncomputable def S_s_DrawAddClue : FSpec := mkF c_s_DrawAddClue.env.pre c_s_DrawAddClue.ins c_s_DrawAddClue.out c_s_DrawAddClue.inj F_s_DrawAddClue
theorem h_s_DrawAddClue : Cert Try.prog 68 S_s_DrawAddClue := FnCx.certF (c := c_s_DrawAddClue) F_s_DrawAddClue (tyOk _ _ _) (spOk ⟨h_s_l1Cur_puzzle, fun _ _ _ => trivial, ⟨h_s_l1Cur_clue, fun _ _ _ => trivial, trivial⟩⟩) (fun _ _ _ _ _ hs => noDr_ok) Try.func68 rfl rfl Try.ntmps68 (by kernel_rfl) rfl rfl (fun _ => rfl) trivial (fun x => .inl ⟨c_s_DrawAddClue.start () x, fun _ => rfl⟩) (fun x t hb ht => by
  obtain ⟨code0, _⟩ := x
  exact (s_DrawAddClue_e code0).trans ht)
/-! spec.DrawDropClue -/
noncomputable def c_s_DrawDropClue : FnCx := { env := env 16 [(112, S_s_l1Cur_puzzle), (111, S_s_l1Cur_pick)] [], body := bodyOf Try.f69, res := [.cell 2 28, .tmp 3], ins := [.ro kSuint8], out := [(kPuzzle, true), (kint, true)], T := List (Int × Int × Int) × Int, fin := fun r => (r.1.1, r.1.2.1), inj := fun t => ((t.1, t.2, ()), ((), ())), pts := [], fuel := 400, dr := noDr }
noncomputable def s_DrawDropClue (code0 : List Int) : Option (List (Int × Int × Int) × Int) :=
  Option.bind (s_l1Cur_puzzle code0 0 0) fun r =>
    Option.bind (s_l1Cur_pick (Prod.fst (Prod.snd r)) (Prod.fst (Prod.snd (Prod.snd r))) (Prod.snd (Prod.snd (Prod.snd r))) 6) fun r_1 =>
      Option.bind (s_l1Cur_pick (Prod.fst (Prod.snd r_1)) (Prod.fst (Prod.snd (Prod.snd r_1))) (Prod.snd (Prod.snd (Prod.snd r_1))) 9) fun r_2 =>
        some (Prod.fst r, IntKind.wrap IntKind.i64 (Prod.fst r_1 - IntKind.wrap IntKind.i64 (Int.tdiv (Prod.fst r_2) 8)))
theorem s_DrawDropClue_e (code0 : List Int) : c_s_DrawDropClue.start c_s_DrawDropClue.L (code0, ()) = s_DrawDropClue code0 := by kernel_rfl
noncomputable def F_s_DrawDropClue : Ins c_s_DrawDropClue.ins → Option (List (Int × Int × Int) × Int) := fun x => s_DrawDropClue x.1
noncomputable def S_s_DrawDropClue : FSpec := mkF c_s_DrawDropClue.env.pre c_s_DrawDropClue.ins c_s_DrawDropClue.out c_s_DrawDropClue.inj F_s_DrawDropClue
theorem h_s_DrawDropClue : Cert Try.prog 69 S_s_DrawDropClue := FnCx.certF (c := c_s_DrawDropClue) F_s_DrawDropClue (tyOk _ _ _) (spOk ⟨h_s_l1Cur_puzzle, fun _ _ _ => trivial, ⟨h_s_l1Cur_pick, fun _ _ _ => trivial, trivial⟩⟩) (fun _ _ _ _ _ hs => noDr_ok) Try.func69 rfl rfl Try.ntmps69 (by kernel_rfl) rfl rfl (fun _ => rfl) trivial (fun x => .inl ⟨c_s_DrawDropClue.start () x, fun _ => rfl⟩) (fun x t hb ht => by
  obtain ⟨code0, _⟩ := x
  exact (s_DrawDropClue_e code0).trans ht)
/-! spec.DrawDoesFit -/
noncomputable def c_s_DrawDoesFit : FnCx := { env := env 37 [(110, S_s_l1Cur_hidden), (111, S_s_l1Cur_pick), (16, S_s_MakePuzzle), (107, S_s_l1Cur_one), (108, S_s_l1Cur_stairs), (113, S_s_l1Cur_clue)] [], body := bodyOf Try.f70, res := [.cell 2 63, .cell 3 31], ins := [.ro kSuint8], out := [(kClue, true), (kStairs, true)], T := (Int × Int × Int) × (Int × List Int × List Int), fin := fun r => (r.1.1, r.1.2.1), inj := fun t => ((t.1, t.2, ()), ((), ())), pts := [], fuel := 400, dr := evDr (env 37 [(110, S_s_l1Cur_hidden), (111, S_s_l1Cur_pick), (16, S_s_MakePuzzle), (107, S_s_l1Cur_one), (108, S_s_l1Cur_stairs), (113, S_s_l1Cur_clue)] []) }
noncomputable def s_DrawDoesFit (code0 : List Int) : Option ((Int × Int × Int) × (Int × List Int × List Int)) :=
  Option.bind (s_l1Cur_hidden code0 0 0) fun r =>
    Option.bind (s_l1Cur_pick (Prod.fst (Prod.snd r)) (Prod.fst (Prod.snd (Prod.snd r))) (Prod.snd (Prod.snd (Prod.snd r))) 10000) fun r_1 =>
      Option.bind (s_MakePuzzle (Prod.fst (Prod.fst r)) (Prod.fst (Prod.snd (Prod.fst r))) (Prod.snd (Prod.snd (Prod.fst r))) 1 (Prod.fst r_1)) fun r_2 =>
        bif Prod.snd r_2 then
          Option.bind (s_l1Cur_one (Prod.fst (Prod.snd r_1)) (Prod.fst (Prod.snd (Prod.snd r_1))) (Prod.snd (Prod.snd (Prod.snd r_1))) 3) fun r_3 =>
            bif Prod.fst r_3 then
              bif decide (0 < (↑(List.length (Prod.fst r_2)) : Int)) then
                some
                  ((Prod.fst (rdk kClue (Prod.fst r_2) 0),
                      Prod.fst (Prod.snd (rdk kClue (Prod.fst r_2) 0)),
                      Prod.snd (Prod.snd (rdk kClue (Prod.fst r_2) 0))),
                    Prod.fst (Prod.fst r), Prod.fst (Prod.snd (Prod.fst r)), Prod.snd (Prod.snd (Prod.fst r)))
              else none
            else
              Option.bind (s_l1Cur_one (Prod.fst (Prod.snd r_3)) (Prod.fst (Prod.snd (Prod.snd r_3))) (Prod.snd (Prod.snd (Prod.snd r_3))) 10) fun r_4 =>
                bif Prod.fst r_4 then
                  Option.bind (s_l1Cur_stairs (Prod.fst (Prod.snd r_4)) (Prod.fst (Prod.snd (Prod.snd r_4))) (Prod.snd (Prod.snd (Prod.snd r_4)))) fun r =>
                    Option.bind (s_l1Cur_clue (Prod.fst (Prod.snd r)) (Prod.fst (Prod.snd (Prod.snd r))) (Prod.snd (Prod.snd (Prod.snd r)))) fun r_5 =>
                      some
                        ((Prod.fst (Prod.fst r_5), Prod.fst (Prod.snd (Prod.fst r_5)), Prod.snd (Prod.snd (Prod.fst r_5))), Prod.fst (Prod.fst r),
                          Prod.fst (Prod.snd (Prod.fst r)), Prod.snd (Prod.snd (Prod.fst r)))
                else
                  Option.bind (s_l1Cur_clue (Prod.fst (Prod.snd r_4)) (Prod.fst (Prod.snd (Prod.snd r_4))) (Prod.snd (Prod.snd (Prod.snd r_4)))) fun r_5 =>
                    some
                      ((Prod.fst (Prod.fst r_5), Prod.fst (Prod.snd (Prod.fst r_5)), Prod.snd (Prod.snd (Prod.fst r_5))), Prod.fst (Prod.fst r),
                        Prod.fst (Prod.snd (Prod.fst r)), Prod.snd (Prod.snd (Prod.fst r)))
        else
          Option.bind (s_l1Cur_one (Prod.fst (Prod.snd r_1)) (Prod.fst (Prod.snd (Prod.snd r_1))) (Prod.snd (Prod.snd (Prod.snd r_1))) 10) fun r_3 =>
            bif Prod.fst r_3 then
              Option.bind (s_l1Cur_stairs (Prod.fst (Prod.snd r_3)) (Prod.fst (Prod.snd (Prod.snd r_3))) (Prod.snd (Prod.snd (Prod.snd r_3)))) fun r =>
                Option.bind (s_l1Cur_clue (Prod.fst (Prod.snd r)) (Prod.fst (Prod.snd (Prod.snd r))) (Prod.snd (Prod.snd (Prod.snd r)))) fun r_4 =>
                  some
                    ((Prod.fst (Prod.fst r_4), Prod.fst (Prod.snd (Prod.fst r_4)), Prod.snd (Prod.snd (Prod.fst r_4))), Prod.fst (Prod.fst r),
                      Prod.fst (Prod.snd (Prod.fst r)), Prod.snd (Prod.snd (Prod.fst r)))
            else
              Option.bind (s_l1Cur_clue (Prod.fst (Prod.snd r_3)) (Prod.fst (Prod.snd (Prod.snd r_3))) (Prod.snd (Prod.snd (Prod.snd r_3)))) fun r_4 =>
                some
                  ((Prod.fst (Prod.fst r_4), Prod.fst (Prod.snd (Prod.fst r_4)), Prod.snd (Prod.snd (Prod.fst r_4))), Prod.fst (Prod.fst r),
                    Prod.fst (Prod.snd (Prod.fst r)), Prod.snd (Prod.snd (Prod.fst r)))
theorem s_DrawDoesFit_e (code0 : List Int) : c_s_DrawDoesFit.start c_s_DrawDoesFit.L (code0, ()) = s_DrawDoesFit code0 := by kernel_rfl
noncomputable def F_s_DrawDoesFit : Ins c_s_DrawDoesFit.ins → Option ((Int × Int × Int) × (Int × List Int × List Int)) := fun x => s_DrawDoesFit x.1
noncomputable def S_s_DrawDoesFit : FSpec := mkF c_s_DrawDoesFit.env.pre c_s_DrawDoesFit.ins c_s_DrawDoesFit.out c_s_DrawDoesFit.inj F_s_DrawDoesFit
theorem h_s_DrawDoesFit : Cert Try.prog 70 S_s_DrawDoesFit := FnCx.certF (c := c_s_DrawDoesFit) F_s_DrawDoesFit (tyOk _ _ _) (spOk ⟨h_s_l1Cur_hidden, fun _ _ _ => trivial, ⟨h_s_l1Cur_pick, fun _ _ _ => trivial, ⟨h_s_MakePuzzle, fun _ _ _ => trivial, ⟨h_s_l1Cur_one, fun _ _ _ => trivial, ⟨h_s_l1Cur_stairs, fun _ _ _ => trivial, ⟨h_s_l1Cur_clue, fun _ _ _ => trivial, trivial⟩⟩⟩⟩⟩⟩) (fun _ _ _ _ _ hs => evDr_ok (tyOk _ _ _) hs follows) Try.func70 rfl rfl Try.ntmps70 (by kernel_rfl) rfl rfl (fun _ => rfl) trivial (fun x => .inl ⟨c_s_DrawDoesFit.start () x, fun _ => rfl⟩) (fun x t hb ht => by
  obtain ⟨code0, _⟩ := x
  exact (s_DrawDoesFit_e code0).trans ht)
/-! spec.DrawIsClue -/
noncomputable def c_s_DrawIsClue : FnCx := { env := env 24 [(107, S_s_l1Cur_one), (111, S_s_l1Cur_pick), (109, S_s_l1Cur_among), (113, S_s_l1Cur_clue)] [], body := bodyOf Try.f71, res := [.cell 2 63], ins := [.ro kSuint8], out := [(kClue, true)], T := (Int × Int × Int), fin := fun r => r.1.1, inj := fun t => ((t, ()), ((), ())), pts := [], fuel := 400, dr := noDr }
noncomputable def s_DrawIsClue (code0 : List Int) : Option (Int × Int × Int) :=
  Option.bind (s_l1Cur_one code0 0 0 3) fun r =>
    bif Prod.fst r then
      Option.bind (s_l1Cur_pick (Prod.fst (Prod.snd r)) (Prod.fst (Prod.snd (Prod.snd r))) (Prod.snd (Prod.snd (Prod.snd r))) 7) fun r =>
        Option.bind (s_l1Cur_pick (Prod.fst (Prod.snd r)) (Prod.fst (Prod.snd (Prod.snd r))) (Prod.snd (Prod.snd (Prod.snd r))) 9) fun r_1 =>
          Option.bind
            (s_l1Cur_among (Prod.fst (Prod.snd r_1)) (Prod.fst (Prod.snd (Prod.snd r_1))) (Prod.snd (Prod.snd (Prod.snd r_1)))
              [-1, 0, 0, 1, 3, 4, 7, 8, 4611686018427387904])
            fun r_2 =>
            Option.bind
              (s_l1Cur_among (Prod.fst (Prod.snd r_2)) (Prod.fst (Prod.snd (Prod.snd r_2))) (Prod.snd (Prod.snd (Prod.snd r_2)))
                [-1, 0, 1, 2, 60, 61, 4611686018427387904])
              fun r_3 => some (IntKind.wrap IntKind.i64 (Prod.fst r - IntKind.wrap IntKind.i64 (Int.tdiv (Prod.fst r_1) 8)), Prod.fst r_2, Prod.fst r_3)
    else
      Option.bind (s_l1Cur_clue (Prod.fst (Prod.snd r)) (Prod.fst (Prod.snd (Prod.snd r))) (Prod.snd (Prod.snd (Prod.snd r)))) fun r =>
        some (Prod.fst (Prod.fst r), Prod.fst (Prod.snd (Prod.fst r)), Prod.snd (Prod.snd (Prod.fst r)))
theorem s_DrawIsClue_e (code0 : List Int) : c_s_DrawIsClue.start c_s_DrawIsClue.L (code0, ()) = s_DrawIsClue code0 := by kernel_rfl
noncomputable def F_s_DrawIsClue : Ins c_s_DrawIsClue.ins → Option (Int × Int × Int) := fun x => s_DrawIsClue x.1
noncomputable def S_s_DrawIsClue : FSpec := mkF c_s_DrawIsClue.env.pre c_s_DrawIsClue.ins c_s_DrawIsClue.out c_s_DrawIsClue.inj F_s_DrawIsClue
theorem h_s_DrawIsClue : Cert Try.prog 71 S_s_DrawIsClue := FnCx.certF (c := c_s_DrawIsClue) F_s_DrawIsClue (tyOk _ _ _) (spOk ⟨h_s_l1Cur_one, fun _ _ _ => trivial, ⟨h_s_l1Cur_pick, fun _ _ _ => trivial, ⟨h_s_l1Cur_among, fun _ _ _ => trivial, ⟨h_s_l1Cur_clue, fun _ _ _ => trivial, trivial⟩⟩⟩⟩) (fun _ _ _ _ _ hs => noDr_ok) Try.func71 rfl rfl Try.ntmps71 (by kernel_rfl) rfl rfl (fun _ => rfl) trivial (fun x => .inl ⟨c_s_DrawIsClue.start () x, fun _ => rfl⟩) (fun x t hb ht => by
  obtain ⟨code0, _⟩ := x
  exact (s_DrawIsClue_e code0).trans ht)
/-! laws.FnStairsHidden -/
noncomputable def c_w_FnStairsHidden : FnCx := { env := env 451 [(65, S_w_big), (66, S_s_DrawMakePuzzle), (18, S_i_MakePuzzle), (16, S_s_MakePuzzle), (51, S_w_wPuzzle), (52, S_i_CountClimbs), (53, S_i_DoesFit), (54, S_i_FewestStrides), (55, S_i_MostStrides), (56, S_i_IsPuzzle), (67, S_s_DrawHarderPuzzle), (50, S_i_HarderPuzzle), (49, S_s_HarderPuzzle), (29, S_i_IsSolved), (45, S_i_Solutions), (43, S_i_NeedlessClues), (57, S_w_wLists), (68, S_s_DrawAddClue), (58, S_i_AddClue), (59, S_s_AddClue), (69, S_s_DrawDropClue), (60, S_i_DropClue), (61, S_s_DropClue), (70, S_s_DrawDoesFit), (62, S_s_DoesFit), (71, S_s_DrawIsClue), (63, S_i_IsClue), (64, S_s_IsClue)] [], body := bodyOf Try.f14, res := [.tmp 4], ins := [.ro kSuint8, .ro kSuint8], out := [(kbool, true)], T := Bool, fin := fun r => r.1.1, inj := fun t => ((t, ()), ((), (), ())), pts := [([.code [1, 1, 1, 1, 1, 1, 1]], Shape.mk [Bs.row kuint8 5 false] [(1, Ss.one (Cs.sl 0))] [Ss.one (Cs.any), Ss.one (Cs.any)]), ([.code [1, 1, 1, 1, 1, 1, 1, 1, 1, 1, 1, 1]], Shape.mk [Bs.row kuint8 5 false, Bs.box 28 [Cs.sl 3], Bs.box 28 [Cs.sl 4], Bs.row kClue 63 true, Bs.row kClue 63 true] [(1, Ss.one (Cs.sl 0)), (30, Ss.one (Cs.ptr 1 0)), (31, Ss.one (Cs.ptr 2 0)), (32, Ss.one (Cs.sc kbool))] [Ss.one (Cs.any), Ss.one (Cs.any)]), ([.code [1, 1, 1, 1, 1, 1, 1, 1, 1, 1, 1, 1, 1]], Shape.mk [Bs.row kuint8 5 false] [(1, Ss.one (Cs.sl 0))] [Ss.one (Cs.any), Ss.one (Cs.any)]), ([.code [1, 1, 1, 1, 1, 1, 1, 1, 1, 1, 1, 1, 1, 1, 1, 1, 1, 1, 1, 1, 1, 1, 1, 1]], Shape.mk [Bs.box 28 [Cs.sl 5], Bs.box 63 [Cs.sc kint, Cs.sc kint, Cs.sc kint], Bs.box 28 [Cs.sl 6], Bs.box 28 [Cs.sl 7], Bs.box 28 [Cs.sl 8], Bs.row kClue 63 true, Bs.row kClue 63 true, Bs.row kClue 63 true, Bs.row kClue 63 true] [(43, Ss.one (Cs.ptr 0 0)), (44, Ss.one (Cs.ptr 1 0)), (45, Ss.one (Cs.ptr 2 0)), (46, Ss.one (Cs.sc kbool)), (49, Ss.one (Cs.ptr 3 0)), (50, Ss.one (Cs.sc kint)), (51, Ss.one (Cs.ptr 4 0)), (52, Ss.one (Cs.sc kbool))] [Ss.one (Cs.any), Ss.one (Cs.any)]), ([.code [1, 1, 1, 1, 1, 1, 1, 1, 1, 1, 1, 1, 1, 1, 1, 1, 1, 1, 1, 1, 1, 1, 1, 1, 1]], Shape.mk [Bs.box 28 [Cs.sl 2], Bs.box 28 [Cs.sl 3], Bs.row kClue 63 true, Bs.row kClue 63 true] [(49, Ss.one (Cs.ptr 0 0)), (50, Ss.one (Cs.sc kint)), (51, Ss.one (Cs.ptr 1 0)), (52, Ss.one (Cs.sc kbool))] [Ss.one (Cs.any), Ss.one (Cs.any)]), ([.code [1, 1, 1, 1, 1, 1, 1, 1, 1, 1, 1, 1, 1, 1, 1, 1, 1, 1, 1, 1, 1, 1, 1, 1, 1, 1]], Shape.mk [] [] [Ss.one (Cs.any), Ss.one (Cs.any)]), ([.inLoop [1, 1, 1, 1, 1, 1, 0, 1, 0, 1, 1, 1, 1, 1, 1, 1, 1, 1, 0, 0], .inBlock 0, .code [1, 1, 1, 1, 1, 1, 1]], Shape.mk [Bs.row kuint8 5 false, Bs.box 31 [Cs.sc kint, Cs.sl 3, Cs.sl 4], Bs.row kClue 63 true, Bs.row kint 3 true, Bs.row kint 3 true] [(1, Ss.one (Cs.sl 0)), (5, Ss.one (Cs.ptr 1 0)), (201, Ss.one (Cs.sl 2)), (202, Ss.one (Cs.sc kint)), (203, Ss.one (Cs.sc kint))] [Ss.one (Cs.any), Ss.one (Cs.any)])], fuel := 400, dr := evDr (env 451 [(65, S_w_big), (66, S_s_DrawMakePuzzle), (18, S_i_MakePuzzle), (16, S_s_MakePuzzle), (51, S_w_wPuzzle), (52, S_i_CountClimbs), (53, S_i_DoesFit), (54, S_i_FewestStrides), (55, S_i_MostStrides), (56, S_i_IsPuzzle), (67, S_s_DrawHarderPuzzle), (50, S_i_HarderPuzzle), (49, S_s_HarderPuzzle), (29, S_i_IsSolved), (45, S_i_Solutions), (43, S_i_NeedlessClues), (57, S_w_wLists), (68, S_s_DrawAddClue), (58, S_i_AddClue), (59, S_s_AddClue), (69, S_s_DrawDropClue), (60, S_i_DropClue), (61, S_s_DropClue), (70, S_s_DrawDoesFit), (62, S_s_DoesFit), (71, S_s_DrawIsClue), (63, S_i_IsClue), (64, S_s_IsClue)] []) }
noncomputable def w_FnStairsHidden_t1 (g1 : List (Int) → Option (Bool)) (g2 : List (Int) → List (Int × (Int × Int)) → List (Int × (Int × Int)) → Bool → Option (Bool)) (g3 : List (Int) → Option (Bool)) (g4 : Int → Int → Int → List (Int × (Int × Int)) → List (Int × (Int × Int)) → List (Int × (Int × Int)) → List (Int × (Int × Int)) → Bool → Int → Bool → Option (Bool)) (g5 : List (Int × (Int × Int)) → List (Int × (Int × Int)) → Int → Bool → Option (Bool)) (g6 : Option (Bool)) (g7 : List (Int) → Int → List (Int × (Int × Int)) → List (Int) → List (Int) → Int → Int → Option (Bool)) (r0 : List (Int)) : Option Bool :=
  Option.bind (s_DrawHarderPuzzle r0) fun r =>
    Option.bind (i_HarderPuzzle r) fun r_1 =>
      Option.bind (s_HarderPuzzle r) fun r_2 =>
        Option.bind (i_IsSolved r) fun r_3 =>
          bif !Prod.snd r_1 == Prod.snd r_2 then some false
          else
            Option.bind (w_wPuzzle (Prod.fst r_1) (Prod.fst r_2)) fun r_4 =>
              bif !r_4 then some false
              else
                bif Prod.snd r_3 then bif !Prod.snd r_1 == Prod.fst r_3 then some false else g2 r0 r (Prod.fst r_1) (Prod.snd r_1)
                else bif !Prod.snd r_1 == false then some false else g2 r0 r (Prod.fst r_1) (Prod.snd r_1)
noncomputable def w_FnStairsHidden_t2 (g1 : List (Int) → Option (Bool)) (g2 : List (Int) → List (Int × (Int × Int)) → List (Int × (Int × Int)) → Bool → Option (Bool)) (g3 : List (Int) → Option (Bool)) (g4 : Int → Int → Int → List (Int × (Int × Int)) → List (Int × (Int × Int)) → List (Int × (Int × Int)) → List (Int × (Int × Int)) → Bool → Int → Bool → Option (Bool)) (g5 : List (Int × (Int × Int)) → List (Int × (Int × Int)) → Int → Bool → Option (Bool)) (g6 : Option (Bool)) (g7 : List (Int) → Int → List (Int × (Int × Int)) → List (Int) → List (Int) → Int → Int → Option (Bool)) (r0 : List (Int)) (r3 : List (Int × (Int × Int))) (r4 : List (Int × (Int × Int))) (one32 : Bool) : Option Bool :=
  bif one32 then
    Option.bind (i_Solutions r3) fun r =>
      Option.bind (i_Solutions r4) fun r_1 =>
        Option.bind (i_NeedlessClues r4) fun r_2 =>
          bif !Prod.snd r then some false
          else
            bif !Prod.snd r_1 then some false
            else
              Option.bind (w_wLists (Prod.fst r) (Prod.fst r_1)) fun r =>
                bif !r then some false
                else
                  bif !Prod.snd r_2 then some false
                  else
                    bif (↑(List.length (Prod.fst r_2)) : Int) != 0 then some false
                    else bif decide ((↑(List.length r4) : Int) > (↑(List.length r3) : Int)) then some false else g3 r0
  else g3 r0
noncomputable def w_FnStairsHidden_t3 (g1 : List (Int) → Option (Bool)) (g2 : List (Int) → List (Int × (Int × Int)) → List (Int × (Int × Int)) → Bool → Option (Bool)) (g3 : List (Int) → Option (Bool)) (g4 : Int → Int → Int → List (Int × (Int × Int)) → List (Int × (Int × Int)) → List (Int × (Int × Int)) → List (Int × (Int × Int)) → Bool → Int → Bool → Option (Bool)) (g5 : List (Int × (Int × Int)) → List (Int × (Int × Int)) → Int → Bool → Option (Bool)) (g6 : Option (Bool)) (g7 : List (Int) → Int → List (Int × (Int × Int)) → List (Int) → List (Int) → Int → Int → Option (Bool)) (r0 : List (Int)) : Option Bool :=
  Option.bind (s_DrawAddClue r0) fun r =>
    Option.bind (s_DrawDropClue r0) fun r_1 =>
      Option.bind (s_DrawDoesFit r0) fun r_2 =>
        Option.bind
          (i_DoesFit (Prod.fst (Prod.fst r_2)) (Prod.fst (Prod.snd (Prod.fst r_2))) (Prod.snd (Prod.snd (Prod.fst r_2))) (Prod.fst (Prod.snd r_2))
            (Prod.fst (Prod.snd (Prod.snd r_2))) (Prod.snd (Prod.snd (Prod.snd r_2))))
          fun r_3 =>
          Option.bind
            (s_DoesFit (Prod.fst (Prod.fst r_2)) (Prod.fst (Prod.snd (Prod.fst r_2))) (Prod.snd (Prod.snd (Prod.fst r_2))) (Prod.fst (Prod.snd r_2))
              (Prod.fst (Prod.snd (Prod.snd r_2))) (Prod.snd (Prod.snd (Prod.snd r_2))))
            fun r_4 =>
            Option.bind (s_DrawIsClue r0) fun r_5 =>
              bif
                  !Prod.snd (i_AddClue_n (Prod.fst r) (Prod.fst (Prod.snd r)) (Prod.fst (Prod.snd (Prod.snd r))) (Prod.snd (Prod.snd (Prod.snd r)))) ==
                      Prod.snd (s_AddClue_n (Prod.fst r) (Prod.fst (Prod.snd r)) (Prod.fst (Prod.snd (Prod.snd r))) (Prod.snd (Prod.snd (Prod.snd r)))) then
                some false
              else
                Option.bind
                  (w_wPuzzle (Prod.fst (i_AddClue_n (Prod.fst r) (Prod.fst (Prod.snd r)) (Prod.fst (Prod.snd (Prod.snd r))) (Prod.snd (Prod.snd (Prod.snd r)))))
                    (Prod.fst (s_AddClue_n (Prod.fst r) (Prod.fst (Prod.snd r)) (Prod.fst (Prod.snd (Prod.snd r))) (Prod.snd (Prod.snd (Prod.snd r))))))
                  fun r_6 =>
                  bif !r_6 then some false
                  else
                    bif !Prod.snd (i_DropClue_n (Prod.fst r_1) (Prod.snd r_1)) == Prod.snd (s_DropClue_n (Prod.fst r_1) (Prod.snd r_1)) then some false
                    else
                      Option.bind (w_wPuzzle (Prod.fst (i_DropClue_n (Prod.fst r_1) (Prod.snd r_1))) (Prod.fst (s_DropClue_n (Prod.fst r_1) (Prod.snd r_1))))
                        fun r_7 =>
                        bif !r_7 then some false
                        else
                          bif !Prod.snd r_3 == Prod.snd r_4 then some false
                          else
                            bif !Prod.fst r_3 == Prod.fst r_4 then some false
                            else
                              bif
                                  !i_IsClue (Prod.fst r_5) (Prod.fst (Prod.snd r_5)) (Prod.snd (Prod.snd r_5)) ==
                                      s_IsClue (Prod.fst r_5) (Prod.fst (Prod.snd r_5)) (Prod.snd (Prod.snd r_5)) then
                                some false
                              else
                                bif Prod.snd r_3 then
                                  bif !i_IsClue (Prod.fst (Prod.fst r_2)) (Prod.fst (Prod.snd (Prod.fst r_2))) (Prod.snd (Prod.snd (Prod.fst r_2))) then
                                    some false
                                  else
                                    g4 (Prod.fst (Prod.snd r)) (Prod.fst (Prod.snd (Prod.snd r))) (Prod.snd (Prod.snd (Prod.snd r))) (Prod.fst r)
                                      (Prod.fst
                                        (i_AddClue_n (Prod.fst r) (Prod.fst (Prod.snd r)) (Prod.fst (Prod.snd (Prod.snd r))) (Prod.snd (Prod.snd (Prod.snd r)))))
                                      (Prod.fst r_1) (Prod.fst (i_DropClue_n (Prod.fst r_1) (Prod.snd r_1)))
                                      (Prod.snd
                                        (i_AddClue_n (Prod.fst r) (Prod.fst (Prod.snd r)) (Prod.fst (Prod.snd (Prod.snd r))) (Prod.snd (Prod.snd (Prod.snd r)))))
                                      (Prod.snd r_1) (Prod.snd (i_DropClue_n (Prod.fst r_1) (Prod.snd r_1)))
                                else
                                  g4 (Prod.fst (Prod.snd r)) (Prod.fst (Prod.snd (Prod.snd r))) (Prod.snd (Prod.snd (Prod.snd r))) (Prod.fst r)
                                    (Prod.fst
                                      (i_AddClue_n (Prod.fst r) (Prod.fst (Prod.snd r)) (Prod.fst (Prod.snd (Prod.snd r))) (Prod.snd (Prod.snd (Prod.snd r)))))
                                    (Prod.fst r_1) (Prod.fst (i_DropClue_n (Prod.fst r_1) (Prod.snd r_1)))
                                    (Prod.snd
                                      (i_AddClue_n (Prod.fst r) (Prod.fst (Prod.snd r)) (Prod.fst (Prod.snd (Prod.snd r))) (Prod.snd (Prod.snd (Prod.snd r)))))
                                    (Prod.snd r_1) (Prod.snd (i_DropClue_n (Prod.fst r_1) (Prod.snd r_1)))
noncomputable def w_FnStairsHidden_t4 (g1 : List (Int) → Option (Bool)) (g2 : List (Int) → List (Int × (Int × Int)) → List (Int × (Int × Int)) → Bool → Option (Bool)) (g3 : List (Int) → Option (Bool)) (g4 : Int → Int → Int → List (Int × (Int × Int)) → List (Int × (Int × Int)) → List (Int × (Int × Int)) → List (Int × (Int × Int)) → Bool → Int → Bool → Option (Bool)) (g5 : List (Int × (Int × Int)) → List (Int × (Int × Int)) → Int → Bool → Option (Bool)) (g6 : Option (Bool)) (g7 : List (Int) → Int → List (Int × (Int × Int)) → List (Int) → List (Int) → Int → Int → Option (Bool)) (b1_0 : Int) (b1_1 : Int) (b1_2 : Int) (r5 : List (Int × (Int × Int))) (r6 : List (Int × (Int × Int))) (r7 : List (Int × (Int × Int))) (r8 : List (Int × (Int × Int))) (four46 : Bool) (k50 : Int) (six52 : Bool) : Option Bool :=
  bif four46 then
    bif !Prod.snd (i_DropClue_n r6 (↑(List.length r5) : Int)) then some false
    else
      Option.bind (w_wPuzzle (Prod.fst (i_DropClue_n r6 (↑(List.length r5) : Int))) r5) fun r =>
        bif !r then some false
        else
          bif decide ((↑(List.length r5) : Int) < (↑(List.length r6) : Int)) then
            bif
                !(Prod.fst (rdk kClue r6 (↑(List.length r5) : Int)) ==
                      b1_0 &&
                    (Prod.fst
                          (Prod.snd
                            (rdk kClue r6 (↑(List.length r5) : Int))) ==
                        b1_1 &&
                      Prod.snd
                          (Prod.snd
                            (rdk kClue r6 (↑(List.length r5) : Int))) ==
                        b1_2)) then
              some false
            else g5 r7 r8 k50 six52
          else none
  else g5 r7 r8 k50 six52
noncomputable def w_FnStairsHidden_t5 (g1 : List (Int) → Option (Bool)) (g2 : List (Int) → List (Int × (Int × Int)) → List (Int × (Int × Int)) → Bool → Option (Bool)) (g3 : List (Int) → Option (Bool)) (g4 : Int → Int → Int → List (Int × (Int × Int)) → List (Int × (Int × Int)) → List (Int × (Int × Int)) → List (Int × (Int × Int)) → Bool → Int → Bool → Option (Bool)) (g5 : List (Int × (Int × Int)) → List (Int × (Int × Int)) → Int → Bool → Option (Bool)) (g6 : Option (Bool)) (g7 : List (Int) → Int → List (Int × (Int × Int)) → List (Int) → List (Int) → Int → Int → Option (Bool)) (r2 : List (Int × (Int × Int))) (r3 : List (Int × (Int × Int))) (k50 : Int) (six52 : Bool) : Option Bool :=
  bif six52 then
    bif k50 == IntKind.wrap IntKind.i64 ((↑(List.length r2) : Int) - 1) then
      bif decide (0 ≤ k50) then
        bif decide (k50 < (↑(List.length r2) : Int)) then
          bif
              Prod.snd
                (i_AddClue_n r3 (Prod.fst (rdk kClue r2 k50))
                  (Prod.fst (Prod.snd (rdk kClue r2 k50)))
                  (Prod.snd (Prod.snd (rdk kClue r2 k50)))) then
            Option.bind
              (w_wPuzzle
                (Prod.fst
                  (i_AddClue_n r3 (Prod.fst (rdk kClue r2 k50))
                    (Prod.fst (Prod.snd (rdk kClue r2 k50)))
                    (Prod.snd (Prod.snd (rdk kClue r2 k50)))))
                r2)
              fun r => some r
          else some false
        else none
      else none
    else g6
  else g6
noncomputable def w_FnStairsHidden_t6 (g1 : List (Int) → Option (Bool)) (g2 : List (Int) → List (Int × (Int × Int)) → List (Int × (Int × Int)) → Bool → Option (Bool)) (g3 : List (Int) → Option (Bool)) (g4 : Int → Int → Int → List (Int × (Int × Int)) → List (Int × (Int × Int)) → List (Int × (Int × Int)) → List (Int × (Int × Int)) → Bool → Int → Bool → Option (Bool)) (g5 : List (Int × (Int × Int)) → List (Int × (Int × Int)) → Int → Bool → Option (Bool)) (g6 : Option (Bool)) (g7 : List (Int) → Int → List (Int × (Int × Int)) → List (Int) → List (Int) → Int → Int → Option (Bool))  : Option Bool :=
  some true
noncomputable def w_FnStairsHidden_t7 (g1 : List (Int) → Option (Bool)) (g2 : List (Int) → List (Int × (Int × Int)) → List (Int × (Int × Int)) → Bool → Option (Bool)) (g3 : List (Int) → Option (Bool)) (g4 : Int → Int → Int → List (Int × (Int × Int)) → List (Int × (Int × Int)) → List (Int × (Int × Int)) → List (Int × (Int × Int)) → Bool → Int → Bool → Option (Bool)) (g5 : List (Int × (Int × Int)) → List (Int × (Int × Int)) → Int → Bool → Option (Bool)) (g6 : Option (Bool)) (g7 : List (Int) → Int → List (Int × (Int × Int)) → List (Int) → List (Int) → Int → Int → Option (Bool)) (r0 : List (Int)) (b1_0 : Int) (r2 : List (Int × (Int × Int))) (r3 : List (Int)) (r4 : List (Int)) (s202 : Int) (s203 : Int) : Option Bool :=
  bif decide (s203 < s202) then
    bif decide (0 ≤ s203) then
      bif decide (s203 < (↑(List.length r2) : Int)) then
        Option.bind
          (i_DoesFit (Prod.fst (rdk kClue r2 s203))
            (Prod.fst (Prod.snd (rdk kClue r2 s203)))
            (Prod.snd (Prod.snd (rdk kClue r2 s203))) b1_0 r3 r4)
          fun r => bif !Prod.snd r then some false else bif !Prod.fst r then some false else g7 r0 b1_0 r2 r3 r4 s202 (IntKind.wrap IntKind.i64 (s203 + 1))
      else none
    else none
  else g1 r0
noncomputable def w_FnStairsHidden_t0 (g1 : List (Int) → Option (Bool)) (g2 : List (Int) → List (Int × (Int × Int)) → List (Int × (Int × Int)) → Bool → Option (Bool)) (g3 : List (Int) → Option (Bool)) (g4 : Int → Int → Int → List (Int × (Int × Int)) → List (Int × (Int × Int)) → List (Int × (Int × Int)) → List (Int × (Int × Int)) → Bool → Int → Bool → Option (Bool)) (g5 : List (Int × (Int × Int)) → List (Int × (Int × Int)) → Int → Bool → Option (Bool)) (g6 : Option (Bool)) (g7 : List (Int) → Int → List (Int × (Int × Int)) → List (Int) → List (Int) → Int → Int → Option (Bool)) (code0 : List Int) (more1 : List Int) : Option Bool :=
  bif w_big code0 more1 then some true
  else
    Option.bind (s_DrawMakePuzzle code0) fun r =>
      Option.bind
        (i_MakePuzzle (Prod.fst (Prod.fst r)) (Prod.fst (Prod.snd (Prod.fst r))) (Prod.snd (Prod.snd (Prod.fst r))) (Prod.fst (Prod.snd r))
          (Prod.snd (Prod.snd r)))
        fun r_1 =>
        Option.bind
          (s_MakePuzzle (Prod.fst (Prod.fst r)) (Prod.fst (Prod.snd (Prod.fst r))) (Prod.snd (Prod.snd (Prod.fst r))) (Prod.fst (Prod.snd r))
            (Prod.snd (Prod.snd r)))
          fun r_2 =>
          bif !Prod.snd r_1 == Prod.snd r_2 then some false
          else
            Option.bind (w_wPuzzle (Prod.fst r_1) (Prod.fst r_2)) fun r_3 =>
              bif !r_3 then some false
              else
                bif Prod.snd r_1 then
                  Option.bind (i_CountClimbs (Prod.fst (Prod.fst r)) (Prod.fst (Prod.snd (Prod.fst r))) (Prod.snd (Prod.snd (Prod.fst r)))) fun r_4 =>
                    Option.bind (i_DoesFit 0 0 (Prod.fst r_4) (Prod.fst (Prod.fst r)) (Prod.fst (Prod.snd (Prod.fst r))) (Prod.snd (Prod.snd (Prod.fst r))))
                      fun r_5 =>
                      Option.bind (i_FewestStrides (Prod.fst (Prod.fst r)) (Prod.fst (Prod.snd (Prod.fst r))) (Prod.snd (Prod.snd (Prod.fst r)))) fun r_6 =>
                        Option.bind (i_DoesFit 1 0 (Prod.fst r_6) (Prod.fst (Prod.fst r)) (Prod.fst (Prod.snd (Prod.fst r))) (Prod.snd (Prod.snd (Prod.fst r))))
                          fun r_7 =>
                          Option.bind (i_MostStrides (Prod.fst (Prod.fst r)) (Prod.fst (Prod.snd (Prod.fst r))) (Prod.snd (Prod.snd (Prod.fst r)))) fun r_8 =>
                            Option.bind
                              (i_DoesFit 5 0 (Prod.fst r_8) (Prod.fst (Prod.fst r)) (Prod.fst (Prod.snd (Prod.fst r))) (Prod.snd (Prod.snd (Prod.fst r))))
                              fun r_9 =>
                              Option.bind
                                (i_DoesFit 4 0 (Prod.fst (Prod.fst r)) (Prod.fst (Prod.fst r)) (Prod.fst (Prod.snd (Prod.fst r)))
                                  (Prod.snd (Prod.snd (Prod.fst r))))
                                fun r_10 =>
                                bif !i_IsPuzzle (Prod.fst r_1) then some false
                                else
                                  bif (↑(List.length (Prod.fst r_1)) : Int) != Prod.fst (Prod.snd r) then some false
                                  else
                                    bif !Prod.snd r_4 then some false
                                    else
                                      bif !Prod.snd r_5 then some false
                                      else
                                        bif !Prod.fst r_5 then some false
                                        else
                                          bif !Prod.snd r_6 == Prod.snd r_8 then some false
                                          else
                                            bif !Prod.snd r_6 == decide (Prod.fst r_4 > 0) then some false
                                            else
                                              bif !Prod.snd r_7 then some false
                                              else
                                                bif !Prod.fst r_7 then some false
                                                else
                                                  bif !Prod.snd r_9 then some false
                                                  else
                                                    bif !Prod.fst r_9 then some false
                                                    else
                                                      bif !Prod.snd r_10 then some false
                                                      else
                                                        bif !Prod.fst r_10 then some false
                                                        else
                                                          g7 more1 (Prod.fst (Prod.fst r)) (Prod.fst r_1) (Prod.fst (Prod.snd (Prod.fst r)))
                                                            (Prod.snd (Prod.snd (Prod.fst r))) (↑(List.length (Prod.fst r_1)) : Int) 0
                else g1 more1
theorem w_FnStairsHidden_ts : Tails c_w_FnStairsHidden.pts c_w_FnStairsHidden.round :=
  ⟨fun s => by
    obtain ⟨⟨r0, _⟩, ⟨_, _⟩, ⟨_, _, _⟩⟩ := s
    refine Tail.eq (Y := fun g => w_FnStairsHidden_t1 (fun r0 => g.1 ((r0, ()), ((), ()), ((), (), ()))) (fun r0 r3 r4 one32 => g.2.1 ((r0, ((), ()), ((), ()), r3, r4, ()), ((), (), (), one32, ()), ((), (), ()))) (fun r0 => g.2.2.1 ((r0, ()), ((), ()), ((), (), ()))) (fun b1_0 b1_1 b1_2 r5 r6 r7 r8 four46 k50 six52 => g.2.2.2.1 ((((), ()), (b1_0, b1_1, b1_2, ()), ((), ()), ((), ()), ((), ()), r5, r6, r7, r8, ()), ((), (), (), four46, (), k50, (), six52, ()), ((), (), ()))) (fun r2 r3 k50 six52 => g.2.2.2.2.1 ((((), ()), ((), ()), r2, r3, ()), ((), k50, (), six52, ()), ((), (), ()))) (g.2.2.2.2.2.1 ((), (), ((), (), ()))) (fun r0 b1_0 r2 r3 r4 s202 s203 => g.2.2.2.2.2.2.1 ((r0, (b1_0, (), (), ()), r2, r3, r4, ()), ((), (), (), s202, s203, ()), ((), (), ()))) r0) ?_ (fun g => by kernel_rfl)
    simp only [w_FnStairsHidden_t1]; repeat (first | exact Tail.const _ | exact Tail.here _ | exact Tail.there (Tail.here _) | exact Tail.there (Tail.there (Tail.here _)) | exact Tail.there (Tail.there (Tail.there (Tail.here _))) | exact Tail.there (Tail.there (Tail.there (Tail.there (Tail.here _)))) | exact Tail.there (Tail.there (Tail.there (Tail.there (Tail.there (Tail.here _))))) | exact Tail.there (Tail.there (Tail.there (Tail.there (Tail.there (Tail.there (Tail.here _)))))) | apply Tail.cond | (apply Tail.bind; intro _)),
  fun s => by
    obtain ⟨⟨r0, ⟨_, _⟩, ⟨_, _⟩, r3, r4, _⟩, ⟨_, _, _, one32, _⟩, ⟨_, _, _⟩⟩ := s
    refine Tail.eq (Y := fun g => w_FnStairsHidden_t2 (fun r0 => g.1 ((r0, ()), ((), ()), ((), (), ()))) (fun r0 r3 r4 one32 => g.2.1 ((r0, ((), ()), ((), ()), r3, r4, ()), ((), (), (), one32, ()), ((), (), ()))) (fun r0 => g.2.2.1 ((r0, ()), ((), ()), ((), (), ()))) (fun b1_0 b1_1 b1_2 r5 r6 r7 r8 four46 k50 six52 => g.2.2.2.1 ((((), ()), (b1_0, b1_1, b1_2, ()), ((), ()), ((), ()), ((), ()), r5, r6, r7, r8, ()), ((), (), (), four46, (), k50, (), six52, ()), ((), (), ()))) (fun r2 r3 k50 six52 => g.2.2.2.2.1 ((((), ()), ((), ()), r2, r3, ()), ((), k50, (), six52, ()), ((), (), ()))) (g.2.2.2.2.2.1 ((), (), ((), (), ()))) (fun r0 b1_0 r2 r3 r4 s202 s203 => g.2.2.2.2.2.2.1 ((r0, (b1_0, (), (), ()), r2, r3, r4, ()), ((), (), (), s202, s203, ()), ((), (), ()))) r0 r3 r4 one32) ?_ (fun g => by kernel_rfl)
    simp only [w_FnStairsHidden_t2]; repeat (first | exact Tail.const _ | exact Tail.here _ | exact Tail.there (Tail.here _) | exact Tail.there (Tail.there (Tail.here _)) | exact Tail.there (Tail.there (Tail.there (Tail.here _))) | exact Tail.there (Tail.there (Tail.there (Tail.there (Tail.here _)))) | exact Tail.there (Tail.there (Tail.there (Tail.there (Tail.there (Tail.here _))))) | exact Tail.there (Tail.there (Tail.there (Tail.there (Tail.there (Tail.there (Tail.here _)))))) | apply Tail.cond | (apply Tail.bind; intro _)),
  fun s => by
    obtain ⟨⟨r0, _⟩, ⟨_, _⟩, ⟨_, _, _⟩⟩ := s
    refine Tail.eq (Y := fun g => w_FnStairsHidden_t3 (fun r0 => g.1 ((r0, ()), ((), ()), ((), (), ()))) (fun r0 r3 r4 one32 => g.2.1 ((r0, ((), ()), ((), ()), r3, r4, ()), ((), (), (), one32, ()), ((), (), ()))) (fun r0 => g.2.2.1 ((r0, ()), ((), ()), ((), (), ()))) (fun b1_0 b1_1 b1_2 r5 r6 r7 r8 four46 k50 six52 => g.2.2.2.1 ((((), ()), (b1_0, b1_1, b1_2, ()), ((), ()), ((), ()), ((), ()), r5, r6, r7, r8, ()), ((), (), (), four46, (), k50, (), six52, ()), ((), (), ()))) (fun r2 r3 k50 six52 => g.2.2.2.2.1 ((((), ()), ((), ()), r2, r3, ()), ((), k50, (), six52, ()), ((), (), ()))) (g.2.2.2.2.2.1 ((), (), ((), (), ()))) (fun r0 b1_0 r2 r3 r4 s202 s203 => g.2.2.2.2.2.2.1 ((r0, (b1_0, (), (), ()), r2, r3, r4, ()), ((), (), (), s202, s203, ()), ((), (), ()))) r0) ?_ (fun g => by kernel_rfl)
    simp only [w_FnStairsHidden_t3]; repeat (first | exact Tail.const _ | exact Tail.here _ | exact Tail.there (Tail.here _) | exact Tail.there (Tail.there (Tail.here _)) | exact Tail.there (Tail.there (Tail.there (Tail.here _))) | exact Tail.there (Tail.there (Tail.there (Tail.there (Tail.here _)))) | exact Tail.there (Tail.there (Tail.there (Tail.there (Tail.there (Tail.here _))))) | exact Tail.there (Tail.there (Tail.there (Tail.there (Tail.there (Tail.there (Tail.here _)))))) | apply Tail.cond | (apply Tail.bind; intro _)),
  fun s => by
    obtain ⟨⟨⟨_, _⟩, ⟨b1_0, b1_1, b1_2, _⟩, ⟨_, _⟩, ⟨_, _⟩, ⟨_, _⟩, r5, r6, r7, r8, _⟩, ⟨_, _, _, four46, _, k50, _, six52, _⟩, ⟨_, _, _⟩⟩ := s
    refine Tail.eq (Y := fun g => w_FnStairsHidden_t4 (fun r0 => g.1 ((r0, ()), ((), ()), ((), (), ()))) (fun r0 r3 r4 one32 => g.2.1 ((r0, ((), ()), ((), ()), r3, r4, ()), ((), (), (), one32, ()), ((), (), ()))) (fun r0 => g.2.2.1 ((r0, ()), ((), ()), ((), (), ()))) (fun b1_0 b1_1 b1_2 r5 r6 r7 r8 four46 k50 six52 => g.2.2.2.1 ((((), ()), (b1_0, b1_1, b1_2, ()), ((), ()), ((), ()), ((), ()), r5, r6, r7, r8, ()), ((), (), (), four46, (), k50, (), six52, ()), ((), (), ()))) (fun r2 r3 k50 six52 => g.2.2.2.2.1 ((((), ()), ((), ()), r2, r3, ()), ((), k50, (), six52, ()), ((), (), ()))) (g.2.2.2.2.2.1 ((), (), ((), (), ()))) (fun r0 b1_0 r2 r3 r4 s202 s203 => g.2.2.2.2.2.2.1 ((r0, (b1_0, (), (), ()), r2, r3, r4, ()), ((), (), (), s202, s203, ()), ((), (), ()))) b1_0 b1_1 b1_2 r5 r6 r7 r8 four46 k50 six52) ?_ (fun g => by kernel_rfl)
    simp only [w_FnStairsHidden_t4]; repeat (first | exact Tail.const _ | exact Tail.here _ | exact Tail.there (Tail.here _) | exact Tail.there (Tail.there (Tail.here _)) | exact Tail.there (Tail.there (Tail.there (Tail.here _))) | exact Tail.there (Tail.there (Tail.there (Tail.there (Tail.here _)))) | exact Tail.there (Tail.there (Tail.there (Tail.there (Tail.there (Tail.here _))))) | exact Tail.there (Tail.there (Tail.there (Tail.there (Tail.there (Tail.there (Tail.here _)))))) | apply Tail.cond | (apply Tail.bind; intro _)),
  fun s => by
    obtain ⟨⟨⟨_, _⟩, ⟨_, _⟩, r2, r3, _⟩, ⟨_, k50, _, six52, _⟩, ⟨_, _, _⟩⟩ := s
    refine Tail.eq (Y := fun g => w_FnStairsHidden_t5 (fun r0 => g.1 ((r0, ()), ((), ()), ((), (), ()))) (fun r0 r3 r4 one32 => g.2.1 ((r0, ((), ()), ((), ()), r3, r4, ()), ((), (), (), one32, ()), ((), (), ()))) (fun r0 => g.2.2.1 ((r0, ()), ((), ()), ((), (), ()))) (fun b1_0 b1_1 b1_2 r5 r6 r7 r8 four46 k50 six52 => g.2.2.2.1 ((((), ()), (b1_0, b1_1, b1_2, ()), ((), ()), ((), ()), ((), ()), r5, r6, r7, r8, ()), ((), (), (), four46, (), k50, (), six52, ()), ((), (), ()))) (fun r2 r3 k50 six52 => g.2.2.2.2.1 ((((), ()), ((), ()), r2, r3, ()), ((), k50, (), six52, ()), ((), (), ()))) (g.2.2.2.2.2.1 ((), (), ((), (), ()))) (fun r0 b1_0 r2 r3 r4 s202 s203 => g.2.2.2.2.2.2.1 ((r0, (b1_0, (), (), ()), r2, r3, r4, ()), ((), (), (), s202, s203, ()), ((), (), ()))) r2 r3 k50 six52) ?_ (fun g => by kernel_rfl)
    simp only [w_FnStairsHidden_t5]; repeat (first | exact Tail.const _ | exact Tail.here _ | exact Tail.there (Tail.here _) | exact Tail.there (Tail.there (Tail.here _)) | exact Tail.there (Tail.there (Tail.there (Tail.here _))) | exact Tail.there (Tail.there (Tail.there (Tail.there (Tail.here _)))) | exact Tail.there (Tail.there (Tail.there (Tail.there (Tail.there (Tail.here _))))) | exact Tail.there (Tail.there (Tail.there (Tail.there (Tail.there (Tail.there (Tail.here _)))))) | apply Tail.cond | (apply Tail.bind; intro _)),
  fun s => by
    obtain ⟨_, _, ⟨_, _, _⟩⟩ := s
    refine Tail.eq (Y := fun g => w_FnStairsHidden_t6 (fun r0 => g.1 ((r0, ()), ((), ()), ((), (), ()))) (fun r0 r3 r4 one32 => g.2.1 ((r0, ((), ()), ((), ()), r3, r4, ()), ((), (), (), one32, ()), ((), (), ()))) (fun r0 => g.2.2.1 ((r0, ()), ((), ()), ((), (), ()))) (fun b1_0 b1_1 b1_2 r5 r6 r7 r8 four46 k50 six52 => g.2.2.2.1 ((((), ()), (b1_0, b1_1, b1_2, ()), ((), ()), ((), ()), ((), ()), r5, r6, r7, r8, ()), ((), (), (), four46, (), k50, (), six52, ()), ((), (), ()))) (fun r2 r3 k50 six52 => g.2.2.2.2.1 ((((), ()), ((), ()), r2, r3, ()), ((), k50, (), six52, ()), ((), (), ()))) (g.2.2.2.2.2.1 ((), (), ((), (), ()))) (fun r0 b1_0 r2 r3 r4 s202 s203 => g.2.2.2.2.2.2.1 ((r0, (b1_0, (), (), ()), r2, r3, r4, ()), ((), (), (), s202, s203, ()), ((), (), ()))) ) ?_ (fun g => by kernel_rfl)
    simp only [w_FnStairsHidden_t6]; repeat (first | exact Tail.const _ | exact Tail.here _ | exact Tail.there (Tail.here _) | exact Tail.there (Tail.there (Tail.here _)) | exact Tail.there (Tail.there (Tail.there (Tail.here _))) | exact Tail.there (Tail.there (Tail.there (Tail.there (Tail.here _)))) | exact Tail.there (Tail.there (Tail.there (Tail.there (Tail.there (Tail.here _))))) | exact Tail.there (Tail.there (Tail.there (Tail.there (Tail.there (Tail.there (Tail.here _)))))) | apply Tail.cond | (apply Tail.bind; intro _)),
  fun s => by
    obtain ⟨⟨r0, ⟨b1_0, _, _, _⟩, r2, r3, r4, _⟩, ⟨_, _, _, s202, s203, _⟩, ⟨_, _, _⟩⟩ := s
    refine Tail.eq (Y := fun g => w_FnStairsHidden_t7 (fun r0 => g.1 ((r0, ()), ((), ()), ((), (), ()))) (fun r0 r3 r4 one32 => g.2.1 ((r0, ((), ()), ((), ()), r3, r4, ()), ((), (), (), one32, ()), ((), (), ()))) (fun r0 => g.2.2.1 ((r0, ()), ((), ()), ((), (), ()))) (fun b1_0 b1_1 b1_2 r5 r6 r7 r8 four46 k50 six52 => g.2.2.2.1 ((((), ()), (b1_0, b1_1, b1_2, ()), ((), ()), ((), ()), ((), ()), r5, r6, r7, r8, ()), ((), (), (), four46, (), k50, (), six52, ()), ((), (), ()))) (fun r2 r3 k50 six52 => g.2.2.2.2.1 ((((), ()), ((), ()), r2, r3, ()), ((), k50, (), six52, ()), ((), (), ()))) (g.2.2.2.2.2.1 ((), (), ((), (), ()))) (fun r0 b1_0 r2 r3 r4 s202 s203 => g.2.2.2.2.2.2.1 ((r0, (b1_0, (), (), ()), r2, r3, r4, ()), ((), (), (), s202, s203, ()), ((), (), ()))) r0 b1_0 r2 r3 r4 s202 s203) ?_ (fun g => by kernel_rfl)
    simp only [w_FnStairsHidden_t7]; repeat (first | exact Tail.const _ | exact Tail.here _ | exact Tail.there (Tail.here _) | exact Tail.there (Tail.there (Tail.here _)) | exact Tail.there (Tail.there (Tail.there (Tail.here _))) | exact Tail.there (Tail.there (Tail.there (Tail.there (Tail.here _)))) | exact Tail.there (Tail.there (Tail.there (Tail.there (Tail.there (Tail.here _))))) | exact Tail.there (Tail.there (Tail.there (Tail.there (Tail.there (Tail.there (Tail.here _)))))) | apply Tail.cond | (apply Tail.bind; intro _)), trivial⟩
theorem w_FnStairsHidden_hs : ∀ x, Tail c_w_FnStairsHidden.pts (fun g => c_w_FnStairsHidden.start g x) := fun x => by
    obtain ⟨code0, more1, _⟩ := x
    refine Tail.eq (Y := fun g => w_FnStairsHidden_t0 (fun r0 => g.1 ((r0, ()), ((), ()), ((), (), ()))) (fun r0 r3 r4 one32 => g.2.1 ((r0, ((), ()), ((), ()), r3, r4, ()), ((), (), (), one32, ()), ((), (), ()))) (fun r0 => g.2.2.1 ((r0, ()), ((), ()), ((), (), ()))) (fun b1_0 b1_1 b1_2 r5 r6 r7 r8 four46 k50 six52 => g.2.2.2.1 ((((), ()), (b1_0, b1_1, b1_2, ()), ((), ()), ((), ()), ((), ()), r5, r6, r7, r8, ()), ((), (), (), four46, (), k50, (), six52, ()), ((), (), ()))) (fun r2 r3 k50 six52 => g.2.2.2.2.1 ((((), ()), ((), ()), r2, r3, ()), ((), k50, (), six52, ()), ((), (), ()))) (g.2.2.2.2.2.1 ((), (), ((), (), ()))) (fun r0 b1_0 r2 r3 r4 s202 s203 => g.2.2.2.2.2.2.1 ((r0, (b1_0, (), (), ()), r2, r3, r4, ()), ((), (), (), s202, s203, ()), ((), (), ()))) code0 more1) ?_ (fun g => by kernel_rfl)
    simp only [w_FnStairsHidden_t0]; repeat (first | exact Tail.const _ | exact Tail.here _ | exact Tail.there (Tail.here _) | exact Tail.there (Tail.there (Tail.here _)) | exact Tail.there (Tail.there (Tail.there (Tail.here _))) | exact Tail.there (Tail.there (Tail.there (Tail.there (Tail.here _)))) | exact Tail.there (Tail.there (Tail.there (Tail.there (Tail.there (Tail.here _))))) | exact Tail.there (Tail.there (Tail.there (Tail.there (Tail.there (Tail.there (Tail.here _)))))) | apply Tail.cond | (apply Tail.bind; intro _))
noncomputable def w_FnStairsHidden_L1 (r0 : List (Int)) : Option Bool := c_w_FnStairsHidden.L.1 ((r0, ()), ((), ()), ((), (), ()))
noncomputable def w_FnStairsHidden_L2 (r0 : List (Int)) (r3 : List (Int × (Int × Int))) (r4 : List (Int × (Int × Int))) (one32 : Bool) : Option Bool := c_w_FnStairsHidden.L.2.1 ((r0, ((), ()), ((), ()), r3, r4, ()), ((), (), (), one32, ()), ((), (), ()))
noncomputable def w_FnStairsHidden_L3 (r0 : List (Int)) : Option Bool := c_w_FnStairsHidden.L.2.2.1 ((r0, ()), ((), ()), ((), (), ()))
noncomputable def w_FnStairsHidden_L4 (b1_0 : Int) (b1_1 : Int) (b1_2 : Int) (r5 : List (Int × (Int × Int))) (r6 : List (Int × (Int × Int))) (r7 : List (Int × (Int × Int))) (r8 : List (Int × (Int × Int))) (four46 : Bool) (k50 : Int) (six52 : Bool) : Option Bool := c_w_FnStairsHidden.L.2.2.2.1 ((((), ()), (b1_0, b1_1, b1_2, ()), ((), ()), ((), ()), ((), ()), r5, r6, r7, r8, ()), ((), (), (), four46, (), k50, (), six52, ()), ((), (), ()))
noncomputable def w_FnStairsHidden_L5 (r2 : List (Int × (Int × Int))) (r3 : List (Int × (Int × Int))) (k50 : Int) (six52 : Bool) : Option Bool := c_w_FnStairsHidden.L.2.2.2.2.1 ((((), ()), ((), ()), r2, r3, ()), ((), k50, (), six52, ()), ((), (), ()))
noncomputable def w_FnStairsHidden_L6  : Option Bool := c_w_FnStairsHidden.L.2.2.2.2.2.1 ((), (), ((), (), ()))
noncomputable def w_FnStairsHidden_L7 (r0 : List (Int)) (b1_0 : Int) (r2 : List (Int × (Int × Int))) (r3 : List (Int)) (r4 : List (Int)) (s202 : Int) (s203 : Int) : Option Bool := c_w_FnStairsHidden.L.2.2.2.2.2.2.1 ((r0, (b1_0, (), (), ()), r2, r3, r4, ()), ((), (), (), s202, s203, ()), ((), (), ()))
theorem w_FnStairsHidden_u1 (r0 : List (Int)) : w_FnStairsHidden_L1 r0 = w_FnStairsHidden_t1 w_FnStairsHidden_L1 w_FnStairsHidden_L2 w_FnStairsHidden_L3 w_FnStairsHidden_L4 w_FnStairsHidden_L5 w_FnStairsHidden_L6 w_FnStairsHidden_L7 r0 :=
  (congrArg (fun g => g.1 ((r0, ()), ((), ()), ((), (), ()))) (FnCx.L_eq w_FnStairsHidden_ts)).trans (by kernel_rfl)
theorem w_FnStairsHidden_u2 (r0 : List (Int)) (r3 : List (Int × (Int × Int))) (r4 : List (Int × (Int × Int))) (one32 : Bool) : w_FnStairsHidden_L2 r0 r3 r4 one32 = w_FnStairsHidden_t2 w_FnStairsHidden_L1 w_FnStairsHidden_L2 w_FnStairsHidden_L3 w_FnStairsHidden_L4 w_FnStairsHidden_L5 w_FnStairsHidden_L6 w_FnStairsHidden_L7 r0 r3 r4 one32 :=
  (congrArg (fun g => g.2.1 ((r0, ((), ()), ((), ()), r3, r4, ()), ((), (), (), one32, ()), ((), (), ()))) (FnCx.L_eq w_FnStairsHidden_ts)).trans (by kernel_rfl)
theorem w_FnStairsHidden_u3 (r0 : List (Int)) : w_FnStairsHidden_L3 r0 = w_FnStairsHidden_t3 w_FnStairsHidden_L1 w_FnStairsHidden_L2 w_FnStairsHidden_L3 w_FnStairsHidden_L4 w_FnStairsHidden_L5 w_FnStairsHidden_L6 w_FnStairsHidden_L7 r0 :=
  (congrArg (fun g => g.2.2.1 ((r0, ()), ((), ()), ((), (), ()))) (FnCx.L_eq w_FnStairsHidden_ts)).trans (by kernel_rfl)
theorem w_FnStairsHidden_u4 (b1_0 : Int) (b1_1 : Int) (b1_2 : Int) (r5 : List (Int × (Int × Int))) (r6 : List (Int × (Int × Int))) (r7 : List (Int × (Int × Int))) (r8 : List (Int × (Int × Int))) (four46 : Bool) (k50 : Int) (six52 : Bool) : w_FnStairsHidden_L4 b1_0 b1_1 b1_2 r5 r6 r7 r8 four46 k50 six52 = w_FnStairsHidden_t4 w_FnStairsHidden_L1 w_FnStairsHidden_L2 w_FnStairsHidden_L3 w_FnStairsHidden_L4 w_FnStairsHidden_L5 w_FnStairsHidden_L6 w_FnStairsHidden_L7 b1_0 b1_1 b1_2 r5 r6 r7 r8 four46 k50 six52 :=
  (congrArg (fun g => g.2.2.2.1 ((((), ()), (b1_0, b1_1, b1_2, ()), ((), ()), ((), ()), ((), ()), r5, r6, r7, r8, ()), ((), (), (), four46, (), k50, (), six52, ()), ((), (), ()))) (FnCx.L_eq w_FnStairsHidden_ts)).trans (by kernel_rfl)
theorem w_FnStairsHidden_u5 (r2 : List (Int × (Int × Int))) (r3 : List (Int × (Int × Int))) (k50 : Int) (six52 : Bool) : w_FnStairsHidden_L5 r2 r3 k50 six52 = w_FnStairsHidden_t5 w_FnStairsHidden_L1 w_FnStairsHidden_L2 w_FnStairsHidden_L3 w_FnStairsHidden_L4 w_FnStairsHidden_L5 w_FnStairsHidden_L6 w_FnStairsHidden_L7 r2 r3 k50 six52 :=
  (congrArg (fun g => g.2.2.2.2.1 ((((), ()), ((), ()), r2, r3, ()), ((), k50, (), six52, ()), ((), (), ()))) (FnCx.L_eq w_FnStairsHidden_ts)).trans (by kernel_rfl)
theorem w_FnStairsHidden_u6  : w_FnStairsHidden_L6  = w_FnStairsHidden_t6 w_FnStairsHidden_L1 w_FnStairsHidden_L2 w_FnStairsHidden_L3 w_FnStairsHidden_L4 w_FnStairsHidden_L5 w_FnStairsHidden_L6 w_FnStairsHidden_L7  :=
  (congrArg (fun g => g.2.2.2.2.2.1 ((), (), ((), (), ()))) (FnCx.L_eq w_FnStairsHidden_ts)).trans (by kernel_rfl)
theorem w_FnStairsHidden_u7 (r0 : List (Int)) (b1_0 : Int) (r2 : List (Int × (Int × Int))) (r3 : List (Int)) (r4 : List (Int)) (s202 : Int) (s203 : Int) : w_FnStairsHidden_L7 r0 b1_0 r2 r3 r4 s202 s203 = w_FnStairsHidden_t7 w_FnStairsHidden_L1 w_FnStairsHidden_L2 w_FnStairsHidden_L3 w_FnStairsHidden_L4 w_FnStairsHidden_L5 w_FnStairsHidden_L6 w_FnStairsHidden_L7 r0 b1_0 r2 r3 r4 s202 s203 :=
  (congrArg (fun g => g.2.2.2.2.2.2.1 ((r0, (b1_0, (), (), ()), r2, r3, r4, ()), ((), (), (), s202, s203, ()), ((), (), ()))) (FnCx.L_eq w_FnStairsHidden_ts)).trans (by kernel_rfl)
noncomputable def w_FnStairsHidden (code0 : List Int) (more1 : List Int) : Option Bool := w_FnStairsHidden_t0 w_FnStairsHidden_L1 w_FnStairsHidden_L2 w_FnStairsHidden_L3 w_FnStairsHidden_L4 w_FnStairsHidden_L5 w_FnStairsHidden_L6 w_FnStairsHidden_L7 code0 more1
theorem w_FnStairsHidden_e (code0 : List Int) (more1 : List Int) : c_w_FnStairsHidden.start c_w_FnStairsHidden.L (code0, more1, ()) = w_FnStairsHidden code0 more1 := by kernel_rfl
noncomputable def F_w_FnStairsHidden : Ins c_w_FnStairsHidden.ins → Option Bool := fun x => w_FnStairsHidden x.1 x.2.1
noncomputable def S_w_FnStairsHidden : FSpec := mkF c_w_FnStairsHidden.env.pre c_w_FnStairsHidden.ins c_w_FnStairsHidden.out c_w_FnStairsHidden.inj F_w_FnStairsHidden
theorem h_w_FnStairsHidden : Cert Try.prog 14 S_w_FnStairsHidden := FnCx.certF (c := c_w_FnStairsHidden) F_w_FnStairsHidden (tyOk _ _ _) (spOk ⟨h_w_big, fun _ _ _ => trivial, ⟨h_s_DrawMakePuzzle, fun _ _ _ => trivial, ⟨h_i_MakePuzzle, fun _ _ _ => trivial, ⟨h_s_MakePuzzle, fun _ _ _ => trivial, ⟨h_w_wPuzzle, fun _ _ _ => trivial, ⟨h_i_CountClimbs, fun _ _ _ => trivial, ⟨h_i_DoesFit, fun _ _ _ => trivial, ⟨h_i_FewestStrides, fun _ _ _ => trivial, ⟨h_i_MostStrides, fun _ _ _ => trivial, ⟨h_i_IsPuzzle, fun _ _ _ => trivial, ⟨h_s_DrawHarderPuzzle, fun _ _ _ => trivial, ⟨h_i_HarderPuzzle, fun _ _ _ => trivial, ⟨h_s_HarderPuzzle, fun _ _ _ => trivial, ⟨h_i_IsSolved, fun _ _ _ => trivial, ⟨h_i_Solutions, fun _ _ _ => trivial, ⟨h_i_NeedlessClues, fun _ _ _ => trivial, ⟨h_w_wLists, fun _ _ _ => trivial, ⟨h_s_DrawAddClue, fun _ _ _ => trivial, ⟨h_i_AddClue, fun _ _ _ => trivial, ⟨h_s_AddClue, fun _ _ _ => trivial, ⟨h_s_DrawDropClue, fun _ _ _ => trivial, ⟨h_i_DropClue, fun _ _ _ => trivial, ⟨h_s_DropClue, fun _ _ _ => trivial, ⟨h_s_DrawDoesFit, fun _ _ _ => trivial, ⟨h_s_DoesFit, fun _ _ _ => trivial, ⟨h_s_DrawIsClue, fun _ _ _ => trivial, ⟨h_i_IsClue, fun _ _ _ => trivial, ⟨h_s_IsClue, fun _ _ _ => trivial, trivial⟩⟩⟩⟩⟩⟩⟩⟩⟩⟩⟩⟩⟩⟩⟩⟩⟩⟩⟩⟩⟩⟩⟩⟩⟩⟩⟩⟩) (fun _ _ _ _ _ hs => evDr_ok (tyOk _ _ _) hs follows) Try.func14 rfl rfl Try.ntmps14 (by kernel_rfl) rfl rfl (fun _ => rfl) w_FnStairsHidden_ts w_FnStairsHidden_hs (fun x t hb ht => by
  obtain ⟨code0, more1, _⟩ := x
  exact (w_FnStairsHidden_e code0 more1).trans ht)
end Go.Proofs.Ytbemnabojjiikaa.V
