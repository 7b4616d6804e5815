/- Functions of the program, as plain functions. No condition. -/
import Derived.Test.YthenlapjhlljnaaD4
set_option linter.unusedVariables false
set_option linter.unusedSimpArgs false
set_option maxRecDepth 100000
namespace Go.Proofs.Ythenlapjhlljnaa.V
open Go Go.Ev Go.Proofs
/-! (*spec.l1Cur).next -/
noncomputable def c_s_l1Cur_next : FnCx := { env := env 62 [] [], body := bodyOf Try.f266, res := [.tmp 2], ins := [.ptr 128 ksl1Cur], out := [(kint, true)], T := Int × (List Int × Int × Int), fin := fun r => (r.1.1, r.2.1), inj := fun t => ((t.1, ()), (t.2, ())), pts := [], fuel := 400, dr := evDr (env 62 [] []) }
noncomputable def s_l1Cur_next (c0_code : List Int) (c0_at : Int) (c0_seed : Int) : Option (Int × (List Int × Int × Int)) :=
  bif decide (c0_at < (↑(List.length c0_code) : Int)) then
    bif decide (0 ≤ c0_at) then
      bif decide (c0_at < (↑(List.length c0_code) : Int)) then
        bif decide (IntKind.wrap IntKind.i64 (c0_at + 1) ≤ (↑(List.length c0_code) : Int)) then
          some
            (IntKind.wrap IntKind.i64 (rdk kuint8 c0_code c0_at), c0_code, IntKind.wrap IntKind.i64 (c0_at + 1),
              IntKind.wrap IntKind.u64
                (IntKind.wrap IntKind.u64
                    (IntKind.wrap IntKind.u64 (c0_seed * 6364136223846793005) +
                      IntKind.wrap IntKind.u64 (IntKind.wrap IntKind.i64 (rdk kuint8 c0_code c0_at))) +
                  1442695040888963407))
        else
          some
            (IntKind.wrap IntKind.i64
                (IntKind.wrap IntKind.u64
                  (↑(BitVec.toNat
                        (BitVec.ofInt (IntKind.bits IntKind.u64)
                            (Int.fdiv
                              (IntKind.wrap IntKind.u64
                                (IntKind.wrap IntKind.u64
                                    (IntKind.wrap IntKind.u64 (c0_seed * 6364136223846793005) +
                                      IntKind.wrap IntKind.u64 (IntKind.wrap IntKind.i64 (rdk kuint8 c0_code c0_at))) +
                                  1442695040888963407))
                              (2 ^ min (Int.toNat 40) (IntKind.bits IntKind.u64))) &&&
                          BitVec.ofInt (IntKind.bits IntKind.u64) 255)) :
                    Int)),
              c0_code, IntKind.wrap IntKind.i64 (c0_at + 1),
              IntKind.wrap IntKind.u64
                (IntKind.wrap IntKind.u64
                    (IntKind.wrap IntKind.u64 (c0_seed * 6364136223846793005) +
                      IntKind.wrap IntKind.u64 (IntKind.wrap IntKind.i64 (rdk kuint8 c0_code c0_at))) +
                  1442695040888963407))
      else none
    else none
  else
    bif decide (IntKind.wrap IntKind.i64 (c0_at + 1) ≤ (↑(List.length c0_code) : Int)) then
      some
        (0, c0_code, IntKind.wrap IntKind.i64 (c0_at + 1),
          IntKind.wrap IntKind.u64
            (IntKind.wrap IntKind.u64 (IntKind.wrap IntKind.u64 (c0_seed * 6364136223846793005) + IntKind.wrap IntKind.u64 0) + 1442695040888963407))
    else
      some
        (IntKind.wrap IntKind.i64
            (IntKind.wrap IntKind.u64
              (↑(BitVec.toNat
                    (BitVec.ofInt (IntKind.bits IntKind.u64)
                        (Int.fdiv
                          (IntKind.wrap IntKind.u64
                            (IntKind.wrap IntKind.u64 (IntKind.wrap IntKind.u64 (c0_seed * 6364136223846793005) + IntKind.wrap IntKind.u64 0) +
                              1442695040888963407))
                          (2 ^ min (Int.toNat 40) (IntKind.bits IntKind.u64))) &&&
                      BitVec.ofInt (IntKind.bits IntKind.u64) 255)) :
                Int)),
          c0_code, IntKind.wrap IntKind.i64 (c0_at + 1),
          IntKind.wrap IntKind.u64
            (IntKind.wrap IntKind.u64 (IntKind.wrap IntKind.u64 (c0_seed * 6364136223846793005) + IntKind.wrap IntKind.u64 0) + 1442695040888963407))
theorem s_l1Cur_next_e (c0_code : List Int) (c0_at : Int) (c0_seed : Int) : c_s_l1Cur_next.start c_s_l1Cur_next.L ((c0_code, c0_at, c0_seed), ()) = s_l1Cur_next c0_code c0_at c0_seed := by kernel_rfl
noncomputable def F_s_l1Cur_next : Ins c_s_l1Cur_next.ins → Option (Int × (List Int × Int × Int)) := fun x => s_l1Cur_next x.1.1 x.1.2.1 x.1.2.2
noncomputable def S_s_l1Cur_next : FSpec := mkF c_s_l1Cur_next.env.pre c_s_l1Cur_next.ins c_s_l1Cur_next.out c_s_l1Cur_next.inj F_s_l1Cur_next
theorem h_s_l1Cur_next : Cert Try.prog 266 S_s_l1Cur_next := FnCx.certF (c := c_s_l1Cur_next) F_s_l1Cur_next (tyOk _ _ _) (spOk trivial) (fun _ _ _ _ _ hs => evDr_ok (tyOk _ _ _) hs follows) Try.func266 rfl rfl Try.ntmps266 (by kernel_rfl) rfl rfl (fun _ => rfl) trivial (fun x => .inl ⟨c_s_l1Cur_next.start () x, fun _ => rfl⟩) (fun x t hb ht => by
  obtain ⟨⟨c0_code, c0_at, c0_seed⟩, _⟩ := x
  exact (s_l1Cur_next_e c0_code c0_at c0_seed).trans ht)
/-! (*spec.l1Cur).pick -/
noncomputable def c_s_l1Cur_pick : FnCx := { env := env 20 [(266, S_s_l1Cur_next)] [], body := bodyOf Try.f183, res := [.tmp 4], ins := [.ptr 128 ksl1Cur, .ro kint], out := [(kint, true)], T := Int × (List Int × Int × Int), fin := fun r => (r.1.1, r.2.1), inj := fun t => ((t.1, ()), (t.2, (), ())), pts := [], fuel := 400, dr := noDr }
noncomputable def s_l1Cur_pick (c0_code : List Int) (c0_at : Int) (c0_seed : Int) (n1 : Int) : Option (Int × (List Int × Int × Int)) :=
  bif decide (n1 ≤ 1) then some (0, c0_code, c0_at, c0_seed)
  else
    Option.bind (s_l1Cur_next c0_code c0_at c0_seed) fun r =>
      bif decide (n1 > 200) then
        Option.bind (s_l1Cur_next (Prod.fst (Prod.snd r)) (Prod.fst (Prod.snd (Prod.snd r))) (Prod.snd (Prod.snd (Prod.snd r)))) fun r_1 =>
          bif n1 == 0 then none
          else
            some
              (Int.tmod (IntKind.wrap IntKind.i64 (IntKind.wrap IntKind.i64 (Prod.fst r * 256) + Prod.fst r_1)) n1, Prod.fst (Prod.snd r_1),
                Prod.fst (Prod.snd (Prod.snd r_1)), Prod.snd (Prod.snd (Prod.snd r_1)))
      else bif n1 == 0 then none else some (Int.tmod (Prod.fst r) n1, Prod.fst (Prod.snd r), Prod.fst (Prod.snd (Prod.snd r)), Prod.snd (Prod.snd (Prod.snd r)))
theorem s_l1Cur_pick_e (c0_code : List Int) (c0_at : Int) (c0_seed : Int) (n1 : Int) : c_s_l1Cur_pick.start c_s_l1Cur_pick.L ((c0_code, c0_at, c0_seed), n1, ()) = s_l1Cur_pick c0_code c0_at c0_seed n1 := by kernel_rfl
noncomputable def F_s_l1Cur_pick : Ins c_s_l1Cur_pick.ins → Option (Int × (List Int × Int × Int)) := fun x => s_l1Cur_pick x.1.1 x.1.2.1 x.1.2.2 x.2.1
noncomputable def S_s_l1Cur_pick : FSpec := mkF c_s_l1Cur_pick.env.pre c_s_l1Cur_pick.ins c_s_l1Cur_pick.out c_s_l1Cur_pick.inj F_s_l1Cur_pick
theorem h_s_l1Cur_pick : Cert Try.prog 183 S_s_l1Cur_pick := FnCx.certF (c := c_s_l1Cur_pick) F_s_l1Cur_pick (tyOk _ _ _) (spOk ⟨h_s_l1Cur_next, fun _ _ _ => trivial, trivial⟩) (fun _ _ _ _ _ hs => noDr_ok) Try.func183 rfl rfl Try.ntmps183 (by kernel_rfl) rfl rfl (fun _ => rfl) trivial (fun x => .inl ⟨c_s_l1Cur_pick.start () x, fun _ => rfl⟩) (fun x t hb ht => by
  obtain ⟨⟨c0_code, c0_at, c0_seed⟩, n1, _⟩ := x
  exact (s_l1Cur_pick_e c0_code c0_at c0_seed n1).trans ht)
/-! (*spec.l1Cur).one -/
noncomputable def c_s_l1Cur_one : FnCx := { env := env 9 [(183, S_s_l1Cur_pick)] [], body := bodyOf Try.f182, res := [.tmp 4], ins := [.ptr 128 ksl1Cur, .ro kint], out := [(kbool, true)], T := Bool × (List Int × Int × Int), fin := fun r => (r.1.1, r.2.1), inj := fun t => ((t.1, ()), (t.2, (), ())), pts := [], fuel := 400, dr := noDr }
noncomputable def s_l1Cur_one (c0_code : List Int) (c0_at : Int) (c0_seed : Int) (n1 : Int) : Option (Bool × (List Int × Int × Int)) :=
  Option.bind (s_l1Cur_pick c0_code c0_at c0_seed n1) fun r =>
    some (Prod.fst r == 0, Prod.fst (Prod.snd r), Prod.fst (Prod.snd (Prod.snd r)), Prod.snd (Prod.snd (Prod.snd r)))
theorem s_l1Cur_one_e (c0_code : List Int) (c0_at : Int) (c0_seed : Int) (n1 : Int) : c_s_l1Cur_one.start c_s_l1Cur_one.L ((c0_code, c0_at, c0_seed), n1, ()) = s_l1Cur_one c0_code c0_at c0_seed n1 := by kernel_rfl
noncomputable def F_s_l1Cur_one : Ins c_s_l1Cur_one.ins → Option (Bool × (List Int × Int × Int)) := fun x => s_l1Cur_one x.1.1 x.1.2.1 x.1.2.2 x.2.1
noncomputable def S_s_l1Cur_one : FSpec := mkF c_s_l1Cur_one.env.pre c_s_l1Cur_one.ins c_s_l1Cur_one.out c_s_l1Cur_one.inj F_s_l1Cur_one
theorem h_s_l1Cur_one : Cert Try.prog 182 S_s_l1Cur_one := FnCx.certF (c := c_s_l1Cur_one) F_s_l1Cur_one (tyOk _ _ _) (spOk ⟨h_s_l1Cur_pick, fun _ _ _ => trivial, trivial⟩) (fun _ _ _ _ _ hs => noDr_ok) Try.func182 rfl rfl Try.ntmps182 (by kernel_rfl) rfl rfl (fun _ => rfl) trivial (fun x => .inl ⟨c_s_l1Cur_one.start () x, fun _ => rfl⟩) (fun x t hb ht => by
  obtain ⟨⟨c0_code, c0_at, c0_seed⟩, n1, _⟩ := x
  exact (s_l1Cur_one_e c0_code c0_at c0_seed n1).trans ht)
/-! (*spec.l1Cur).sureStairs -/
noncomputable def c_s_l1Cur_sureStairs : FnCx := { env := env 46 [(183, S_s_l1Cur_pick), (182, S_s_l1Cur_one)] [], body := bodyOf Try.f286, res := [.cell 4 96], ins := [.ptr 128 ksl1Cur, .ro kint], out := [(kStairs, true)], T := (Int × List Int × List Int) × (List Int × Int × Int), fin := fun r => (r.1.1, r.2.1), inj := fun t => ((t.1, ()), (t.2, (), ())), pts := [([.inLoop [1, 1, 0, 1, 0, 0], .inBlock 0, .code [1, 1, 1]], Shape.mk [Bs.box 128 [Cs.sl 3, Cs.sc kint, Cs.sc kuint64], Bs.box 96 [Cs.sc kint, Cs.sl 4, Cs.sl 5], Bs.box 96 [Cs.sc kint, Cs.sl 6, Cs.sl 7], Bs.row kuint8 5 false, Bs.row kint 3 true, Bs.row kint 3 true, Bs.row kint 3 true, Bs.row kint 3 true] [(0, Ss.one (Cs.ptr 0 0)), (4, Ss.one (Cs.ptr 1 0)), (5, Ss.one (Cs.ptr 2 0)), (6, Ss.one (Cs.sc kint))] [Ss.one (Cs.ptr 0 0), Ss.one (Cs.any)]), ([.inLoop [1, 1, 1, 1, 0, 1, 0, 0], .inBlock 2, .code [1, 1, 1, 1, 1]], Shape.mk [Bs.box 128 [Cs.sl 3, Cs.sc kint, Cs.sc kuint64], Bs.box 96 [Cs.sc kint, Cs.sl 4, Cs.sl 5], Bs.box 96 [Cs.sc kint, Cs.sl 6, Cs.sl 7], Bs.row kuint8 5 false, Bs.row kint 3 true, Bs.row kint 3 true, Bs.row kint 3 true, Bs.row kint 3 true] [(0, Ss.one (Cs.ptr 0 0)), (4, Ss.one (Cs.ptr 1 0)), (5, Ss.one (Cs.ptr 2 0)), (7, Ss.one (Cs.sc kint))] [Ss.one (Cs.ptr 0 0), Ss.one (Cs.any)])], fuel := 400, dr := noDr }
noncomputable def s_l1Cur_sureStairs_t1 (g1 : Int → Int → Int → Int → List (Int) → List (Int) → List (Int) → List (Int) → List (Int) → Int → Option ((Int × List Int × List Int) × (List Int × Int × Int))) (g2 : Int → Int → Int → Int → List (Int) → List (Int) → List (Int) → List (Int) → List (Int) → Int → Option ((Int × List Int × List Int) × (List Int × Int × Int))) (b0_1 : Int) (b0_2 : Int) (b1_0 : Int) (b2_0 : Int) (r3 : List (Int)) (r4 : List (Int)) (r5 : List (Int)) (r6 : List (Int)) (r7 : List (Int)) (stride6 : Int) : Option ((Int × List Int × List Int) × (List Int × Int × Int)) :=
  bif decide (stride6 ≤ 4) then
    Option.bind (s_l1Cur_one r3 b0_1 b0_2 2) fun r =>
      bif Prod.fst r then
        bif Nat.ble (List.length r6 + 1) 4294967296 then
          g1 (Prod.fst (Prod.snd (Prod.snd r))) (Prod.snd (Prod.snd (Prod.snd r))) b1_0 b2_0 (Prod.fst (Prod.snd r)) r4 r5 (r6 ++ [stride6]) r7
            (IntKind.wrap IntKind.i64 (stride6 + 1))
        else none
      else
        g1 (Prod.fst (Prod.snd (Prod.snd r))) (Prod.snd (Prod.snd (Prod.snd r))) b1_0 b2_0 (Prod.fst (Prod.snd r)) r4 r5 r6 r7
          (IntKind.wrap IntKind.i64 (stride6 + 1))
  else bif (↑(List.length r6) : Int) == 0 then g2 b0_1 b0_2 b1_0 b2_0 r3 r4 r5 [1, 2] r7 1 else g2 b0_1 b0_2 b1_0 b2_0 r3 r4 r5 r6 r7 1
noncomputable def s_l1Cur_sureStairs_t2 (g1 : Int → Int → Int → Int → List (Int) → List (Int) → List (Int) → List (Int) → List (Int) → Int → Option ((Int × List Int × List Int) × (List Int × Int × Int))) (g2 : Int → Int → Int → Int → List (Int) → List (Int) → List (Int) → List (Int) → List (Int) → Int → Option ((Int × List Int × List Int) × (List Int × Int × Int))) (b0_1 : Int) (b0_2 : Int) (b1_0 : Int) (b2_0 : Int) (r3 : List (Int)) (r4 : List (Int)) (r5 : List (Int)) (r6 : List (Int)) (r7 : List (Int)) (step7 : Int) : Option ((Int × List Int × List Int) × (List Int × Int × Int)) :=
  bif decide (step7 < b2_0) then
    Option.bind (s_l1Cur_one r3 b0_1 b0_2 6) fun r =>
      bif Prod.fst r then
        bif Nat.ble (List.length r7 + 1) 4294967296 then
          g2 (Prod.fst (Prod.snd (Prod.snd r))) (Prod.snd (Prod.snd (Prod.snd r))) b1_0 b2_0 (Prod.fst (Prod.snd r)) r4 r5 r6 (r7 ++ [step7])
            (IntKind.wrap IntKind.i64 (step7 + 1))
        else none
      else
        g2 (Prod.fst (Prod.snd (Prod.snd r))) (Prod.snd (Prod.snd (Prod.snd r))) b1_0 b2_0 (Prod.fst (Prod.snd r)) r4 r5 r6 r7
          (IntKind.wrap IntKind.i64 (step7 + 1))
  else some ((b2_0, r6, r7), r3, b0_1, b0_2)
noncomputable def s_l1Cur_sureStairs_t0 (g1 : Int → Int → Int → Int → List (Int) → List (Int) → List (Int) → List (Int) → List (Int) → Int → Option ((Int × List Int × List Int) × (List Int × Int × Int))) (g2 : Int → Int → Int → Int → List (Int) → List (Int) → List (Int) → List (Int) → List (Int) → Int → Option ((Int × List Int × List Int) × (List Int × Int × Int))) (c0_code : List Int) (c0_at : Int) (c0_seed : Int) (most1 : Int) : Option ((Int × List Int × List Int) × (List Int × Int × Int)) :=
  Option.bind (s_l1Cur_pick c0_code c0_at c0_seed most1) fun r =>
    g1 (Prod.fst (Prod.snd (Prod.snd r))) (Prod.snd (Prod.snd (Prod.snd r))) 0 (IntKind.wrap IntKind.i64 (1 + Prod.fst r)) (Prod.fst (Prod.snd r)) [] [] [] [] 1
theorem s_l1Cur_sureStairs_ts : Tails c_s_l1Cur_sureStairs.pts c_s_l1Cur_sureStairs.round :=
  ⟨fun s => by
    obtain ⟨⟨⟨_, b0_1, b0_2, _⟩, ⟨b1_0, _, _, _⟩, ⟨b2_0, _, _, _⟩, r3, r4, r5, r6, r7, _⟩, ⟨_, _, _, stride6, _⟩, ⟨_, _, _⟩⟩ := s
    refine Tail.eq (Y := fun g => s_l1Cur_sureStairs_t1 (fun b0_1 b0_2 b1_0 b2_0 r3 r4 r5 r6 r7 stride6 => g.1 ((((), b0_1, b0_2, ()), (b1_0, (), (), ()), (b2_0, (), (), ()), r3, r4, r5, r6, r7, ()), ((), (), (), stride6, ()), ((), (), ()))) (fun b0_1 b0_2 b1_0 b2_0 r3 r4 r5 r6 r7 step7 => g.2.1 ((((), b0_1, b0_2, ()), (b1_0, (), (), ()), (b2_0, (), (), ()), r3, r4, r5, r6, r7, ()), ((), (), (), step7, ()), ((), (), ()))) b0_1 b0_2 b1_0 b2_0 r3 r4 r5 r6 r7 stride6) ?_ (fun g => by kernel_rfl)
    simp only [s_l1Cur_sureStairs_t1]; repeat (first | exact Tail.const _ | exact Tail.here _ | exact Tail.there (Tail.here _) | exact Tail.there (Tail.there (Tail.here _)) | exact Tail.there (Tail.there (Tail.there (Tail.here _))) | exact Tail.there (Tail.there (Tail.there (Tail.there (Tail.here _)))) | exact Tail.there (Tail.there (Tail.there (Tail.there (Tail.there (Tail.here _))))) | apply Tail.cond | (apply Tail.bind; intro _)),
  fun s => by
    obtain ⟨⟨⟨_, b0_1, b0_2, _⟩, ⟨b1_0, _, _, _⟩, ⟨b2_0, _, _, _⟩, r3, r4, r5, r6, r7, _⟩, ⟨_, _, _, step7, _⟩, ⟨_, _, _⟩⟩ := s
    refine Tail.eq (Y := fun g => s_l1Cur_sureStairs_t2 (fun b0_1 b0_2 b1_0 b2_0 r3 r4 r5 r6 r7 stride6 => g.1 ((((), b0_1, b0_2, ()), (b1_0, (), (), ()), (b2_0, (), (), ()), r3, r4, r5, r6, r7, ()), ((), (), (), stride6, ()), ((), (), ()))) (fun b0_1 b0_2 b1_0 b2_0 r3 r4 r5 r6 r7 step7 => g.2.1 ((((), b0_1, b0_2, ()), (b1_0, (), (), ()), (b2_0, (), (), ()), r3, r4, r5, r6, r7, ()), ((), (), (), step7, ()), ((), (), ()))) b0_1 b0_2 b1_0 b2_0 r3 r4 r5 r6 r7 step7) ?_ (fun g => by kernel_rfl)
    simp only [s_l1Cur_sureStairs_t2]; repeat (first | exact Tail.const _ | exact Tail.here _ | exact Tail.there (Tail.here _) | exact Tail.there (Tail.there (Tail.here _)) | exact Tail.there (Tail.there (Tail.there (Tail.here _))) | exact Tail.there (Tail.there (Tail.there (Tail.there (Tail.here _)))) | exact Tail.there (Tail.there (Tail.there (Tail.there (Tail.there (Tail.here _))))) | apply Tail.cond | (apply Tail.bind; intro _)), trivial⟩
theorem s_l1Cur_sureStairs_hs : ∀ x, Tail c_s_l1Cur_sureStairs.pts (fun g => c_s_l1Cur_sureStairs.start g x) := fun x => by
    obtain ⟨⟨c0_code, c0_at, c0_seed⟩, most1, _⟩ := x
    refine Tail.eq (Y := fun g => s_l1Cur_sureStairs_t0 (fun b0_1 b0_2 b1_0 b2_0 r3 r4 r5 r6 r7 stride6 => g.1 ((((), b0_1, b0_2, ()), (b1_0, (), (), ()), (b2_0, (), (), ()), r3, r4, r5, r6, r7, ()), ((), (), (), stride6, ()), ((), (), ()))) (fun b0_1 b0_2 b1_0 b2_0 r3 r4 r5 r6 r7 step7 => g.2.1 ((((), b0_1, b0_2, ()), (b1_0, (), (), ()), (b2_0, (), (), ()), r3, r4, r5, r6, r7, ()), ((), (), (), step7, ()), ((), (), ()))) c0_code c0_at c0_seed most1) ?_ (fun g => by kernel_rfl)
    simp only [s_l1Cur_sureStairs_t0]; repeat (first | exact Tail.const _ | exact Tail.here _ | exact Tail.there (Tail.here _) | exact Tail.there (Tail.there (Tail.here _)) | exact Tail.there (Tail.there (Tail.there (Tail.here _))) | exact Tail.there (Tail.there (Tail.there (Tail.there (Tail.here _)))) | exact Tail.there (Tail.there (Tail.there (Tail.there (Tail.there (Tail.here _))))) | apply Tail.cond | (apply Tail.bind; intro _))
noncomputable def s_l1Cur_sureStairs_L1 (b0_1 : Int) (b0_2 : Int) (b1_0 : Int) (b2_0 : Int) (r3 : List (Int)) (r4 : List (Int)) (r5 : List (Int)) (r6 : List (Int)) (r7 : List (Int)) (stride6 : Int) : Option ((Int × List Int × List Int) × (List Int × Int × Int)) := c_s_l1Cur_sureStairs.L.1 ((((), b0_1, b0_2, ()), (b1_0, (), (), ()), (b2_0, (), (), ()), r3, r4, r5, r6, r7, ()), ((), (), (), stride6, ()), ((), (), ()))
noncomputable def s_l1Cur_sureStairs_L2 (b0_1 : Int) (b0_2 : Int) (b1_0 : Int) (b2_0 : Int) (r3 : List (Int)) (r4 : List (Int)) (r5 : List (Int)) (r6 : List (Int)) (r7 : List (Int)) (step7 : Int) : Option ((Int × List Int × List Int) × (List Int × Int × Int)) := c_s_l1Cur_sureStairs.L.2.1 ((((), b0_1, b0_2, ()), (b1_0, (), (), ()), (b2_0, (), (), ()), r3, r4, r5, r6, r7, ()), ((), (), (), step7, ()), ((), (), ()))
theorem s_l1Cur_sureStairs_u1 (b0_1 : Int) (b0_2 : Int) (b1_0 : Int) (b2_0 : Int) (r3 : List (Int)) (r4 : List (Int)) (r5 : List (Int)) (r6 : List (Int)) (r7 : List (Int)) (stride6 : Int) : s_l1Cur_sureStairs_L1 b0_1 b0_2 b1_0 b2_0 r3 r4 r5 r6 r7 stride6 = s_l1Cur_sureStairs_t1 s_l1Cur_sureStairs_L1 s_l1Cur_sureStairs_L2 b0_1 b0_2 b1_0 b2_0 r3 r4 r5 r6 r7 stride6 :=
  (congrArg (fun g => g.1 ((((), b0_1, b0_2, ()), (b1_0, (), (), ()), (b2_0, (), (), ()), r3, r4, r5, r6, r7, ()), ((), (), (), stride6, ()), ((), (), ()))) (FnCx.L_eq s_l1Cur_sureStairs_ts)).trans (by kernel_rfl)
theorem s_l1Cur_sureStairs_u2 (b0_1 : Int) (b0_2 : Int) (b1_0 : Int) (b2_0 : Int) (r3 : List (Int)) (r4 : List (Int)) (r5 : List (Int)) (r6 : List (Int)) (r7 : List (Int)) (step7 : Int) : s_l1Cur_sureStairs_L2 b0_1 b0_2 b1_0 b2_0 r3 r4 r5 r6 r7 step7 = s_l1Cur_sureStairs_t2 s_l1Cur_sureStairs_L1 s_l1Cur_sureStairs_L2 b0_1 b0_2 b1_0 b2_0 r3 r4 r5 r6 r7 step7 :=
  (congrArg (fun g => g.2.1 ((((), b0_1, b0_2, ()), (b1_0, (), (), ()), (b2_0, (), (), ()), r3, r4, r5, r6, r7, ()), ((), (), (), step7, ()), ((), (), ()))) (FnCx.L_eq s_l1Cur_sureStairs_ts)).trans (by kernel_rfl)
noncomputable def s_l1Cur_sureStairs (c0_code : List Int) (c0_at : Int) (c0_seed : Int) (most1 : Int) : Option ((Int × List Int × List Int) × (List Int × Int × Int)) := s_l1Cur_sureStairs_t0 s_l1Cur_sureStairs_L1 s_l1Cur_sureStairs_L2 c0_code c0_at c0_seed most1
theorem s_l1Cur_sureStairs_e (c0_code : List Int) (c0_at : Int) (c0_seed : Int) (most1 : Int) : c_s_l1Cur_sureStairs.start c_s_l1Cur_sureStairs.L ((c0_code, c0_at, c0_seed), most1, ()) = s_l1Cur_sureStairs c0_code c0_at c0_seed most1 := by kernel_rfl
noncomputable def F_s_l1Cur_sureStairs : Ins c_s_l1Cur_sureStairs.ins → Option ((Int × List Int × List Int) × (List Int × Int × Int)) := fun x => s_l1Cur_sureStairs x.1.1 x.1.2.1 x.1.2.2 x.2.1
noncomputable def S_s_l1Cur_sureStairs : FSpec := mkF c_s_l1Cur_sureStairs.env.pre c_s_l1Cur_sureStairs.ins c_s_l1Cur_sureStairs.out c_s_l1Cur_sureStairs.inj F_s_l1Cur_sureStairs
theorem h_s_l1Cur_sureStairs : Cert Try.prog 286 S_s_l1Cur_sureStairs := FnCx.certF (c := c_s_l1Cur_sureStairs) F_s_l1Cur_sureStairs (tyOk _ _ _) (spOk ⟨h_s_l1Cur_pick, fun _ _ _ => trivial, ⟨h_s_l1Cur_one, fun _ _ _ => trivial, trivial⟩⟩) (fun _ _ _ _ _ hs => noDr_ok) Try.func286 rfl rfl Try.ntmps286 (by kernel_rfl) rfl rfl (fun _ => rfl) s_l1Cur_sureStairs_ts s_l1Cur_sureStairs_hs (fun x t hb ht => by
  obtain ⟨⟨c0_code, c0_at, c0_seed⟩, most1, _⟩ := x
  exact (s_l1Cur_sureStairs_e c0_code c0_at c0_seed most1).trans ht)
/-! (*spec.l1Cur).among -/
noncomputable def c_s_l1Cur_among : FnCx := { env := env 12 [(183, S_s_l1Cur_pick)] [], body := bodyOf Try.f180, res := [.tmp 4], ins := [.ptr 128 ksl1Cur, .ro kSint], out := [(kint, true)], T := Int × (List Int × Int × Int), fin := fun r => (r.1.1, r.2.1), inj := fun t => ((t.1, ()), (t.2, (), ())), pts := [], fuel := 400, dr := noDr }
noncomputable def s_l1Cur_among (c0_code : List Int) (c0_at : Int) (c0_seed : Int) (list1 : List Int) : Option (Int × (List Int × Int × Int)) :=
  Option.bind (s_l1Cur_pick c0_code c0_at c0_seed (↑(List.length list1) : Int)) fun r =>
    bif decide (0 ≤ Prod.fst r) then
      bif decide (Prod.fst r < (↑(List.length list1) : Int)) then
        some (rdk kint list1 (Prod.fst r), Prod.fst (Prod.snd r), Prod.fst (Prod.snd (Prod.snd r)), Prod.snd (Prod.snd (Prod.snd r)))
      else none
    else none
theorem s_l1Cur_among_e (c0_code : List Int) (c0_at : Int) (c0_seed : Int) (list1 : List Int) : c_s_l1Cur_among.start c_s_l1Cur_among.L ((c0_code, c0_at, c0_seed), list1, ()) = s_l1Cur_among c0_code c0_at c0_seed list1 := by kernel_rfl
noncomputable def F_s_l1Cur_among : Ins c_s_l1Cur_among.ins → Option (Int × (List Int × Int × Int)) := fun x => s_l1Cur_among x.1.1 x.1.2.1 x.1.2.2 x.2.1
noncomputable def S_s_l1Cur_among : FSpec := mkF c_s_l1Cur_among.env.pre c_s_l1Cur_among.ins c_s_l1Cur_among.out c_s_l1Cur_among.inj F_s_l1Cur_among
theorem h_s_l1Cur_among : Cert Try.prog 180 S_s_l1Cur_among := FnCx.certF (c := c_s_l1Cur_among) F_s_l1Cur_among (tyOk _ _ _) (spOk ⟨h_s_l1Cur_pick, fun _ _ _ => trivial, trivial⟩) (fun _ _ _ _ _ hs => noDr_ok) Try.func180 rfl rfl Try.ntmps180 (by kernel_rfl) rfl rfl (fun _ => rfl) trivial (fun x => .inl ⟨c_s_l1Cur_among.start () x, fun _ => rfl⟩) (fun x t hb ht => by
  obtain ⟨⟨c0_code, c0_at, c0_seed⟩, list1, _⟩ := x
  exact (s_l1Cur_among_e c0_code c0_at c0_seed list1).trans ht)
/-! (*spec.l1Cur).stairs -/
noncomputable def c_s_l1Cur_stairs : FnCx := { env := env 49 [(286, S_s_l1Cur_sureStairs), (183, S_s_l1Cur_pick), (180, S_s_l1Cur_among)] [27], body := bodyOf Try.f260, res := [.cell 2 96], ins := [.ptr 128 ksl1Cur], out := [(kStairs, true)], T := (Int × List Int × List Int) × (List Int × Int × Int), fin := fun r => (r.1.1, r.2.1), inj := fun t => ((t.1, ()), (t.2, ())), pts := [], fuel := 400, dr := evDr (env 49 [(286, S_s_l1Cur_sureStairs), (183, S_s_l1Cur_pick), (180, S_s_l1Cur_among)] [27]) }
noncomputable def s_l1Cur_stairs (c0_code : List Int) (c0_at : Int) (c0_seed : Int) : Option ((Int × List Int × List Int) × (List Int × Int × Int)) :=
  Option.bind (s_l1Cur_sureStairs c0_code c0_at c0_seed 12) fun r =>
    Option.bind (s_l1Cur_pick (Prod.fst (Prod.snd r)) (Prod.fst (Prod.snd (Prod.snd r))) (Prod.snd (Prod.snd (Prod.snd r))) 18) fun r_1 =>
      bif Prod.fst r_1 == 0 then
        Option.bind
          (s_l1Cur_among (Prod.fst (Prod.snd r_1)) (Prod.fst (Prod.snd (Prod.snd r_1))) (Prod.snd (Prod.snd (Prod.snd r_1))) [0, -1, 60, 61, 4611686018427387904])
          fun r_2 =>
          some
            ((Prod.fst r_2, Prod.fst (Prod.snd (Prod.fst r)), Prod.snd (Prod.snd (Prod.fst r))), Prod.fst (Prod.snd r_2), Prod.fst (Prod.snd (Prod.snd r_2)),
              Prod.snd (Prod.snd (Prod.snd r_2)))
      else
        bif Prod.fst r_1 == 1 then
          Option.bind (s_l1Cur_pick (Prod.fst (Prod.snd r_1)) (Prod.fst (Prod.snd (Prod.snd r_1))) (Prod.snd (Prod.snd (Prod.snd r_1))) 8) fun r_2 =>
            bif decide (0 ≤ Prod.fst r_2) then
              bif decide (Prod.fst r_2 < (↑8 : Int)) then
                some
                  ((Prod.fst (Prod.fst r), rdk kSint [[], [0], [1, 1], [2, 1], [9], [10], [1, 2, 3, 4, 5], [1, 2, 3, 4, 5, 6]] (Prod.fst r_2),
                      Prod.snd (Prod.snd (Prod.fst r))),
                    Prod.fst (Prod.snd r_2), Prod.fst (Prod.snd (Prod.snd r_2)), Prod.snd (Prod.snd (Prod.snd r_2)))
              else none
            else none
        else
          bif Prod.fst r_1 == 2 then
            Option.bind
              (s_l1Cur_among (Prod.fst (Prod.snd r_1)) (Prod.fst (Prod.snd (Prod.snd r_1))) (Prod.snd (Prod.snd (Prod.snd r_1)))
                [-1, 0, IntKind.wrap IntKind.i64 (Prod.fst (Prod.fst r) - 1), Prod.fst (Prod.fst r), 1])
              fun r_2 =>
              bif Nat.ble (List.length (Prod.snd (Prod.snd (Prod.fst r))) + 1) 4294967296 then
                some
                  ((Prod.fst (Prod.fst r), Prod.fst (Prod.snd (Prod.fst r)), Prod.snd (Prod.snd (Prod.fst r)) ++ [Prod.fst r_2]), Prod.fst (Prod.snd r_2),
                    Prod.fst (Prod.snd (Prod.snd r_2)), Prod.snd (Prod.snd (Prod.snd r_2)))
              else none
          else
            bif Prod.fst r_1 == 3 then some ((60, [1, 2, 3], []), Prod.fst (Prod.snd r_1), Prod.fst (Prod.snd (Prod.snd r_1)), Prod.snd (Prod.snd (Prod.snd r_1)))
            else
              some
                ((Prod.fst (Prod.fst r), Prod.fst (Prod.snd (Prod.fst r)), Prod.snd (Prod.snd (Prod.fst r))), Prod.fst (Prod.snd r_1),
                  Prod.fst (Prod.snd (Prod.snd r_1)), Prod.snd (Prod.snd (Prod.snd r_1)))
theorem s_l1Cur_stairs_e (c0_code : List Int) (c0_at : Int) (c0_seed : Int) : c_s_l1Cur_stairs.start c_s_l1Cur_stairs.L ((c0_code, c0_at, c0_seed), ()) = s_l1Cur_stairs c0_code c0_at c0_seed := by kernel_rfl
noncomputable def F_s_l1Cur_stairs : Ins c_s_l1Cur_stairs.ins → Option ((Int × List Int × List Int) × (List Int × Int × Int)) := fun x => s_l1Cur_stairs x.1.1 x.1.2.1 x.1.2.2
noncomputable def S_s_l1Cur_stairs : FSpec := mkF c_s_l1Cur_stairs.env.pre c_s_l1Cur_stairs.ins c_s_l1Cur_stairs.out c_s_l1Cur_stairs.inj F_s_l1Cur_stairs
theorem h_s_l1Cur_stairs : Cert Try.prog 260 S_s_l1Cur_stairs := FnCx.certF (c := c_s_l1Cur_stairs) F_s_l1Cur_stairs (tyOk _ _ _) (spOk ⟨h_s_l1Cur_sureStairs, fun _ _ _ => trivial, ⟨h_s_l1Cur_pick, fun _ _ _ => trivial, ⟨h_s_l1Cur_among, fun _ _ _ => trivial, trivial⟩⟩⟩) (fun _ _ _ _ _ hs => evDr_ok (tyOk _ _ _) hs follows) Try.func260 rfl rfl Try.ntmps260 (by kernel_rfl) rfl rfl (fun _ => rfl) trivial (fun x => .inl ⟨c_s_l1Cur_stairs.start () x, fun _ => rfl⟩) (fun x t hb ht => by
  obtain ⟨⟨c0_code, c0_at, c0_seed⟩, _⟩ := x
  exact (s_l1Cur_stairs_e c0_code c0_at c0_seed).trans ht)
/-! spec.DrawClimbOfRank -/
noncomputable def c_s_DrawClimbOfRank : FnCx := { env := env 15 [(260, S_s_l1Cur_stairs), (180, S_s_l1Cur_among)] [], body := bodyOf Try.f155, res := [.cell 2 96, .tmp 3], ins := [.ro kSuint8], out := [(kStairs, true), (kint, true)], T := (Int × List Int × List Int) × Int, fin := fun r => (r.1.1, r.1.2.1), inj := fun t => ((t.1, t.2, ()), ((), ())), pts := [], fuel := 400, dr := evDr (env 15 [(260, S_s_l1Cur_stairs), (180, S_s_l1Cur_among)] []) }
noncomputable def s_DrawClimbOfRank (code0 : List Int) : Option ((Int × List Int × List Int) × Int) :=
  Option.bind (s_l1Cur_stairs code0 0 0) fun r =>
    Option.bind
      (s_l1Cur_among (Prod.fst (Prod.snd r)) (Prod.fst (Prod.snd (Prod.snd r))) (Prod.snd (Prod.snd (Prod.snd r))) [0, 1, 2, 3, 10, 50, -1, 4611686018427387904])
      fun r_1 => some ((Prod.fst (Prod.fst r), Prod.fst (Prod.snd (Prod.fst r)), Prod.snd (Prod.snd (Prod.fst r))), Prod.fst r_1)
theorem s_DrawClimbOfRank_e (code0 : List Int) : c_s_DrawClimbOfRank.start c_s_DrawClimbOfRank.L (code0, ()) = s_DrawClimbOfRank code0 := by kernel_rfl
noncomputable def F_s_DrawClimbOfRank : Ins c_s_DrawClimbOfRank.ins → Option ((Int × List Int × List Int) × Int) := fun x => s_DrawClimbOfRank x.1
noncomputable def S_s_DrawClimbOfRank : FSpec := mkF c_s_DrawClimbOfRank.env.pre c_s_DrawClimbOfRank.ins c_s_DrawClimbOfRank.out c_s_DrawClimbOfRank.inj F_s_DrawClimbOfRank
theorem h_s_DrawClimbOfRank : Cert Try.prog 155 S_s_DrawClimbOfRank := FnCx.certF (c := c_s_DrawClimbOfRank) F_s_DrawClimbOfRank (tyOk _ _ _) (spOk ⟨h_s_l1Cur_stairs, fun _ _ _ => trivial, ⟨h_s_l1Cur_among, fun _ _ _ => trivial, trivial⟩⟩) (fun _ _ _ _ _ hs => evDr_ok (tyOk _ _ _) hs follows) Try.func155 rfl rfl Try.ntmps155 (by kernel_rfl) rfl rfl (fun _ => rfl) trivial (fun x => .inl ⟨c_s_DrawClimbOfRank.start () x, fun _ => rfl⟩) (fun x t hb ht => by
  obtain ⟨code0, _⟩ := x
  exact (s_DrawClimbOfRank_e code0).trans ht)
/-! (*spec.l1Cur).climbed -/
noncomputable def c_s_l1Cur_climbed : FnCx := { env := env 76 [(260, S_s_l1Cur_stairs), (247, S_s_clGood), (244, S_s_clWays), (180, S_s_l1Cur_among), (182, S_s_l1Cur_one)] [], body := bodyOf Try.f287, res := [.cell 2 96, .tmp 3], ins := [.ptr 128 ksl1Cur], out := [(kStairs, true), (kSint, true)], T := (Int × List Int × List Int) × List Int × (List Int × Int × Int), fin := fun r => (r.1.1, r.1.2.1, r.2.1), inj := fun t => ((t.1, t.2.1, ()), (t.2.2, ())), pts := [([.inLoop [1, 1, 1, 0, 1, 0, 1, 1, 0, 0], .inBlock 0, .code [1, 1, 1, 1]], Shape.mk [Bs.box 128 [Cs.sl 5, Cs.sc kint, Cs.sc kuint64], Bs.box 96 [Cs.sc kint, Cs.sl 6, Cs.sl 7], Bs.box 96 [Cs.sc kint, Cs.sl 8, Cs.sl 9], Bs.row kint 3 true, Bs.row kint 3 true, Bs.row kuint8 5 false, Bs.row kint 3 true, Bs.row kint 3 true, Bs.row kint 3 true, Bs.row kint 3 true] [(0, Ss.one (Cs.ptr 0 0)), (2, Ss.one (Cs.ptr 1 0)), (4, Ss.one (Cs.ptr 2 0)), (5, Ss.one (Cs.sl 3)), (6, Ss.one (Cs.sl 4)), (7, Ss.one (Cs.sc kint))] [Ss.one (Cs.ptr 0 0)]), ([.inLoop [1, 1, 1, 0, 1, 0, 1, 1, 0, 0, 1, 0, 1, 0, 1, 0, 0], .inBlock 2, .code [1, 1, 1, 0, 1, 0, 1, 1, 0, 0, 1, 0, 1, 1], .inBlock 1, .inLoop [1, 1, 1, 0, 1, 0, 1, 1, 0, 0], .inBlock 0, .code [1, 1, 1, 1]], Shape.mk [Bs.box 128 [Cs.sl 7, Cs.sc kint, Cs.sc kuint64], Bs.box 96 [Cs.sc kint, Cs.sl 8, Cs.sl 9], Bs.box 96 [Cs.sc kint, Cs.sl 6, Cs.sl 10], Bs.row kint 3 true, Bs.row kint 3 true, Bs.row kint 3 true, Bs.row kint 3 true, Bs.row kuint8 5 false, Bs.row kint 3 true, Bs.row kint 3 true, Bs.row kint 3 true] [(0, Ss.one (Cs.ptr 0 0)), (2, Ss.one (Cs.ptr 1 0)), (4, Ss.one (Cs.ptr 2 0)), (5, Ss.one (Cs.sl 3)), (6, Ss.one (Cs.sl 4)), (7, Ss.one (Cs.sc kint)), (8, Ss.one (Cs.sl 5)), (30, Ss.one (Cs.sl 6)), (31, Ss.one (Cs.sc kint)), (32, Ss.one (Cs.sc kint))] [Ss.one (Cs.ptr 0 0)])], fuel := 400, dr := noDr }
noncomputable def s_l1Cur_climbed_t1 (g1 : Int → Int → Int → Int → List (Int) → List (Int) → List (Int) → List (Int) → List (Int) → List (Int) → List (Int) → Int → Option ((Int × List Int × List Int) × List Int × (List Int × Int × Int))) (g2 : Int → Int → Int → Int → List (Int) → List (Int) → List (Int) → List (Int) → List (Int) → List (Int) → List (Int) → List (Int) → Int → Int → Int → Option ((Int × List Int × List Int) × List Int × (List Int × Int × Int))) (b0_1 : Int) (b0_2 : Int) (b1_0 : Int) (b2_0 : Int) (r3 : List (Int)) (r4 : List (Int)) (r5 : List (Int)) (r6 : List (Int)) (r7 : List (Int)) (r8 : List (Int)) (r9 : List (Int)) (at7 : Int) : Option ((Int × List Int × List Int) × List Int × (List Int × Int × Int)) :=
  bif decide (at7 < b2_0) then
    bif decide (0 ≤ at7) then
      bif decide (at7 < (↑(List.length r4) : Int)) then
        bif decide (rdk kint r4 at7 > 0) then g2 b0_1 b0_2 b1_0 b2_0 r3 r4 [] r8 r5 r6 r7 r9 at7 (↑(List.length r8) : Int) 0
        else
          Option.bind (s_l1Cur_one r5 b0_1 b0_2 12) fun r =>
            bif Prod.fst r then
              Option.bind
                (s_l1Cur_among (Prod.fst (Prod.snd r)) (Prod.fst (Prod.snd (Prod.snd r))) (Prod.snd (Prod.snd (Prod.snd r))) [-1, 0, 1, 4611686018427387904])
                fun r =>
                bif Nat.ble (List.length r3 + 1) 4294967296 then
                  some ((b2_0, r8, r9), r3 ++ [Prod.fst r], Prod.fst (Prod.snd r), Prod.fst (Prod.snd (Prod.snd r)), Prod.snd (Prod.snd (Prod.snd r)))
                else none
            else some ((b2_0, r8, r9), r3, Prod.fst (Prod.snd r), Prod.fst (Prod.snd (Prod.snd r)), Prod.snd (Prod.snd (Prod.snd r)))
      else none
    else none
  else
    Option.bind (s_l1Cur_one r5 b0_1 b0_2 12) fun r =>
      bif Prod.fst r then
        Option.bind (s_l1Cur_among (Prod.fst (Prod.snd r)) (Prod.fst (Prod.snd (Prod.snd r))) (Prod.snd (Prod.snd (Prod.snd r))) [-1, 0, 1, 4611686018427387904])
          fun r =>
          bif Nat.ble (List.length r3 + 1) 4294967296 then
            some ((b2_0, r8, r9), r3 ++ [Prod.fst r], Prod.fst (Prod.snd r), Prod.fst (Prod.snd (Prod.snd r)), Prod.snd (Prod.snd (Prod.snd r)))
          else none
      else some ((b2_0, r8, r9), r3, Prod.fst (Prod.snd r), Prod.fst (Prod.snd (Prod.snd r)), Prod.snd (Prod.snd (Prod.snd r)))
noncomputable def s_l1Cur_climbed_t2 (g1 : Int → Int → Int → Int → List (Int) → List (Int) → List (Int) → List (Int) → List (Int) → List (Int) → List (Int) → Int → Option ((Int × List Int × List Int) × List Int × (List Int × Int × Int))) (g2 : Int → Int → Int → Int → List (Int) → List (Int) → List (Int) → List (Int) → List (Int) → List (Int) → List (Int) → List (Int) → Int → Int → Int → Option ((Int × List Int × List Int) × List Int × (List Int × Int × Int))) (b0_1 : Int) (b0_2 : Int) (b1_0 : Int) (b2_0 : Int) (r3 : List (Int)) (r4 : List (Int)) (r5 : List (Int)) (r6 : List (Int)) (r7 : List (Int)) (r8 : List (Int)) (r9 : List (Int)) (r10 : List (Int)) (at7 : Int) (s31 : Int) (s32 : Int) : Option ((Int × List Int × List Int) × List Int × (List Int × Int × Int)) :=
  bif decide (s32 < s31) then
    bif decide (0 ≤ s32) then
      bif decide (s32 < (↑(List.length r6) : Int)) then
        bif decide (IntKind.wrap IntKind.i64 (at7 + rdk kint r6 s32) ≤ b2_0) then
          bif decide (0 ≤ IntKind.wrap IntKind.i64 (at7 + rdk kint r6 s32)) then
            bif decide (IntKind.wrap IntKind.i64 (at7 + rdk kint r6 s32) < (↑(List.length r4) : Int)) then
              bif decide (rdk kint r4 (IntKind.wrap IntKind.i64 (at7 + rdk kint r6 s32)) > 0) then
                bif Nat.ble (List.length r5 + 1) 4294967296 then
                  g2 b0_1 b0_2 b1_0 b2_0 r3 r4 (r5 ++ [rdk kint r6 s32]) r6 r7 r8 r9 r10 at7 s31 (IntKind.wrap IntKind.i64 (s32 + 1))
                else none
              else g2 b0_1 b0_2 b1_0 b2_0 r3 r4 r5 r6 r7 r8 r9 r10 at7 s31 (IntKind.wrap IntKind.i64 (s32 + 1))
            else none
          else none
        else g2 b0_1 b0_2 b1_0 b2_0 r3 r4 r5 r6 r7 r8 r9 r10 at7 s31 (IntKind.wrap IntKind.i64 (s32 + 1))
      else none
    else none
  else
    Option.bind (s_l1Cur_among r7 b0_1 b0_2 r5) fun r =>
      bif Nat.ble (List.length r3 + 1) 4294967296 then
        g1 (Prod.fst (Prod.snd (Prod.snd r))) (Prod.snd (Prod.snd (Prod.snd r))) b1_0 b2_0 (r3 ++ [Prod.fst r]) r4 (Prod.fst (Prod.snd r)) r8 r9 r6 r10
          (IntKind.wrap IntKind.i64 (at7 + Prod.fst r))
      else none
noncomputable def s_l1Cur_climbed_t0 (g1 : Int → Int → Int → Int → List (Int) → List (Int) → List (Int) → List (Int) → List (Int) → List (Int) → List (Int) → Int → Option ((Int × List Int × List Int) × List Int × (List Int × Int × Int))) (g2 : Int → Int → Int → Int → List (Int) → List (Int) → List (Int) → List (Int) → List (Int) → List (Int) → List (Int) → List (Int) → Int → Int → Int → Option ((Int × List Int × List Int) × List Int × (List Int × Int × Int))) (c0_code : List Int) (c0_at : Int) (c0_seed : Int) : Option ((Int × List Int × List Int) × List Int × (List Int × Int × Int)) :=
  Option.bind (s_l1Cur_stairs c0_code c0_at c0_seed) fun r =>
    bif s_clGood (Prod.fst (Prod.fst r)) (Prod.fst (Prod.snd (Prod.fst r))) (Prod.snd (Prod.snd (Prod.fst r))) then
      Option.bind (s_clWays (Prod.fst (Prod.fst r)) (Prod.fst (Prod.snd (Prod.fst r))) (Prod.snd (Prod.snd (Prod.fst r)))) fun r_1 =>
        g1 (Prod.fst (Prod.snd (Prod.snd r))) (Prod.snd (Prod.snd (Prod.snd r))) 0 (Prod.fst (Prod.fst r)) [] r_1 (Prod.fst (Prod.snd r)) [] []
          (Prod.fst (Prod.snd (Prod.fst r))) (Prod.snd (Prod.snd (Prod.fst r))) 0
    else
      Option.bind (s_l1Cur_one (Prod.fst (Prod.snd r)) (Prod.fst (Prod.snd (Prod.snd r))) (Prod.snd (Prod.snd (Prod.snd r))) 12) fun r_1 =>
        bif Prod.fst r_1 then
          Option.bind
            (s_l1Cur_among (Prod.fst (Prod.snd r_1)) (Prod.fst (Prod.snd (Prod.snd r_1))) (Prod.snd (Prod.snd (Prod.snd r_1))) [-1, 0, 1, 4611686018427387904])
            fun r_2 =>
            some
              ((Prod.fst (Prod.fst r), Prod.fst (Prod.snd (Prod.fst r)), Prod.snd (Prod.snd (Prod.fst r))), [] ++ [Prod.fst r_2], Prod.fst (Prod.snd r_2),
                Prod.fst (Prod.snd (Prod.snd r_2)), Prod.snd (Prod.snd (Prod.snd r_2)))
        else
          some
            ((Prod.fst (Prod.fst r), Prod.fst (Prod.snd (Prod.fst r)), Prod.snd (Prod.snd (Prod.fst r))), [], Prod.fst (Prod.snd r_1),
              Prod.fst (Prod.snd (Prod.snd r_1)), Prod.snd (Prod.snd (Prod.snd r_1)))
theorem s_l1Cur_climbed_ts : Tails c_s_l1Cur_climbed.pts c_s_l1Cur_climbed.round :=
  ⟨fun s => by
    obtain ⟨⟨⟨_, b0_1, b0_2, _⟩, ⟨b1_0, _, _, _⟩, ⟨b2_0, _, _, _⟩, r3, r4, r5, r6, r7, r8, r9, _⟩, ⟨_, _, _, _, _, at7, _⟩, ⟨_, _⟩⟩ := s
    refine Tail.eq (Y := fun g => s_l1Cur_climbed_t1 (fun b0_1 b0_2 b1_0 b2_0 r3 r4 r5 r6 r7 r8 r9 at7 => g.1 ((((), b0_1, b0_2, ()), (b1_0, (), (), ()), (b2_0, (), (), ()), r3, r4, r5, r6, r7, r8, r9, ()), ((), (), (), (), (), at7, ()), ((), ()))) (fun b0_1 b0_2 b1_0 b2_0 r3 r4 r5 r6 r7 r8 r9 r10 at7 s31 s32 => g.2.1 ((((), b0_1, b0_2, ()), (b1_0, (), (), ()), (b2_0, (), (), ()), r3, r4, r5, r6, r7, r8, r9, r10, ()), ((), (), (), (), (), at7, (), (), s31, s32, ()), ((), ()))) b0_1 b0_2 b1_0 b2_0 r3 r4 r5 r6 r7 r8 r9 at7) ?_ (fun g => by kernel_rfl)
    simp only [s_l1Cur_climbed_t1]; repeat (first | exact Tail.const _ | exact Tail.here _ | exact Tail.there (Tail.here _) | exact Tail.there (Tail.there (Tail.here _)) | exact Tail.there (Tail.there (Tail.there (Tail.here _))) | exact Tail.there (Tail.there (Tail.there (Tail.there (Tail.here _)))) | exact Tail.there (Tail.there (Tail.there (Tail.there (Tail.there (Tail.here _))))) | apply Tail.cond | (apply Tail.bind; intro _)),
  fun s => by
    obtain ⟨⟨⟨_, b0_1, b0_2, _⟩, ⟨b1_0, _, _, _⟩, ⟨b2_0, _, _, _⟩, r3, r4, r5, r6, r7, r8, r9, r10, _⟩, ⟨_, _, _, _, _, at7, _, _, s31, s32, _⟩, ⟨_, _⟩⟩ := s
    refine Tail.eq (Y := fun g => s_l1Cur_climbed_t2 (fun b0_1 b0_2 b1_0 b2_0 r3 r4 r5 r6 r7 r8 r9 at7 => g.1 ((((), b0_1, b0_2, ()), (b1_0, (), (), ()), (b2_0, (), (), ()), r3, r4, r5, r6, r7, r8, r9, ()), ((), (), (), (), (), at7, ()), ((), ()))) (fun b0_1 b0_2 b1_0 b2_0 r3 r4 r5 r6 r7 r8 r9 r10 at7 s31 s32 => g.2.1 ((((), b0_1, b0_2, ()), (b1_0, (), (), ()), (b2_0, (), (), ()), r3, r4, r5, r6, r7, r8, r9, r10, ()), ((), (), (), (), (), at7, (), (), s31, s32, ()), ((), ()))) b0_1 b0_2 b1_0 b2_0 r3 r4 r5 r6 r7 r8 r9 r10 at7 s31 s32) ?_ (fun g => by kernel_rfl)
    simp only [s_l1Cur_climbed_t2]; repeat (first | exact Tail.const _ | exact Tail.here _ | exact Tail.there (Tail.here _) | exact Tail.there (Tail.there (Tail.here _)) | exact Tail.there (Tail.there (Tail.there (Tail.here _))) | exact Tail.there (Tail.there (Tail.there (Tail.there (Tail.here _)))) | exact Tail.there (Tail.there (Tail.there (Tail.there (Tail.there (Tail.here _))))) | apply Tail.cond | (apply Tail.bind; intro _)), trivial⟩
theorem s_l1Cur_climbed_hs : ∀ x, Tail c_s_l1Cur_climbed.pts (fun g => c_s_l1Cur_climbed.start g x) := fun x => by
    obtain ⟨⟨c0_code, c0_at, c0_seed⟩, _⟩ := x
    refine Tail.eq (Y := fun g => s_l1Cur_climbed_t0 (fun b0_1 b0_2 b1_0 b2_0 r3 r4 r5 r6 r7 r8 r9 at7 => g.1 ((((), b0_1, b0_2, ()), (b1_0, (), (), ()), (b2_0, (), (), ()), r3, r4, r5, r6, r7, r8, r9, ()), ((), (), (), (), (), at7, ()), ((), ()))) (fun b0_1 b0_2 b1_0 b2_0 r3 r4 r5 r6 r7 r8 r9 r10 at7 s31 s32 => g.2.1 ((((), b0_1, b0_2, ()), (b1_0, (), (), ()), (b2_0, (), (), ()), r3, r4, r5, r6, r7, r8, r9, r10, ()), ((), (), (), (), (), at7, (), (), s31, s32, ()), ((), ()))) c0_code c0_at c0_seed) ?_ (fun g => by kernel_rfl)
    simp only [s_l1Cur_climbed_t0]; repeat (first | exact Tail.const _ | exact Tail.here _ | exact Tail.there (Tail.here _) | exact Tail.there (Tail.there (Tail.here _)) | exact Tail.there (Tail.there (Tail.there (Tail.here _))) | exact Tail.there (Tail.there (Tail.there (Tail.there (Tail.here _)))) | exact Tail.there (Tail.there (Tail.there (Tail.there (Tail.there (Tail.here _))))) | apply Tail.cond | (apply Tail.bind; intro _))
noncomputable def s_l1Cur_climbed_L1 (b0_1 : Int) (b0_2 : Int) (b1_0 : Int) (b2_0 : Int) (r3 : List (Int)) (r4 : List (Int)) (r5 : List (Int)) (r6 : List (Int)) (r7 : List (Int)) (r8 : List (Int)) (r9 : List (Int)) (at7 : Int) : Option ((Int × List Int × List Int) × List Int × (List Int × Int × Int)) := c_s_l1Cur_climbed.L.1 ((((), b0_1, b0_2, ()), (b1_0, (), (), ()), (b2_0, (), (), ()), r3, r4, r5, r6, r7, r8, r9, ()), ((), (), (), (), (), at7, ()), ((), ()))
noncomputable def s_l1Cur_climbed_L2 (b0_1 : Int) (b0_2 : Int) (b1_0 : Int) (b2_0 : Int) (r3 : List (Int)) (r4 : List (Int)) (r5 : List (Int)) (r6 : List (Int)) (r7 : List (Int)) (r8 : List (Int)) (r9 : List (Int)) (r10 : List (Int)) (at7 : Int) (s31 : Int) (s32 : Int) : Option ((Int × List Int × List Int) × List Int × (List Int × Int × Int)) := c_s_l1Cur_climbed.L.2.1 ((((), b0_1, b0_2, ()), (b1_0, (), (), ()), (b2_0, (), (), ()), r3, r4, r5, r6, r7, r8, r9, r10, ()), ((), (), (), (), (), at7, (), (), s31, s32, ()), ((), ()))
theorem s_l1Cur_climbed_u1 (b0_1 : Int) (b0_2 : Int) (b1_0 : Int) (b2_0 : Int) (r3 : List (Int)) (r4 : List (Int)) (r5 : List (Int)) (r6 : List (Int)) (r7 : List (Int)) (r8 : List (Int)) (r9 : List (Int)) (at7 : Int) : s_l1Cur_climbed_L1 b0_1 b0_2 b1_0 b2_0 r3 r4 r5 r6 r7 r8 r9 at7 = s_l1Cur_climbed_t1 s_l1Cur_climbed_L1 s_l1Cur_climbed_L2 b0_1 b0_2 b1_0 b2_0 r3 r4 r5 r6 r7 r8 r9 at7 :=
  (congrArg (fun g => g.1 ((((), b0_1, b0_2, ()), (b1_0, (), (), ()), (b2_0, (), (), ()), r3, r4, r5, r6, r7, r8, r9, ()), ((), (), (), (), (), at7, ()), ((), ()))) (FnCx.L_eq s_l1Cur_climbed_ts)).trans (by kernel_rfl)
theorem s_l1Cur_climbed_u2 (b0_1 : Int) (b0_2 : Int) (b1_0 : Int) (b2_0 : Int) (r3 : List (Int)) (r4 : List (Int)) (r5 : List (Int)) (r6 : List (Int)) (r7 : List (Int)) (r8 : List (Int)) (r9 : List (Int)) (r10 : List (Int)) (at7 : Int) (s31 : Int) (s32 : Int) : s_l1Cur_climbed_L2 b0_1 b0_2 b1_0 b2_0 r3 r4 r5 r6 r7 r8 r9 r10 at7 s31 s32 = s_l1Cur_climbed_t2 s_l1Cur_climbed_L1 s_l1Cur_climbed_L2 b0_1 b0_2 b1_0 b2_0 r3 r4 r5 r6 r7 r8 r9 r10 at7 s31 s32 :=
  (congrArg (fun g => g.2.1 ((((), b0_1, b0_2, ()), (b1_0, (), (), ()), (b2_0, (), (), ()), r3, r4, r5, r6, r7, r8, r9, r10, ()), ((), (), (), (), (), at7, (), (), s31, s32, ()), ((), ()))) (FnCx.L_eq s_l1Cur_climbed_ts)).trans (by kernel_rfl)
noncomputable def s_l1Cur_climbed (c0_code : List Int) (c0_at : Int) (c0_seed : Int) : Option ((Int × List Int × List Int) × List Int × (List Int × Int × Int)) := s_l1Cur_climbed_t0 s_l1Cur_climbed_L1 s_l1Cur_climbed_L2 c0_code c0_at c0_seed
theorem s_l1Cur_climbed_e (c0_code : List Int) (c0_at : Int) (c0_seed : Int) : c_s_l1Cur_climbed.start c_s_l1Cur_climbed.L ((c0_code, c0_at, c0_seed), ()) = s_l1Cur_climbed c0_code c0_at c0_seed := by kernel_rfl
noncomputable def F_s_l1Cur_climbed : Ins c_s_l1Cur_climbed.ins → Option ((Int × List Int × List Int) × List Int × (List Int × Int × Int)) := fun x => s_l1Cur_climbed x.1.1 x.1.2.1 x.1.2.2
noncomputable def S_s_l1Cur_climbed : FSpec := mkF c_s_l1Cur_climbed.env.pre c_s_l1Cur_climbed.ins c_s_l1Cur_climbed.out c_s_l1Cur_climbed.inj F_s_l1Cur_climbed
theorem h_s_l1Cur_climbed : Cert Try.prog 287 S_s_l1Cur_climbed := FnCx.certF (c := c_s_l1Cur_climbed) F_s_l1Cur_climbed (tyOk _ _ _) (spOk ⟨h_s_l1Cur_stairs, fun _ _ _ => trivial, ⟨h_s_clGood, fun _ _ _ => trivial, ⟨h_s_clWays, fun _ _ _ => trivial, ⟨h_s_l1Cur_among, fun _ _ _ => trivial, ⟨h_s_l1Cur_one, fun _ _ _ => trivial, trivial⟩⟩⟩⟩⟩) (fun _ _ _ _ _ hs => noDr_ok) Try.func287 rfl rfl Try.ntmps287 (by kernel_rfl) rfl rfl (fun _ => rfl) s_l1Cur_climbed_ts s_l1Cur_climbed_hs (fun x t hb ht => by
  obtain ⟨⟨c0_code, c0_at, c0_seed⟩, _⟩ := x
  exact (s_l1Cur_climbed_e c0_code c0_at c0_seed).trans ht)
/-! spec.DrawIsClimb -/
noncomputable def c_s_DrawIsClimb : FnCx := { env := env 12 [(287, S_s_l1Cur_climbed)] [], body := bodyOf Try.f261, res := [.cell 2 96, .tmp 3], ins := [.ro kSuint8], out := [(kStairs, true), (kSint, true)], T := (Int × List Int × List Int) × List Int, fin := fun r => (r.1.1, r.1.2.1), inj := fun t => ((t.1, t.2, ()), ((), ())), pts := [], fuel := 400, dr := noDr }
noncomputable def s_DrawIsClimb (code0 : List Int) : Option ((Int × List Int × List Int) × List Int) :=
  Option.bind (s_l1Cur_climbed code0 0 0) fun r =>
    some ((Prod.fst (Prod.fst r), Prod.fst (Prod.snd (Prod.fst r)), Prod.snd (Prod.snd (Prod.fst r))), Prod.fst (Prod.snd r))
theorem s_DrawIsClimb_e (code0 : List Int) : c_s_DrawIsClimb.start c_s_DrawIsClimb.L (code0, ()) = s_DrawIsClimb code0 := by kernel_rfl
noncomputable def F_s_DrawIsClimb : Ins c_s_DrawIsClimb.ins → Option ((Int × List Int × List Int) × List Int) := fun x => s_DrawIsClimb x.1
noncomputable def S_s_DrawIsClimb : FSpec := mkF c_s_DrawIsClimb.env.pre c_s_DrawIsClimb.ins c_s_DrawIsClimb.out c_s_DrawIsClimb.inj F_s_DrawIsClimb
theorem h_s_DrawIsClimb : Cert Try.prog 261 S_s_DrawIsClimb := FnCx.certF (c := c_s_DrawIsClimb) F_s_DrawIsClimb (tyOk _ _ _) (spOk ⟨h_s_l1Cur_climbed, fun _ _ _ => trivial, trivial⟩) (fun _ _ _ _ _ hs => noDr_ok) Try.func261 rfl rfl Try.ntmps261 (by kernel_rfl) rfl rfl (fun _ => rfl) trivial (fun x => .inl ⟨c_s_DrawIsClimb.start () x, fun _ => rfl⟩) (fun x t hb ht => by
  obtain ⟨code0, _⟩ := x
  exact (s_DrawIsClimb_e code0).trans ht)
/-! spec.DrawRankOfClimb -/
noncomputable def c_s_DrawRankOfClimb : FnCx := { env := env 8 [(261, S_s_DrawIsClimb)] [], body := bodyOf Try.f156, res := [.cell 2 96, .tmp 3], ins := [.ro kSuint8], out := [(kStairs, true), (kSint, true)], T := (Int × List Int × List Int) × List Int, fin := fun r => (r.1.1, r.1.2.1), inj := fun t => ((t.1, t.2, ()), ((), ())), pts := [], fuel := 400, dr := noDr }
noncomputable def s_DrawRankOfClimb (code0 : List Int) : Option ((Int × List Int × List Int) × List Int) :=
  Option.bind (s_DrawIsClimb code0) fun r => some ((Prod.fst (Prod.fst r), Prod.fst (Prod.snd (Prod.fst r)), Prod.snd (Prod.snd (Prod.fst r))), Prod.snd r)
theorem s_DrawRankOfClimb_e (code0 : List Int) : c_s_DrawRankOfClimb.start c_s_DrawRankOfClimb.L (code0, ()) = s_DrawRankOfClimb code0 := by kernel_rfl
noncomputable def F_s_DrawRankOfClimb : Ins c_s_DrawRankOfClimb.ins → Option ((Int × List Int × List Int) × List Int) := fun x => s_DrawRankOfClimb x.1
noncomputable def S_s_DrawRankOfClimb : FSpec := mkF c_s_DrawRankOfClimb.env.pre c_s_DrawRankOfClimb.ins c_s_DrawRankOfClimb.out c_s_DrawRankOfClimb.inj F_s_DrawRankOfClimb
theorem h_s_DrawRankOfClimb : Cert Try.prog 156 S_s_DrawRankOfClimb := FnCx.certF (c := c_s_DrawRankOfClimb) F_s_DrawRankOfClimb (tyOk _ _ _) (spOk ⟨h_s_DrawIsClimb, fun _ _ _ => trivial, trivial⟩) (fun _ _ _ _ _ hs => noDr_ok) Try.func156 rfl rfl Try.ntmps156 (by kernel_rfl) rfl rfl (fun _ => rfl) trivial (fun x => .inl ⟨c_s_DrawRankOfClimb.start () x, fun _ => rfl⟩) (fun x t hb ht => by
  obtain ⟨code0, _⟩ := x
  exact (s_DrawRankOfClimb_e code0).trans ht)
/-! spec.DrawCountByStrides -/
noncomputable def c_s_DrawCountByStrides : FnCx := { env := env 15 [(260, S_s_l1Cur_stairs), (180, S_s_l1Cur_among)] [], body := bodyOf Try.f157, res := [.cell 2 96, .tmp 3], ins := [.ro kSuint8], out := [(kStairs, true), (kint, true)], T := (Int × List Int × List Int) × Int, fin := fun r => (r.1.1, r.1.2.1), inj := fun t => ((t.1, t.2, ()), ((), ())), pts := [], fuel := 400, dr := evDr (env 15 [(260, S_s_l1Cur_stairs), (180, S_s_l1Cur_among)] []) }
noncomputable def s_DrawCountByStrides (code0 : List Int) : Option ((Int × List Int × List Int) × Int) :=
  Option.bind (s_l1Cur_stairs code0 0 0) fun r =>
    Option.bind
      (s_l1Cur_among (Prod.fst (Prod.snd r)) (Prod.fst (Prod.snd (Prod.snd r))) (Prod.snd (Prod.snd (Prod.snd r)))
        [0, 1, 2, 3, 4, 5, 6, 61, -1, 4611686018427387904])
      fun r_1 => some ((Prod.fst (Prod.fst r), Prod.fst (Prod.snd (Prod.fst r)), Prod.snd (Prod.snd (Prod.fst r))), Prod.fst r_1)
theorem s_DrawCountByStrides_e (code0 : List Int) : c_s_DrawCountByStrides.start c_s_DrawCountByStrides.L (code0, ()) = s_DrawCountByStrides code0 := by kernel_rfl
noncomputable def F_s_DrawCountByStrides : Ins c_s_DrawCountByStrides.ins → Option ((Int × List Int × List Int) × Int) := fun x => s_DrawCountByStrides x.1
noncomputable def S_s_DrawCountByStrides : FSpec := mkF c_s_DrawCountByStrides.env.pre c_s_DrawCountByStrides.ins c_s_DrawCountByStrides.out c_s_DrawCountByStrides.inj F_s_DrawCountByStrides
theorem h_s_DrawCountByStrides : Cert Try.prog 157 S_s_DrawCountByStrides := FnCx.certF (c := c_s_DrawCountByStrides) F_s_DrawCountByStrides (tyOk _ _ _) (spOk ⟨h_s_l1Cur_stairs, fun _ _ _ => trivial, ⟨h_s_l1Cur_among, fun _ _ _ => trivial, trivial⟩⟩) (fun _ _ _ _ _ hs => evDr_ok (tyOk _ _ _) hs follows) Try.func157 rfl rfl Try.ntmps157 (by kernel_rfl) rfl rfl (fun _ => rfl) trivial (fun x => .inl ⟨c_s_DrawCountByStrides.start () x, fun _ => rfl⟩) (fun x t hb ht => by
  obtain ⟨code0, _⟩ := x
  exact (s_DrawCountByStrides_e code0).trans ht)
end Go.Proofs.Ythenlapjhlljnaa.V
