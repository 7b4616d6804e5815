/- Functions of the program, as plain functions. No condition. -/
import Derived.Test.YtoldoplpnkojdaaGreatDoorK4
set_option linter.unusedVariables false
set_option linter.unusedSimpArgs false
set_option maxRecDepth 100000
namespace Go.Proofs.YtoldoplpnkojdaaGreatDoor.V
open Go Go.Ev Go.Proofs
/-! laws.big -/
noncomputable def c_w_big : FnCx := { env := env 16 [] [], body := bodyOf Tryz.f36, res := [.tmp 4], ins := [.ro kSuint8, .ro kSuint8], out := [(kbool, true)], T := Bool, fin := fun r => r.1.1, inj := fun t => ((t, ()), ((), (), ())), pts := [], fuel := 400, dr := noDr }
noncomputable def w_big (code0 : List Int) (more1 : List Int) : Bool :=
  bif decide ((↑(List.length code0) : Int) > 1048576) then true
  else decide ((↑(List.length more1) : Int) > IntKind.wrap IntKind.i64 (1048576 - (↑(List.length code0) : Int)))
theorem w_big_e (code0 : List Int) (more1 : List Int) : c_w_big.start c_w_big.L (code0, more1, ()) = some (w_big code0 more1) := by
  refine Eq.trans (b := (bif decide ((↑(List.length code0) : Int) > 1048576) then some true else some (decide ((↑(List.length more1) : Int) > IntKind.wrap IntKind.i64 (1048576 - (↑(List.length code0) : Int)))) : Option Bool)) (by kernel_rfl) ?_
  unfold w_big
  repeat (first | rfl | apply condS)
noncomputable def F_w_big : Ins c_w_big.ins → Bool := fun x => w_big x.1 x.2.1
noncomputable def S_w_big : FSpec := mkT c_w_big.env.pre c_w_big.ins c_w_big.out c_w_big.inj F_w_big
theorem h_w_big : Cert Tryz.prog 36 S_w_big := FnCx.certT (c := c_w_big) F_w_big (tyOk _ _ _) (spOk trivial) (fun _ _ _ _ _ hs => noDr_ok) Tryz.func36 rfl rfl Tryz.ntmps36 (by kernel_rfl) rfl rfl (fun _ => rfl) trivial (fun x => .inl ⟨c_w_big.start () x, fun _ => rfl⟩) (fun x hb => by
  obtain ⟨code0, more1, _⟩ := x
  exact w_big_e code0 more1)
/-! (*spec.l1Cur).next -/
noncomputable def c_s_l1Cur_next : FnCx := { env := env 62 [] [], body := bodyOf Tryz.f118, res := [.tmp 2], ins := [.ptr 80 ksl1Cur], out := [(kint, true)], T := Int × (List Int × Int × Int), fin := fun r => (r.1.1, r.2.1), inj := fun t => ((t.1, ()), (t.2, ())), pts := [], fuel := 400, dr := evDr (env 62 [] []) }
noncomputable def s_l1Cur_next (c0_code : List Int) (c0_at : Int) (c0_seed : Int) : Option (Int × (List Int × Int × Int)) :=
  bif decide (c0_at < (↑(List.length c0_code) : Int)) then
    bif decide (0 ≤ c0_at) then
      bif decide (c0_at < (↑(List.length c0_code) : Int)) then
        bif decide (IntKind.wrap IntKind.i64 (c0_at + 1) ≤ (↑(List.length c0_code) : Int)) then
          some
            (IntKind.wrap IntKind.i64 (rdk kuint8 c0_code c0_at), c0_code, IntKind.wrap IntKind.i64 (c0_at + 1),
              IntKind.wrap IntKind.u64
                (IntKind.wrap IntKind.u64
                    (IntKind.wrap IntKind.u64 (c0_seed * 6364136223846793005) +
                      IntKind.wrap IntKind.u64 (IntKind.wrap IntKind.i64 (rdk kuint8 c0_code c0_at))) +
                  1442695040888963407))
        else
          some
            (IntKind.wrap IntKind.i64
                (IntKind.wrap IntKind.u64
                  (↑(BitVec.toNat
                        (BitVec.ofInt (IntKind.bits IntKind.u64)
                            (Int.fdiv
                              (IntKind.wrap IntKind.u64
                                (IntKind.wrap IntKind.u64
                                    (IntKind.wrap IntKind.u64 (c0_seed * 6364136223846793005) +
                                      IntKind.wrap IntKind.u64 (IntKind.wrap IntKind.i64 (rdk kuint8 c0_code c0_at))) +
                                  1442695040888963407))
                              (2 ^ min (Int.toNat 40) (IntKind.bits IntKind.u64))) &&&
                          BitVec.ofInt (IntKind.bits IntKind.u64) 255)) :
                    Int)),
              c0_code, IntKind.wrap IntKind.i64 (c0_at + 1),
              IntKind.wrap IntKind.u64
                (IntKind.wrap IntKind.u64
                    (IntKind.wrap IntKind.u64 (c0_seed * 6364136223846793005) +
                      IntKind.wrap IntKind.u64 (IntKind.wrap IntKind.i64 (rdk kuint8 c0_code c0_at))) +
                  1442695040888963407))
      else none
    else none
  else
    bif decide (IntKind.wrap IntKind.i64 (c0_at + 1) ≤ (↑(List.length c0_code) : Int)) then
      some
        (0, c0_code, IntKind.wrap IntKind.i64 (c0_at + 1),
          IntKind.wrap IntKind.u64
            (IntKind.wrap IntKind.u64 (IntKind.wrap IntKind.u64 (c0_seed * 6364136223846793005) + IntKind.wrap IntKind.u64 0) + 1442695040888963407))
    else
      some
        (IntKind.wrap IntKind.i64
            (IntKind.wrap IntKind.u64
              (↑(BitVec.toNat
                    (BitVec.ofInt (IntKind.bits IntKind.u64)
                        (Int.fdiv
                          (IntKind.wrap IntKind.u64
                            (IntKind.wrap IntKind.u64 (IntKind.wrap IntKind.u64 (c0_seed * 6364136223846793005) + IntKind.wrap IntKind.u64 0) +
                              1442695040888963407))
                          (2 ^ min (Int.toNat 40) (IntKind.bits IntKind.u64))) &&&
                      BitVec.ofInt (IntKind.bits IntKind.u64) 255)) :
                Int)),
          c0_code, IntKind.wrap IntKind.i64 (c0_at + 1),
          IntKind.wrap IntKind.u64
            (IntKind.wrap IntKind.u64 (IntKind.wrap IntKind.u64 (c0_seed * 6364136223846793005) + IntKind.wrap IntKind.u64 0) + 1442695040888963407))
theorem s_l1Cur_next_e (c0_code : List Int) (c0_at : Int) (c0_seed : Int) : c_s_l1Cur_next.start c_s_l1Cur_next.L ((c0_code, c0_at, c0_seed), ()) = s_l1Cur_next c0_code c0_at c0_seed := by kernel_rfl
noncomputable def F_s_l1Cur_next : Ins c_s_l1Cur_next.ins → Option (Int × (List Int × Int × Int)) := fun x => s_l1Cur_next x.1.1 x.1.2.1 x.1.2.2
noncomputable def S_s_l1Cur_next : FSpec := mkF c_s_l1Cur_next.env.pre c_s_l1Cur_next.ins c_s_l1Cur_next.out c_s_l1Cur_next.inj F_s_l1Cur_next
theorem h_s_l1Cur_next : Cert Tryz.prog 118 S_s_l1Cur_next := FnCx.certF (c := c_s_l1Cur_next) F_s_l1Cur_next (tyOk _ _ _) (spOk trivial) (fun _ _ _ _ _ hs => evDr_ok (tyOk _ _ _) hs follows) Tryz.func118 rfl rfl Tryz.ntmps118 (by kernel_rfl) rfl rfl (fun _ => rfl) trivial (fun x => .inl ⟨c_s_l1Cur_next.start () x, fun _ => rfl⟩) (fun x t hb ht => by
  obtain ⟨⟨c0_code, c0_at, c0_seed⟩, _⟩ := x
  exact (s_l1Cur_next_e c0_code c0_at c0_seed).trans ht)
/-! (*spec.l1Cur).pick -/
noncomputable def c_s_l1Cur_pick : FnCx := { env := env 20 [(118, S_s_l1Cur_next)] [], body := bodyOf Tryz.f92, res := [.tmp 4], ins := [.ptr 80 ksl1Cur, .ro kint], out := [(kint, true)], T := Int × (List Int × Int × Int), fin := fun r => (r.1.1, r.2.1), inj := fun t => ((t.1, ()), (t.2, (), ())), pts := [], fuel := 400, dr := noDr }
noncomputable def s_l1Cur_pick (c0_code : List Int) (c0_at : Int) (c0_seed : Int) (n1 : Int) : Option (Int × (List Int × Int × Int)) :=
  bif decide (n1 ≤ 1) then some (0, c0_code, c0_at, c0_seed)
  else
    Option.bind (s_l1Cur_next c0_code c0_at c0_seed) fun r =>
      bif decide (n1 > 200) then
        Option.bind (s_l1Cur_next (Prod.fst (Prod.snd r)) (Prod.fst (Prod.snd (Prod.snd r))) (Prod.snd (Prod.snd (Prod.snd r)))) fun r_1 =>
          bif n1 == 0 then none
          else
            some
              (Int.tmod (IntKind.wrap IntKind.i64 (IntKind.wrap IntKind.i64 (Prod.fst r * 256) + Prod.fst r_1)) n1, Prod.fst (Prod.snd r_1),
                Prod.fst (Prod.snd (Prod.snd r_1)), Prod.snd (Prod.snd (Prod.snd r_1)))
      else bif n1 == 0 then none else some (Int.tmod (Prod.fst r) n1, Prod.fst (Prod.snd r), Prod.fst (Prod.snd (Prod.snd r)), Prod.snd (Prod.snd (Prod.snd r)))
theorem s_l1Cur_pick_e (c0_code : List Int) (c0_at : Int) (c0_seed : Int) (n1 : Int) : c_s_l1Cur_pick.start c_s_l1Cur_pick.L ((c0_code, c0_at, c0_seed), n1, ()) = s_l1Cur_pick c0_code c0_at c0_seed n1 := by kernel_rfl
noncomputable def F_s_l1Cur_pick : Ins c_s_l1Cur_pick.ins → Option (Int × (List Int × Int × Int)) := fun x => s_l1Cur_pick x.1.1 x.1.2.1 x.1.2.2 x.2.1
noncomputable def S_s_l1Cur_pick : FSpec := mkF c_s_l1Cur_pick.env.pre c_s_l1Cur_pick.ins c_s_l1Cur_pick.out c_s_l1Cur_pick.inj F_s_l1Cur_pick
theorem h_s_l1Cur_pick : Cert Tryz.prog 92 S_s_l1Cur_pick := FnCx.certF (c := c_s_l1Cur_pick) F_s_l1Cur_pick (tyOk _ _ _) (spOk ⟨h_s_l1Cur_next, fun _ _ h => h, trivial⟩) (fun _ _ _ _ _ hs => noDr_ok) Tryz.func92 rfl rfl Tryz.ntmps92 (by kernel_rfl) rfl rfl (fun _ => rfl) trivial (fun x => .inl ⟨c_s_l1Cur_pick.start () x, fun _ => rfl⟩) (fun x t hb ht => by
  obtain ⟨⟨c0_code, c0_at, c0_seed⟩, n1, _⟩ := x
  exact (s_l1Cur_pick_e c0_code c0_at c0_seed n1).trans ht)
/-! (*spec.l1Cur).hidden -/
noncomputable def c_s_l1Cur_hidden : FnCx := { env := env 21 [(92, S_s_l1Cur_pick), (69, S_s_pzStrides), (70, S_s_pzStairs)] [], body := bodyOf Tryz.f91, res := [.cell 2 32], ins := [.ptr 80 ksl1Cur], out := [(kStairs, true)], T := (Int × List Int × List Int) × (List Int × Int × Int), fin := fun r => (r.1.1, r.2.1), inj := fun t => ((t.1, ()), (t.2, ())), pts := [], fuel := 400, dr := evDr (env 21 [(92, S_s_l1Cur_pick), (69, S_s_pzStrides), (70, S_s_pzStairs)] []) }
noncomputable def s_l1Cur_hidden (c0_code : List Int) (c0_at : Int) (c0_seed : Int) : Option ((Int × List Int × List Int) × (List Int × Int × Int)) :=
  Option.bind (s_l1Cur_pick c0_code c0_at c0_seed 7) fun r =>
    Option.bind (s_l1Cur_pick (Prod.fst (Prod.snd r)) (Prod.fst (Prod.snd (Prod.snd r))) (Prod.snd (Prod.snd (Prod.snd r))) (↑(List.length s_pzStrides) : Int))
      fun r_1 =>
      bif decide (0 ≤ Prod.fst r_1) then
        bif decide (Prod.fst r_1 < (↑(List.length s_pzStrides) : Int)) then
          Option.bind
            (s_l1Cur_pick (Prod.fst (Prod.snd r_1)) (Prod.fst (Prod.snd (Prod.snd r_1))) (Prod.snd (Prod.snd (Prod.snd r_1)))
              (IntKind.wrap IntKind.i64 (1 + Prod.fst r)))
            fun r_2 =>
            Option.bind (s_pzStairs (IntKind.wrap IntKind.i64 (1 + Prod.fst r)) (rdk kSint s_pzStrides (Prod.fst r_1)) (Prod.fst r_2))
              fun r =>
              some
                ((Prod.fst r, Prod.fst (Prod.snd r), Prod.snd (Prod.snd r)), Prod.fst (Prod.snd r_2), Prod.fst (Prod.snd (Prod.snd r_2)),
                  Prod.snd (Prod.snd (Prod.snd r_2)))
        else none
      else none
theorem s_l1Cur_hidden_e (c0_code : List Int) (c0_at : Int) (c0_seed : Int) : c_s_l1Cur_hidden.start c_s_l1Cur_hidden.L ((c0_code, c0_at, c0_seed), ()) = s_l1Cur_hidden c0_code c0_at c0_seed := by kernel_rfl
noncomputable def F_s_l1Cur_hidden : Ins c_s_l1Cur_hidden.ins → Option ((Int × List Int × List Int) × (List Int × Int × Int)) := fun x => s_l1Cur_hidden x.1.1 x.1.2.1 x.1.2.2
noncomputable def S_s_l1Cur_hidden : FSpec := mkF c_s_l1Cur_hidden.env.pre c_s_l1Cur_hidden.ins c_s_l1Cur_hidden.out c_s_l1Cur_hidden.inj F_s_l1Cur_hidden
theorem h_s_l1Cur_hidden : Cert Tryz.prog 91 S_s_l1Cur_hidden := FnCx.certF (c := c_s_l1Cur_hidden) F_s_l1Cur_hidden (tyOk _ _ _) (spOk ⟨h_s_l1Cur_pick, fun _ _ h => h, ⟨h_s_pzStrides, fun _ _ h => h, ⟨h_s_pzStairs, fun _ _ h => h, trivial⟩⟩⟩) (fun _ _ _ _ _ hs => evDr_ok (tyOk _ _ _) hs follows) Tryz.func91 rfl rfl Tryz.ntmps91 (by kernel_rfl) rfl rfl (fun _ => rfl) trivial (fun x => .inl ⟨c_s_l1Cur_hidden.start () x, fun _ => rfl⟩) (fun x t hb ht => by
  obtain ⟨⟨c0_code, c0_at, c0_seed⟩, _⟩ := x
  exact (s_l1Cur_hidden_e c0_code c0_at c0_seed).trans ht)
/-! spec.pzNext -/
noncomputable def c_s_pzNext : FnCx := { env := env 7 [] [], body := bodyOf Tryz.f116, res := [.tmp 2], ins := [.ro kint], out := [(kint, true)], T := Int, fin := fun r => r.1.1, inj := fun t => ((t, ()), ((), ())), pts := [], fuel := 400, dr := noDr }
noncomputable def s_pzNext (z0 : Int) : Int :=
  Int.tmod (IntKind.wrap IntKind.i64 (IntKind.wrap IntKind.i64 (293 * z0) + 907)) 10007
theorem s_pzNext_e (z0 : Int) : c_s_pzNext.start c_s_pzNext.L (z0, ()) = some (s_pzNext z0) := by kernel_rfl
noncomputable def F_s_pzNext : Ins c_s_pzNext.ins → Int := fun x => s_pzNext x.1
noncomputable def S_s_pzNext : FSpec := mkT c_s_pzNext.env.pre c_s_pzNext.ins c_s_pzNext.out c_s_pzNext.inj F_s_pzNext
theorem h_s_pzNext : Cert Tryz.prog 116 S_s_pzNext := FnCx.certT (c := c_s_pzNext) F_s_pzNext (tyOk _ _ _) (spOk trivial) (fun _ _ _ _ _ hs => noDr_ok) Tryz.func116 rfl rfl Tryz.ntmps116 (by kernel_rfl) rfl rfl (fun _ => rfl) trivial (fun x => .inl ⟨c_s_pzNext.start () x, fun _ => rfl⟩) (fun x hb => by
  obtain ⟨z0, _⟩ := x
  exact s_pzNext_e z0)
/-! spec.pzOf -/
noncomputable def c_s_pzOf : FnCx := { env := env 26 [(43, S_s_pzValue)] [], body := bodyOf Tryz.f117, res := [.cell 6 51], ins := [.ro kint, .ro kint, .ro kStairs], out := [(kClue, true)], T := (Int × Int × Int), fin := fun r => r.1.1, inj := fun t => ((t, ()), ((), (), (), ())), pts := [], fuel := 400, dr := noDr }
noncomputable def s_pzOf (kind0 : Int) (y1 : Int) (s2_Steps : Int) (s2_Strides : List Int) (s2_Broken : List Int) : Option (Int × Int × Int) :=
  bif kind0 == 2 then
    Option.bind (s_pzValue kind0 (IntKind.wrap IntKind.i64 (Int.tmod y1 3 + 1)) s2_Steps s2_Strides s2_Broken) fun r =>
      some (kind0, IntKind.wrap IntKind.i64 (Int.tmod y1 3 + 1), r)
  else
    bif kind0 == 3 then
      Option.bind (s_pzValue kind0 (IntKind.wrap IntKind.i64 (Int.tmod y1 7 + 1)) s2_Steps s2_Strides s2_Broken) fun r =>
        some (kind0, IntKind.wrap IntKind.i64 (Int.tmod y1 7 + 1), r)
    else Option.bind (s_pzValue kind0 0 s2_Steps s2_Strides s2_Broken) fun r => some (kind0, 0, r)
theorem s_pzOf_e (kind0 : Int) (y1 : Int) (s2_Steps : Int) (s2_Strides : List Int) (s2_Broken : List Int) : c_s_pzOf.start c_s_pzOf.L (kind0, y1, (s2_Steps, s2_Strides, s2_Broken), ()) = s_pzOf kind0 y1 s2_Steps s2_Strides s2_Broken := by kernel_rfl
noncomputable def F_s_pzOf : Ins c_s_pzOf.ins → Option (Int × Int × Int) := fun x => s_pzOf x.1 x.2.1 x.2.2.1.1 x.2.2.1.2.1 x.2.2.1.2.2
noncomputable def S_s_pzOf : FSpec := mkF c_s_pzOf.env.pre c_s_pzOf.ins c_s_pzOf.out c_s_pzOf.inj F_s_pzOf
theorem h_s_pzOf : Cert Tryz.prog 117 S_s_pzOf := FnCx.certF (c := c_s_pzOf) F_s_pzOf (tyOk _ _ _) (spOk ⟨h_s_pzValue, fun _ _ h => h, trivial⟩) (fun _ _ _ _ _ hs => noDr_ok) Tryz.func117 rfl rfl Tryz.ntmps117 (by kernel_rfl) rfl rfl (fun _ => rfl) trivial (fun x => .inl ⟨c_s_pzOf.start () x, fun _ => rfl⟩) (fun x t hb ht => by
  obtain ⟨kind0, y1, ⟨s2_Steps, s2_Strides, s2_Broken⟩, _⟩ := x
  exact (s_pzOf_e kind0 y1 s2_Steps s2_Strides s2_Broken).trans ht)
/-! spec.MakePuzzle -/
noncomputable def c_s_MakePuzzle : FnCx := { env := env 47 [(115, S_s_pzHidden), (95, S_s_l1In), (116, S_s_pzNext), (117, S_s_pzOf)] [], body := bodyOf Tryz.f90, res := [.cell 6 24, .tmp 7], ins := [.ro kStairs, .ro kint, .ro kint], out := [(kPuzzle, true), (kbool, true)], T := List (Int × Int × Int) × Bool, fin := fun r => (r.1.1, r.1.2.1), inj := fun t => ((t.1, t.2, ()), ((), (), (), ())), pts := [([.inLoop [1, 1, 1, 1, 0, 0, 0], .inBlock 0, .code [1, 1, 1, 1, 1]], Shape.mk [Bs.box 32 [Cs.sc kint, Cs.sl 3, Cs.sl 4], Bs.box 24 [Cs.sl 5], Bs.box 24 [Cs.sl 6], Bs.row kint 3 false, Bs.row kint 3 false, Bs.row kClue 51 true, Bs.row kClue 51 true] [(1, Ss.one (Cs.sc kint)), (3, Ss.one (Cs.ptr 0 0)), (6, Ss.one (Cs.ptr 1 0)), (8, Ss.one (Cs.ptr 2 0)), (9, Ss.one (Cs.sc kint))] [Ss.one (Cs.any), Ss.one (Cs.any), Ss.one (Cs.any)])], fuel := 400, dr := evDr (env 47 [(115, S_s_pzHidden), (95, S_s_l1In), (116, S_s_pzNext), (117, S_s_pzOf)] []) }
noncomputable def s_MakePuzzle_t1 (g1 : Int → List (Int) → List (Int) → List (Int × (Int × Int)) → List (Int × (Int × Int)) → Int → Int → Option (List (Int × Int × Int) × Bool)) (b0_0 : Int) (r3 : List (Int)) (r4 : List (Int)) (r5 : List (Int × (Int × Int))) (r6 : List (Int × (Int × Int))) (clues1 : Int) (z9 : Int) : Option (List (Int × Int × Int) × Bool) :=
  bif decide (clues1 > 0) then
    Option.bind (s_pzOf (Int.tmod (s_pzNext z9) 6) (s_pzNext (s_pzNext z9)) b0_0 r3 r4) fun r =>
      bif Nat.ble (List.length r6 + 1) 4294967296 then
        g1 b0_0 r3 r4 r5 (r6 ++ [(Prod.fst r, Prod.fst (Prod.snd r), Prod.snd (Prod.snd r))]) (IntKind.wrap IntKind.i64 (clues1 - 1)) (s_pzNext (s_pzNext z9))
      else none
  else some (r6, true)
noncomputable def s_MakePuzzle_t0 (g1 : Int → List (Int) → List (Int) → List (Int × (Int × Int)) → List (Int × (Int × Int)) → Int → Int → Option (List (Int × Int × Int) × Bool)) (s0_Steps : Int) (s0_Strides : List Int) (s0_Broken : List Int) (clues1 : Int) (seed2 : Int) : Option (List (Int × Int × Int) × Bool) :=
  Option.bind (s_pzHidden s0_Steps s0_Strides s0_Broken) fun r =>
    bif !r then some ([], false)
    else bif !s_l1In clues1 0 6 then some ([], false) else bif !s_l1In seed2 0 9999 then some ([], false) else g1 s0_Steps s0_Strides s0_Broken [] [] clues1 seed2
theorem s_MakePuzzle_ts : Tails c_s_MakePuzzle.pts c_s_MakePuzzle.round :=
  ⟨fun s => by
    obtain ⟨⟨⟨b0_0, _, _, _⟩, ⟨_, _⟩, ⟨_, _⟩, r3, r4, r5, r6, _⟩, ⟨clues1, _, _, _, z9, _⟩, ⟨_, _, _, _⟩⟩ := s
    refine Tail.eq (Y := fun g => s_MakePuzzle_t1 (fun b0_0 r3 r4 r5 r6 clues1 z9 => g.1 (((b0_0, (), (), ()), ((), ()), ((), ()), r3, r4, r5, r6, ()), (clues1, (), (), (), z9, ()), ((), (), (), ()))) b0_0 r3 r4 r5 r6 clues1 z9) ?_ (fun g => by kernel_rfl)
    simp only [s_MakePuzzle_t1]; repeat (first | exact Tail.const _ | exact Tail.here _ | exact Tail.there (Tail.here _) | exact Tail.there (Tail.there (Tail.here _)) | exact Tail.there (Tail.there (Tail.there (Tail.here _))) | exact Tail.there (Tail.there (Tail.there (Tail.there (Tail.here _)))) | exact Tail.there (Tail.there (Tail.there (Tail.there (Tail.there (Tail.here _))))) | apply Tail.cond | (apply Tail.bind; intro _)), trivial⟩
theorem s_MakePuzzle_hs : ∀ x, Tail c_s_MakePuzzle.pts (fun g => c_s_MakePuzzle.start g x) := fun x => by
    obtain ⟨⟨s0_Steps, s0_Strides, s0_Broken⟩, clues1, seed2, _⟩ := x
    refine Tail.eq (Y := fun g => s_MakePuzzle_t0 (fun b0_0 r3 r4 r5 r6 clues1 z9 => g.1 (((b0_0, (), (), ()), ((), ()), ((), ()), r3, r4, r5, r6, ()), (clues1, (), (), (), z9, ()), ((), (), (), ()))) s0_Steps s0_Strides s0_Broken clues1 seed2) ?_ (fun g => by kernel_rfl)
    simp only [s_MakePuzzle_t0]; repeat (first | exact Tail.const _ | exact Tail.here _ | exact Tail.there (Tail.here _) | exact Tail.there (Tail.there (Tail.here _)) | exact Tail.there (Tail.there (Tail.there (Tail.here _))) | exact Tail.there (Tail.there (Tail.there (Tail.there (Tail.here _)))) | exact Tail.there (Tail.there (Tail.there (Tail.there (Tail.there (Tail.here _))))) | apply Tail.cond | (apply Tail.bind; intro _))
noncomputable def s_MakePuzzle_L1 (b0_0 : Int) (r3 : List (Int)) (r4 : List (Int)) (r5 : List (Int × (Int × Int))) (r6 : List (Int × (Int × Int))) (clues1 : Int) (z9 : Int) : Option (List (Int × Int × Int) × Bool) := c_s_MakePuzzle.L.1 (((b0_0, (), (), ()), ((), ()), ((), ()), r3, r4, r5, r6, ()), (clues1, (), (), (), z9, ()), ((), (), (), ()))
theorem s_MakePuzzle_u1 (b0_0 : Int) (r3 : List (Int)) (r4 : List (Int)) (r5 : List (Int × (Int × Int))) (r6 : List (Int × (Int × Int))) (clues1 : Int) (z9 : Int) : s_MakePuzzle_L1 b0_0 r3 r4 r5 r6 clues1 z9 = s_MakePuzzle_t1 s_MakePuzzle_L1 b0_0 r3 r4 r5 r6 clues1 z9 :=
  (congrArg (fun g => g.1 (((b0_0, (), (), ()), ((), ()), ((), ()), r3, r4, r5, r6, ()), (clues1, (), (), (), z9, ()), ((), (), (), ()))) (FnCx.L_eq s_MakePuzzle_ts)).trans (by kernel_rfl)
noncomputable def s_MakePuzzle (s0_Steps : Int) (s0_Strides : List Int) (s0_Broken : List Int) (clues1 : Int) (seed2 : Int) : Option (List (Int × Int × Int) × Bool) := s_MakePuzzle_t0 s_MakePuzzle_L1 s0_Steps s0_Strides s0_Broken clues1 seed2
theorem s_MakePuzzle_e (s0_Steps : Int) (s0_Strides : List Int) (s0_Broken : List Int) (clues1 : Int) (seed2 : Int) : c_s_MakePuzzle.start c_s_MakePuzzle.L ((s0_Steps, s0_Strides, s0_Broken), clues1, seed2, ()) = s_MakePuzzle s0_Steps s0_Strides s0_Broken clues1 seed2 := by kernel_rfl
noncomputable def F_s_MakePuzzle : Ins c_s_MakePuzzle.ins → Option (List (Int × Int × Int) × Bool) := fun x => s_MakePuzzle x.1.1 x.1.2.1 x.1.2.2 x.2.1 x.2.2.1
noncomputable def S_s_MakePuzzle : FSpec := mkF c_s_MakePuzzle.env.pre c_s_MakePuzzle.ins c_s_MakePuzzle.out c_s_MakePuzzle.inj F_s_MakePuzzle
theorem h_s_MakePuzzle : Cert Tryz.prog 90 S_s_MakePuzzle := FnCx.certF (c := c_s_MakePuzzle) F_s_MakePuzzle (tyOk _ _ _) (spOk ⟨h_s_pzHidden, fun _ _ h => h, ⟨h_s_l1In, fun _ _ h => h, ⟨h_s_pzNext, fun _ _ h => h, ⟨h_s_pzOf, fun _ _ h => h, trivial⟩⟩⟩⟩) (fun _ _ _ _ _ hs => evDr_ok (tyOk _ _ _) hs follows) Tryz.func90 rfl rfl Tryz.ntmps90 (by kernel_rfl) rfl rfl (fun _ => rfl) s_MakePuzzle_ts s_MakePuzzle_hs (fun x t hb ht => by
  obtain ⟨⟨s0_Steps, s0_Strides, s0_Broken⟩, clues1, seed2, _⟩ := x
  exact (s_MakePuzzle_e s0_Steps s0_Strides s0_Broken clues1 seed2).trans ht)
/-! (*spec.l1Cur).surePuzzle -/
noncomputable def c_s_l1Cur_surePuzzle : FnCx := { env := env 20 [(91, S_s_l1Cur_hidden), (92, S_s_l1Cur_pick), (90, S_s_MakePuzzle)] [], body := bodyOf Tryz.f61, res := [.cell 4 24], ins := [.ptr 80 ksl1Cur, .ro kint], out := [(kPuzzle, true)], T := List (Int × Int × Int) × (List Int × Int × Int), fin := fun r => (r.1.1, r.2.1), inj := fun t => ((t.1, ()), (t.2, (), ())), pts := [], fuel := 400, dr := noDr }
noncomputable def s_l1Cur_surePuzzle (c0_code : List Int) (c0_at : Int) (c0_seed : Int) (most1 : Int) : Option (List (Int × Int × Int) × (List Int × Int × Int)) :=
  Option.bind (s_l1Cur_hidden c0_code c0_at c0_seed) fun r =>
    Option.bind
      (s_l1Cur_pick (Prod.fst (Prod.snd r)) (Prod.fst (Prod.snd (Prod.snd r))) (Prod.snd (Prod.snd (Prod.snd r))) (IntKind.wrap IntKind.i64 (most1 + 1)))
      fun r_1 =>
      Option.bind (s_l1Cur_pick (Prod.fst (Prod.snd r_1)) (Prod.fst (Prod.snd (Prod.snd r_1))) (Prod.snd (Prod.snd (Prod.snd r_1))) 10000) fun r_2 =>
        Option.bind (s_MakePuzzle (Prod.fst (Prod.fst r)) (Prod.fst (Prod.snd (Prod.fst r))) (Prod.snd (Prod.snd (Prod.fst r))) (Prod.fst r_1) (Prod.fst r_2))
          fun r => some (Prod.fst r, Prod.fst (Prod.snd r_2), Prod.fst (Prod.snd (Prod.snd r_2)), Prod.snd (Prod.snd (Prod.snd r_2)))
theorem s_l1Cur_surePuzzle_e (c0_code : List Int) (c0_at : Int) (c0_seed : Int) (most1 : Int) : c_s_l1Cur_surePuzzle.start c_s_l1Cur_surePuzzle.L ((c0_code, c0_at, c0_seed), most1, ()) = s_l1Cur_surePuzzle c0_code c0_at c0_seed most1 := by kernel_rfl
noncomputable def F_s_l1Cur_surePuzzle : Ins c_s_l1Cur_surePuzzle.ins → Option (List (Int × Int × Int) × (List Int × Int × Int)) := fun x => s_l1Cur_surePuzzle x.1.1 x.1.2.1 x.1.2.2 x.2.1
noncomputable def S_s_l1Cur_surePuzzle : FSpec := mkF c_s_l1Cur_surePuzzle.env.pre c_s_l1Cur_surePuzzle.ins c_s_l1Cur_surePuzzle.out c_s_l1Cur_surePuzzle.inj F_s_l1Cur_surePuzzle
theorem h_s_l1Cur_surePuzzle : Cert Tryz.prog 61 S_s_l1Cur_surePuzzle := FnCx.certF (c := c_s_l1Cur_surePuzzle) F_s_l1Cur_surePuzzle (tyOk _ _ _) (spOk ⟨h_s_l1Cur_hidden, fun _ _ h => h, ⟨h_s_l1Cur_pick, fun _ _ h => h, ⟨h_s_MakePuzzle, fun _ _ h => h, trivial⟩⟩⟩) (fun _ _ _ _ _ hs => noDr_ok) Tryz.func61 rfl rfl Tryz.ntmps61 (by kernel_rfl) rfl rfl (fun _ => rfl) trivial (fun x => .inl ⟨c_s_l1Cur_surePuzzle.start () x, fun _ => rfl⟩) (fun x t hb ht => by
  obtain ⟨⟨c0_code, c0_at, c0_seed⟩, most1, _⟩ := x
  exact (s_l1Cur_surePuzzle_e c0_code c0_at c0_seed most1).trans ht)
/-! (*spec.l1Cur).one -/
noncomputable def c_s_l1Cur_one : FnCx := { env := env 9 [(92, S_s_l1Cur_pick)] [], body := bodyOf Tryz.f62, res := [.tmp 4], ins := [.ptr 80 ksl1Cur, .ro kint], out := [(kbool, true)], T := Bool × (List Int × Int × Int), fin := fun r => (r.1.1, r.2.1), inj := fun t => ((t.1, ()), (t.2, (), ())), pts := [], fuel := 400, dr := noDr }
noncomputable def s_l1Cur_one (c0_code : List Int) (c0_at : Int) (c0_seed : Int) (n1 : Int) : Option (Bool × (List Int × Int × Int)) :=
  Option.bind (s_l1Cur_pick c0_code c0_at c0_seed n1) fun r =>
    some (Prod.fst r == 0, Prod.fst (Prod.snd r), Prod.fst (Prod.snd (Prod.snd r)), Prod.snd (Prod.snd (Prod.snd r)))
theorem s_l1Cur_one_e (c0_code : List Int) (c0_at : Int) (c0_seed : Int) (n1 : Int) : c_s_l1Cur_one.start c_s_l1Cur_one.L ((c0_code, c0_at, c0_seed), n1, ()) = s_l1Cur_one c0_code c0_at c0_seed n1 := by kernel_rfl
noncomputable def F_s_l1Cur_one : Ins c_s_l1Cur_one.ins → Option (Bool × (List Int × Int × Int)) := fun x => s_l1Cur_one x.1.1 x.1.2.1 x.1.2.2 x.2.1
noncomputable def S_s_l1Cur_one : FSpec := mkF c_s_l1Cur_one.env.pre c_s_l1Cur_one.ins c_s_l1Cur_one.out c_s_l1Cur_one.inj F_s_l1Cur_one
theorem h_s_l1Cur_one : Cert Tryz.prog 62 S_s_l1Cur_one := FnCx.certF (c := c_s_l1Cur_one) F_s_l1Cur_one (tyOk _ _ _) (spOk ⟨h_s_l1Cur_pick, fun _ _ h => h, trivial⟩) (fun _ _ _ _ _ hs => noDr_ok) Tryz.func62 rfl rfl Tryz.ntmps62 (by kernel_rfl) rfl rfl (fun _ => rfl) trivial (fun x => .inl ⟨c_s_l1Cur_one.start () x, fun _ => rfl⟩) (fun x t hb ht => by
  obtain ⟨⟨c0_code, c0_at, c0_seed⟩, n1, _⟩ := x
  exact (s_l1Cur_one_e c0_code c0_at c0_seed n1).trans ht)
/-! (*spec.l1Cur).clue -/
noncomputable def c_s_l1Cur_clue : FnCx := { env := env 35 [(92, S_s_l1Cur_pick), (62, S_s_l1Cur_one)] [], body := bodyOf Tryz.f114, res := [.cell 2 51], ins := [.ptr 80 ksl1Cur], out := [(kClue, true)], T := (Int × Int × Int) × (List Int × Int × Int), fin := fun r => (r.1.1, r.2.1), inj := fun t => ((t.1, ()), (t.2, ())), pts := [], fuel := 400, dr := noDr }
noncomputable def s_l1Cur_clue (c0_code : List Int) (c0_at : Int) (c0_seed : Int) : Option ((Int × Int × Int) × (List Int × Int × Int)) :=
  Option.bind (s_l1Cur_pick c0_code c0_at c0_seed 6) fun r =>
    Option.bind (s_l1Cur_pick (Prod.fst (Prod.snd r)) (Prod.fst (Prod.snd (Prod.snd r))) (Prod.snd (Prod.snd (Prod.snd r))) 9) fun r_1 =>
      Option.bind (s_l1Cur_pick (Prod.fst (Prod.snd r_1)) (Prod.fst (Prod.snd (Prod.snd r_1))) (Prod.snd (Prod.snd (Prod.snd r_1))) 8) fun r_2 =>
        Option.bind (s_l1Cur_pick (Prod.fst (Prod.snd r_2)) (Prod.fst (Prod.snd (Prod.snd r_2))) (Prod.snd (Prod.snd (Prod.snd r_2))) 9) fun r_3 =>
          bif IntKind.wrap IntKind.i64 (Prod.fst r + IntKind.wrap IntKind.i64 (Int.tdiv (Prod.fst r_1) 8)) == 2 then
            Option.bind (s_l1Cur_pick (Prod.fst (Prod.snd r_3)) (Prod.fst (Prod.snd (Prod.snd r_3))) (Prod.snd (Prod.snd (Prod.snd r_3))) 8) fun r_4 =>
              Option.bind (s_l1Cur_pick (Prod.fst (Prod.snd r_4)) (Prod.fst (Prod.snd (Prod.snd r_4))) (Prod.snd (Prod.snd (Prod.snd r_4))) 3) fun r_5 =>
                Option.bind (s_l1Cur_one (Prod.fst (Prod.snd r_5)) (Prod.fst (Prod.snd (Prod.snd r_5))) (Prod.snd (Prod.snd (Prod.snd r_5))) 14) fun r_6 =>
                  bif Prod.fst r_6 then
                    Option.bind (s_l1Cur_pick (Prod.fst (Prod.snd r_6)) (Prod.fst (Prod.snd (Prod.snd r_6))) (Prod.snd (Prod.snd (Prod.snd r_6))) 3) fun r_7 =>
                      some
                        ((IntKind.wrap IntKind.i64 (Prod.fst r + IntKind.wrap IntKind.i64 (Int.tdiv (Prod.fst r_1) 8)),
                            IntKind.wrap IntKind.i64 (Prod.fst r_7 - 1), Prod.fst r_5),
                          Prod.fst (Prod.snd r_7), Prod.fst (Prod.snd (Prod.snd r_7)), Prod.snd (Prod.snd (Prod.snd r_7)))
                  else
                    some
                      ((IntKind.wrap IntKind.i64 (Prod.fst r + IntKind.wrap IntKind.i64 (Int.tdiv (Prod.fst r_1) 8)), Prod.fst r_4, Prod.fst r_5),
                        Prod.fst (Prod.snd r_6), Prod.fst (Prod.snd (Prod.snd r_6)), Prod.snd (Prod.snd (Prod.snd r_6)))
          else
            bif IntKind.wrap IntKind.i64 (Prod.fst r + IntKind.wrap IntKind.i64 (Int.tdiv (Prod.fst r_1) 8)) == 3 then
              Option.bind (s_l1Cur_pick (Prod.fst (Prod.snd r_3)) (Prod.fst (Prod.snd (Prod.snd r_3))) (Prod.snd (Prod.snd (Prod.snd r_3))) 8) fun r_4 =>
                Option.bind (s_l1Cur_pick (Prod.fst (Prod.snd r_4)) (Prod.fst (Prod.snd (Prod.snd r_4))) (Prod.snd (Prod.snd (Prod.snd r_4))) 3) fun r_5 =>
                  Option.bind (s_l1Cur_one (Prod.fst (Prod.snd r_5)) (Prod.fst (Prod.snd (Prod.snd r_5))) (Prod.snd (Prod.snd (Prod.snd r_5))) 14) fun r_6 =>
                    bif Prod.fst r_6 then
                      Option.bind (s_l1Cur_pick (Prod.fst (Prod.snd r_6)) (Prod.fst (Prod.snd (Prod.snd r_6))) (Prod.snd (Prod.snd (Prod.snd r_6))) 3) fun r_7 =>
                        some
                          ((IntKind.wrap IntKind.i64 (Prod.fst r + IntKind.wrap IntKind.i64 (Int.tdiv (Prod.fst r_1) 8)),
                              IntKind.wrap IntKind.i64 (Prod.fst r_7 - 1), Prod.fst r_5),
                            Prod.fst (Prod.snd r_7), Prod.fst (Prod.snd (Prod.snd r_7)), Prod.snd (Prod.snd (Prod.snd r_7)))
                    else
                      some
                        ((IntKind.wrap IntKind.i64 (Prod.fst r + IntKind.wrap IntKind.i64 (Int.tdiv (Prod.fst r_1) 8)), Prod.fst r_4, Prod.fst r_5),
                          Prod.fst (Prod.snd r_6), Prod.fst (Prod.snd (Prod.snd r_6)), Prod.snd (Prod.snd (Prod.snd r_6)))
            else
              Option.bind (s_l1Cur_one (Prod.fst (Prod.snd r_3)) (Prod.fst (Prod.snd (Prod.snd r_3))) (Prod.snd (Prod.snd (Prod.snd r_3))) 14) fun r_4 =>
                bif Prod.fst r_4 then
                  Option.bind (s_l1Cur_pick (Prod.fst (Prod.snd r_4)) (Prod.fst (Prod.snd (Prod.snd r_4))) (Prod.snd (Prod.snd (Prod.snd r_4))) 3) fun r_5 =>
                    some
                      ((IntKind.wrap IntKind.i64 (Prod.fst r + IntKind.wrap IntKind.i64 (Int.tdiv (Prod.fst r_1) 8)), IntKind.wrap IntKind.i64 (Prod.fst r_5 - 1),
                          IntKind.wrap IntKind.i64 (Prod.fst r_2 - IntKind.wrap IntKind.i64 (Int.tdiv (Prod.fst r_3) 8))),
                        Prod.fst (Prod.snd r_5), Prod.fst (Prod.snd (Prod.snd r_5)), Prod.snd (Prod.snd (Prod.snd r_5)))
                else
                  some
                    ((IntKind.wrap IntKind.i64 (Prod.fst r + IntKind.wrap IntKind.i64 (Int.tdiv (Prod.fst r_1) 8)), 0,
                        IntKind.wrap IntKind.i64 (Prod.fst r_2 - IntKind.wrap IntKind.i64 (Int.tdiv (Prod.fst r_3) 8))),
                      Prod.fst (Prod.snd r_4), Prod.fst (Prod.snd (Prod.snd r_4)), Prod.snd (Prod.snd (Prod.snd r_4)))
theorem s_l1Cur_clue_e (c0_code : List Int) (c0_at : Int) (c0_seed : Int) : c_s_l1Cur_clue.start c_s_l1Cur_clue.L ((c0_code, c0_at, c0_seed), ()) = s_l1Cur_clue c0_code c0_at c0_seed := by kernel_rfl
noncomputable def F_s_l1Cur_clue : Ins c_s_l1Cur_clue.ins → Option ((Int × Int × Int) × (List Int × Int × Int)) := fun x => s_l1Cur_clue x.1.1 x.1.2.1 x.1.2.2
noncomputable def S_s_l1Cur_clue : FSpec := mkF c_s_l1Cur_clue.env.pre c_s_l1Cur_clue.ins c_s_l1Cur_clue.out c_s_l1Cur_clue.inj F_s_l1Cur_clue
theorem h_s_l1Cur_clue : Cert Tryz.prog 114 S_s_l1Cur_clue := FnCx.certF (c := c_s_l1Cur_clue) F_s_l1Cur_clue (tyOk _ _ _) (spOk ⟨h_s_l1Cur_pick, fun _ _ h => h, ⟨h_s_l1Cur_one, fun _ _ h => h, trivial⟩⟩) (fun _ _ _ _ _ hs => noDr_ok) Tryz.func114 rfl rfl Tryz.ntmps114 (by kernel_rfl) rfl rfl (fun _ => rfl) trivial (fun x => .inl ⟨c_s_l1Cur_clue.start () x, fun _ => rfl⟩) (fun x t hb ht => by
  obtain ⟨⟨c0_code, c0_at, c0_seed⟩, _⟩ := x
  exact (s_l1Cur_clue_e c0_code c0_at c0_seed).trans ht)
/-! (*spec.l1Cur).puzzle -/
noncomputable def c_s_l1Cur_puzzle : FnCx := { env := env 34 [(61, S_s_l1Cur_surePuzzle), (92, S_s_l1Cur_pick), (114, S_s_l1Cur_clue)] [], body := bodyOf Tryz.f89, res := [.cell 2 24], ins := [.ptr 80 ksl1Cur], out := [(kPuzzle, true)], T := List (Int × Int × Int) × (List Int × Int × Int), fin := fun r => (r.1.1, r.2.1), inj := fun t => ((t.1, ()), (t.2, ())), pts := [([.inLoop [1, 1, 0, 1, 0, 1, 1, 1, 0, 0, 0], .inBlock 1, .inBlock 0, .code [1, 1, 1]], Shape.mk [Bs.box 80 [Cs.sl 3, Cs.sc kint, Cs.sc kuint64], Bs.box 24 [Cs.sl 4], Bs.box 24 [Cs.sl 5], Bs.row kuint8 5 false, Bs.row kClue 51 true, Bs.row kClue 51 true] [(0, Ss.one (Cs.ptr 0 0)), (2, Ss.one (Cs.ptr 1 0)), (3, Ss.one (Cs.ptr 2 0))] [Ss.one (Cs.ptr 0 0)])], fuel := 400, dr := evDr (env 34 [(61, S_s_l1Cur_surePuzzle), (92, S_s_l1Cur_pick), (114, S_s_l1Cur_clue)] []) }
noncomputable def s_l1Cur_puzzle_t1 (g1 : Int → Int → List (Int) → List (Int × (Int × Int)) → List (Int × (Int × Int)) → Option (List (Int × Int × Int) × (List Int × Int × Int))) (b0_1 : Int) (b0_2 : Int) (r3 : List (Int)) (r4 : List (Int × (Int × Int))) (r5 : List (Int × (Int × Int))) : Option (List (Int × Int × Int) × (List Int × Int × Int)) :=
  Option.bind (s_l1Cur_pick r3 b0_1 b0_2 2) fun r =>
    bif decide ((↑(List.length r5) : Int) < IntKind.wrap IntKind.i64 (6 + Prod.fst r)) then
      bif Nat.ble (List.length r5 + 1) 4294967296 then
        g1 (Prod.fst (Prod.snd (Prod.snd r))) (Prod.snd (Prod.snd (Prod.snd r))) (Prod.fst (Prod.snd r)) r4 (r5 ++ [(4, 0, 5)])
      else none
    else some (r5, Prod.fst (Prod.snd r), Prod.fst (Prod.snd (Prod.snd r)), Prod.snd (Prod.snd (Prod.snd r)))
noncomputable def s_l1Cur_puzzle_t0 (g1 : Int → Int → List (Int) → List (Int × (Int × Int)) → List (Int × (Int × Int)) → Option (List (Int × Int × Int) × (List Int × Int × Int))) (c0_code : List Int) (c0_at : Int) (c0_seed : Int) : Option (List (Int × Int × Int) × (List Int × Int × Int)) :=
  Option.bind (s_l1Cur_surePuzzle c0_code c0_at c0_seed 5) fun r =>
    Option.bind (s_l1Cur_pick (Prod.fst (Prod.snd r)) (Prod.fst (Prod.snd (Prod.snd r))) (Prod.snd (Prod.snd (Prod.snd r))) 12) fun r_1 =>
      bif Prod.fst r_1 == 0 then
        Option.bind (s_l1Cur_clue (Prod.fst (Prod.snd r_1)) (Prod.fst (Prod.snd (Prod.snd r_1))) (Prod.snd (Prod.snd (Prod.snd r_1)))) fun r_2 =>
          bif Nat.ble (List.length (Prod.fst r) + 1) 4294967296 then
            some
              (Prod.fst r ++ [(Prod.fst (Prod.fst r_2), Prod.fst (Prod.snd (Prod.fst r_2)), Prod.snd (Prod.snd (Prod.fst r_2)))], Prod.fst (Prod.snd r_2),
                Prod.fst (Prod.snd (Prod.snd r_2)), Prod.snd (Prod.snd (Prod.snd r_2)))
          else none
      else
        bif Prod.fst r_1 == 1 then
          Option.bind (s_l1Cur_clue (Prod.fst (Prod.snd r_1)) (Prod.fst (Prod.snd (Prod.snd r_1))) (Prod.snd (Prod.snd (Prod.snd r_1)))) fun r_2 =>
            bif Nat.ble (List.length (Prod.fst r) + 1) 4294967296 then
              some
                (Prod.fst r ++ [(Prod.fst (Prod.fst r_2), Prod.fst (Prod.snd (Prod.fst r_2)), Prod.snd (Prod.snd (Prod.fst r_2)))], Prod.fst (Prod.snd r_2),
                  Prod.fst (Prod.snd (Prod.snd r_2)), Prod.snd (Prod.snd (Prod.snd r_2)))
            else none
        else
          bif Prod.fst r_1 == 2 then g1 (Prod.fst (Prod.snd (Prod.snd r_1))) (Prod.snd (Prod.snd (Prod.snd r_1))) (Prod.fst (Prod.snd r_1)) [] (Prod.fst r)
          else some (Prod.fst r, Prod.fst (Prod.snd r_1), Prod.fst (Prod.snd (Prod.snd r_1)), Prod.snd (Prod.snd (Prod.snd r_1)))
theorem s_l1Cur_puzzle_ts : Tails c_s_l1Cur_puzzle.pts c_s_l1Cur_puzzle.round :=
  ⟨fun s => by
    obtain ⟨⟨⟨_, b0_1, b0_2, _⟩, ⟨_, _⟩, ⟨_, _⟩, r3, r4, r5, _⟩, ⟨_, _, _, _⟩, ⟨_, _⟩⟩ := s
    refine Tail.eq (Y := fun g => s_l1Cur_puzzle_t1 (fun b0_1 b0_2 r3 r4 r5 => g.1 ((((), b0_1, b0_2, ()), ((), ()), ((), ()), r3, r4, r5, ()), ((), (), (), ()), ((), ()))) b0_1 b0_2 r3 r4 r5) ?_ (fun g => by kernel_rfl)
    simp only [s_l1Cur_puzzle_t1]; repeat (first | exact Tail.const _ | exact Tail.here _ | exact Tail.there (Tail.here _) | exact Tail.there (Tail.there (Tail.here _)) | exact Tail.there (Tail.there (Tail.there (Tail.here _))) | exact Tail.there (Tail.there (Tail.there (Tail.there (Tail.here _)))) | exact Tail.there (Tail.there (Tail.there (Tail.there (Tail.there (Tail.here _))))) | apply Tail.cond | (apply Tail.bind; intro _)), trivial⟩
theorem s_l1Cur_puzzle_hs : ∀ x, Tail c_s_l1Cur_puzzle.pts (fun g => c_s_l1Cur_puzzle.start g x) := fun x => by
    obtain ⟨⟨c0_code, c0_at, c0_seed⟩, _⟩ := x
    refine Tail.eq (Y := fun g => s_l1Cur_puzzle_t0 (fun b0_1 b0_2 r3 r4 r5 => g.1 ((((), b0_1, b0_2, ()), ((), ()), ((), ()), r3, r4, r5, ()), ((), (), (), ()), ((), ()))) c0_code c0_at c0_seed) ?_ (fun g => by kernel_rfl)
    simp only [s_l1Cur_puzzle_t0]; repeat (first | exact Tail.const _ | exact Tail.here _ | exact Tail.there (Tail.here _) | exact Tail.there (Tail.there (Tail.here _)) | exact Tail.there (Tail.there (Tail.there (Tail.here _))) | exact Tail.there (Tail.there (Tail.there (Tail.there (Tail.here _)))) | exact Tail.there (Tail.there (Tail.there (Tail.there (Tail.there (Tail.here _))))) | apply Tail.cond | (apply Tail.bind; intro _))
noncomputable def s_l1Cur_puzzle_L1 (b0_1 : Int) (b0_2 : Int) (r3 : List (Int)) (r4 : List (Int × (Int × Int))) (r5 : List (Int × (Int × Int))) : Option (List (Int × Int × Int) × (List Int × Int × Int)) := c_s_l1Cur_puzzle.L.1 ((((), b0_1, b0_2, ()), ((), ()), ((), ()), r3, r4, r5, ()), ((), (), (), ()), ((), ()))
theorem s_l1Cur_puzzle_u1 (b0_1 : Int) (b0_2 : Int) (r3 : List (Int)) (r4 : List (Int × (Int × Int))) (r5 : List (Int × (Int × Int))) : s_l1Cur_puzzle_L1 b0_1 b0_2 r3 r4 r5 = s_l1Cur_puzzle_t1 s_l1Cur_puzzle_L1 b0_1 b0_2 r3 r4 r5 :=
  (congrArg (fun g => g.1 ((((), b0_1, b0_2, ()), ((), ()), ((), ()), r3, r4, r5, ()), ((), (), (), ()), ((), ()))) (FnCx.L_eq s_l1Cur_puzzle_ts)).trans (by kernel_rfl)
noncomputable def s_l1Cur_puzzle (c0_code : List Int) (c0_at : Int) (c0_seed : Int) : Option (List (Int × Int × Int) × (List Int × Int × Int)) := s_l1Cur_puzzle_t0 s_l1Cur_puzzle_L1 c0_code c0_at c0_seed
theorem s_l1Cur_puzzle_e (c0_code : List Int) (c0_at : Int) (c0_seed : Int) : c_s_l1Cur_puzzle.start c_s_l1Cur_puzzle.L ((c0_code, c0_at, c0_seed), ()) = s_l1Cur_puzzle c0_code c0_at c0_seed := by kernel_rfl
noncomputable def F_s_l1Cur_puzzle : Ins c_s_l1Cur_puzzle.ins → Option (List (Int × Int × Int) × (List Int × Int × Int)) := fun x => s_l1Cur_puzzle x.1.1 x.1.2.1 x.1.2.2
noncomputable def S_s_l1Cur_puzzle : FSpec := mkF c_s_l1Cur_puzzle.env.pre c_s_l1Cur_puzzle.ins c_s_l1Cur_puzzle.out c_s_l1Cur_puzzle.inj F_s_l1Cur_puzzle
theorem h_s_l1Cur_puzzle : Cert Tryz.prog 89 S_s_l1Cur_puzzle := FnCx.certF (c := c_s_l1Cur_puzzle) F_s_l1Cur_puzzle (tyOk _ _ _) (spOk ⟨h_s_l1Cur_surePuzzle, fun _ _ h => h, ⟨h_s_l1Cur_pick, fun _ _ h => h, ⟨h_s_l1Cur_clue, fun _ _ h => h, trivial⟩⟩⟩) (fun _ _ _ _ _ hs => evDr_ok (tyOk _ _ _) hs follows) Tryz.func89 rfl rfl Tryz.ntmps89 (by kernel_rfl) rfl rfl (fun _ => rfl) s_l1Cur_puzzle_ts s_l1Cur_puzzle_hs (fun x t hb ht => by
  obtain ⟨⟨c0_code, c0_at, c0_seed⟩, _⟩ := x
  exact (s_l1Cur_puzzle_e c0_code c0_at c0_seed).trans ht)
/-! spec.DrawIsPuzzle -/
noncomputable def c_s_DrawIsPuzzle : FnCx := { env := env 9 [(89, S_s_l1Cur_puzzle)] [], body := bodyOf Tryz.f60, res := [.cell 2 24], ins := [.ro kSuint8], out := [(kPuzzle, true)], T := List (Int × Int × Int), fin := fun r => r.1.1, inj := fun t => ((t, ()), ((), ())), pts := [], fuel := 400, dr := noDr }
noncomputable def s_DrawIsPuzzle (code0 : List Int) : Option (List (Int × Int × Int)) :=
  Option.bind (s_l1Cur_puzzle code0 0 0) fun r => some (Prod.fst r)
theorem s_DrawIsPuzzle_e (code0 : List Int) : c_s_DrawIsPuzzle.start c_s_DrawIsPuzzle.L (code0, ()) = s_DrawIsPuzzle code0 := by kernel_rfl
noncomputable def F_s_DrawIsPuzzle : Ins c_s_DrawIsPuzzle.ins → Option (List (Int × Int × Int)) := fun x => s_DrawIsPuzzle x.1
noncomputable def S_s_DrawIsPuzzle : FSpec := mkF c_s_DrawIsPuzzle.env.pre c_s_DrawIsPuzzle.ins c_s_DrawIsPuzzle.out c_s_DrawIsPuzzle.inj F_s_DrawIsPuzzle
theorem h_s_DrawIsPuzzle : Cert Tryz.prog 60 S_s_DrawIsPuzzle := FnCx.certF (c := c_s_DrawIsPuzzle) F_s_DrawIsPuzzle (tyOk _ _ _) (spOk ⟨h_s_l1Cur_puzzle, fun _ _ h => h, trivial⟩) (fun _ _ _ _ _ hs => noDr_ok) Tryz.func60 rfl rfl Tryz.ntmps60 (by kernel_rfl) rfl rfl (fun _ => rfl) trivial (fun x => .inl ⟨c_s_DrawIsPuzzle.start () x, fun _ => rfl⟩) (fun x t hb ht => by
  obtain ⟨code0, _⟩ := x
  exact (s_DrawIsPuzzle_e code0).trans ht)
/-! spec.DrawSolutions -/
noncomputable def c_s_DrawSolutions : FnCx := { env := env 5 [(60, S_s_DrawIsPuzzle)] [], body := bodyOf Tryz.f37, res := [.cell 2 24], ins := [.ro kSuint8], out := [(kPuzzle, true)], T := List (Int × Int × Int), fin := fun r => r.1.1, inj := fun t => ((t, ()), ((), ())), pts := [], fuel := 400, dr := noDr }
noncomputable def s_DrawSolutions (code0 : List Int) : Option (List (Int × Int × Int)) :=
  Option.bind (s_DrawIsPuzzle code0) fun r => some r
theorem s_DrawSolutions_e (code0 : List Int) : c_s_DrawSolutions.start c_s_DrawSolutions.L (code0, ()) = s_DrawSolutions code0 := by kernel_rfl
noncomputable def F_s_DrawSolutions : Ins c_s_DrawSolutions.ins → Option (List (Int × Int × Int)) := fun x => s_DrawSolutions x.1
noncomputable def S_s_DrawSolutions : FSpec := mkF c_s_DrawSolutions.env.pre c_s_DrawSolutions.ins c_s_DrawSolutions.out c_s_DrawSolutions.inj F_s_DrawSolutions
theorem h_s_DrawSolutions : Cert Tryz.prog 37 S_s_DrawSolutions := FnCx.certF (c := c_s_DrawSolutions) F_s_DrawSolutions (tyOk _ _ _) (spOk ⟨h_s_DrawIsPuzzle, fun _ _ h => h, trivial⟩) (fun _ _ _ _ _ hs => noDr_ok) Tryz.func37 rfl rfl Tryz.ntmps37 (by kernel_rfl) rfl rfl (fun _ => rfl) trivial (fun x => .inl ⟨c_s_DrawSolutions.start () x, fun _ => rfl⟩) (fun x t hb ht => by
  obtain ⟨code0, _⟩ := x
  exact (s_DrawSolutions_e code0).trans ht)
/-! (*spec.l1Cur).spoilt -/
noncomputable def c_s_l1Cur_spoilt : FnCx := { env := env 68 [(92, S_s_l1Cur_pick)] [], body := bodyOf Tryz.f63, res := [.tmp 6], ins := [.ptr 80 ksl1Cur, .ro kstring, .ro kstring], out := [(kstring, true)], T := ByteArray × (List Int × Int × Int), fin := fun r => (r.1.1, r.2.1), inj := fun t => ((t.1, ()), (t.2, (), (), ())), pts := [([.inLoop [1, 0, 1, 0, 0], .inBlock 0, .code [1, 1]], Shape.mk [Bs.box 80 [Cs.sl 1, Cs.sc kint, Cs.sc kuint64], Bs.row kuint8 5 false] [(0, Ss.one (Cs.ptr 0 0)), (1, Ss.one (Cs.sc kstring)), (2, Ss.one (Cs.sc kstring)), (7, Ss.one (Cs.sc kint))] [Ss.one (Cs.ptr 0 0), Ss.one (Cs.any), Ss.one (Cs.any)])], fuel := 400, dr := evDr (env 68 [(92, S_s_l1Cur_pick)] []) }
noncomputable def s_l1Cur_spoilt_t1 (g1 : Int → Int → List (Int) → ByteArray → ByteArray → Int → Option (ByteArray × (List Int × Int × Int))) (b0_1 : Int) (b0_2 : Int) (r1 : List (Int)) (t1 : ByteArray) (with2 : ByteArray) (n7 : Int) : Option (ByteArray × (List Int × Int × Int)) :=
  bif decide (n7 > 0) then
    bif decide ((↑(ByteArray.size t1) : Int) > 0) then
      Option.bind (s_l1Cur_pick r1 b0_1 b0_2 (↑(ByteArray.size t1) : Int)) fun r =>
        Option.bind (s_l1Cur_pick (Prod.fst (Prod.snd r)) (Prod.fst (Prod.snd (Prod.snd r))) (Prod.snd (Prod.snd (Prod.snd r))) (↑(ByteArray.size with2) : Int))
          fun r_1 =>
          bif decide (0 ≤ Prod.fst r_1) then
            bif decide (Prod.fst r_1 < (↑(ByteArray.size with2) : Int)) then
              Option.bind (s_l1Cur_pick (Prod.fst (Prod.snd r_1)) (Prod.fst (Prod.snd (Prod.snd r_1))) (Prod.snd (Prod.snd (Prod.snd r_1))) 3) fun r_2 =>
                bif Prod.fst r_2 == 0 then
                  bif decide (0 ≤ Prod.fst r) then
                    bif decide (Prod.fst r ≤ (↑(ByteArray.size t1) : Int)) then
                      bif
                          Nat.ble
                            (ByteArray.size (ByteArray.extract t1 (Int.toNat 0) (Int.toNat (Prod.fst r))) +
                              ByteArray.size (List.foldl (fun r n => ByteArray.push r (UInt8.ofNat (Int.toNat n))) ByteArray.empty [bt with2 (Prod.fst r_1)]))
                            9223372036854775807 then
                        bif decide (0 ≤ Prod.fst r) then
                          bif decide (Prod.fst r ≤ (↑(ByteArray.size t1) : Int)) then
                            bif
                                Nat.ble
                                  (ByteArray.size
                                      (ByteArray.extract t1 (Int.toNat 0) (Int.toNat (Prod.fst r)) ++
                                        List.foldl (fun r n => ByteArray.push r (UInt8.ofNat (Int.toNat n))) ByteArray.empty [bt with2 (Prod.fst r_1)]) +
                                    ByteArray.size (ByteArray.extract t1 (Int.toNat (Prod.fst r)) (Int.toNat (↑(ByteArray.size t1) : Int))))
                                  9223372036854775807 then
                              g1 (Prod.fst (Prod.snd (Prod.snd r_2))) (Prod.snd (Prod.snd (Prod.snd r_2))) (Prod.fst (Prod.snd r_2))
                                (ByteArray.extract t1 (Int.toNat 0) (Int.toNat (Prod.fst r)) ++
                                    List.foldl (fun r n => ByteArray.push r (UInt8.ofNat (Int.toNat n))) ByteArray.empty [bt with2 (Prod.fst r_1)] ++
                                  ByteArray.extract t1 (Int.toNat (Prod.fst r)) (Int.toNat (↑(ByteArray.size t1) : Int)))
                                with2 (IntKind.wrap IntKind.i64 (n7 - 1))
                            else none
                          else none
                        else none
                      else none
                    else none
                  else none
                else
                  bif Prod.fst r_2 == 1 then
                    bif decide (0 ≤ Prod.fst r) then
                      bif decide (Prod.fst r ≤ (↑(ByteArray.size t1) : Int)) then
                        bif
                            Nat.ble
                              (ByteArray.size (ByteArray.extract t1 (Int.toNat 0) (Int.toNat (Prod.fst r))) +
                                ByteArray.size (List.foldl (fun r n => ByteArray.push r (UInt8.ofNat (Int.toNat n))) ByteArray.empty [bt with2 (Prod.fst r_1)]))
                              9223372036854775807 then
                          bif decide (0 ≤ IntKind.wrap IntKind.i64 (Prod.fst r + 1)) then
                            bif decide (IntKind.wrap IntKind.i64 (Prod.fst r + 1) ≤ (↑(ByteArray.size t1) : Int)) then
                              bif
                                  Nat.ble
                                    (ByteArray.size
                                        (ByteArray.extract t1 (Int.toNat 0) (Int.toNat (Prod.fst r)) ++
                                          List.foldl (fun r n => ByteArray.push r (UInt8.ofNat (Int.toNat n))) ByteArray.empty [bt with2 (Prod.fst r_1)]) +
                                      ByteArray.size
                                        (ByteArray.extract t1 (Int.toNat (IntKind.wrap IntKind.i64 (Prod.fst r + 1))) (Int.toNat (↑(ByteArray.size t1) : Int))))
                                    9223372036854775807 then
                                g1 (Prod.fst (Prod.snd (Prod.snd r_2))) (Prod.snd (Prod.snd (Prod.snd r_2))) (Prod.fst (Prod.snd r_2))
                                  (ByteArray.extract t1 (Int.toNat 0) (Int.toNat (Prod.fst r)) ++
                                      List.foldl (fun r n => ByteArray.push r (UInt8.ofNat (Int.toNat n))) ByteArray.empty [bt with2 (Prod.fst r_1)] ++
                                    ByteArray.extract t1 (Int.toNat (IntKind.wrap IntKind.i64 (Prod.fst r + 1))) (Int.toNat (↑(ByteArray.size t1) : Int)))
                                  with2 (IntKind.wrap IntKind.i64 (n7 - 1))
                              else none
                            else none
                          else none
                        else none
                      else none
                    else none
                  else
                    bif decide (0 ≤ Prod.fst r) then
                      bif decide (Prod.fst r ≤ (↑(ByteArray.size t1) : Int)) then
                        bif decide (0 ≤ IntKind.wrap IntKind.i64 (Prod.fst r + 1)) then
                          bif decide (IntKind.wrap IntKind.i64 (Prod.fst r + 1) ≤ (↑(ByteArray.size t1) : Int)) then
                            bif
                                Nat.ble
                                  (ByteArray.size (ByteArray.extract t1 (Int.toNat 0) (Int.toNat (Prod.fst r))) +
                                    ByteArray.size
                                      (ByteArray.extract t1 (Int.toNat (IntKind.wrap IntKind.i64 (Prod.fst r + 1))) (Int.toNat (↑(ByteArray.size t1) : Int))))
                                  9223372036854775807 then
                              g1 (Prod.fst (Prod.snd (Prod.snd r_2))) (Prod.snd (Prod.snd (Prod.snd r_2))) (Prod.fst (Prod.snd r_2))
                                (ByteArray.extract t1 (Int.toNat 0) (Int.toNat (Prod.fst r)) ++
                                  ByteArray.extract t1 (Int.toNat (IntKind.wrap IntKind.i64 (Prod.fst r + 1))) (Int.toNat (↑(ByteArray.size t1) : Int)))
                                with2 (IntKind.wrap IntKind.i64 (n7 - 1))
                            else none
                          else none
                        else none
                      else none
                    else none
            else none
          else none
    else some (t1, r1, b0_1, b0_2)
  else some (t1, r1, b0_1, b0_2)
noncomputable def s_l1Cur_spoilt_t0 (g1 : Int → Int → List (Int) → ByteArray → ByteArray → Int → Option (ByteArray × (List Int × Int × Int))) (c0_code : List Int) (c0_at : Int) (c0_seed : Int) (t1 : ByteArray) (with2 : ByteArray) : Option (ByteArray × (List Int × Int × Int)) :=
  Option.bind (s_l1Cur_pick c0_code c0_at c0_seed 2) fun r =>
    g1 (Prod.fst (Prod.snd (Prod.snd r))) (Prod.snd (Prod.snd (Prod.snd r))) (Prod.fst (Prod.snd r)) t1 with2 (IntKind.wrap IntKind.i64 (1 + Prod.fst r))
theorem s_l1Cur_spoilt_ts : Tails c_s_l1Cur_spoilt.pts c_s_l1Cur_spoilt.round :=
  ⟨fun s => by
    obtain ⟨⟨⟨_, b0_1, b0_2, _⟩, r1, _⟩, ⟨_, t1, with2, n7, _⟩, ⟨_, _, _, _⟩⟩ := s
    refine Tail.eq (Y := fun g => s_l1Cur_spoilt_t1 (fun b0_1 b0_2 r1 t1 with2 n7 => g.1 ((((), b0_1, b0_2, ()), r1, ()), ((), t1, with2, n7, ()), ((), (), (), ()))) b0_1 b0_2 r1 t1 with2 n7) ?_ (fun g => by kernel_rfl)
    simp only [s_l1Cur_spoilt_t1]; repeat (first | apply Tail.cond | (apply Tail.bind; intro _) | exact Tail.here _ | exact Tail.there (Tail.here _) | exact Tail.there (Tail.there (Tail.here _)) | exact Tail.there (Tail.there (Tail.there (Tail.here _))) | exact Tail.there (Tail.there (Tail.there (Tail.there (Tail.here _)))) | exact Tail.there (Tail.there (Tail.there (Tail.there (Tail.there (Tail.here _))))) | exact Tail.const _), trivial⟩
theorem s_l1Cur_spoilt_hs : ∀ x, Tail c_s_l1Cur_spoilt.pts (fun g => c_s_l1Cur_spoilt.start g x) := fun x => by
    obtain ⟨⟨c0_code, c0_at, c0_seed⟩, t1, with2, _⟩ := x
    refine Tail.eq (Y := fun g => s_l1Cur_spoilt_t0 (fun b0_1 b0_2 r1 t1 with2 n7 => g.1 ((((), b0_1, b0_2, ()), r1, ()), ((), t1, with2, n7, ()), ((), (), (), ()))) c0_code c0_at c0_seed t1 with2) ?_ (fun g => by kernel_rfl)
    simp only [s_l1Cur_spoilt_t0]; repeat (first | apply Tail.cond | (apply Tail.bind; intro _) | exact Tail.here _ | exact Tail.there (Tail.here _) | exact Tail.there (Tail.there (Tail.here _)) | exact Tail.there (Tail.there (Tail.there (Tail.here _))) | exact Tail.there (Tail.there (Tail.there (Tail.there (Tail.here _)))) | exact Tail.there (Tail.there (Tail.there (Tail.there (Tail.there (Tail.here _))))) | exact Tail.const _)
noncomputable def s_l1Cur_spoilt_L1 (b0_1 : Int) (b0_2 : Int) (r1 : List (Int)) (t1 : ByteArray) (with2 : ByteArray) (n7 : Int) : Option (ByteArray × (List Int × Int × Int)) := c_s_l1Cur_spoilt.L.1 ((((), b0_1, b0_2, ()), r1, ()), ((), t1, with2, n7, ()), ((), (), (), ()))
theorem s_l1Cur_spoilt_u1 (b0_1 : Int) (b0_2 : Int) (r1 : List (Int)) (t1 : ByteArray) (with2 : ByteArray) (n7 : Int) : s_l1Cur_spoilt_L1 b0_1 b0_2 r1 t1 with2 n7 = s_l1Cur_spoilt_t1 s_l1Cur_spoilt_L1 b0_1 b0_2 r1 t1 with2 n7 :=
  (congrArg (fun g => g.1 ((((), b0_1, b0_2, ()), r1, ()), ((), t1, with2, n7, ()), ((), (), (), ()))) (FnCx.L_eq s_l1Cur_spoilt_ts)).trans (by kernel_rfl)
noncomputable def s_l1Cur_spoilt (c0_code : List Int) (c0_at : Int) (c0_seed : Int) (t1 : ByteArray) (with2 : ByteArray) : Option (ByteArray × (List Int × Int × Int)) := s_l1Cur_spoilt_t0 s_l1Cur_spoilt_L1 c0_code c0_at c0_seed t1 with2
theorem s_l1Cur_spoilt_e (c0_code : List Int) (c0_at : Int) (c0_seed : Int) (t1 : ByteArray) (with2 : ByteArray) : c_s_l1Cur_spoilt.start c_s_l1Cur_spoilt.L ((c0_code, c0_at, c0_seed), t1, with2, ()) = s_l1Cur_spoilt c0_code c0_at c0_seed t1 with2 := by kernel_rfl
noncomputable def F_s_l1Cur_spoilt : Ins c_s_l1Cur_spoilt.ins → Option (ByteArray × (List Int × Int × Int)) := fun x => s_l1Cur_spoilt x.1.1 x.1.2.1 x.1.2.2 x.2.1 x.2.2.1
noncomputable def S_s_l1Cur_spoilt : FSpec := mkF c_s_l1Cur_spoilt.env.pre c_s_l1Cur_spoilt.ins c_s_l1Cur_spoilt.out c_s_l1Cur_spoilt.inj F_s_l1Cur_spoilt
theorem h_s_l1Cur_spoilt : Cert Tryz.prog 63 S_s_l1Cur_spoilt := FnCx.certF (c := c_s_l1Cur_spoilt) F_s_l1Cur_spoilt (tyOk _ _ _) (spOk ⟨h_s_l1Cur_pick, fun _ _ h => h, trivial⟩) (fun _ _ _ _ _ hs => evDr_ok (tyOk _ _ _) hs follows) Tryz.func63 rfl rfl Tryz.ntmps63 (by kernel_rfl) rfl rfl (fun _ => rfl) s_l1Cur_spoilt_ts s_l1Cur_spoilt_hs (fun x t hb ht => by
  obtain ⟨⟨c0_code, c0_at, c0_seed⟩, t1, with2, _⟩ := x
  exact (s_l1Cur_spoilt_e c0_code c0_at c0_seed t1 with2).trans ht)
/-! spec.DrawParsePuzzle -/
noncomputable def c_s_DrawParsePuzzle : FnCx := { env := env 17 [(61, S_s_l1Cur_surePuzzle), (49, S_s_pzText), (62, S_s_l1Cur_one), (63, S_s_l1Cur_spoilt)] [], body := bodyOf Tryz.f38, res := [.tmp 2], ins := [.ro kSuint8], out := [(kstring, true)], T := ByteArray, fin := fun r => r.1.1, inj := fun t => ((t, ()), ((), ())), pts := [], fuel := 400, dr := noDr }
noncomputable def s_DrawParsePuzzle (code0 : List Int) : Option ByteArray :=
  Option.bind (s_l1Cur_surePuzzle code0 0 0 4) fun r =>
    Option.bind (s_pzText (Prod.fst r)) fun r_1 =>
      Option.bind (s_l1Cur_one (Prod.fst (Prod.snd r)) (Prod.fst (Prod.snd (Prod.snd r))) (Prod.snd (Prod.snd (Prod.snd r))) 3) fun r =>
        bif Prod.fst r then
          Option.bind
            (s_l1Cur_spoilt (Prod.fst (Prod.snd r)) (Prod.fst (Prod.snd (Prod.snd r))) (Prod.snd (Prod.snd (Prod.snd r))) r_1
              { data := #[48, 49, 50, 51, 52, 53, 54, 46, 44, 120] })
            fun r => some (Prod.fst r)
        else some r_1
theorem s_DrawParsePuzzle_e (code0 : List Int) : c_s_DrawParsePuzzle.start c_s_DrawParsePuzzle.L (code0, ()) = s_DrawParsePuzzle code0 := by kernel_rfl
noncomputable def F_s_DrawParsePuzzle : Ins c_s_DrawParsePuzzle.ins → Option ByteArray := fun x => s_DrawParsePuzzle x.1
noncomputable def S_s_DrawParsePuzzle : FSpec := mkF c_s_DrawParsePuzzle.env.pre c_s_DrawParsePuzzle.ins c_s_DrawParsePuzzle.out c_s_DrawParsePuzzle.inj F_s_DrawParsePuzzle
theorem h_s_DrawParsePuzzle : Cert Tryz.prog 38 S_s_DrawParsePuzzle := FnCx.certF (c := c_s_DrawParsePuzzle) F_s_DrawParsePuzzle (tyOk _ _ _) (spOk ⟨h_s_l1Cur_surePuzzle, fun _ _ h => h, ⟨h_s_pzText, fun _ _ h => h, ⟨h_s_l1Cur_one, fun _ _ h => h, ⟨h_s_l1Cur_spoilt, fun _ _ h => h, trivial⟩⟩⟩⟩) (fun _ _ _ _ _ hs => noDr_ok) Tryz.func38 rfl rfl Tryz.ntmps38 (by kernel_rfl) rfl rfl (fun _ => rfl) trivial (fun x => .inl ⟨c_s_DrawParsePuzzle.start () x, fun _ => rfl⟩) (fun x t hb ht => by
  obtain ⟨code0, _⟩ := x
  exact (s_DrawParsePuzzle_e code0).trans ht)
/-! laws.FnStairsGuessed -/
noncomputable def c_w_FnStairsGuessed : FnCx := { env := env 560 [(36, S_w_big), (37, S_s_DrawSolutions), (5, S_i_Solutions), (6, S_s_Solutions), (7, S_i_CountSolutions), (8, S_s_CountSolutions), (9, S_i_FirstSolution), (10, S_s_FirstSolution), (11, S_i_SureStrides), (12, S_s_SureStrides), (13, S_i_IsSolved), (14, S_s_IsSolved), (15, S_i_NeedlessClues), (16, S_s_NeedlessClues), (17, S_i_LeftByClues), (18, S_s_LeftByClues), (19, S_i_BestClue), (20, S_s_BestClue), (21, S_i_PuzzleText), (22, S_s_PuzzleText), (23, S_w_wLists), (24, S_w_wStairs), (25, S_w_wSame), (26, S_i_IsPuzzle), (27, S_s_IsPuzzle), (28, S_w_wRises), (29, S_i_AreStairs), (30, S_w_wHas), (31, S_i_DoesFit), (32, S_i_DropClue), (33, S_i_ParsePuzzle), (34, S_w_wPuzzle), (38, S_s_DrawParsePuzzle), (35, S_s_ParsePuzzle)] [], body := bodyOf Tryz.f4, res := [.tmp 4], ins := [.ro kSuint8, .ro kSuint8], out := [(kbool, true)], T := Bool, fin := fun r => r.1.1, inj := fun t => ((t, ()), ((), (), ())), pts := [([.code [1, 1, 1, 1, 1, 1, 1, 1, 1, 1, 1, 1, 1, 1, 1, 1, 1, 1, 1, 1, 1, 1]], Shape.mk [Bs.row kuint8 5 false, Bs.box 24 [Cs.sl 8], Bs.row kStairs 32 true, Bs.box 32 [Cs.sc kint, Cs.sl 9, Cs.sl 10], Bs.row kint 3 true, Bs.row kint 3 true, Bs.row kint 3 true, Bs.row kint 3 true, Bs.row kClue 51 true, Bs.row kint 3 true, Bs.row kint 3 true] [(1, Ss.one (Cs.sl 0)), (5, Ss.one (Cs.ptr 1 0)), (6, Ss.one (Cs.sl 2)), (7, Ss.one (Cs.sc kbool)), (10, Ss.one (Cs.sc kint)), (14, Ss.one (Cs.ptr 3 0)), (15, Ss.one (Cs.sc kbool)), (18, Ss.one (Cs.sl 4)), (19, Ss.one (Cs.sl 5)), (24, Ss.one (Cs.sc kbool)), (28, Ss.one (Cs.sl 6)), (32, Ss.one (Cs.sl 7)), (36, Ss.one (Cs.sc kint)), (40, Ss.one (Cs.sc kstring))] [Ss.one (Cs.any), Ss.one (Cs.any)]), ([.code [1, 1, 1, 1, 1, 1, 1, 1, 1, 1, 1, 1, 1, 1, 1, 1, 1, 1, 1, 1, 1, 1, 1]], Shape.mk [Bs.row kuint8 5 false] [(1, Ss.one (Cs.sl 0))] [Ss.one (Cs.any), Ss.one (Cs.any)]), ([.code [1, 1, 1, 1, 1, 1, 1, 1, 1, 1, 1, 1, 1, 1, 1, 1, 1, 1, 1, 1, 1, 1, 0, 1, 0, 1], .code [1, 1, 1, 1, 1, 1, 1, 1, 1, 1, 1, 1, 1, 1, 1, 1, 1, 1, 1, 1, 1, 1, 1]], Shape.mk [Bs.row kuint8 5 false, Bs.box 24 [Cs.sl 7], Bs.row kStairs 32 false, Bs.row kint 3 true, Bs.row kint 3 true, Bs.row kint 3 true, Bs.row kint 3 true, Bs.row kClue 51 true] [(1, Ss.one (Cs.sl 0)), (5, Ss.one (Cs.ptr 1 0)), (6, Ss.one (Cs.sl 2)), (10, Ss.one (Cs.sc kint)), (18, Ss.one (Cs.sl 3)), (19, Ss.one (Cs.sl 4)), (28, Ss.one (Cs.sl 5)), (32, Ss.one (Cs.sl 6)), (36, Ss.one (Cs.sc kint)), (40, Ss.one (Cs.sc kstring))] [Ss.one (Cs.any), Ss.one (Cs.any)]), ([.code [1, 1, 1, 1, 1, 1, 1, 1, 1, 1, 1, 1, 1, 1, 1, 1, 1, 1, 1, 1, 1, 1, 0, 1, 0, 1, 0, 1, 0, 0, 1, 1, 0, 0, 1, 1], .inBlock 1, .code [1, 1, 1, 1, 1, 1, 1, 1, 1, 1, 1, 1, 1, 1, 1, 1, 1, 1, 1, 1, 1, 1, 0, 1, 0, 1, 0, 1, 0, 0, 1, 1, 1], .inLoop [1, 1, 1, 1, 1, 1, 1, 1, 1, 1, 1, 1, 1, 1, 1, 1, 1, 1, 1, 1, 1, 1, 0, 1, 0, 1, 0, 1, 0, 0], .inBlock 0, .code [1, 1, 1, 1, 1, 1, 1, 1, 1, 1, 1, 1, 1, 1, 1, 1, 1, 1, 1, 1, 1, 1, 0, 1, 0, 1, 1], .code [1, 1, 1, 1, 1, 1, 1, 1, 1, 1, 1, 1, 1, 1, 1, 1, 1, 1, 1, 1, 1, 1, 1]], Shape.mk [Bs.row kuint8 5 false, Bs.box 24 [Cs.sl 8], Bs.row kStairs 32 false, Bs.row kint 3 true, Bs.row kint 3 true, Bs.row kint 3 true, Bs.row kint 3 true, Bs.box 32 [Cs.sc kint, Cs.sl 9, Cs.sl 10], Bs.row kClue 51 true, Bs.row kint 3 false, Bs.row kint 3 false] [(1, Ss.one (Cs.sl 0)), (5, Ss.one (Cs.ptr 1 0)), (6, Ss.one (Cs.sl 2)), (10, Ss.one (Cs.sc kint)), (18, Ss.one (Cs.sl 3)), (19, Ss.one (Cs.sl 4)), (28, Ss.one (Cs.sl 5)), (32, Ss.one (Cs.sl 6)), (36, Ss.one (Cs.sc kint)), (40, Ss.one (Cs.sc kstring)), (45, Ss.one (Cs.ptr 7 0)), (384, Ss.one (Cs.sl 2)), (385, Ss.one (Cs.sc kint)), (386, Ss.one (Cs.sc kint))] [Ss.one (Cs.any), Ss.one (Cs.any)]), ([.inLoop [1, 1, 1, 1, 1, 1, 1, 1, 1, 1, 1, 1, 1, 1, 1, 1, 1, 1, 1, 1, 1, 1, 0, 1, 0, 1, 0, 1, 0, 0], .inBlock 0, .code [1, 1, 1, 1, 1, 1, 1, 1, 1, 1, 1, 1, 1, 1, 1, 1, 1, 1, 1, 1, 1, 1, 0, 1, 0, 1, 1], .code [1, 1, 1, 1, 1, 1, 1, 1, 1, 1, 1, 1, 1, 1, 1, 1, 1, 1, 1, 1, 1, 1, 1]], Shape.mk [Bs.row kuint8 5 false, Bs.box 24 [Cs.sl 7], Bs.row kStairs 32 false, Bs.row kint 3 true, Bs.row kint 3 true, Bs.row kint 3 true, Bs.row kint 3 true, Bs.row kClue 51 true] [(1, Ss.one (Cs.sl 0)), (5, Ss.one (Cs.ptr 1 0)), (6, Ss.one (Cs.sl 2)), (10, Ss.one (Cs.sc kint)), (18, Ss.one (Cs.sl 3)), (19, Ss.one (Cs.sl 4)), (28, Ss.one (Cs.sl 5)), (32, Ss.one (Cs.sl 6)), (36, Ss.one (Cs.sc kint)), (40, Ss.one (Cs.sc kstring)), (384, Ss.one (Cs.sl 2)), (385, Ss.one (Cs.sc kint)), (386, Ss.one (Cs.sc kint))] [Ss.one (Cs.any), Ss.one (Cs.any)]), ([.inLoop [1, 1, 1, 1, 1, 1, 1, 1, 1, 1, 1, 1, 1, 1, 1, 1, 1, 1, 1, 1, 1, 1, 0, 1, 0, 1, 0, 1, 0, 0, 1, 1, 0, 0, 1, 1, 0, 1, 0, 0], .inBlock 2, .code [1, 1, 1, 1, 1, 1, 1, 1, 1, 1, 1, 1, 1, 1, 1, 1, 1, 1, 1, 1, 1, 1, 0, 1, 0, 1, 0, 1, 0, 0, 1, 1, 0, 0, 1, 1, 1], .inBlock 1, .code [1, 1, 1, 1, 1, 1, 1, 1, 1, 1, 1, 1, 1, 1, 1, 1, 1, 1, 1, 1, 1, 1, 0, 1, 0, 1, 0, 1, 0, 0, 1, 1, 1], .inLoop [1, 1, 1, 1, 1, 1, 1, 1, 1, 1, 1, 1, 1, 1, 1, 1, 1, 1, 1, 1, 1, 1, 0, 1, 0, 1, 0, 1, 0, 0], .inBlock 0, .code [1, 1, 1, 1, 1, 1, 1, 1, 1, 1, 1, 1, 1, 1, 1, 1, 1, 1, 1, 1, 1, 1, 0, 1, 0, 1, 1], .code [1, 1, 1, 1, 1, 1, 1, 1, 1, 1, 1, 1, 1, 1, 1, 1, 1, 1, 1, 1, 1, 1, 1]], Shape.mk [Bs.row kuint8 5 false, Bs.box 24 [Cs.sl 8], Bs.row kStairs 32 false, Bs.row kint 3 true, Bs.row kint 3 true, Bs.row kint 3 true, Bs.row kint 3 true, Bs.box 32 [Cs.sc kint, Cs.sl 9, Cs.sl 10], Bs.row kClue 51 true, Bs.row kint 3 false, Bs.row kint 3 false] [(1, Ss.one (Cs.sl 0)), (5, Ss.one (Cs.ptr 1 0)), (6, Ss.one (Cs.sl 2)), (10, Ss.one (Cs.sc kint)), (18, Ss.one (Cs.sl 3)), (19, Ss.one (Cs.sl 4)), (28, Ss.one (Cs.sl 5)), (32, Ss.one (Cs.sl 6)), (36, Ss.one (Cs.sc kint)), (40, Ss.one (Cs.sc kstring)), (45, Ss.one (Cs.ptr 7 0)), (384, Ss.one (Cs.sl 2)), (385, Ss.one (Cs.sc kint)), (386, Ss.one (Cs.sc kint)), (414, Ss.one (Cs.sl 3)), (415, Ss.one (Cs.sc kint)), (416, Ss.one (Cs.sc kint))] [Ss.one (Cs.any), Ss.one (Cs.any)]), ([.inLoop [1, 1, 1, 1, 1, 1, 1, 1, 1, 1, 1, 1, 1, 1, 1, 1, 1, 1, 1, 1, 1, 1, 0, 1, 0, 1, 0, 1, 0, 0, 1, 1, 0, 0, 1, 1, 1, 0, 1, 0, 0], .inBlock 4, .code [1, 1, 1, 1, 1, 1, 1, 1, 1, 1, 1, 1, 1, 1, 1, 1, 1, 1, 1, 1, 1, 1, 0, 1, 0, 1, 0, 1, 0, 0, 1, 1, 0, 0, 1, 1, 1, 1], .inBlock 1, .code [1, 1, 1, 1, 1, 1, 1, 1, 1, 1, 1, 1, 1, 1, 1, 1, 1, 1, 1, 1, 1, 1, 0, 1, 0, 1, 0, 1, 0, 0, 1, 1, 1], .inLoop [1, 1, 1, 1, 1, 1, 1, 1, 1, 1, 1, 1, 1, 1, 1, 1, 1, 1, 1, 1, 1, 1, 0, 1, 0, 1, 0, 1, 0, 0], .inBlock 0, .code [1, 1, 1, 1, 1, 1, 1, 1, 1, 1, 1, 1, 1, 1, 1, 1, 1, 1, 1, 1, 1, 1, 0, 1, 0, 1, 1], .code [1, 1, 1, 1, 1, 1, 1, 1, 1, 1, 1, 1, 1, 1, 1, 1, 1, 1, 1, 1, 1, 1, 1]], Shape.mk [Bs.row kuint8 5 false, Bs.box 24 [Cs.sl 8], Bs.row kStairs 32 false, Bs.row kint 3 true, Bs.row kint 3 true, Bs.row kint 3 true, Bs.row kint 3 true, Bs.box 32 [Cs.sc kint, Cs.sl 9, Cs.sl 10], Bs.row kClue 51 true, Bs.row kint 3 false, Bs.row kint 3 false] [(1, Ss.one (Cs.sl 0)), (5, Ss.one (Cs.ptr 1 0)), (6, Ss.one (Cs.sl 2)), (10, Ss.one (Cs.sc kint)), (18, Ss.one (Cs.sl 3)), (19, Ss.one (Cs.sl 4)), (28, Ss.one (Cs.sl 5)), (32, Ss.one (Cs.sl 6)), (36, Ss.one (Cs.sc kint)), (40, Ss.one (Cs.sc kstring)), (45, Ss.one (Cs.ptr 7 0)), (384, Ss.one (Cs.sl 2)), (385, Ss.one (Cs.sc kint)), (386, Ss.one (Cs.sc kint)), (426, Ss.one (Cs.sl 4)), (427, Ss.one (Cs.sc kint)), (428, Ss.one (Cs.sc kint))] [Ss.one (Cs.any), Ss.one (Cs.any)]), ([.inLoop [1, 1, 1, 1, 1, 1, 1, 1, 1, 1, 1, 1, 1, 1, 1, 1, 1, 1, 1, 1, 1, 1, 0, 1, 0, 1, 0, 1, 0, 0, 1, 1, 0, 0, 1, 1, 1, 1, 1, 0, 0], .inBlock 6, .inBlock 1, .code [1, 1, 1, 1, 1, 1, 1, 1, 1, 1, 1, 1, 1, 1, 1, 1, 1, 1, 1, 1, 1, 1, 0, 1, 0, 1, 0, 1, 0, 0, 1, 1, 1], .inLoop [1, 1, 1, 1, 1, 1, 1, 1, 1, 1, 1, 1, 1, 1, 1, 1, 1, 1, 1, 1, 1, 1, 0, 1, 0, 1, 0, 1, 0, 0], .inBlock 0, .code [1, 1, 1, 1, 1, 1, 1, 1, 1, 1, 1, 1, 1, 1, 1, 1, 1, 1, 1, 1, 1, 1, 0, 1, 0, 1, 1], .code [1, 1, 1, 1, 1, 1, 1, 1, 1, 1, 1, 1, 1, 1, 1, 1, 1, 1, 1, 1, 1, 1, 1]], Shape.mk [Bs.row kuint8 5 false, Bs.box 24 [Cs.sl 8], Bs.row kStairs 32 false, Bs.row kint 3 true, Bs.row kint 3 true, Bs.row kint 3 true, Bs.row kint 3 true, Bs.box 32 [Cs.sc kint, Cs.sl 9, Cs.sl 10], Bs.row kClue 51 true, Bs.row kint 3 false, Bs.row kint 3 false] [(1, Ss.one (Cs.sl 0)), (5, Ss.one (Cs.ptr 1 0)), (6, Ss.one (Cs.sl 2)), (10, Ss.one (Cs.sc kint)), (18, Ss.one (Cs.sl 3)), (19, Ss.one (Cs.sl 4)), (28, Ss.one (Cs.sl 5)), (32, Ss.one (Cs.sl 6)), (36, Ss.one (Cs.sc kint)), (40, Ss.one (Cs.sc kstring)), (45, Ss.one (Cs.ptr 7 0)), (384, Ss.one (Cs.sl 2)), (385, Ss.one (Cs.sc kint)), (386, Ss.one (Cs.sc kint)), (438, Ss.one (Cs.sl 8)), (439, Ss.one (Cs.sc kint)), (440, Ss.one (Cs.sc kint))] [Ss.one (Cs.any), Ss.one (Cs.any)]), ([.inLoop [1, 1, 1, 1, 1, 1, 1, 1, 1, 1, 1, 1, 1, 1, 1, 1, 1, 1, 1, 1, 1, 1, 0, 1, 0, 1, 1, 0, 1, 0, 0], .inBlock 8, .code [1, 1, 1, 1, 1, 1, 1, 1, 1, 1, 1, 1, 1, 1, 1, 1, 1, 1, 1, 1, 1, 1, 0, 1, 0, 1, 1, 1], .code [1, 1, 1, 1, 1, 1, 1, 1, 1, 1, 1, 1, 1, 1, 1, 1, 1, 1, 1, 1, 1, 1, 1]], Shape.mk [Bs.row kuint8 5 false, Bs.box 24 [Cs.sl 4], Bs.row kint 3 true, Bs.row kint 3 true, Bs.row kClue 51 true] [(1, Ss.one (Cs.sl 0)), (5, Ss.one (Cs.ptr 1 0)), (10, Ss.one (Cs.sc kint)), (28, Ss.one (Cs.sl 2)), (32, Ss.one (Cs.sl 3)), (36, Ss.one (Cs.sc kint)), (40, Ss.one (Cs.sc kstring)), (460, Ss.one (Cs.sc kint)), (461, Ss.one (Cs.sc kint))] [Ss.one (Cs.any), Ss.one (Cs.any)])], fuel := 400, dr := evDr (env 560 [(36, S_w_big), (37, S_s_DrawSolutions), (5, S_i_Solutions), (6, S_s_Solutions), (7, S_i_CountSolutions), (8, S_s_CountSolutions), (9, S_i_FirstSolution), (10, S_s_FirstSolution), (11, S_i_SureStrides), (12, S_s_SureStrides), (13, S_i_IsSolved), (14, S_s_IsSolved), (15, S_i_NeedlessClues), (16, S_s_NeedlessClues), (17, S_i_LeftByClues), (18, S_s_LeftByClues), (19, S_i_BestClue), (20, S_s_BestClue), (21, S_i_PuzzleText), (22, S_s_PuzzleText), (23, S_w_wLists), (24, S_w_wStairs), (25, S_w_wSame), (26, S_i_IsPuzzle), (27, S_s_IsPuzzle), (28, S_w_wRises), (29, S_i_AreStairs), (30, S_w_wHas), (31, S_i_DoesFit), (32, S_i_DropClue), (33, S_i_ParsePuzzle), (34, S_w_wPuzzle), (38, S_s_DrawParsePuzzle), (35, S_s_ParsePuzzle)] []) }
noncomputable def w_FnStairsGuessed_t1 (g1 : List (Int) → List ((Int × (List (Int) × List (Int)))) → Int → List (Int) → List (Int) → List (Int) → List (Int) → List (Int × (Int × Int)) → List (Int) → List (Int) → Bool → Int → Bool → Bool → Int → ByteArray → Option (Bool)) (g2 : List (Int) → Option (Bool)) (g3 : List (Int) → List ((Int × (List (Int) × List (Int)))) → List (Int) → List (Int) → List (Int) → List (Int) → List (Int × (Int × Int)) → Int → Int → ByteArray → Option (Bool)) (g4 : List (Int) → List ((Int × (List (Int) × List (Int)))) → List (Int) → List (Int) → List (Int) → List (Int) → Int → List (Int × (Int × Int)) → List (Int) → List (Int) → Int → Int → ByteArray → Int → Int → Option (Bool)) (g5 : List (Int) → List ((Int × (List (Int) × List (Int)))) → List (Int) → List (Int) → List (Int) → List (Int) → List (Int × (Int × Int)) → Int → Int → ByteArray → Int → Int → Option (Bool)) (g6 : List (Int) → List ((Int × (List (Int) × List (Int)))) → List (Int) → List (Int) → List (Int) → List (Int) → Int → List (Int × (Int × Int)) → List (Int) → List (Int) → Int → Int → ByteArray → Int → Int → Int → Int → Option (Bool)) (g7 : List (Int) → List ((Int × (List (Int) × List (Int)))) → List (Int) → List (Int) → List (Int) → List (Int) → Int → List (Int × (Int × Int)) → List (Int) → List (Int) → Int → Int → ByteArray → Int → Int → Int → Int → Option (Bool)) (g8 : List (Int) → List ((Int × (List (Int) × List (Int)))) → List (Int) → List (Int) → List (Int) → List (Int) → Int → List (Int × (Int × Int)) → List (Int) → List (Int) → Int → Int → ByteArray → Int → Int → Int → Int → Option (Bool)) (g9 : List (Int) → List (Int) → List (Int) → List (Int × (Int × Int)) → Int → Int → ByteArray → Int → Int → Option (Bool)) (r0 : List (Int)) (r2 : List ((Int × (List (Int) × List (Int))))) (b3_0 : Int) (r4 : List (Int)) (r5 : List (Int)) (r6 : List (Int)) (r7 : List (Int)) (r8 : List (Int × (Int × Int))) (r9 : List (Int)) (r10 : List (Int)) (ok7 : Bool) (count10 : Int) (three15 : Bool) (solved24 : Bool) (best36 : Int) (text40 : ByteArray) : Option Bool :=
  bif ok7 then
    bif (↑(List.length r2) : Int) != count10 then some false
    else
      bif three15 then
        bif decide (0 < (↑(List.length r2) : Int)) then
          Option.bind
            (w_wStairs b3_0 r9 r10
              (Prod.fst (rdk kStairs r2 0))
              (Prod.fst (Prod.snd (rdk kStairs r2 0)))
              (Prod.snd (Prod.snd (rdk kStairs r2 0))))
            fun r =>
            bif !r then some false
            else
              bif !solved24 == (count10 == 1) then some false
              else
                bif (↑(List.length r7) : Int) != IntKind.wrap IntKind.i64 ((↑(List.length r8) : Int) + 1) then some false
                else
                  bif decide (0 < (↑(List.length r7) : Int)) then
                    bif rdk kint r7 0 != 196 then some false
                    else
                      bif decide ((↑(List.length r8) : Int) < (↑(List.length r7) : Int)) then
                        bif rdk kint r7 (↑(List.length r8) : Int) != count10 then some false
                        else
                          Option.bind (w_wRises r4) fun r =>
                            bif !r then some false
                            else Option.bind (w_wRises r5) fun r => bif !r then some false else g3 r0 r2 r4 r5 r6 r7 r8 count10 best36 text40
                      else none
                  else none
        else none
      else
        bif !solved24 == (count10 == 1) then some false
        else
          bif (↑(List.length r7) : Int) != IntKind.wrap IntKind.i64 ((↑(List.length r8) : Int) + 1) then some false
          else
            bif decide (0 < (↑(List.length r7) : Int)) then
              bif rdk kint r7 0 != 196 then some false
              else
                bif decide ((↑(List.length r8) : Int) < (↑(List.length r7) : Int)) then
                  bif rdk kint r7 (↑(List.length r8) : Int) != count10 then some false
                  else
                    Option.bind (w_wRises r4) fun r =>
                      bif !r then some false else Option.bind (w_wRises r5) fun r => bif !r then some false else g3 r0 r2 r4 r5 r6 r7 r8 count10 best36 text40
                else none
            else none
  else g2 r0
noncomputable def w_FnStairsGuessed_t2 (g1 : List (Int) → List ((Int × (List (Int) × List (Int)))) → Int → List (Int) → List (Int) → List (Int) → List (Int) → List (Int × (Int × Int)) → List (Int) → List (Int) → Bool → Int → Bool → Bool → Int → ByteArray → Option (Bool)) (g2 : List (Int) → Option (Bool)) (g3 : List (Int) → List ((Int × (List (Int) × List (Int)))) → List (Int) → List (Int) → List (Int) → List (Int) → List (Int × (Int × Int)) → Int → Int → ByteArray → Option (Bool)) (g4 : List (Int) → List ((Int × (List (Int) × List (Int)))) → List (Int) → List (Int) → List (Int) → List (Int) → Int → List (Int × (Int × Int)) → List (Int) → List (Int) → Int → Int → ByteArray → Int → Int → Option (Bool)) (g5 : List (Int) → List ((Int × (List (Int) × List (Int)))) → List (Int) → List (Int) → List (Int) → List (Int) → List (Int × (Int × Int)) → Int → Int → ByteArray → Int → Int → Option (Bool)) (g6 : List (Int) → List ((Int × (List (Int) × List (Int)))) → List (Int) → List (Int) → List (Int) → List (Int) → Int → List (Int × (Int × Int)) → List (Int) → List (Int) → Int → Int → ByteArray → Int → Int → Int → Int → Option (Bool)) (g7 : List (Int) → List ((Int × (List (Int) × List (Int)))) → List (Int) → List (Int) → List (Int) → List (Int) → Int → List (Int × (Int × Int)) → List (Int) → List (Int) → Int → Int → ByteArray → Int → Int → Int → Int → Option (Bool)) (g8 : List (Int) → List ((Int × (List (Int) × List (Int)))) → List (Int) → List (Int) → List (Int) → List (Int) → Int → List (Int × (Int × Int)) → List (Int) → List (Int) → Int → Int → ByteArray → Int → Int → Int → Int → Option (Bool)) (g9 : List (Int) → List (Int) → List (Int) → List (Int × (Int × Int)) → Int → Int → ByteArray → Int → Int → Option (Bool)) (r0 : List (Int)) : Option Bool :=
  Option.bind (s_DrawParsePuzzle r0) fun r =>
    Option.bind (i_ParsePuzzle r) fun r_1 =>
      Option.bind (s_ParsePuzzle r) fun r_2 =>
        bif !Prod.snd r_1 == Prod.snd r_2 then some false
        else
          Option.bind (w_wPuzzle (Prod.fst r_1) (Prod.fst r_2)) fun r_3 =>
            bif !r_3 then some false
            else
              bif Prod.snd r_1 then
                Option.bind (i_PuzzleText (Prod.fst r_1)) fun r_4 =>
                  bif Prod.snd r_4 then some (ByteArray.toList (Prod.fst r_4) == ByteArray.toList r) else some false
              else some true
noncomputable def w_FnStairsGuessed_t3 (g1 : List (Int) → List ((Int × (List (Int) × List (Int)))) → Int → List (Int) → List (Int) → List (Int) → List (Int) → List (Int × (Int × Int)) → List (Int) → List (Int) → Bool → Int → Bool → Bool → Int → ByteArray → Option (Bool)) (g2 : List (Int) → Option (Bool)) (g3 : List (Int) → List ((Int × (List (Int) × List (Int)))) → List (Int) → List (Int) → List (Int) → List (Int) → List (Int × (Int × Int)) → Int → Int → ByteArray → Option (Bool)) (g4 : List (Int) → List ((Int × (List (Int) × List (Int)))) → List (Int) → List (Int) → List (Int) → List (Int) → Int → List (Int × (Int × Int)) → List (Int) → List (Int) → Int → Int → ByteArray → Int → Int → Option (Bool)) (g5 : List (Int) → List ((Int × (List (Int) × List (Int)))) → List (Int) → List (Int) → List (Int) → List (Int) → List (Int × (Int × Int)) → Int → Int → ByteArray → Int → Int → Option (Bool)) (g6 : List (Int) → List ((Int × (List (Int) × List (Int)))) → List (Int) → List (Int) → List (Int) → List (Int) → Int → List (Int × (Int × Int)) → List (Int) → List (Int) → Int → Int → ByteArray → Int → Int → Int → Int → Option (Bool)) (g7 : List (Int) → List ((Int × (List (Int) × List (Int)))) → List (Int) → List (Int) → List (Int) → List (Int) → Int → List (Int × (Int × Int)) → List (Int) → List (Int) → Int → Int → ByteArray → Int → Int → Int → Int → Option (Bool)) (g8 : List (Int) → List ((Int × (List (Int) × List (Int)))) → List (Int) → List (Int) → List (Int) → List (Int) → Int → List (Int × (Int × Int)) → List (Int) → List (Int) → Int → Int → ByteArray → Int → Int → Int → Int → Option (Bool)) (g9 : List (Int) → List (Int) → List (Int) → List (Int × (Int × Int)) → Int → Int → ByteArray → Int → Int → Option (Bool)) (r0 : List (Int)) (r2 : List ((Int × (List (Int) × List (Int))))) (r3 : List (Int)) (r4 : List (Int)) (r5 : List (Int)) (r6 : List (Int)) (r7 : List (Int × (Int × Int))) (count10 : Int) (best36 : Int) (text40 : ByteArray) : Option Bool :=
  g5 r0 r2 r3 r4 r5 r6 r7 count10 best36 text40 (↑(List.length r2) : Int) 0
noncomputable def w_FnStairsGuessed_t4 (g1 : List (Int) → List ((Int × (List (Int) × List (Int)))) → Int → List (Int) → List (Int) → List (Int) → List (Int) → List (Int × (Int × Int)) → List (Int) → List (Int) → Bool → Int → Bool → Bool → Int → ByteArray → Option (Bool)) (g2 : List (Int) → Option (Bool)) (g3 : List (Int) → List ((Int × (List (Int) × List (Int)))) → List (Int) → List (Int) → List (Int) → List (Int) → List (Int × (Int × Int)) → Int → Int → ByteArray → Option (Bool)) (g4 : List (Int) → List ((Int × (List (Int) × List (Int)))) → List (Int) → List (Int) → List (Int) → List (Int) → Int → List (Int × (Int × Int)) → List (Int) → List (Int) → Int → Int → ByteArray → Int → Int → Option (Bool)) (g5 : List (Int) → List ((Int × (List (Int) × List (Int)))) → List (Int) → List (Int) → List (Int) → List (Int) → List (Int × (Int × Int)) → Int → Int → ByteArray → Int → Int → Option (Bool)) (g6 : List (Int) → List ((Int × (List (Int) × List (Int)))) → List (Int) → List (Int) → List (Int) → List (Int) → Int → List (Int × (Int × Int)) → List (Int) → List (Int) → Int → Int → ByteArray → Int → Int → Int → Int → Option (Bool)) (g7 : List (Int) → List ((Int × (List (Int) × List (Int)))) → List (Int) → List (Int) → List (Int) → List (Int) → Int → List (Int × (Int × Int)) → List (Int) → List (Int) → Int → Int → ByteArray → Int → Int → Int → Int → Option (Bool)) (g8 : List (Int) → List ((Int × (List (Int) × List (Int)))) → List (Int) → List (Int) → List (Int) → List (Int) → Int → List (Int × (Int × Int)) → List (Int) → List (Int) → Int → Int → ByteArray → Int → Int → Int → Int → Option (Bool)) (g9 : List (Int) → List (Int) → List (Int) → List (Int × (Int × Int)) → Int → Int → ByteArray → Int → Int → Option (Bool)) (r0 : List (Int)) (r2 : List ((Int × (List (Int) × List (Int))))) (r3 : List (Int)) (r4 : List (Int)) (r5 : List (Int)) (r6 : List (Int)) (b7_0 : Int) (r8 : List (Int × (Int × Int))) (r9 : List (Int)) (r10 : List (Int)) (count10 : Int) (best36 : Int) (text40 : ByteArray) (s385 : Int) (s386 : Int) : Option Bool :=
  g6 r0 r2 r3 r4 r5 r6 b7_0 r8 r9 r10 count10 best36 text40 s385 s386 (↑(List.length r3) : Int) 0
noncomputable def w_FnStairsGuessed_t5 (g1 : List (Int) → List ((Int × (List (Int) × List (Int)))) → Int → List (Int) → List (Int) → List (Int) → List (Int) → List (Int × (Int × Int)) → List (Int) → List (Int) → Bool → Int → Bool → Bool → Int → ByteArray → Option (Bool)) (g2 : List (Int) → Option (Bool)) (g3 : List (Int) → List ((Int × (List (Int) × List (Int)))) → List (Int) → List (Int) → List (Int) → List (Int) → List (Int × (Int × Int)) → Int → Int → ByteArray → Option (Bool)) (g4 : List (Int) → List ((Int × (List (Int) × List (Int)))) → List (Int) → List (Int) → List (Int) → List (Int) → Int → List (Int × (Int × Int)) → List (Int) → List (Int) → Int → Int → ByteArray → Int → Int → Option (Bool)) (g5 : List (Int) → List ((Int × (List (Int) × List (Int)))) → List (Int) → List (Int) → List (Int) → List (Int) → List (Int × (Int × Int)) → Int → Int → ByteArray → Int → Int → Option (Bool)) (g6 : List (Int) → List ((Int × (List (Int) × List (Int)))) → List (Int) → List (Int) → List (Int) → List (Int) → Int → List (Int × (Int × Int)) → List (Int) → List (Int) → Int → Int → ByteArray → Int → Int → Int → Int → Option (Bool)) (g7 : List (Int) → List ((Int × (List (Int) × List (Int)))) → List (Int) → List (Int) → List (Int) → List (Int) → Int → List (Int × (Int × Int)) → List (Int) → List (Int) → Int → Int → ByteArray → Int → Int → Int → Int → Option (Bool)) (g8 : List (Int) → List ((Int × (List (Int) × List (Int)))) → List (Int) → List (Int) → List (Int) → List (Int) → Int → List (Int × (Int × Int)) → List (Int) → List (Int) → Int → Int → ByteArray → Int → Int → Int → Int → Option (Bool)) (g9 : List (Int) → List (Int) → List (Int) → List (Int × (Int × Int)) → Int → Int → ByteArray → Int → Int → Option (Bool)) (r0 : List (Int)) (r2 : List ((Int × (List (Int) × List (Int))))) (r3 : List (Int)) (r4 : List (Int)) (r5 : List (Int)) (r6 : List (Int)) (r7 : List (Int × (Int × Int))) (count10 : Int) (best36 : Int) (text40 : ByteArray) (s385 : Int) (s386 : Int) : Option Bool :=
  bif decide (s386 < s385) then
    bif decide (0 ≤ s386) then
      bif decide (s386 < (↑(List.length r2) : Int)) then
        bif
            !i_AreStairs (Prod.fst (rdk kStairs r2 s386))
                (Prod.fst (Prod.snd (rdk kStairs r2 s386)))
                (Prod.snd
                  (Prod.snd (rdk kStairs r2 s386))) then
          some false
        else
          bif
              decide
                (Prod.fst (rdk kStairs r2 s386) > 7) then
            some false
          else
            bif decide (s386 > 0) then
              bif decide (0 ≤ IntKind.wrap IntKind.i64 (s386 - 1)) then
                bif decide (IntKind.wrap IntKind.i64 (s386 - 1) < (↑(List.length r2) : Int)) then
                  bif
                      decide
                        (Prod.fst
                            (rdk kStairs r2
                              (IntKind.wrap IntKind.i64 (s386 - 1))) >
                          Prod.fst
                            (rdk kStairs r2 s386)) then
                    some false
                  else
                    g4 r0 r2 r3 r4 r5 r6
                      (Prod.fst (rdk kStairs r2 s386)) r7
                      (Prod.fst
                        (Prod.snd (rdk kStairs r2 s386)))
                      (Prod.snd
                        (Prod.snd (rdk kStairs r2 s386)))
                      count10 best36 text40 s385 s386
                else none
              else none
            else
              g4 r0 r2 r3 r4 r5 r6
                (Prod.fst (rdk kStairs r2 s386)) r7
                (Prod.fst (Prod.snd (rdk kStairs r2 s386)))
                (Prod.snd (Prod.snd (rdk kStairs r2 s386)))
                count10 best36 text40 s385 s386
      else none
    else none
  else g9 r0 r5 r6 r7 count10 best36 text40 (↑(List.length r7) : Int) 0
noncomputable def w_FnStairsGuessed_t6 (g1 : List (Int) → List ((Int × (List (Int) × List (Int)))) → Int → List (Int) → List (Int) → List (Int) → List (Int) → List (Int × (Int × Int)) → List (Int) → List (Int) → Bool → Int → Bool → Bool → Int → ByteArray → Option (Bool)) (g2 : List (Int) → Option (Bool)) (g3 : List (Int) → List ((Int × (List (Int) × List (Int)))) → List (Int) → List (Int) → List (Int) → List (Int) → List (Int × (Int × Int)) → Int → Int → ByteArray → Option (Bool)) (g4 : List (Int) → List ((Int × (List (Int) × List (Int)))) → List (Int) → List (Int) → List (Int) → List (Int) → Int → List (Int × (Int × Int)) → List (Int) → List (Int) → Int → Int → ByteArray → Int → Int → Option (Bool)) (g5 : List (Int) → List ((Int × (List (Int) × List (Int)))) → List (Int) → List (Int) → List (Int) → List (Int) → List (Int × (Int × Int)) → Int → Int → ByteArray → Int → Int → Option (Bool)) (g6 : List (Int) → List ((Int × (List (Int) × List (Int)))) → List (Int) → List (Int) → List (Int) → List (Int) → Int → List (Int × (Int × Int)) → List (Int) → List (Int) → Int → Int → ByteArray → Int → Int → Int → Int → Option (Bool)) (g7 : List (Int) → List ((Int × (List (Int) × List (Int)))) → List (Int) → List (Int) → List (Int) → List (Int) → Int → List (Int × (Int × Int)) → List (Int) → List (Int) → Int → Int → ByteArray → Int → Int → Int → Int → Option (Bool)) (g8 : List (Int) → List ((Int × (List (Int) × List (Int)))) → List (Int) → List (Int) → List (Int) → List (Int) → Int → List (Int × (Int × Int)) → List (Int) → List (Int) → Int → Int → ByteArray → Int → Int → Int → Int → Option (Bool)) (g9 : List (Int) → List (Int) → List (Int) → List (Int × (Int × Int)) → Int → Int → ByteArray → Int → Int → Option (Bool)) (r0 : List (Int)) (r2 : List ((Int × (List (Int) × List (Int))))) (r3 : List (Int)) (r4 : List (Int)) (r5 : List (Int)) (r6 : List (Int)) (b7_0 : Int) (r8 : List (Int × (Int × Int))) (r9 : List (Int)) (r10 : List (Int)) (count10 : Int) (best36 : Int) (text40 : ByteArray) (s385 : Int) (s386 : Int) (s415 : Int) (s416 : Int) : Option Bool :=
  bif decide (s416 < s415) then
    bif decide (0 ≤ s416) then
      bif decide (s416 < (↑(List.length r3) : Int)) then
        Option.bind (w_wHas r9 (rdk kint r3 s416)) fun r =>
          bif !r then some false else g6 r0 r2 r3 r4 r5 r6 b7_0 r8 r9 r10 count10 best36 text40 s385 s386 s415 (IntKind.wrap IntKind.i64 (s416 + 1))
      else none
    else none
  else g7 r0 r2 r3 r4 r5 r6 b7_0 r8 r9 r10 count10 best36 text40 s385 s386 (↑(List.length r4) : Int) 0
noncomputable def w_FnStairsGuessed_t7 (g1 : List (Int) → List ((Int × (List (Int) × List (Int)))) → Int → List (Int) → List (Int) → List (Int) → List (Int) → List (Int × (Int × Int)) → List (Int) → List (Int) → Bool → Int → Bool → Bool → Int → ByteArray → Option (Bool)) (g2 : List (Int) → Option (Bool)) (g3 : List (Int) → List ((Int × (List (Int) × List (Int)))) → List (Int) → List (Int) → List (Int) → List (Int) → List (Int × (Int × Int)) → Int → Int → ByteArray → Option (Bool)) (g4 : List (Int) → List ((Int × (List (Int) × List (Int)))) → List (Int) → List (Int) → List (Int) → List (Int) → Int → List (Int × (Int × Int)) → List (Int) → List (Int) → Int → Int → ByteArray → Int → Int → Option (Bool)) (g5 : List (Int) → List ((Int × (List (Int) × List (Int)))) → List (Int) → List (Int) → List (Int) → List (Int) → List (Int × (Int × Int)) → Int → Int → ByteArray → Int → Int → Option (Bool)) (g6 : List (Int) → List ((Int × (List (Int) × List (Int)))) → List (Int) → List (Int) → List (Int) → List (Int) → Int → List (Int × (Int × Int)) → List (Int) → List (Int) → Int → Int → ByteArray → Int → Int → Int → Int → Option (Bool)) (g7 : List (Int) → List ((Int × (List (Int) × List (Int)))) → List (Int) → List (Int) → List (Int) → List (Int) → Int → List (Int × (Int × Int)) → List (Int) → List (Int) → Int → Int → ByteArray → Int → Int → Int → Int → Option (Bool)) (g8 : List (Int) → List ((Int × (List (Int) × List (Int)))) → List (Int) → List (Int) → List (Int) → List (Int) → Int → List (Int × (Int × Int)) → List (Int) → List (Int) → Int → Int → ByteArray → Int → Int → Int → Int → Option (Bool)) (g9 : List (Int) → List (Int) → List (Int) → List (Int × (Int × Int)) → Int → Int → ByteArray → Int → Int → Option (Bool)) (r0 : List (Int)) (r2 : List ((Int × (List (Int) × List (Int))))) (r3 : List (Int)) (r4 : List (Int)) (r5 : List (Int)) (r6 : List (Int)) (b7_0 : Int) (r8 : List (Int × (Int × Int))) (r9 : List (Int)) (r10 : List (Int)) (count10 : Int) (best36 : Int) (text40 : ByteArray) (s385 : Int) (s386 : Int) (s427 : Int) (s428 : Int) : Option Bool :=
  bif decide (s428 < s427) then
    bif decide (0 ≤ s428) then
      bif decide (s428 < (↑(List.length r4) : Int)) then
        Option.bind (w_wHas r9 (rdk kint r4 s428)) fun r =>
          bif r then some false else g7 r0 r2 r3 r4 r5 r6 b7_0 r8 r9 r10 count10 best36 text40 s385 s386 s427 (IntKind.wrap IntKind.i64 (s428 + 1))
      else none
    else none
  else g8 r0 r2 r3 r4 r5 r6 b7_0 r8 r9 r10 count10 best36 text40 s385 s386 (↑(List.length r8) : Int) 0
noncomputable def w_FnStairsGuessed_t8 (g1 : List (Int) → List ((Int × (List (Int) × List (Int)))) → Int → List (Int) → List (Int) → List (Int) → List (Int) → List (Int × (Int × Int)) → List (Int) → List (Int) → Bool → Int → Bool → Bool → Int → ByteArray → Option (Bool)) (g2 : List (Int) → Option (Bool)) (g3 : List (Int) → List ((Int × (List (Int) × List (Int)))) → List (Int) → List (Int) → List (Int) → List (Int) → List (Int × (Int × Int)) → Int → Int → ByteArray → Option (Bool)) (g4 : List (Int) → List ((Int × (List (Int) × List (Int)))) → List (Int) → List (Int) → List (Int) → List (Int) → Int → List (Int × (Int × Int)) → List (Int) → List (Int) → Int → Int → ByteArray → Int → Int → Option (Bool)) (g5 : List (Int) → List ((Int × (List (Int) × List (Int)))) → List (Int) → List (Int) → List (Int) → List (Int) → List (Int × (Int × Int)) → Int → Int → ByteArray → Int → Int → Option (Bool)) (g6 : List (Int) → List ((Int × (List (Int) × List (Int)))) → List (Int) → List (Int) → List (Int) → List (Int) → Int → List (Int × (Int × Int)) → List (Int) → List (Int) → Int → Int → ByteArray → Int → Int → Int → Int → Option (Bool)) (g7 : List (Int) → List ((Int × (List (Int) × List (Int)))) → List (Int) → List (Int) → List (Int) → List (Int) → Int → List (Int × (Int × Int)) → List (Int) → List (Int) → Int → Int → ByteArray → Int → Int → Int → Int → Option (Bool)) (g8 : List (Int) → List ((Int × (List (Int) × List (Int)))) → List (Int) → List (Int) → List (Int) → List (Int) → Int → List (Int × (Int × Int)) → List (Int) → List (Int) → Int → Int → ByteArray → Int → Int → Int → Int → Option (Bool)) (g9 : List (Int) → List (Int) → List (Int) → List (Int × (Int × Int)) → Int → Int → ByteArray → Int → Int → Option (Bool)) (r0 : List (Int)) (r2 : List ((Int × (List (Int) × List (Int))))) (r3 : List (Int)) (r4 : List (Int)) (r5 : List (Int)) (r6 : List (Int)) (b7_0 : Int) (r8 : List (Int × (Int × Int))) (r9 : List (Int)) (r10 : List (Int)) (count10 : Int) (best36 : Int) (text40 : ByteArray) (s385 : Int) (s386 : Int) (s439 : Int) (s440 : Int) : Option Bool :=
  bif decide (s440 < s439) then
    bif decide (0 ≤ s440) then
      bif decide (s440 < (↑(List.length r8) : Int)) then
        Option.bind
          (i_DoesFit (Prod.fst (rdk kClue r8 s440))
            (Prod.fst (Prod.snd (rdk kClue r8 s440)))
            (Prod.snd (Prod.snd (rdk kClue r8 s440))) b7_0 r9 r10)
          fun r =>
          bif !Prod.snd r then some false
          else bif !Prod.fst r then some false else g8 r0 r2 r3 r4 r5 r6 b7_0 r8 r9 r10 count10 best36 text40 s385 s386 s439 (IntKind.wrap IntKind.i64 (s440 + 1))
      else none
    else none
  else g5 r0 r2 r3 r4 r5 r6 r8 count10 best36 text40 s385 (IntKind.wrap IntKind.i64 (s386 + 1))
noncomputable def w_FnStairsGuessed_t9 (g1 : List (Int) → List ((Int × (List (Int) × List (Int)))) → Int → List (Int) → List (Int) → List (Int) → List (Int) → List (Int × (Int × Int)) → List (Int) → List (Int) → Bool → Int → Bool → Bool → Int → ByteArray → Option (Bool)) (g2 : List (Int) → Option (Bool)) (g3 : List (Int) → List ((Int × (List (Int) × List (Int)))) → List (Int) → List (Int) → List (Int) → List (Int) → List (Int × (Int × Int)) → Int → Int → ByteArray → Option (Bool)) (g4 : List (Int) → List ((Int × (List (Int) × List (Int)))) → List (Int) → List (Int) → List (Int) → List (Int) → Int → List (Int × (Int × Int)) → List (Int) → List (Int) → Int → Int → ByteArray → Int → Int → Option (Bool)) (g5 : List (Int) → List ((Int × (List (Int) × List (Int)))) → List (Int) → List (Int) → List (Int) → List (Int) → List (Int × (Int × Int)) → Int → Int → ByteArray → Int → Int → Option (Bool)) (g6 : List (Int) → List ((Int × (List (Int) × List (Int)))) → List (Int) → List (Int) → List (Int) → List (Int) → Int → List (Int × (Int × Int)) → List (Int) → List (Int) → Int → Int → ByteArray → Int → Int → Int → Int → Option (Bool)) (g7 : List (Int) → List ((Int × (List (Int) × List (Int)))) → List (Int) → List (Int) → List (Int) → List (Int) → Int → List (Int × (Int × Int)) → List (Int) → List (Int) → Int → Int → ByteArray → Int → Int → Int → Int → Option (Bool)) (g8 : List (Int) → List ((Int × (List (Int) × List (Int)))) → List (Int) → List (Int) → List (Int) → List (Int) → Int → List (Int × (Int × Int)) → List (Int) → List (Int) → Int → Int → ByteArray → Int → Int → Int → Int → Option (Bool)) (g9 : List (Int) → List (Int) → List (Int) → List (Int × (Int × Int)) → Int → Int → ByteArray → Int → Int → Option (Bool)) (r0 : List (Int)) (r2 : List (Int)) (r3 : List (Int)) (r4 : List (Int × (Int × Int))) (count10 : Int) (best36 : Int) (text40 : ByteArray) (s460 : Int) (s461 : Int) : Option Bool :=
  bif decide (s461 < s460) then
    Option.bind (i_CountSolutions (Prod.fst (i_DropClue_n r4 s461))) fun r =>
      bif !Prod.snd (i_DropClue_n r4 s461) then some false
      else
        bif !Prod.snd r then some false
        else
          Option.bind (w_wHas r2 s461) fun r_1 =>
            bif !r_1 == (Prod.fst r == count10) then some false
            else
              bif decide (0 ≤ IntKind.wrap IntKind.i64 (s461 + 1)) then
                bif decide (IntKind.wrap IntKind.i64 (s461 + 1) < (↑(List.length r3) : Int)) then
                  bif decide (0 ≤ s461) then
                    bif decide (s461 < (↑(List.length r3) : Int)) then
                      bif decide (rdk kint r3 (IntKind.wrap IntKind.i64 (s461 + 1)) > rdk kint r3 s461) then some false
                      else
                        bif decide (best36 < 0) then some false
                        else
                          bif decide (best36 ≥ (↑(List.length r4) : Int)) then some false
                          else g9 r0 r2 r3 r4 count10 best36 text40 s460 (IntKind.wrap IntKind.i64 (s461 + 1))
                    else none
                  else none
                else none
              else none
  else
    Option.bind (i_ParsePuzzle text40) fun r =>
      bif !Prod.snd r then some false else Option.bind (w_wPuzzle (Prod.fst r) r4) fun r => bif !r then some false else g2 r0
noncomputable def w_FnStairsGuessed_t0 (g1 : List (Int) → List ((Int × (List (Int) × List (Int)))) → Int → List (Int) → List (Int) → List (Int) → List (Int) → List (Int × (Int × Int)) → List (Int) → List (Int) → Bool → Int → Bool → Bool → Int → ByteArray → Option (Bool)) (g2 : List (Int) → Option (Bool)) (g3 : List (Int) → List ((Int × (List (Int) × List (Int)))) → List (Int) → List (Int) → List (Int) → List (Int) → List (Int × (Int × Int)) → Int → Int → ByteArray → Option (Bool)) (g4 : List (Int) → List ((Int × (List (Int) × List (Int)))) → List (Int) → List (Int) → List (Int) → List (Int) → Int → List (Int × (Int × Int)) → List (Int) → List (Int) → Int → Int → ByteArray → Int → Int → Option (Bool)) (g5 : List (Int) → List ((Int × (List (Int) × List (Int)))) → List (Int) → List (Int) → List (Int) → List (Int) → List (Int × (Int × Int)) → Int → Int → ByteArray → Int → Int → Option (Bool)) (g6 : List (Int) → List ((Int × (List (Int) × List (Int)))) → List (Int) → List (Int) → List (Int) → List (Int) → Int → List (Int × (Int × Int)) → List (Int) → List (Int) → Int → Int → ByteArray → Int → Int → Int → Int → Option (Bool)) (g7 : List (Int) → List ((Int × (List (Int) × List (Int)))) → List (Int) → List (Int) → List (Int) → List (Int) → Int → List (Int × (Int × Int)) → List (Int) → List (Int) → Int → Int → ByteArray → Int → Int → Int → Int → Option (Bool)) (g8 : List (Int) → List ((Int × (List (Int) × List (Int)))) → List (Int) → List (Int) → List (Int) → List (Int) → Int → List (Int × (Int × Int)) → List (Int) → List (Int) → Int → Int → ByteArray → Int → Int → Int → Int → Option (Bool)) (g9 : List (Int) → List (Int) → List (Int) → List (Int × (Int × Int)) → Int → Int → ByteArray → Int → Int → Option (Bool)) (code0 : List Int) (more1 : List Int) : Option Bool :=
  bif w_big code0 more1 then some true
  else
    Option.bind (s_DrawSolutions code0) fun r =>
      Option.bind (i_Solutions r) fun r_1 =>
        Option.bind (s_Solutions r) fun r_2 =>
          Option.bind (i_CountSolutions r) fun r_3 =>
            Option.bind (s_CountSolutions r) fun r_4 =>
              Option.bind (i_FirstSolution r) fun r_5 =>
                Option.bind (s_FirstSolution r) fun r_6 =>
                  Option.bind (i_SureStrides r) fun r_7 =>
                    Option.bind (s_SureStrides r) fun r_8 =>
                      Option.bind (i_IsSolved r) fun r_9 =>
                        Option.bind (s_IsSolved r) fun r_10 =>
                          Option.bind (i_NeedlessClues r) fun r_11 =>
                            Option.bind (s_NeedlessClues r) fun r_12 =>
                              Option.bind (i_LeftByClues r) fun r_13 =>
                                Option.bind (s_LeftByClues r) fun r_14 =>
                                  Option.bind (i_BestClue r) fun r_15 =>
                                    Option.bind (s_BestClue r) fun r_16 =>
                                      Option.bind (i_PuzzleText r) fun r_17 =>
                                        Option.bind (s_PuzzleText r) fun r_18 =>
                                          bif !Prod.snd r_1 == Prod.snd r_2 then some false
                                          else
                                            Option.bind (w_wLists (Prod.fst r_1) (Prod.fst r_2)) fun r_19 =>
                                              bif !r_19 then some false
                                              else
                                                bif !Prod.snd r_3 == Prod.snd r_4 then some false
                                                else
                                                  bif Prod.fst r_3 != Prod.fst r_4 then some false
                                                  else
                                                    bif !Prod.snd r_5 == Prod.snd r_6 then some false
                                                    else
                                                      Option.bind
                                                        (w_wStairs (Prod.fst (Prod.fst r_5)) (Prod.fst (Prod.snd (Prod.fst r_5)))
                                                          (Prod.snd (Prod.snd (Prod.fst r_5))) (Prod.fst (Prod.fst r_6)) (Prod.fst (Prod.snd (Prod.fst r_6)))
                                                          (Prod.snd (Prod.snd (Prod.fst r_6))))
                                                        fun r_20 =>
                                                        bif !r_20 then some false
                                                        else
                                                          bif !Prod.snd (Prod.snd r_7) == Prod.snd (Prod.snd r_8) then some false
                                                          else
                                                            Option.bind (w_wSame (Prod.fst r_7) (Prod.fst r_8)) fun r_21 =>
                                                              bif !r_21 then some false
                                                              else
                                                                Option.bind (w_wSame (Prod.fst (Prod.snd r_7)) (Prod.fst (Prod.snd r_8))) fun r_22 =>
                                                                  bif !r_22 then some false
                                                                  else
                                                                    bif !Prod.snd r_9 == Prod.snd r_10 then some false
                                                                    else
                                                                      bif !Prod.fst r_9 == Prod.fst r_10 then some false
                                                                      else
                                                                        bif !Prod.snd r_11 == Prod.snd r_12 then some false
                                                                        else
                                                                          Option.bind (w_wSame (Prod.fst r_11) (Prod.fst r_12)) fun r_23 =>
                                                                            bif !r_23 then some false
                                                                            else
                                                                              bif !Prod.snd r_13 == Prod.snd r_14 then some false
                                                                              else
                                                                                Option.bind (w_wSame (Prod.fst r_13) (Prod.fst r_14)) fun r_24 =>
                                                                                  bif !r_24 then some false
                                                                                  else
                                                                                    bif !Prod.snd r_15 == Prod.snd r_16 then some false
                                                                                    else
                                                                                      bif Prod.fst r_15 != Prod.fst r_16 then some false
                                                                                      else
                                                                                        bif !Prod.snd r_17 == Prod.snd r_18 then some false
                                                                                        else
                                                                                          bif
                                                                                              !ByteArray.toList (Prod.fst r_17) ==
                                                                                                  ByteArray.toList (Prod.fst r_18) then
                                                                                            some false
                                                                                          else
                                                                                            bif !Prod.snd r_1 == i_IsPuzzle r then some false
                                                                                            else
                                                                                              bif !i_IsPuzzle r == s_IsPuzzle r then some false
                                                                                              else
                                                                                                bif !Prod.snd r_3 == Prod.snd r_1 then some false
                                                                                                else
                                                                                                  bif Prod.snd r_1 then
                                                                                                    bif !Prod.snd r_5 == decide (Prod.fst r_3 > 0) then some false
                                                                                                    else
                                                                                                      bif !Prod.snd (Prod.snd r_7) == Prod.snd r_5 then some false
                                                                                                      else
                                                                                                        bif !Prod.snd r_9 == Prod.snd r_1 then some false
                                                                                                        else
                                                                                                          bif !Prod.snd r_11 == Prod.snd r_1 then some false
                                                                                                          else
                                                                                                            bif !Prod.snd r_13 == Prod.snd r_1 then some false
                                                                                                            else
                                                                                                              bif Prod.snd r_1 then
                                                                                                                bif
                                                                                                                    !Prod.snd r_15 ==
                                                                                                                        decide ((↑(List.length r) : Int) > 0) then
                                                                                                                  some false
                                                                                                                else
                                                                                                                  bif !Prod.snd r_17 == Prod.snd r_1 then
                                                                                                                    some false
                                                                                                                  else
                                                                                                                    g1 more1 (Prod.fst r_1)
                                                                                                                      (Prod.fst (Prod.fst r_5)) (Prod.fst r_7)
                                                                                                                      (Prod.fst (Prod.snd r_7)) (Prod.fst r_11)
                                                                                                                      (Prod.fst r_13) r
                                                                                                                      (Prod.fst (Prod.snd (Prod.fst r_5)))
                                                                                                                      (Prod.snd (Prod.snd (Prod.fst r_5)))
                                                                                                                      (Prod.snd r_1) (Prod.fst r_3) (Prod.snd r_5)
                                                                                                                      (Prod.fst r_9) (Prod.fst r_15)
                                                                                                                      (Prod.fst r_17)
                                                                                                              else
                                                                                                                bif !Prod.snd r_15 == false then some false
                                                                                                                else
                                                                                                                  bif !Prod.snd r_17 == Prod.snd r_1 then
                                                                                                                    some false
                                                                                                                  else
                                                                                                                    g1 more1 (Prod.fst r_1)
                                                                                                                      (Prod.fst (Prod.fst r_5)) (Prod.fst r_7)
                                                                                                                      (Prod.fst (Prod.snd r_7)) (Prod.fst r_11)
                                                                                                                      (Prod.fst r_13) r
                                                                                                                      (Prod.fst (Prod.snd (Prod.fst r_5)))
                                                                                                                      (Prod.snd (Prod.snd (Prod.fst r_5)))
                                                                                                                      (Prod.snd r_1) (Prod.fst r_3) (Prod.snd r_5)
                                                                                                                      (Prod.fst r_9) (Prod.fst r_15)
                                                                                                                      (Prod.fst r_17)
                                                                                                  else
                                                                                                    bif !Prod.snd r_5 == false then some false
                                                                                                    else
                                                                                                      bif !Prod.snd (Prod.snd r_7) == Prod.snd r_5 then some false
                                                                                                      else
                                                                                                        bif !Prod.snd r_9 == Prod.snd r_1 then some false
                                                                                                        else
                                                                                                          bif !Prod.snd r_11 == Prod.snd r_1 then some false
                                                                                                          else
                                                                                                            bif !Prod.snd r_13 == Prod.snd r_1 then some false
                                                                                                            else
                                                                                                              bif Prod.snd r_1 then
                                                                                                                bif
                                                                                                                    !Prod.snd r_15 ==
                                                                                                                        decide ((↑(List.length r) : Int) > 0) then
                                                                                                                  some false
                                                                                                                else
                                                                                                                  bif !Prod.snd r_17 == Prod.snd r_1 then
                                                                                                                    some false
                                                                                                                  else
                                                                                                                    g1 more1 (Prod.fst r_1)
                                                                                                                      (Prod.fst (Prod.fst r_5)) (Prod.fst r_7)
                                                                                                                      (Prod.fst (Prod.snd r_7)) (Prod.fst r_11)
                                                                                                                      (Prod.fst r_13) r
                                                                                                                      (Prod.fst (Prod.snd (Prod.fst r_5)))
                                                                                                                      (Prod.snd (Prod.snd (Prod.fst r_5)))
                                                                                                                      (Prod.snd r_1) (Prod.fst r_3) (Prod.snd r_5)
                                                                                                                      (Prod.fst r_9) (Prod.fst r_15)
                                                                                                                      (Prod.fst r_17)
                                                                                                              else
                                                                                                                bif !Prod.snd r_15 == false then some false
                                                                                                                else
                                                                                                                  bif !Prod.snd r_17 == Prod.snd r_1 then
                                                                                                                    some false
                                                                                                                  else
                                                                                                                    g1 more1 (Prod.fst r_1)
                                                                                                                      (Prod.fst (Prod.fst r_5)) (Prod.fst r_7)
                                                                                                                      (Prod.fst (Prod.snd r_7)) (Prod.fst r_11)
                                                                                                                      (Prod.fst r_13) r
                                                                                                                      (Prod.fst (Prod.snd (Prod.fst r_5)))
                                                                                                                      (Prod.snd (Prod.snd (Prod.fst r_5)))
                                                                                                                      (Prod.snd r_1) (Prod.fst r_3) (Prod.snd r_5)
                                                                                                                      (Prod.fst r_9) (Prod.fst r_15)
                                                                                                                      (Prod.fst r_17)
theorem w_FnStairsGuessed_ts : Tails c_w_FnStairsGuessed.pts c_w_FnStairsGuessed.round :=
  ⟨fun s => by
    obtain ⟨⟨r0, ⟨_, _⟩, r2, ⟨b3_0, _, _, _⟩, r4, r5, r6, r7, r8, r9, r10, _⟩, ⟨_, _, _, ok7, count10, _, three15, _, _, solved24, _, _, best36, text40, _⟩, ⟨_, _, _⟩⟩ := s
    refine Tail.eq (Y := fun g => w_FnStairsGuessed_t1 (fun r0 r2 b3_0 r4 r5 r6 r7 r8 r9 r10 ok7 count10 three15 solved24 best36 text40 => g.1 ((r0, ((), ()), r2, (b3_0, (), (), ()), r4, r5, r6, r7, r8, r9, r10, ()), ((), (), (), ok7, count10, (), three15, (), (), solved24, (), (), best36, text40, ()), ((), (), ()))) (fun r0 => g.2.1 ((r0, ()), ((), ()), ((), (), ()))) (fun r0 r2 r3 r4 r5 r6 r7 count10 best36 text40 => g.2.2.1 ((r0, ((), ()), r2, r3, r4, r5, r6, r7, ()), ((), (), (), count10, (), (), (), (), best36, text40, ()), ((), (), ()))) (fun r0 r2 r3 r4 r5 r6 b7_0 r8 r9 r10 count10 best36 text40 s385 s386 => g.2.2.2.1 ((r0, ((), ()), r2, r3, r4, r5, r6, (b7_0, (), (), ()), r8, r9, r10, ()), ((), (), (), count10, (), (), (), (), best36, text40, (), (), s385, s386, ()), ((), (), ()))) (fun r0 r2 r3 r4 r5 r6 r7 count10 best36 text40 s385 s386 => g.2.2.2.2.1 ((r0, ((), ()), r2, r3, r4, r5, r6, r7, ()), ((), (), (), count10, (), (), (), (), best36, text40, (), s385, s386, ()), ((), (), ()))) (fun r0 r2 r3 r4 r5 r6 b7_0 r8 r9 r10 count10 best36 text40 s385 s386 s415 s416 => g.2.2.2.2.2.1 ((r0, ((), ()), r2, r3, r4, r5, r6, (b7_0, (), (), ()), r8, r9, r10, ()), ((), (), (), count10, (), (), (), (), best36, text40, (), (), s385, s386, (), s415, s416, ()), ((), (), ()))) (fun r0 r2 r3 r4 r5 r6 b7_0 r8 r9 r10 count10 best36 text40 s385 s386 s427 s428 => g.2.2.2.2.2.2.1 ((r0, ((), ()), r2, r3, r4, r5, r6, (b7_0, (), (), ()), r8, r9, r10, ()), ((), (), (), count10, (), (), (), (), best36, text40, (), (), s385, s386, (), s427, s428, ()), ((), (), ()))) (fun r0 r2 r3 r4 r5 r6 b7_0 r8 r9 r10 count10 best36 text40 s385 s386 s439 s440 => g.2.2.2.2.2.2.2.1 ((r0, ((), ()), r2, r3, r4, r5, r6, (b7_0, (), (), ()), r8, r9, r10, ()), ((), (), (), count10, (), (), (), (), best36, text40, (), (), s385, s386, (), s439, s440, ()), ((), (), ()))) (fun r0 r2 r3 r4 count10 best36 text40 s460 s461 => g.2.2.2.2.2.2.2.2.1 ((r0, ((), ()), r2, r3, r4, ()), ((), (), count10, (), (), best36, text40, s460, s461, ()), ((), (), ()))) r0 r2 b3_0 r4 r5 r6 r7 r8 r9 r10 ok7 count10 three15 solved24 best36 text40) ?_ (fun g => by kernel_rfl)
    simp only [w_FnStairsGuessed_t1]; repeat (first | apply Tail.cond | (apply Tail.bind; intro _) | exact Tail.here _ | exact Tail.there (Tail.here _) | exact Tail.there (Tail.there (Tail.here _)) | exact Tail.there (Tail.there (Tail.there (Tail.here _))) | exact Tail.there (Tail.there (Tail.there (Tail.there (Tail.here _)))) | exact Tail.there (Tail.there (Tail.there (Tail.there (Tail.there (Tail.here _))))) | exact Tail.there (Tail.there (Tail.there (Tail.there (Tail.there (Tail.there (Tail.here _)))))) | exact Tail.there (Tail.there (Tail.there (Tail.there (Tail.there (Tail.there (Tail.there (Tail.here _))))))) | exact Tail.there (Tail.there (Tail.there (Tail.there (Tail.there (Tail.there (Tail.there (Tail.there (Tail.here _)))))))) | exact Tail.const _),
  fun s => by
    obtain ⟨⟨r0, _⟩, ⟨_, _⟩, ⟨_, _, _⟩⟩ := s
    refine Tail.eq (Y := fun g => w_FnStairsGuessed_t2 (fun r0 r2 b3_0 r4 r5 r6 r7 r8 r9 r10 ok7 count10 three15 solved24 best36 text40 => g.1 ((r0, ((), ()), r2, (b3_0, (), (), ()), r4, r5, r6, r7, r8, r9, r10, ()), ((), (), (), ok7, count10, (), three15, (), (), solved24, (), (), best36, text40, ()), ((), (), ()))) (fun r0 => g.2.1 ((r0, ()), ((), ()), ((), (), ()))) (fun r0 r2 r3 r4 r5 r6 r7 count10 best36 text40 => g.2.2.1 ((r0, ((), ()), r2, r3, r4, r5, r6, r7, ()), ((), (), (), count10, (), (), (), (), best36, text40, ()), ((), (), ()))) (fun r0 r2 r3 r4 r5 r6 b7_0 r8 r9 r10 count10 best36 text40 s385 s386 => g.2.2.2.1 ((r0, ((), ()), r2, r3, r4, r5, r6, (b7_0, (), (), ()), r8, r9, r10, ()), ((), (), (), count10, (), (), (), (), best36, text40, (), (), s385, s386, ()), ((), (), ()))) (fun r0 r2 r3 r4 r5 r6 r7 count10 best36 text40 s385 s386 => g.2.2.2.2.1 ((r0, ((), ()), r2, r3, r4, r5, r6, r7, ()), ((), (), (), count10, (), (), (), (), best36, text40, (), s385, s386, ()), ((), (), ()))) (fun r0 r2 r3 r4 r5 r6 b7_0 r8 r9 r10 count10 best36 text40 s385 s386 s415 s416 => g.2.2.2.2.2.1 ((r0, ((), ()), r2, r3, r4, r5, r6, (b7_0, (), (), ()), r8, r9, r10, ()), ((), (), (), count10, (), (), (), (), best36, text40, (), (), s385, s386, (), s415, s416, ()), ((), (), ()))) (fun r0 r2 r3 r4 r5 r6 b7_0 r8 r9 r10 count10 best36 text40 s385 s386 s427 s428 => g.2.2.2.2.2.2.1 ((r0, ((), ()), r2, r3, r4, r5, r6, (b7_0, (), (), ()), r8, r9, r10, ()), ((), (), (), count10, (), (), (), (), best36, text40, (), (), s385, s386, (), s427, s428, ()), ((), (), ()))) (fun r0 r2 r3 r4 r5 r6 b7_0 r8 r9 r10 count10 best36 text40 s385 s386 s439 s440 => g.2.2.2.2.2.2.2.1 ((r0, ((), ()), r2, r3, r4, r5, r6, (b7_0, (), (), ()), r8, r9, r10, ()), ((), (), (), count10, (), (), (), (), best36, text40, (), (), s385, s386, (), s439, s440, ()), ((), (), ()))) (fun r0 r2 r3 r4 count10 best36 text40 s460 s461 => g.2.2.2.2.2.2.2.2.1 ((r0, ((), ()), r2, r3, r4, ()), ((), (), count10, (), (), best36, text40, s460, s461, ()), ((), (), ()))) r0) ?_ (fun g => by kernel_rfl)
    simp only [w_FnStairsGuessed_t2]; repeat (first | apply Tail.cond | (apply Tail.bind; intro _) | exact Tail.here _ | exact Tail.there (Tail.here _) | exact Tail.there (Tail.there (Tail.here _)) | exact Tail.there (Tail.there (Tail.there (Tail.here _))) | exact Tail.there (Tail.there (Tail.there (Tail.there (Tail.here _)))) | exact Tail.there (Tail.there (Tail.there (Tail.there (Tail.there (Tail.here _))))) | exact Tail.there (Tail.there (Tail.there (Tail.there (Tail.there (Tail.there (Tail.here _)))))) | exact Tail.there (Tail.there (Tail.there (Tail.there (Tail.there (Tail.there (Tail.there (Tail.here _))))))) | exact Tail.there (Tail.there (Tail.there (Tail.there (Tail.there (Tail.there (Tail.there (Tail.there (Tail.here _)))))))) | exact Tail.const _),
  fun s => by
    obtain ⟨⟨r0, ⟨_, _⟩, r2, r3, r4, r5, r6, r7, _⟩, ⟨_, _, _, count10, _, _, _, _, best36, text40, _⟩, ⟨_, _, _⟩⟩ := s
    refine Tail.eq (Y := fun g => w_FnStairsGuessed_t3 (fun r0 r2 b3_0 r4 r5 r6 r7 r8 r9 r10 ok7 count10 three15 solved24 best36 text40 => g.1 ((r0, ((), ()), r2, (b3_0, (), (), ()), r4, r5, r6, r7, r8, r9, r10, ()), ((), (), (), ok7, count10, (), three15, (), (), solved24, (), (), best36, text40, ()), ((), (), ()))) (fun r0 => g.2.1 ((r0, ()), ((), ()), ((), (), ()))) (fun r0 r2 r3 r4 r5 r6 r7 count10 best36 text40 => g.2.2.1 ((r0, ((), ()), r2, r3, r4, r5, r6, r7, ()), ((), (), (), count10, (), (), (), (), best36, text40, ()), ((), (), ()))) (fun r0 r2 r3 r4 r5 r6 b7_0 r8 r9 r10 count10 best36 text40 s385 s386 => g.2.2.2.1 ((r0, ((), ()), r2, r3, r4, r5, r6, (b7_0, (), (), ()), r8, r9, r10, ()), ((), (), (), count10, (), (), (), (), best36, text40, (), (), s385, s386, ()), ((), (), ()))) (fun r0 r2 r3 r4 r5 r6 r7 count10 best36 text40 s385 s386 => g.2.2.2.2.1 ((r0, ((), ()), r2, r3, r4, r5, r6, r7, ()), ((), (), (), count10, (), (), (), (), best36, text40, (), s385, s386, ()), ((), (), ()))) (fun r0 r2 r3 r4 r5 r6 b7_0 r8 r9 r10 count10 best36 text40 s385 s386 s415 s416 => g.2.2.2.2.2.1 ((r0, ((), ()), r2, r3, r4, r5, r6, (b7_0, (), (), ()), r8, r9, r10, ()), ((), (), (), count10, (), (), (), (), best36, text40, (), (), s385, s386, (), s415, s416, ()), ((), (), ()))) (fun r0 r2 r3 r4 r5 r6 b7_0 r8 r9 r10 count10 best36 text40 s385 s386 s427 s428 => g.2.2.2.2.2.2.1 ((r0, ((), ()), r2, r3, r4, r5, r6, (b7_0, (), (), ()), r8, r9, r10, ()), ((), (), (), count10, (), (), (), (), best36, text40, (), (), s385, s386, (), s427, s428, ()), ((), (), ()))) (fun r0 r2 r3 r4 r5 r6 b7_0 r8 r9 r10 count10 best36 text40 s385 s386 s439 s440 => g.2.2.2.2.2.2.2.1 ((r0, ((), ()), r2, r3, r4, r5, r6, (b7_0, (), (), ()), r8, r9, r10, ()), ((), (), (), count10, (), (), (), (), best36, text40, (), (), s385, s386, (), s439, s440, ()), ((), (), ()))) (fun r0 r2 r3 r4 count10 best36 text40 s460 s461 => g.2.2.2.2.2.2.2.2.1 ((r0, ((), ()), r2, r3, r4, ()), ((), (), count10, (), (), best36, text40, s460, s461, ()), ((), (), ()))) r0 r2 r3 r4 r5 r6 r7 count10 best36 text40) ?_ (fun g => by kernel_rfl)
    simp only [w_FnStairsGuessed_t3]; repeat (first | apply Tail.cond | (apply Tail.bind; intro _) | exact Tail.here _ | exact Tail.there (Tail.here _) | exact Tail.there (Tail.there (Tail.here _)) | exact Tail.there (Tail.there (Tail.there (Tail.here _))) | exact Tail.there (Tail.there (Tail.there (Tail.there (Tail.here _)))) | exact Tail.there (Tail.there (Tail.there (Tail.there (Tail.there (Tail.here _))))) | exact Tail.there (Tail.there (Tail.there (Tail.there (Tail.there (Tail.there (Tail.here _)))))) | exact Tail.there (Tail.there (Tail.there (Tail.there (Tail.there (Tail.there (Tail.there (Tail.here _))))))) | exact Tail.there (Tail.there (Tail.there (Tail.there (Tail.there (Tail.there (Tail.there (Tail.there (Tail.here _)))))))) | exact Tail.const _),
  fun s => by
    obtain ⟨⟨r0, ⟨_, _⟩, r2, r3, r4, r5, r6, ⟨b7_0, _, _, _⟩, r8, r9, r10, _⟩, ⟨_, _, _, count10, _, _, _, _, best36, text40, _, _, s385, s386, _⟩, ⟨_, _, _⟩⟩ := s
    refine Tail.eq (Y := fun g => w_FnStairsGuessed_t4 (fun r0 r2 b3_0 r4 r5 r6 r7 r8 r9 r10 ok7 count10 three15 solved24 best36 text40 => g.1 ((r0, ((), ()), r2, (b3_0, (), (), ()), r4, r5, r6, r7, r8, r9, r10, ()), ((), (), (), ok7, count10, (), three15, (), (), solved24, (), (), best36, text40, ()), ((), (), ()))) (fun r0 => g.2.1 ((r0, ()), ((), ()), ((), (), ()))) (fun r0 r2 r3 r4 r5 r6 r7 count10 best36 text40 => g.2.2.1 ((r0, ((), ()), r2, r3, r4, r5, r6, r7, ()), ((), (), (), count10, (), (), (), (), best36, text40, ()), ((), (), ()))) (fun r0 r2 r3 r4 r5 r6 b7_0 r8 r9 r10 count10 best36 text40 s385 s386 => g.2.2.2.1 ((r0, ((), ()), r2, r3, r4, r5, r6, (b7_0, (), (), ()), r8, r9, r10, ()), ((), (), (), count10, (), (), (), (), best36, text40, (), (), s385, s386, ()), ((), (), ()))) (fun r0 r2 r3 r4 r5 r6 r7 count10 best36 text40 s385 s386 => g.2.2.2.2.1 ((r0, ((), ()), r2, r3, r4, r5, r6, r7, ()), ((), (), (), count10, (), (), (), (), best36, text40, (), s385, s386, ()), ((), (), ()))) (fun r0 r2 r3 r4 r5 r6 b7_0 r8 r9 r10 count10 best36 text40 s385 s386 s415 s416 => g.2.2.2.2.2.1 ((r0, ((), ()), r2, r3, r4, r5, r6, (b7_0, (), (), ()), r8, r9, r10, ()), ((), (), (), count10, (), (), (), (), best36, text40, (), (), s385, s386, (), s415, s416, ()), ((), (), ()))) (fun r0 r2 r3 r4 r5 r6 b7_0 r8 r9 r10 count10 best36 text40 s385 s386 s427 s428 => g.2.2.2.2.2.2.1 ((r0, ((), ()), r2, r3, r4, r5, r6, (b7_0, (), (), ()), r8, r9, r10, ()), ((), (), (), count10, (), (), (), (), best36, text40, (), (), s385, s386, (), s427, s428, ()), ((), (), ()))) (fun r0 r2 r3 r4 r5 r6 b7_0 r8 r9 r10 count10 best36 text40 s385 s386 s439 s440 => g.2.2.2.2.2.2.2.1 ((r0, ((), ()), r2, r3, r4, r5, r6, (b7_0, (), (), ()), r8, r9, r10, ()), ((), (), (), count10, (), (), (), (), best36, text40, (), (), s385, s386, (), s439, s440, ()), ((), (), ()))) (fun r0 r2 r3 r4 count10 best36 text40 s460 s461 => g.2.2.2.2.2.2.2.2.1 ((r0, ((), ()), r2, r3, r4, ()), ((), (), count10, (), (), best36, text40, s460, s461, ()), ((), (), ()))) r0 r2 r3 r4 r5 r6 b7_0 r8 r9 r10 count10 best36 text40 s385 s386) ?_ (fun g => by kernel_rfl)
    simp only [w_FnStairsGuessed_t4]; repeat (first | apply Tail.cond | (apply Tail.bind; intro _) | exact Tail.here _ | exact Tail.there (Tail.here _) | exact Tail.there (Tail.there (Tail.here _)) | exact Tail.there (Tail.there (Tail.there (Tail.here _))) | exact Tail.there (Tail.there (Tail.there (Tail.there (Tail.here _)))) | exact Tail.there (Tail.there (Tail.there (Tail.there (Tail.there (Tail.here _))))) | exact Tail.there (Tail.there (Tail.there (Tail.there (Tail.there (Tail.there (Tail.here _)))))) | exact Tail.there (Tail.there (Tail.there (Tail.there (Tail.there (Tail.there (Tail.there (Tail.here _))))))) | exact Tail.there (Tail.there (Tail.there (Tail.there (Tail.there (Tail.there (Tail.there (Tail.there (Tail.here _)))))))) | exact Tail.const _),
  fun s => by
    obtain ⟨⟨r0, ⟨_, _⟩, r2, r3, r4, r5, r6, r7, _⟩, ⟨_, _, _, count10, _, _, _, _, best36, text40, _, s385, s386, _⟩, ⟨_, _, _⟩⟩ := s
    refine Tail.eq (Y := fun g => w_FnStairsGuessed_t5 (fun r0 r2 b3_0 r4 r5 r6 r7 r8 r9 r10 ok7 count10 three15 solved24 best36 text40 => g.1 ((r0, ((), ()), r2, (b3_0, (), (), ()), r4, r5, r6, r7, r8, r9, r10, ()), ((), (), (), ok7, count10, (), three15, (), (), solved24, (), (), best36, text40, ()), ((), (), ()))) (fun r0 => g.2.1 ((r0, ()), ((), ()), ((), (), ()))) (fun r0 r2 r3 r4 r5 r6 r7 count10 best36 text40 => g.2.2.1 ((r0, ((), ()), r2, r3, r4, r5, r6, r7, ()), ((), (), (), count10, (), (), (), (), best36, text40, ()), ((), (), ()))) (fun r0 r2 r3 r4 r5 r6 b7_0 r8 r9 r10 count10 best36 text40 s385 s386 => g.2.2.2.1 ((r0, ((), ()), r2, r3, r4, r5, r6, (b7_0, (), (), ()), r8, r9, r10, ()), ((), (), (), count10, (), (), (), (), best36, text40, (), (), s385, s386, ()), ((), (), ()))) (fun r0 r2 r3 r4 r5 r6 r7 count10 best36 text40 s385 s386 => g.2.2.2.2.1 ((r0, ((), ()), r2, r3, r4, r5, r6, r7, ()), ((), (), (), count10, (), (), (), (), best36, text40, (), s385, s386, ()), ((), (), ()))) (fun r0 r2 r3 r4 r5 r6 b7_0 r8 r9 r10 count10 best36 text40 s385 s386 s415 s416 => g.2.2.2.2.2.1 ((r0, ((), ()), r2, r3, r4, r5, r6, (b7_0, (), (), ()), r8, r9, r10, ()), ((), (), (), count10, (), (), (), (), best36, text40, (), (), s385, s386, (), s415, s416, ()), ((), (), ()))) (fun r0 r2 r3 r4 r5 r6 b7_0 r8 r9 r10 count10 best36 text40 s385 s386 s427 s428 => g.2.2.2.2.2.2.1 ((r0, ((), ()), r2, r3, r4, r5, r6, (b7_0, (), (), ()), r8, r9, r10, ()), ((), (), (), count10, (), (), (), (), best36, text40, (), (), s385, s386, (), s427, s428, ()), ((), (), ()))) (fun r0 r2 r3 r4 r5 r6 b7_0 r8 r9 r10 count10 best36 text40 s385 s386 s439 s440 => g.2.2.2.2.2.2.2.1 ((r0, ((), ()), r2, r3, r4, r5, r6, (b7_0, (), (), ()), r8, r9, r10, ()), ((), (), (), count10, (), (), (), (), best36, text40, (), (), s385, s386, (), s439, s440, ()), ((), (), ()))) (fun r0 r2 r3 r4 count10 best36 text40 s460 s461 => g.2.2.2.2.2.2.2.2.1 ((r0, ((), ()), r2, r3, r4, ()), ((), (), count10, (), (), best36, text40, s460, s461, ()), ((), (), ()))) r0 r2 r3 r4 r5 r6 r7 count10 best36 text40 s385 s386) ?_ (fun g => by kernel_rfl)
    simp only [w_FnStairsGuessed_t5]; repeat (first | apply Tail.cond | (apply Tail.bind; intro _) | exact Tail.here _ | exact Tail.there (Tail.here _) | exact Tail.there (Tail.there (Tail.here _)) | exact Tail.there (Tail.there (Tail.there (Tail.here _))) | exact Tail.there (Tail.there (Tail.there (Tail.there (Tail.here _)))) | exact Tail.there (Tail.there (Tail.there (Tail.there (Tail.there (Tail.here _))))) | exact Tail.there (Tail.there (Tail.there (Tail.there (Tail.there (Tail.there (Tail.here _)))))) | exact Tail.there (Tail.there (Tail.there (Tail.there (Tail.there (Tail.there (Tail.there (Tail.here _))))))) | exact Tail.there (Tail.there (Tail.there (Tail.there (Tail.there (Tail.there (Tail.there (Tail.there (Tail.here _)))))))) | exact Tail.const _),
  fun s => by
    obtain ⟨⟨r0, ⟨_, _⟩, r2, r3, r4, r5, r6, ⟨b7_0, _, _, _⟩, r8, r9, r10, _⟩, ⟨_, _, _, count10, _, _, _, _, best36, text40, _, _, s385, s386, _, s415, s416, _⟩, ⟨_, _, _⟩⟩ := s
    refine Tail.eq (Y := fun g => w_FnStairsGuessed_t6 (fun r0 r2 b3_0 r4 r5 r6 r7 r8 r9 r10 ok7 count10 three15 solved24 best36 text40 => g.1 ((r0, ((), ()), r2, (b3_0, (), (), ()), r4, r5, r6, r7, r8, r9, r10, ()), ((), (), (), ok7, count10, (), three15, (), (), solved24, (), (), best36, text40, ()), ((), (), ()))) (fun r0 => g.2.1 ((r0, ()), ((), ()), ((), (), ()))) (fun r0 r2 r3 r4 r5 r6 r7 count10 best36 text40 => g.2.2.1 ((r0, ((), ()), r2, r3, r4, r5, r6, r7, ()), ((), (), (), count10, (), (), (), (), best36, text40, ()), ((), (), ()))) (fun r0 r2 r3 r4 r5 r6 b7_0 r8 r9 r10 count10 best36 text40 s385 s386 => g.2.2.2.1 ((r0, ((), ()), r2, r3, r4, r5, r6, (b7_0, (), (), ()), r8, r9, r10, ()), ((), (), (), count10, (), (), (), (), best36, text40, (), (), s385, s386, ()), ((), (), ()))) (fun r0 r2 r3 r4 r5 r6 r7 count10 best36 text40 s385 s386 => g.2.2.2.2.1 ((r0, ((), ()), r2, r3, r4, r5, r6, r7, ()), ((), (), (), count10, (), (), (), (), best36, text40, (), s385, s386, ()), ((), (), ()))) (fun r0 r2 r3 r4 r5 r6 b7_0 r8 r9 r10 count10 best36 text40 s385 s386 s415 s416 => g.2.2.2.2.2.1 ((r0, ((), ()), r2, r3, r4, r5, r6, (b7_0, (), (), ()), r8, r9, r10, ()), ((), (), (), count10, (), (), (), (), best36, text40, (), (), s385, s386, (), s415, s416, ()), ((), (), ()))) (fun r0 r2 r3 r4 r5 r6 b7_0 r8 r9 r10 count10 best36 text40 s385 s386 s427 s428 => g.2.2.2.2.2.2.1 ((r0, ((), ()), r2, r3, r4, r5, r6, (b7_0, (), (), ()), r8, r9, r10, ()), ((), (), (), count10, (), (), (), (), best36, text40, (), (), s385, s386, (), s427, s428, ()), ((), (), ()))) (fun r0 r2 r3 r4 r5 r6 b7_0 r8 r9 r10 count10 best36 text40 s385 s386 s439 s440 => g.2.2.2.2.2.2.2.1 ((r0, ((), ()), r2, r3, r4, r5, r6, (b7_0, (), (), ()), r8, r9, r10, ()), ((), (), (), count10, (), (), (), (), best36, text40, (), (), s385, s386, (), s439, s440, ()), ((), (), ()))) (fun r0 r2 r3 r4 count10 best36 text40 s460 s461 => g.2.2.2.2.2.2.2.2.1 ((r0, ((), ()), r2, r3, r4, ()), ((), (), count10, (), (), best36, text40, s460, s461, ()), ((), (), ()))) r0 r2 r3 r4 r5 r6 b7_0 r8 r9 r10 count10 best36 text40 s385 s386 s415 s416) ?_ (fun g => by kernel_rfl)
    simp only [w_FnStairsGuessed_t6]; repeat (first | apply Tail.cond | (apply Tail.bind; intro _) | exact Tail.here _ | exact Tail.there (Tail.here _) | exact Tail.there (Tail.there (Tail.here _)) | exact Tail.there (Tail.there (Tail.there (Tail.here _))) | exact Tail.there (Tail.there (Tail.there (Tail.there (Tail.here _)))) | exact Tail.there (Tail.there (Tail.there (Tail.there (Tail.there (Tail.here _))))) | exact Tail.there (Tail.there (Tail.there (Tail.there (Tail.there (Tail.there (Tail.here _)))))) | exact Tail.there (Tail.there (Tail.there (Tail.there (Tail.there (Tail.there (Tail.there (Tail.here _))))))) | exact Tail.there (Tail.there (Tail.there (Tail.there (Tail.there (Tail.there (Tail.there (Tail.there (Tail.here _)))))))) | exact Tail.const _),
  fun s => by
    obtain ⟨⟨r0, ⟨_, _⟩, r2, r3, r4, r5, r6, ⟨b7_0, _, _, _⟩, r8, r9, r10, _⟩, ⟨_, _, _, count10, _, _, _, _, best36, text40, _, _, s385, s386, _, s427, s428, _⟩, ⟨_, _, _⟩⟩ := s
    refine Tail.eq (Y := fun g => w_FnStairsGuessed_t7 (fun r0 r2 b3_0 r4 r5 r6 r7 r8 r9 r10 ok7 count10 three15 solved24 best36 text40 => g.1 ((r0, ((), ()), r2, (b3_0, (), (), ()), r4, r5, r6, r7, r8, r9, r10, ()), ((), (), (), ok7, count10, (), three15, (), (), solved24, (), (), best36, text40, ()), ((), (), ()))) (fun r0 => g.2.1 ((r0, ()), ((), ()), ((), (), ()))) (fun r0 r2 r3 r4 r5 r6 r7 count10 best36 text40 => g.2.2.1 ((r0, ((), ()), r2, r3, r4, r5, r6, r7, ()), ((), (), (), count10, (), (), (), (), best36, text40, ()), ((), (), ()))) (fun r0 r2 r3 r4 r5 r6 b7_0 r8 r9 r10 count10 best36 text40 s385 s386 => g.2.2.2.1 ((r0, ((), ()), r2, r3, r4, r5, r6, (b7_0, (), (), ()), r8, r9, r10, ()), ((), (), (), count10, (), (), (), (), best36, text40, (), (), s385, s386, ()), ((), (), ()))) (fun r0 r2 r3 r4 r5 r6 r7 count10 best36 text40 s385 s386 => g.2.2.2.2.1 ((r0, ((), ()), r2, r3, r4, r5, r6, r7, ()), ((), (), (), count10, (), (), (), (), best36, text40, (), s385, s386, ()), ((), (), ()))) (fun r0 r2 r3 r4 r5 r6 b7_0 r8 r9 r10 count10 best36 text40 s385 s386 s415 s416 => g.2.2.2.2.2.1 ((r0, ((), ()), r2, r3, r4, r5, r6, (b7_0, (), (), ()), r8, r9, r10, ()), ((), (), (), count10, (), (), (), (), best36, text40, (), (), s385, s386, (), s415, s416, ()), ((), (), ()))) (fun r0 r2 r3 r4 r5 r6 b7_0 r8 r9 r10 count10 best36 text40 s385 s386 s427 s428 => g.2.2.2.2.2.2.1 ((r0, ((), ()), r2, r3, r4, r5, r6, (b7_0, (), (), ()), r8, r9, r10, ()), ((), (), (), count10, (), (), (), (), best36, text40, (), (), s385, s386, (), s427, s428, ()), ((), (), ()))) (fun r0 r2 r3 r4 r5 r6 b7_0 r8 r9 r10 count10 best36 text40 s385 s386 s439 s440 => g.2.2.2.2.2.2.2.1 ((r0, ((), ()), r2, r3, r4, r5, r6, (b7_0, (), (), ()), r8, r9, r10, ()), ((), (), (), count10, (), (), (), (), best36, text40, (), (), s385, s386, (), s439, s440, ()), ((), (), ()))) (fun r0 r2 r3 r4 count10 best36 text40 s460 s461 => g.2.2.2.2.2.2.2.2.1 ((r0, ((), ()), r2, r3, r4, ()), ((), (), count10, (), (), best36, text40, s460, s461, ()), ((), (), ()))) r0 r2 r3 r4 r5 r6 b7_0 r8 r9 r10 count10 best36 text40 s385 s386 s427 s428) ?_ (fun g => by kernel_rfl)
    simp only [w_FnStairsGuessed_t7]; repeat (first | apply Tail.cond | (apply Tail.bind; intro _) | exact Tail.here _ | exact Tail.there (Tail.here _) | exact Tail.there (Tail.there (Tail.here _)) | exact Tail.there (Tail.there (Tail.there (Tail.here _))) | exact Tail.there (Tail.there (Tail.there (Tail.there (Tail.here _)))) | exact Tail.there (Tail.there (Tail.there (Tail.there (Tail.there (Tail.here _))))) | exact Tail.there (Tail.there (Tail.there (Tail.there (Tail.there (Tail.there (Tail.here _)))))) | exact Tail.there (Tail.there (Tail.there (Tail.there (Tail.there (Tail.there (Tail.there (Tail.here _))))))) | exact Tail.there (Tail.there (Tail.there (Tail.there (Tail.there (Tail.there (Tail.there (Tail.there (Tail.here _)))))))) | exact Tail.const _),
  fun s => by
    obtain ⟨⟨r0, ⟨_, _⟩, r2, r3, r4, r5, r6, ⟨b7_0, _, _, _⟩, r8, r9, r10, _⟩, ⟨_, _, _, count10, _, _, _, _, best36, text40, _, _, s385, s386, _, s439, s440, _⟩, ⟨_, _, _⟩⟩ := s
    refine Tail.eq (Y := fun g => w_FnStairsGuessed_t8 (fun r0 r2 b3_0 r4 r5 r6 r7 r8 r9 r10 ok7 count10 three15 solved24 best36 text40 => g.1 ((r0, ((), ()), r2, (b3_0, (), (), ()), r4, r5, r6, r7, r8, r9, r10, ()), ((), (), (), ok7, count10, (), three15, (), (), solved24, (), (), best36, text40, ()), ((), (), ()))) (fun r0 => g.2.1 ((r0, ()), ((), ()), ((), (), ()))) (fun r0 r2 r3 r4 r5 r6 r7 count10 best36 text40 => g.2.2.1 ((r0, ((), ()), r2, r3, r4, r5, r6, r7, ()), ((), (), (), count10, (), (), (), (), best36, text40, ()), ((), (), ()))) (fun r0 r2 r3 r4 r5 r6 b7_0 r8 r9 r10 count10 best36 text40 s385 s386 => g.2.2.2.1 ((r0, ((), ()), r2, r3, r4, r5, r6, (b7_0, (), (), ()), r8, r9, r10, ()), ((), (), (), count10, (), (), (), (), best36, text40, (), (), s385, s386, ()), ((), (), ()))) (fun r0 r2 r3 r4 r5 r6 r7 count10 best36 text40 s385 s386 => g.2.2.2.2.1 ((r0, ((), ()), r2, r3, r4, r5, r6, r7, ()), ((), (), (), count10, (), (), (), (), best36, text40, (), s385, s386, ()), ((), (), ()))) (fun r0 r2 r3 r4 r5 r6 b7_0 r8 r9 r10 count10 best36 text40 s385 s386 s415 s416 => g.2.2.2.2.2.1 ((r0, ((), ()), r2, r3, r4, r5, r6, (b7_0, (), (), ()), r8, r9, r10, ()), ((), (), (), count10, (), (), (), (), best36, text40, (), (), s385, s386, (), s415, s416, ()), ((), (), ()))) (fun r0 r2 r3 r4 r5 r6 b7_0 r8 r9 r10 count10 best36 text40 s385 s386 s427 s428 => g.2.2.2.2.2.2.1 ((r0, ((), ()), r2, r3, r4, r5, r6, (b7_0, (), (), ()), r8, r9, r10, ()), ((), (), (), count10, (), (), (), (), best36, text40, (), (), s385, s386, (), s427, s428, ()), ((), (), ()))) (fun r0 r2 r3 r4 r5 r6 b7_0 r8 r9 r10 count10 best36 text40 s385 s386 s439 s440 => g.2.2.2.2.2.2.2.1 ((r0, ((), ()), r2, r3, r4, r5, r6, (b7_0, (), (), ()), r8, r9, r10, ()), ((), (), (), count10, (), (), (), (), best36, text40, (), (), s385, s386, (), s439, s440, ()), ((), (), ()))) (fun r0 r2 r3 r4 count10 best36 text40 s460 s461 => g.2.2.2.2.2.2.2.2.1 ((r0, ((), ()), r2, r3, r4, ()), ((), (), count10, (), (), best36, text40, s460, s461, ()), ((), (), ()))) r0 r2 r3 r4 r5 r6 b7_0 r8 r9 r10 count10 best36 text40 s385 s386 s439 s440) ?_ (fun g => by kernel_rfl)
    simp only [w_FnStairsGuessed_t8]; repeat (first | apply Tail.cond | (apply Tail.bind; intro _) | exact Tail.here _ | exact Tail.there (Tail.here _) | exact Tail.there (Tail.there (Tail.here _)) | exact Tail.there (Tail.there (Tail.there (Tail.here _))) | exact Tail.there (Tail.there (Tail.there (Tail.there (Tail.here _)))) | exact Tail.there (Tail.there (Tail.there (Tail.there (Tail.there (Tail.here _))))) | exact Tail.there (Tail.there (Tail.there (Tail.there (Tail.there (Tail.there (Tail.here _)))))) | exact Tail.there (Tail.there (Tail.there (Tail.there (Tail.there (Tail.there (Tail.there (Tail.here _))))))) | exact Tail.there (Tail.there (Tail.there (Tail.there (Tail.there (Tail.there (Tail.there (Tail.there (Tail.here _)))))))) | exact Tail.const _),
  fun s => by
    obtain ⟨⟨r0, ⟨_, _⟩, r2, r3, r4, _⟩, ⟨_, _, count10, _, _, best36, text40, s460, s461, _⟩, ⟨_, _, _⟩⟩ := s
    refine Tail.eq (Y := fun g => w_FnStairsGuessed_t9 (fun r0 r2 b3_0 r4 r5 r6 r7 r8 r9 r10 ok7 count10 three15 solved24 best36 text40 => g.1 ((r0, ((), ()), r2, (b3_0, (), (), ()), r4, r5, r6, r7, r8, r9, r10, ()), ((), (), (), ok7, count10, (), three15, (), (), solved24, (), (), best36, text40, ()), ((), (), ()))) (fun r0 => g.2.1 ((r0, ()), ((), ()), ((), (), ()))) (fun r0 r2 r3 r4 r5 r6 r7 count10 best36 text40 => g.2.2.1 ((r0, ((), ()), r2, r3, r4, r5, r6, r7, ()), ((), (), (), count10, (), (), (), (), best36, text40, ()), ((), (), ()))) (fun r0 r2 r3 r4 r5 r6 b7_0 r8 r9 r10 count10 best36 text40 s385 s386 => g.2.2.2.1 ((r0, ((), ()), r2, r3, r4, r5, r6, (b7_0, (), (), ()), r8, r9, r10, ()), ((), (), (), count10, (), (), (), (), best36, text40, (), (), s385, s386, ()), ((), (), ()))) (fun r0 r2 r3 r4 r5 r6 r7 count10 best36 text40 s385 s386 => g.2.2.2.2.1 ((r0, ((), ()), r2, r3, r4, r5, r6, r7, ()), ((), (), (), count10, (), (), (), (), best36, text40, (), s385, s386, ()), ((), (), ()))) (fun r0 r2 r3 r4 r5 r6 b7_0 r8 r9 r10 count10 best36 text40 s385 s386 s415 s416 => g.2.2.2.2.2.1 ((r0, ((), ()), r2, r3, r4, r5, r6, (b7_0, (), (), ()), r8, r9, r10, ()), ((), (), (), count10, (), (), (), (), best36, text40, (), (), s385, s386, (), s415, s416, ()), ((), (), ()))) (fun r0 r2 r3 r4 r5 r6 b7_0 r8 r9 r10 count10 best36 text40 s385 s386 s427 s428 => g.2.2.2.2.2.2.1 ((r0, ((), ()), r2, r3, r4, r5, r6, (b7_0, (), (), ()), r8, r9, r10, ()), ((), (), (), count10, (), (), (), (), best36, text40, (), (), s385, s386, (), s427, s428, ()), ((), (), ()))) (fun r0 r2 r3 r4 r5 r6 b7_0 r8 r9 r10 count10 best36 text40 s385 s386 s439 s440 => g.2.2.2.2.2.2.2.1 ((r0, ((), ()), r2, r3, r4, r5, r6, (b7_0, (), (), ()), r8, r9, r10, ()), ((), (), (), count10, (), (), (), (), best36, text40, (), (), s385, s386, (), s439, s440, ()), ((), (), ()))) (fun r0 r2 r3 r4 count10 best36 text40 s460 s461 => g.2.2.2.2.2.2.2.2.1 ((r0, ((), ()), r2, r3, r4, ()), ((), (), count10, (), (), best36, text40, s460, s461, ()), ((), (), ()))) r0 r2 r3 r4 count10 best36 text40 s460 s461) ?_ (fun g => by kernel_rfl)
    simp only [w_FnStairsGuessed_t9]; repeat (first | apply Tail.cond | (apply Tail.bind; intro _) | exact Tail.here _ | exact Tail.there (Tail.here _) | exact Tail.there (Tail.there (Tail.here _)) | exact Tail.there (Tail.there (Tail.there (Tail.here _))) | exact Tail.there (Tail.there (Tail.there (Tail.there (Tail.here _)))) | exact Tail.there (Tail.there (Tail.there (Tail.there (Tail.there (Tail.here _))))) | exact Tail.there (Tail.there (Tail.there (Tail.there (Tail.there (Tail.there (Tail.here _)))))) | exact Tail.there (Tail.there (Tail.there (Tail.there (Tail.there (Tail.there (Tail.there (Tail.here _))))))) | exact Tail.there (Tail.there (Tail.there (Tail.there (Tail.there (Tail.there (Tail.there (Tail.there (Tail.here _)))))))) | exact Tail.const _), trivial⟩
theorem w_FnStairsGuessed_hs : ∀ x, Tail c_w_FnStairsGuessed.pts (fun g => c_w_FnStairsGuessed.start g x) := fun x => by
    obtain ⟨code0, more1, _⟩ := x
    refine Tail.eq (Y := fun g => w_FnStairsGuessed_t0 (fun r0 r2 b3_0 r4 r5 r6 r7 r8 r9 r10 ok7 count10 three15 solved24 best36 text40 => g.1 ((r0, ((), ()), r2, (b3_0, (), (), ()), r4, r5, r6, r7, r8, r9, r10, ()), ((), (), (), ok7, count10, (), three15, (), (), solved24, (), (), best36, text40, ()), ((), (), ()))) (fun r0 => g.2.1 ((r0, ()), ((), ()), ((), (), ()))) (fun r0 r2 r3 r4 r5 r6 r7 count10 best36 text40 => g.2.2.1 ((r0, ((), ()), r2, r3, r4, r5, r6, r7, ()), ((), (), (), count10, (), (), (), (), best36, text40, ()), ((), (), ()))) (fun r0 r2 r3 r4 r5 r6 b7_0 r8 r9 r10 count10 best36 text40 s385 s386 => g.2.2.2.1 ((r0, ((), ()), r2, r3, r4, r5, r6, (b7_0, (), (), ()), r8, r9, r10, ()), ((), (), (), count10, (), (), (), (), best36, text40, (), (), s385, s386, ()), ((), (), ()))) (fun r0 r2 r3 r4 r5 r6 r7 count10 best36 text40 s385 s386 => g.2.2.2.2.1 ((r0, ((), ()), r2, r3, r4, r5, r6, r7, ()), ((), (), (), count10, (), (), (), (), best36, text40, (), s385, s386, ()), ((), (), ()))) (fun r0 r2 r3 r4 r5 r6 b7_0 r8 r9 r10 count10 best36 text40 s385 s386 s415 s416 => g.2.2.2.2.2.1 ((r0, ((), ()), r2, r3, r4, r5, r6, (b7_0, (), (), ()), r8, r9, r10, ()), ((), (), (), count10, (), (), (), (), best36, text40, (), (), s385, s386, (), s415, s416, ()), ((), (), ()))) (fun r0 r2 r3 r4 r5 r6 b7_0 r8 r9 r10 count10 best36 text40 s385 s386 s427 s428 => g.2.2.2.2.2.2.1 ((r0, ((), ()), r2, r3, r4, r5, r6, (b7_0, (), (), ()), r8, r9, r10, ()), ((), (), (), count10, (), (), (), (), best36, text40, (), (), s385, s386, (), s427, s428, ()), ((), (), ()))) (fun r0 r2 r3 r4 r5 r6 b7_0 r8 r9 r10 count10 best36 text40 s385 s386 s439 s440 => g.2.2.2.2.2.2.2.1 ((r0, ((), ()), r2, r3, r4, r5, r6, (b7_0, (), (), ()), r8, r9, r10, ()), ((), (), (), count10, (), (), (), (), best36, text40, (), (), s385, s386, (), s439, s440, ()), ((), (), ()))) (fun r0 r2 r3 r4 count10 best36 text40 s460 s461 => g.2.2.2.2.2.2.2.2.1 ((r0, ((), ()), r2, r3, r4, ()), ((), (), count10, (), (), best36, text40, s460, s461, ()), ((), (), ()))) code0 more1) ?_ (fun g => by kernel_rfl)
    simp only [w_FnStairsGuessed_t0]; repeat (first | apply Tail.cond | (apply Tail.bind; intro _) | exact Tail.here _ | exact Tail.there (Tail.here _) | exact Tail.there (Tail.there (Tail.here _)) | exact Tail.there (Tail.there (Tail.there (Tail.here _))) | exact Tail.there (Tail.there (Tail.there (Tail.there (Tail.here _)))) | exact Tail.there (Tail.there (Tail.there (Tail.there (Tail.there (Tail.here _))))) | exact Tail.there (Tail.there (Tail.there (Tail.there (Tail.there (Tail.there (Tail.here _)))))) | exact Tail.there (Tail.there (Tail.there (Tail.there (Tail.there (Tail.there (Tail.there (Tail.here _))))))) | exact Tail.there (Tail.there (Tail.there (Tail.there (Tail.there (Tail.there (Tail.there (Tail.there (Tail.here _)))))))) | exact Tail.const _)
noncomputable def w_FnStairsGuessed_L1 (r0 : List (Int)) (r2 : List ((Int × (List (Int) × List (Int))))) (b3_0 : Int) (r4 : List (Int)) (r5 : List (Int)) (r6 : List (Int)) (r7 : List (Int)) (r8 : List (Int × (Int × Int))) (r9 : List (Int)) (r10 : List (Int)) (ok7 : Bool) (count10 : Int) (three15 : Bool) (solved24 : Bool) (best36 : Int) (text40 : ByteArray) : Option Bool := c_w_FnStairsGuessed.L.1 ((r0, ((), ()), r2, (b3_0, (), (), ()), r4, r5, r6, r7, r8, r9, r10, ()), ((), (), (), ok7, count10, (), three15, (), (), solved24, (), (), best36, text40, ()), ((), (), ()))
noncomputable def w_FnStairsGuessed_L2 (r0 : List (Int)) : Option Bool := c_w_FnStairsGuessed.L.2.1 ((r0, ()), ((), ()), ((), (), ()))
noncomputable def w_FnStairsGuessed_L3 (r0 : List (Int)) (r2 : List ((Int × (List (Int) × List (Int))))) (r3 : List (Int)) (r4 : List (Int)) (r5 : List (Int)) (r6 : List (Int)) (r7 : List (Int × (Int × Int))) (count10 : Int) (best36 : Int) (text40 : ByteArray) : Option Bool := c_w_FnStairsGuessed.L.2.2.1 ((r0, ((), ()), r2, r3, r4, r5, r6, r7, ()), ((), (), (), count10, (), (), (), (), best36, text40, ()), ((), (), ()))
noncomputable def w_FnStairsGuessed_L4 (r0 : List (Int)) (r2 : List ((Int × (List (Int) × List (Int))))) (r3 : List (Int)) (r4 : List (Int)) (r5 : List (Int)) (r6 : List (Int)) (b7_0 : Int) (r8 : List (Int × (Int × Int))) (r9 : List (Int)) (r10 : List (Int)) (count10 : Int) (best36 : Int) (text40 : ByteArray) (s385 : Int) (s386 : Int) : Option Bool := c_w_FnStairsGuessed.L.2.2.2.1 ((r0, ((), ()), r2, r3, r4, r5, r6, (b7_0, (), (), ()), r8, r9, r10, ()), ((), (), (), count10, (), (), (), (), best36, text40, (), (), s385, s386, ()), ((), (), ()))
noncomputable def w_FnStairsGuessed_L5 (r0 : List (Int)) (r2 : List ((Int × (List (Int) × List (Int))))) (r3 : List (Int)) (r4 : List (Int)) (r5 : List (Int)) (r6 : List (Int)) (r7 : List (Int × (Int × Int))) (count10 : Int) (best36 : Int) (text40 : ByteArray) (s385 : Int) (s386 : Int) : Option Bool := c_w_FnStairsGuessed.L.2.2.2.2.1 ((r0, ((), ()), r2, r3, r4, r5, r6, r7, ()), ((), (), (), count10, (), (), (), (), best36, text40, (), s385, s386, ()), ((), (), ()))
noncomputable def w_FnStairsGuessed_L6 (r0 : List (Int)) (r2 : List ((Int × (List (Int) × List (Int))))) (r3 : List (Int)) (r4 : List (Int)) (r5 : List (Int)) (r6 : List (Int)) (b7_0 : Int) (r8 : List (Int × (Int × Int))) (r9 : List (Int)) (r10 : List (Int)) (count10 : Int) (best36 : Int) (text40 : ByteArray) (s385 : Int) (s386 : Int) (s415 : Int) (s416 : Int) : Option Bool := c_w_FnStairsGuessed.L.2.2.2.2.2.1 ((r0, ((), ()), r2, r3, r4, r5, r6, (b7_0, (), (), ()), r8, r9, r10, ()), ((), (), (), count10, (), (), (), (), best36, text40, (), (), s385, s386, (), s415, s416, ()), ((), (), ()))
noncomputable def w_FnStairsGuessed_L7 (r0 : List (Int)) (r2 : List ((Int × (List (Int) × List (Int))))) (r3 : List (Int)) (r4 : List (Int)) (r5 : List (Int)) (r6 : List (Int)) (b7_0 : Int) (r8 : List (Int × (Int × Int))) (r9 : List (Int)) (r10 : List (Int)) (count10 : Int) (best36 : Int) (text40 : ByteArray) (s385 : Int) (s386 : Int) (s427 : Int) (s428 : Int) : Option Bool := c_w_FnStairsGuessed.L.2.2.2.2.2.2.1 ((r0, ((), ()), r2, r3, r4, r5, r6, (b7_0, (), (), ()), r8, r9, r10, ()), ((), (), (), count10, (), (), (), (), best36, text40, (), (), s385, s386, (), s427, s428, ()), ((), (), ()))
noncomputable def w_FnStairsGuessed_L8 (r0 : List (Int)) (r2 : List ((Int × (List (Int) × List (Int))))) (r3 : List (Int)) (r4 : List (Int)) (r5 : List (Int)) (r6 : List (Int)) (b7_0 : Int) (r8 : List (Int × (Int × Int))) (r9 : List (Int)) (r10 : List (Int)) (count10 : Int) (best36 : Int) (text40 : ByteArray) (s385 : Int) (s386 : Int) (s439 : Int) (s440 : Int) : Option Bool := c_w_FnStairsGuessed.L.2.2.2.2.2.2.2.1 ((r0, ((), ()), r2, r3, r4, r5, r6, (b7_0, (), (), ()), r8, r9, r10, ()), ((), (), (), count10, (), (), (), (), best36, text40, (), (), s385, s386, (), s439, s440, ()), ((), (), ()))
noncomputable def w_FnStairsGuessed_L9 (r0 : List (Int)) (r2 : List (Int)) (r3 : List (Int)) (r4 : List (Int × (Int × Int))) (count10 : Int) (best36 : Int) (text40 : ByteArray) (s460 : Int) (s461 : Int) : Option Bool := c_w_FnStairsGuessed.L.2.2.2.2.2.2.2.2.1 ((r0, ((), ()), r2, r3, r4, ()), ((), (), count10, (), (), best36, text40, s460, s461, ()), ((), (), ()))
theorem w_FnStairsGuessed_u1 (r0 : List (Int)) (r2 : List ((Int × (List (Int) × List (Int))))) (b3_0 : Int) (r4 : List (Int)) (r5 : List (Int)) (r6 : List (Int)) (r7 : List (Int)) (r8 : List (Int × (Int × Int))) (r9 : List (Int)) (r10 : List (Int)) (ok7 : Bool) (count10 : Int) (three15 : Bool) (solved24 : Bool) (best36 : Int) (text40 : ByteArray) : w_FnStairsGuessed_L1 r0 r2 b3_0 r4 r5 r6 r7 r8 r9 r10 ok7 count10 three15 solved24 best36 text40 = w_FnStairsGuessed_t1 w_FnStairsGuessed_L1 w_FnStairsGuessed_L2 w_FnStairsGuessed_L3 w_FnStairsGuessed_L4 w_FnStairsGuessed_L5 w_FnStairsGuessed_L6 w_FnStairsGuessed_L7 w_FnStairsGuessed_L8 w_FnStairsGuessed_L9 r0 r2 b3_0 r4 r5 r6 r7 r8 r9 r10 ok7 count10 three15 solved24 best36 text40 :=
  (congrArg (fun g => g.1 ((r0, ((), ()), r2, (b3_0, (), (), ()), r4, r5, r6, r7, r8, r9, r10, ()), ((), (), (), ok7, count10, (), three15, (), (), solved24, (), (), best36, text40, ()), ((), (), ()))) (FnCx.L_eq w_FnStairsGuessed_ts)).trans (by kernel_rfl)
theorem w_FnStairsGuessed_u2 (r0 : List (Int)) : w_FnStairsGuessed_L2 r0 = w_FnStairsGuessed_t2 w_FnStairsGuessed_L1 w_FnStairsGuessed_L2 w_FnStairsGuessed_L3 w_FnStairsGuessed_L4 w_FnStairsGuessed_L5 w_FnStairsGuessed_L6 w_FnStairsGuessed_L7 w_FnStairsGuessed_L8 w_FnStairsGuessed_L9 r0 :=
  (congrArg (fun g => g.2.1 ((r0, ()), ((), ()), ((), (), ()))) (FnCx.L_eq w_FnStairsGuessed_ts)).trans (by kernel_rfl)
theorem w_FnStairsGuessed_u3 (r0 : List (Int)) (r2 : List ((Int × (List (Int) × List (Int))))) (r3 : List (Int)) (r4 : List (Int)) (r5 : List (Int)) (r6 : List (Int)) (r7 : List (Int × (Int × Int))) (count10 : Int) (best36 : Int) (text40 : ByteArray) : w_FnStairsGuessed_L3 r0 r2 r3 r4 r5 r6 r7 count10 best36 text40 = w_FnStairsGuessed_t3 w_FnStairsGuessed_L1 w_FnStairsGuessed_L2 w_FnStairsGuessed_L3 w_FnStairsGuessed_L4 w_FnStairsGuessed_L5 w_FnStairsGuessed_L6 w_FnStairsGuessed_L7 w_FnStairsGuessed_L8 w_FnStairsGuessed_L9 r0 r2 r3 r4 r5 r6 r7 count10 best36 text40 :=
  (congrArg (fun g => g.2.2.1 ((r0, ((), ()), r2, r3, r4, r5, r6, r7, ()), ((), (), (), count10, (), (), (), (), best36, text40, ()), ((), (), ()))) (FnCx.L_eq w_FnStairsGuessed_ts)).trans (by kernel_rfl)
theorem w_FnStairsGuessed_u4 (r0 : List (Int)) (r2 : List ((Int × (List (Int) × List (Int))))) (r3 : List (Int)) (r4 : List (Int)) (r5 : List (Int)) (r6 : List (Int)) (b7_0 : Int) (r8 : List (Int × (Int × Int))) (r9 : List (Int)) (r10 : List (Int)) (count10 : Int) (best36 : Int) (text40 : ByteArray) (s385 : Int) (s386 : Int) : w_FnStairsGuessed_L4 r0 r2 r3 r4 r5 r6 b7_0 r8 r9 r10 count10 best36 text40 s385 s386 = w_FnStairsGuessed_t4 w_FnStairsGuessed_L1 w_FnStairsGuessed_L2 w_FnStairsGuessed_L3 w_FnStairsGuessed_L4 w_FnStairsGuessed_L5 w_FnStairsGuessed_L6 w_FnStairsGuessed_L7 w_FnStairsGuessed_L8 w_FnStairsGuessed_L9 r0 r2 r3 r4 r5 r6 b7_0 r8 r9 r10 count10 best36 text40 s385 s386 :=
  (congrArg (fun g => g.2.2.2.1 ((r0, ((), ()), r2, r3, r4, r5, r6, (b7_0, (), (), ()), r8, r9, r10, ()), ((), (), (), count10, (), (), (), (), best36, text40, (), (), s385, s386, ()), ((), (), ()))) (FnCx.L_eq w_FnStairsGuessed_ts)).trans (by kernel_rfl)
theorem w_FnStairsGuessed_u5 (r0 : List (Int)) (r2 : List ((Int × (List (Int) × List (Int))))) (r3 : List (Int)) (r4 : List (Int)) (r5 : List (Int)) (r6 : List (Int)) (r7 : List (Int × (Int × Int))) (count10 : Int) (best36 : Int) (text40 : ByteArray) (s385 : Int) (s386 : Int) : w_FnStairsGuessed_L5 r0 r2 r3 r4 r5 r6 r7 count10 best36 text40 s385 s386 = w_FnStairsGuessed_t5 w_FnStairsGuessed_L1 w_FnStairsGuessed_L2 w_FnStairsGuessed_L3 w_FnStairsGuessed_L4 w_FnStairsGuessed_L5 w_FnStairsGuessed_L6 w_FnStairsGuessed_L7 w_FnStairsGuessed_L8 w_FnStairsGuessed_L9 r0 r2 r3 r4 r5 r6 r7 count10 best36 text40 s385 s386 :=
  (congrArg (fun g => g.2.2.2.2.1 ((r0, ((), ()), r2, r3, r4, r5, r6, r7, ()), ((), (), (), count10, (), (), (), (), best36, text40, (), s385, s386, ()), ((), (), ()))) (FnCx.L_eq w_FnStairsGuessed_ts)).trans (by kernel_rfl)
theorem w_FnStairsGuessed_u6 (r0 : List (Int)) (r2 : List ((Int × (List (Int) × List (Int))))) (r3 : List (Int)) (r4 : List (Int)) (r5 : List (Int)) (r6 : List (Int)) (b7_0 : Int) (r8 : List (Int × (Int × Int))) (r9 : List (Int)) (r10 : List (Int)) (count10 : Int) (best36 : Int) (text40 : ByteArray) (s385 : Int) (s386 : Int) (s415 : Int) (s416 : Int) : w_FnStairsGuessed_L6 r0 r2 r3 r4 r5 r6 b7_0 r8 r9 r10 count10 best36 text40 s385 s386 s415 s416 = w_FnStairsGuessed_t6 w_FnStairsGuessed_L1 w_FnStairsGuessed_L2 w_FnStairsGuessed_L3 w_FnStairsGuessed_L4 w_FnStairsGuessed_L5 w_FnStairsGuessed_L6 w_FnStairsGuessed_L7 w_FnStairsGuessed_L8 w_FnStairsGuessed_L9 r0 r2 r3 r4 r5 r6 b7_0 r8 r9 r10 count10 best36 text40 s385 s386 s415 s416 :=
  (congrArg (fun g => g.2.2.2.2.2.1 ((r0, ((), ()), r2, r3, r4, r5, r6, (b7_0, (), (), ()), r8, r9, r10, ()), ((), (), (), count10, (), (), (), (), best36, text40, (), (), s385, s386, (), s415, s416, ()), ((), (), ()))) (FnCx.L_eq w_FnStairsGuessed_ts)).trans (by kernel_rfl)
theorem w_FnStairsGuessed_u7 (r0 : List (Int)) (r2 : List ((Int × (List (Int) × List (Int))))) (r3 : List (Int)) (r4 : List (Int)) (r5 : List (Int)) (r6 : List (Int)) (b7_0 : Int) (r8 : List (Int × (Int × Int))) (r9 : List (Int)) (r10 : List (Int)) (count10 : Int) (best36 : Int) (text40 : ByteArray) (s385 : Int) (s386 : Int) (s427 : Int) (s428 : Int) : w_FnStairsGuessed_L7 r0 r2 r3 r4 r5 r6 b7_0 r8 r9 r10 count10 best36 text40 s385 s386 s427 s428 = w_FnStairsGuessed_t7 w_FnStairsGuessed_L1 w_FnStairsGuessed_L2 w_FnStairsGuessed_L3 w_FnStairsGuessed_L4 w_FnStairsGuessed_L5 w_FnStairsGuessed_L6 w_FnStairsGuessed_L7 w_FnStairsGuessed_L8 w_FnStairsGuessed_L9 r0 r2 r3 r4 r5 r6 b7_0 r8 r9 r10 count10 best36 text40 s385 s386 s427 s428 :=
  (congrArg (fun g => g.2.2.2.2.2.2.1 ((r0, ((), ()), r2, r3, r4, r5, r6, (b7_0, (), (), ()), r8, r9, r10, ()), ((), (), (), count10, (), (), (), (), best36, text40, (), (), s385, s386, (), s427, s428, ()), ((), (), ()))) (FnCx.L_eq w_FnStairsGuessed_ts)).trans (by kernel_rfl)
theorem w_FnStairsGuessed_u8 (r0 : List (Int)) (r2 : List ((Int × (List (Int) × List (Int))))) (r3 : List (Int)) (r4 : List (Int)) (r5 : List (Int)) (r6 : List (Int)) (b7_0 : Int) (r8 : List (Int × (Int × Int))) (r9 : List (Int)) (r10 : List (Int)) (count10 : Int) (best36 : Int) (text40 : ByteArray) (s385 : Int) (s386 : Int) (s439 : Int) (s440 : Int) : w_FnStairsGuessed_L8 r0 r2 r3 r4 r5 r6 b7_0 r8 r9 r10 count10 best36 text40 s385 s386 s439 s440 = w_FnStairsGuessed_t8 w_FnStairsGuessed_L1 w_FnStairsGuessed_L2 w_FnStairsGuessed_L3 w_FnStairsGuessed_L4 w_FnStairsGuessed_L5 w_FnStairsGuessed_L6 w_FnStairsGuessed_L7 w_FnStairsGuessed_L8 w_FnStairsGuessed_L9 r0 r2 r3 r4 r5 r6 b7_0 r8 r9 r10 count10 best36 text40 s385 s386 s439 s440 :=
  (congrArg (fun g => g.2.2.2.2.2.2.2.1 ((r0, ((), ()), r2, r3, r4, r5, r6, (b7_0, (), (), ()), r8, r9, r10, ()), ((), (), (), count10, (), (), (), (), best36, text40, (), (), s385, s386, (), s439, s440, ()), ((), (), ()))) (FnCx.L_eq w_FnStairsGuessed_ts)).trans (by kernel_rfl)
theorem w_FnStairsGuessed_u9 (r0 : List (Int)) (r2 : List (Int)) (r3 : List (Int)) (r4 : List (Int × (Int × Int))) (count10 : Int) (best36 : Int) (text40 : ByteArray) (s460 : Int) (s461 : Int) : w_FnStairsGuessed_L9 r0 r2 r3 r4 count10 best36 text40 s460 s461 = w_FnStairsGuessed_t9 w_FnStairsGuessed_L1 w_FnStairsGuessed_L2 w_FnStairsGuessed_L3 w_FnStairsGuessed_L4 w_FnStairsGuessed_L5 w_FnStairsGuessed_L6 w_FnStairsGuessed_L7 w_FnStairsGuessed_L8 w_FnStairsGuessed_L9 r0 r2 r3 r4 count10 best36 text40 s460 s461 :=
  (congrArg (fun g => g.2.2.2.2.2.2.2.2.1 ((r0, ((), ()), r2, r3, r4, ()), ((), (), count10, (), (), best36, text40, s460, s461, ()), ((), (), ()))) (FnCx.L_eq w_FnStairsGuessed_ts)).trans (by kernel_rfl)
noncomputable def w_FnStairsGuessed (code0 : List Int) (more1 : List Int) : Option Bool := w_FnStairsGuessed_t0 w_FnStairsGuessed_L1 w_FnStairsGuessed_L2 w_FnStairsGuessed_L3 w_FnStairsGuessed_L4 w_FnStairsGuessed_L5 w_FnStairsGuessed_L6 w_FnStairsGuessed_L7 w_FnStairsGuessed_L8 w_FnStairsGuessed_L9 code0 more1
theorem w_FnStairsGuessed_e (code0 : List Int) (more1 : List Int) : c_w_FnStairsGuessed.start c_w_FnStairsGuessed.L (code0, more1, ()) = w_FnStairsGuessed code0 more1 := by kernel_rfl
noncomputable def F_w_FnStairsGuessed : Ins c_w_FnStairsGuessed.ins → Option Bool := fun x => w_FnStairsGuessed x.1 x.2.1
noncomputable def S_w_FnStairsGuessed : FSpec := mkF c_w_FnStairsGuessed.env.pre c_w_FnStairsGuessed.ins c_w_FnStairsGuessed.out c_w_FnStairsGuessed.inj F_w_FnStairsGuessed
theorem h_w_FnStairsGuessed : Cert Tryz.prog 4 S_w_FnStairsGuessed := FnCx.certF (c := c_w_FnStairsGuessed) F_w_FnStairsGuessed (tyOk _ _ _) (spOk ⟨h_w_big, fun _ _ h => h, ⟨h_s_DrawSolutions, fun _ _ h => h, ⟨h_i_Solutions, fun _ _ h => h, ⟨h_s_Solutions, fun _ _ h => h, ⟨h_i_CountSolutions, fun _ _ h => h, ⟨h_s_CountSolutions, fun _ _ h => h, ⟨h_i_FirstSolution, fun _ _ h => h, ⟨h_s_FirstSolution, fun _ _ h => h, ⟨h_i_SureStrides, fun _ _ h => h, ⟨h_s_SureStrides, fun _ _ h => h, ⟨h_i_IsSolved, fun _ _ h => h, ⟨h_s_IsSolved, fun _ _ h => h, ⟨h_i_NeedlessClues, fun _ _ h => h, ⟨h_s_NeedlessClues, fun _ _ h => h, ⟨h_i_LeftByClues, fun _ _ h => h, ⟨h_s_LeftByClues, fun _ _ h => h, ⟨h_i_BestClue, fun _ _ h => h, ⟨h_s_BestClue, fun _ _ h => h, ⟨h_i_PuzzleText, fun _ _ h => h, ⟨h_s_PuzzleText, fun _ _ h => h, ⟨h_w_wLists, fun _ _ h => h, ⟨h_w_wStairs, fun _ _ h => h, ⟨h_w_wSame, fun _ _ h => h, ⟨h_i_IsPuzzle, fun _ _ h => h, ⟨h_s_IsPuzzle, fun _ _ h => h, ⟨h_w_wRises, fun _ _ h => h, ⟨h_i_AreStairs, fun _ _ h => h, ⟨h_w_wHas, fun _ _ h => h, ⟨h_i_DoesFit, fun _ _ h => h, ⟨h_i_DropClue, fun _ _ h => h, ⟨h_i_ParsePuzzle, fun _ _ h => h, ⟨h_w_wPuzzle, fun _ _ h => h, ⟨h_s_DrawParsePuzzle, fun _ _ h => h, ⟨h_s_ParsePuzzle, fun _ _ h => h, trivial⟩⟩⟩⟩⟩⟩⟩⟩⟩⟩⟩⟩⟩⟩⟩⟩⟩⟩⟩⟩⟩⟩⟩⟩⟩⟩⟩⟩⟩⟩⟩⟩⟩⟩) (fun _ _ _ _ _ hs => evDr_ok (tyOk _ _ _) hs follows) Tryz.func4 rfl rfl Tryz.ntmps4 (by kernel_rfl) rfl rfl (fun _ => rfl) w_FnStairsGuessed_ts w_FnStairsGuessed_hs (fun x t hb ht => by
  obtain ⟨code0, more1, _⟩ := x
  exact (w_FnStairsGuessed_e code0 more1).trans ht)
end Go.Proofs.YtoldoplpnkojdaaGreatDoor.V
