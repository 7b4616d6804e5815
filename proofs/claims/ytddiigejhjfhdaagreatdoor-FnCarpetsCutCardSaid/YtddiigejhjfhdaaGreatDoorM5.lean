/- Functions of the program, as plain functions. No condition. -/
import Derived.Test.YtddiigejhjfhdaaGreatDoorM3
set_option linter.unusedVariables false
set_option linter.unusedSimpArgs false
set_option maxRecDepth 100000
namespace Go.Proofs.YtddiigejhjfhdaaGreatDoor.V
open Go Go.Ev Go.Proofs
/-! laws.big -/
noncomputable def c_w_big : FnCx := { env := env 16 [] [], body := bodyOf Tryz.f35, res := [.tmp 4], ins := [.ro kSuint8, .ro kSuint8], out := [(kbool, true)], T := Bool, fin := fun r => r.1.1, inj := fun t => ((t, ()), ((), (), ())), pts := [], fuel := 400, dr := noDr }
noncomputable def w_big (code0 : List Int) (more1 : List Int) : Bool :=
  bif decide ((↑(List.length code0) : Int) > 1048576) then true
  else decide ((↑(List.length more1) : Int) > IntKind.wrap IntKind.i64 (1048576 - (↑(List.length code0) : Int)))
theorem w_big_e (code0 : List Int) (more1 : List Int) : c_w_big.start c_w_big.L (code0, more1, ()) = some (w_big code0 more1) := by
  refine Eq.trans (b := (bif decide ((↑(List.length code0) : Int) > 1048576) then some true else some (decide ((↑(List.length more1) : Int) > IntKind.wrap IntKind.i64 (1048576 - (↑(List.length code0) : Int)))) : Option Bool)) (by kernel_rfl) ?_
  unfold w_big
  repeat (first | rfl | apply condS)
noncomputable def F_w_big : Ins c_w_big.ins → Bool := fun x => w_big x.1 x.2.1
noncomputable def S_w_big : FSpec := mkT c_w_big.env.pre c_w_big.ins c_w_big.out c_w_big.inj F_w_big
theorem h_w_big : Cert Tryz.prog 35 S_w_big := FnCx.certT (c := c_w_big) F_w_big (tyOk _ _ _) (spOk trivial) (fun _ _ _ _ _ hs => noDr_ok) Tryz.func35 rfl rfl Tryz.ntmps35 (by kernel_rfl) rfl rfl (fun _ => rfl) trivial (fun x => .inl ⟨c_w_big.start () x, fun _ => rfl⟩) (fun x hb => by
  obtain ⟨code0, more1, _⟩ := x
  exact w_big_e code0 more1)
/-! (*spec.l1Cur).next -/
noncomputable def c_s_l1Cur_next : FnCx := { env := env 62 [] [], body := bodyOf Tryz.f86, res := [.tmp 2], ins := [.ptr 69 ksl1Cur], out := [(kint, true)], T := Int × (List Int × Int × Int), fin := fun r => (r.1.1, r.2.1), inj := fun t => ((t.1, ()), (t.2, ())), pts := [], fuel := 400, dr := evDr (env 62 [] []) }
noncomputable def s_l1Cur_next (c0_code : List Int) (c0_at : Int) (c0_seed : Int) : Option (Int × (List Int × Int × Int)) :=
  bif decide (c0_at < (↑(List.length c0_code) : Int)) then
    bif decide (0 ≤ c0_at) then
      bif decide (c0_at < (↑(List.length c0_code) : Int)) then
        bif decide (IntKind.wrap IntKind.i64 (c0_at + 1) ≤ (↑(List.length c0_code) : Int)) then
          some
            (IntKind.wrap IntKind.i64 (rdk kuint8 c0_code c0_at), c0_code, IntKind.wrap IntKind.i64 (c0_at + 1),
              IntKind.wrap IntKind.u64
                (IntKind.wrap IntKind.u64
                    (IntKind.wrap IntKind.u64 (c0_seed * 6364136223846793005) +
                      IntKind.wrap IntKind.u64 (IntKind.wrap IntKind.i64 (rdk kuint8 c0_code c0_at))) +
                  1442695040888963407))
        else
          some
            (IntKind.wrap IntKind.i64
                (IntKind.wrap IntKind.u64
                  (↑(BitVec.toNat
                        (BitVec.ofInt (IntKind.bits IntKind.u64)
                            (Int.fdiv
                              (IntKind.wrap IntKind.u64
                                (IntKind.wrap IntKind.u64
                                    (IntKind.wrap IntKind.u64 (c0_seed * 6364136223846793005) +
                                      IntKind.wrap IntKind.u64 (IntKind.wrap IntKind.i64 (rdk kuint8 c0_code c0_at))) +
                                  1442695040888963407))
                              (2 ^ min (Int.toNat 40) (IntKind.bits IntKind.u64))) &&&
                          BitVec.ofInt (IntKind.bits IntKind.u64) 255)) :
                    Int)),
              c0_code, IntKind.wrap IntKind.i64 (c0_at + 1),
              IntKind.wrap IntKind.u64
                (IntKind.wrap IntKind.u64
                    (IntKind.wrap IntKind.u64 (c0_seed * 6364136223846793005) +
                      IntKind.wrap IntKind.u64 (IntKind.wrap IntKind.i64 (rdk kuint8 c0_code c0_at))) +
                  1442695040888963407))
      else none
    else none
  else
    bif decide (IntKind.wrap IntKind.i64 (c0_at + 1) ≤ (↑(List.length c0_code) : Int)) then
      some
        (0, c0_code, IntKind.wrap IntKind.i64 (c0_at + 1),
          IntKind.wrap IntKind.u64
            (IntKind.wrap IntKind.u64 (IntKind.wrap IntKind.u64 (c0_seed * 6364136223846793005) + IntKind.wrap IntKind.u64 0) + 1442695040888963407))
    else
      some
        (IntKind.wrap IntKind.i64
            (IntKind.wrap IntKind.u64
              (↑(BitVec.toNat
                    (BitVec.ofInt (IntKind.bits IntKind.u64)
                        (Int.fdiv
                          (IntKind.wrap IntKind.u64
                            (IntKind.wrap IntKind.u64 (IntKind.wrap IntKind.u64 (c0_seed * 6364136223846793005) + IntKind.wrap IntKind.u64 0) +
                              1442695040888963407))
                          (2 ^ min (Int.toNat 40) (IntKind.bits IntKind.u64))) &&&
                      BitVec.ofInt (IntKind.bits IntKind.u64) 255)) :
                Int)),
          c0_code, IntKind.wrap IntKind.i64 (c0_at + 1),
          IntKind.wrap IntKind.u64
            (IntKind.wrap IntKind.u64 (IntKind.wrap IntKind.u64 (c0_seed * 6364136223846793005) + IntKind.wrap IntKind.u64 0) + 1442695040888963407))
theorem s_l1Cur_next_e (c0_code : List Int) (c0_at : Int) (c0_seed : Int) : c_s_l1Cur_next.start c_s_l1Cur_next.L ((c0_code, c0_at, c0_seed), ()) = s_l1Cur_next c0_code c0_at c0_seed := by kernel_rfl
noncomputable def F_s_l1Cur_next : Ins c_s_l1Cur_next.ins → Option (Int × (List Int × Int × Int)) := fun x => s_l1Cur_next x.1.1 x.1.2.1 x.1.2.2
noncomputable def S_s_l1Cur_next : FSpec := mkF c_s_l1Cur_next.env.pre c_s_l1Cur_next.ins c_s_l1Cur_next.out c_s_l1Cur_next.inj F_s_l1Cur_next
theorem h_s_l1Cur_next : Cert Tryz.prog 86 S_s_l1Cur_next := FnCx.certF (c := c_s_l1Cur_next) F_s_l1Cur_next (tyOk _ _ _) (spOk trivial) (fun _ _ _ _ _ hs => evDr_ok (tyOk _ _ _) hs follows) Tryz.func86 rfl rfl Tryz.ntmps86 (by kernel_rfl) rfl rfl (fun _ => rfl) trivial (fun x => .inl ⟨c_s_l1Cur_next.start () x, fun _ => rfl⟩) (fun x t hb ht => by
  obtain ⟨⟨c0_code, c0_at, c0_seed⟩, _⟩ := x
  exact (s_l1Cur_next_e c0_code c0_at c0_seed).trans ht)
/-! (*spec.l1Cur).pick -/
noncomputable def c_s_l1Cur_pick : FnCx := { env := env 20 [(86, S_s_l1Cur_next)] [], body := bodyOf Tryz.f71, res := [.tmp 4], ins := [.ptr 69 ksl1Cur, .ro kint], out := [(kint, true)], T := Int × (List Int × Int × Int), fin := fun r => (r.1.1, r.2.1), inj := fun t => ((t.1, ()), (t.2, (), ())), pts := [], fuel := 400, dr := noDr }
noncomputable def s_l1Cur_pick (c0_code : List Int) (c0_at : Int) (c0_seed : Int) (n1 : Int) : Option (Int × (List Int × Int × Int)) :=
  bif decide (n1 ≤ 1) then some (0, c0_code, c0_at, c0_seed)
  else
    Option.bind (s_l1Cur_next c0_code c0_at c0_seed) fun r =>
      bif decide (n1 > 200) then
        Option.bind (s_l1Cur_next (Prod.fst (Prod.snd r)) (Prod.fst (Prod.snd (Prod.snd r))) (Prod.snd (Prod.snd (Prod.snd r)))) fun r_1 =>
          bif n1 == 0 then none
          else
            some
              (Int.tmod (IntKind.wrap IntKind.i64 (IntKind.wrap IntKind.i64 (Prod.fst r * 256) + Prod.fst r_1)) n1, Prod.fst (Prod.snd r_1),
                Prod.fst (Prod.snd (Prod.snd r_1)), Prod.snd (Prod.snd (Prod.snd r_1)))
      else bif n1 == 0 then none else some (Int.tmod (Prod.fst r) n1, Prod.fst (Prod.snd r), Prod.fst (Prod.snd (Prod.snd r)), Prod.snd (Prod.snd (Prod.snd r)))
theorem s_l1Cur_pick_e (c0_code : List Int) (c0_at : Int) (c0_seed : Int) (n1 : Int) : c_s_l1Cur_pick.start c_s_l1Cur_pick.L ((c0_code, c0_at, c0_seed), n1, ()) = s_l1Cur_pick c0_code c0_at c0_seed n1 := by kernel_rfl
noncomputable def F_s_l1Cur_pick : Ins c_s_l1Cur_pick.ins → Option (Int × (List Int × Int × Int)) := fun x => s_l1Cur_pick x.1.1 x.1.2.1 x.1.2.2 x.2.1
noncomputable def S_s_l1Cur_pick : FSpec := mkF c_s_l1Cur_pick.env.pre c_s_l1Cur_pick.ins c_s_l1Cur_pick.out c_s_l1Cur_pick.inj F_s_l1Cur_pick
theorem h_s_l1Cur_pick : Cert Tryz.prog 71 S_s_l1Cur_pick := FnCx.certF (c := c_s_l1Cur_pick) F_s_l1Cur_pick (tyOk _ _ _) (spOk ⟨h_s_l1Cur_next, fun _ _ h => h, trivial⟩) (fun _ _ _ _ _ hs => noDr_ok) Tryz.func71 rfl rfl Tryz.ntmps71 (by kernel_rfl) rfl rfl (fun _ => rfl) trivial (fun x => .inl ⟨c_s_l1Cur_pick.start () x, fun _ => rfl⟩) (fun x t hb ht => by
  obtain ⟨⟨c0_code, c0_at, c0_seed⟩, n1, _⟩ := x
  exact (s_l1Cur_pick_e c0_code c0_at c0_seed n1).trans ht)
/-! (*spec.l1Cur).sureRolls -/
noncomputable def c_s_l1Cur_sureRolls : FnCx := { env := env 22 [(71, S_s_l1Cur_pick)] [], body := bodyOf Tryz.f74, res := [.tmp 4], ins := [.ptr 69 ksl1Cur, .ro kint], out := [(kSint, true)], T := List Int × (List Int × Int × Int), fin := fun r => (r.1.1, r.2.1), inj := fun t => ((t.1, ()), (t.2, (), ())), pts := [([.inLoop [1, 1, 0, 1, 0, 0], .inBlock 0, .code [1, 1, 1]], Shape.mk [Bs.box 69 [Cs.sl 2, Cs.sc kint, Cs.sc kuint], Bs.row kint 3 true, Bs.row kuint8 5 false] [(0, Ss.one (Cs.ptr 0 0)), (5, Ss.one (Cs.sl 1)), (6, Ss.one (Cs.sc kint))] [Ss.one (Cs.ptr 0 0), Ss.one (Cs.any)])], fuel := 400, dr := noDr }
noncomputable def s_l1Cur_sureRolls_t1 (g1 : Int → Int → List (Int) → List (Int) → Int → Option (List Int × (List Int × Int × Int))) (b0_1 : Int) (b0_2 : Int) (r1 : List (Int)) (r2 : List (Int)) (k6 : Int) : Option (List Int × (List Int × Int × Int)) :=
  bif decide (k6 > 0) then
    Option.bind (s_l1Cur_pick r2 b0_1 b0_2 120) fun r =>
      bif Nat.ble (List.length r1 + 1) 4294967296 then
        g1 (Prod.fst (Prod.snd (Prod.snd r))) (Prod.snd (Prod.snd (Prod.snd r))) (r1 ++ [IntKind.wrap IntKind.i64 (1 + Prod.fst r)]) (Prod.fst (Prod.snd r))
          (IntKind.wrap IntKind.i64 (k6 - 1))
      else none
  else some (r1, r2, b0_1, b0_2)
noncomputable def s_l1Cur_sureRolls_t0 (g1 : Int → Int → List (Int) → List (Int) → Int → Option (List Int × (List Int × Int × Int))) (c0_code : List Int) (c0_at : Int) (c0_seed : Int) (most1 : Int) : Option (List Int × (List Int × Int × Int)) :=
  Option.bind (s_l1Cur_pick c0_code c0_at c0_seed most1) fun r =>
    g1 (Prod.fst (Prod.snd (Prod.snd r))) (Prod.snd (Prod.snd (Prod.snd r))) [] (Prod.fst (Prod.snd r)) (IntKind.wrap IntKind.i64 (1 + Prod.fst r))
theorem s_l1Cur_sureRolls_ts : Tails c_s_l1Cur_sureRolls.pts c_s_l1Cur_sureRolls.round :=
  ⟨fun s => by
    obtain ⟨⟨⟨_, b0_1, b0_2, _⟩, r1, r2, _⟩, ⟨_, _, k6, _⟩, ⟨_, _, _⟩⟩ := s
    refine Tail.eq (Y := fun g => s_l1Cur_sureRolls_t1 (fun b0_1 b0_2 r1 r2 k6 => g.1 ((((), b0_1, b0_2, ()), r1, r2, ()), ((), (), k6, ()), ((), (), ()))) b0_1 b0_2 r1 r2 k6) ?_ (fun g => by kernel_rfl)
    simp only [s_l1Cur_sureRolls_t1]; repeat (first | exact Tail.const _ | exact Tail.here _ | exact Tail.there (Tail.here _) | exact Tail.there (Tail.there (Tail.here _)) | exact Tail.there (Tail.there (Tail.there (Tail.here _))) | exact Tail.there (Tail.there (Tail.there (Tail.there (Tail.here _)))) | exact Tail.there (Tail.there (Tail.there (Tail.there (Tail.there (Tail.here _))))) | apply Tail.cond | (apply Tail.bind; intro _)), trivial⟩
theorem s_l1Cur_sureRolls_hs : ∀ x, Tail c_s_l1Cur_sureRolls.pts (fun g => c_s_l1Cur_sureRolls.start g x) := fun x => by
    obtain ⟨⟨c0_code, c0_at, c0_seed⟩, most1, _⟩ := x
    refine Tail.eq (Y := fun g => s_l1Cur_sureRolls_t0 (fun b0_1 b0_2 r1 r2 k6 => g.1 ((((), b0_1, b0_2, ()), r1, r2, ()), ((), (), k6, ()), ((), (), ()))) c0_code c0_at c0_seed most1) ?_ (fun g => by kernel_rfl)
    simp only [s_l1Cur_sureRolls_t0]; repeat (first | exact Tail.const _ | exact Tail.here _ | exact Tail.there (Tail.here _) | exact Tail.there (Tail.there (Tail.here _)) | exact Tail.there (Tail.there (Tail.there (Tail.here _))) | exact Tail.there (Tail.there (Tail.there (Tail.there (Tail.here _)))) | exact Tail.there (Tail.there (Tail.there (Tail.there (Tail.there (Tail.here _))))) | apply Tail.cond | (apply Tail.bind; intro _))
noncomputable def s_l1Cur_sureRolls_L1 (b0_1 : Int) (b0_2 : Int) (r1 : List (Int)) (r2 : List (Int)) (k6 : Int) : Option (List Int × (List Int × Int × Int)) := c_s_l1Cur_sureRolls.L.1 ((((), b0_1, b0_2, ()), r1, r2, ()), ((), (), k6, ()), ((), (), ()))
theorem s_l1Cur_sureRolls_u1 (b0_1 : Int) (b0_2 : Int) (r1 : List (Int)) (r2 : List (Int)) (k6 : Int) : s_l1Cur_sureRolls_L1 b0_1 b0_2 r1 r2 k6 = s_l1Cur_sureRolls_t1 s_l1Cur_sureRolls_L1 b0_1 b0_2 r1 r2 k6 :=
  (congrArg (fun g => g.1 ((((), b0_1, b0_2, ()), r1, r2, ()), ((), (), k6, ()), ((), (), ()))) (FnCx.L_eq s_l1Cur_sureRolls_ts)).trans (by kernel_rfl)
noncomputable def s_l1Cur_sureRolls (c0_code : List Int) (c0_at : Int) (c0_seed : Int) (most1 : Int) : Option (List Int × (List Int × Int × Int)) := s_l1Cur_sureRolls_t0 s_l1Cur_sureRolls_L1 c0_code c0_at c0_seed most1
theorem s_l1Cur_sureRolls_e (c0_code : List Int) (c0_at : Int) (c0_seed : Int) (most1 : Int) : c_s_l1Cur_sureRolls.start c_s_l1Cur_sureRolls.L ((c0_code, c0_at, c0_seed), most1, ()) = s_l1Cur_sureRolls c0_code c0_at c0_seed most1 := by kernel_rfl
noncomputable def F_s_l1Cur_sureRolls : Ins c_s_l1Cur_sureRolls.ins → Option (List Int × (List Int × Int × Int)) := fun x => s_l1Cur_sureRolls x.1.1 x.1.2.1 x.1.2.2 x.2.1
noncomputable def S_s_l1Cur_sureRolls : FSpec := mkF c_s_l1Cur_sureRolls.env.pre c_s_l1Cur_sureRolls.ins c_s_l1Cur_sureRolls.out c_s_l1Cur_sureRolls.inj F_s_l1Cur_sureRolls
theorem h_s_l1Cur_sureRolls : Cert Tryz.prog 74 S_s_l1Cur_sureRolls := FnCx.certF (c := c_s_l1Cur_sureRolls) F_s_l1Cur_sureRolls (tyOk _ _ _) (spOk ⟨h_s_l1Cur_pick, fun _ _ h => h, trivial⟩) (fun _ _ _ _ _ hs => noDr_ok) Tryz.func74 rfl rfl Tryz.ntmps74 (by kernel_rfl) rfl rfl (fun _ => rfl) s_l1Cur_sureRolls_ts s_l1Cur_sureRolls_hs (fun x t hb ht => by
  obtain ⟨⟨c0_code, c0_at, c0_seed⟩, most1, _⟩ := x
  exact (s_l1Cur_sureRolls_e c0_code c0_at c0_seed most1).trans ht)
/-! (*spec.l1Cur).among -/
noncomputable def c_s_l1Cur_among : FnCx := { env := env 12 [(71, S_s_l1Cur_pick)] [], body := bodyOf Tryz.f72, res := [.tmp 4], ins := [.ptr 69 ksl1Cur, .ro kSint], out := [(kint, true)], T := Int × (List Int × Int × Int), fin := fun r => (r.1.1, r.2.1), inj := fun t => ((t.1, ()), (t.2, (), ())), pts := [], fuel := 400, dr := noDr }
noncomputable def s_l1Cur_among (c0_code : List Int) (c0_at : Int) (c0_seed : Int) (list1 : List Int) : Option (Int × (List Int × Int × Int)) :=
  Option.bind (s_l1Cur_pick c0_code c0_at c0_seed (↑(List.length list1) : Int)) fun r =>
    bif decide (0 ≤ Prod.fst r) then
      bif decide (Prod.fst r < (↑(List.length list1) : Int)) then
        some (rdk kint list1 (Prod.fst r), Prod.fst (Prod.snd r), Prod.fst (Prod.snd (Prod.snd r)), Prod.snd (Prod.snd (Prod.snd r)))
      else none
    else none
theorem s_l1Cur_among_e (c0_code : List Int) (c0_at : Int) (c0_seed : Int) (list1 : List Int) : c_s_l1Cur_among.start c_s_l1Cur_among.L ((c0_code, c0_at, c0_seed), list1, ()) = s_l1Cur_among c0_code c0_at c0_seed list1 := by kernel_rfl
noncomputable def F_s_l1Cur_among : Ins c_s_l1Cur_among.ins → Option (Int × (List Int × Int × Int)) := fun x => s_l1Cur_among x.1.1 x.1.2.1 x.1.2.2 x.2.1
noncomputable def S_s_l1Cur_among : FSpec := mkF c_s_l1Cur_among.env.pre c_s_l1Cur_among.ins c_s_l1Cur_among.out c_s_l1Cur_among.inj F_s_l1Cur_among
theorem h_s_l1Cur_among : Cert Tryz.prog 72 S_s_l1Cur_among := FnCx.certF (c := c_s_l1Cur_among) F_s_l1Cur_among (tyOk _ _ _) (spOk ⟨h_s_l1Cur_pick, fun _ _ h => h, trivial⟩) (fun _ _ _ _ _ hs => noDr_ok) Tryz.func72 rfl rfl Tryz.ntmps72 (by kernel_rfl) rfl rfl (fun _ => rfl) trivial (fun x => .inl ⟨c_s_l1Cur_among.start () x, fun _ => rfl⟩) (fun x t hb ht => by
  obtain ⟨⟨c0_code, c0_at, c0_seed⟩, list1, _⟩ := x
  exact (s_l1Cur_among_e c0_code c0_at c0_seed list1).trans ht)
/-! (*spec.l1Cur).rolls -/
noncomputable def c_s_l1Cur_rolls : FnCx := { env := env 30 [(74, S_s_l1Cur_sureRolls), (71, S_s_l1Cur_pick), (72, S_s_l1Cur_among)] [], body := bodyOf Tryz.f68, res := [.tmp 2], ins := [.ptr 69 ksl1Cur], out := [(kSint, true)], T := List Int × (List Int × Int × Int), fin := fun r => (r.1.1, r.2.1), inj := fun t => ((t.1, ()), (t.2, ())), pts := [([.inLoop [1, 1, 0, 1, 0, 1, 1, 1, 1, 1, 0, 0, 0], .inBlock 1, .inBlock 0, .code [1, 1, 1]], Shape.mk [Bs.box 69 [Cs.sl 2, Cs.sc kint, Cs.sc kuint], Bs.row kint 3 true, Bs.row kuint8 5 false] [(0, Ss.one (Cs.ptr 0 0)), (3, Ss.one (Cs.sl 1))] [Ss.one (Cs.ptr 0 0)])], fuel := 400, dr := noDr }
noncomputable def s_l1Cur_rolls_t1 (g1 : Int → Int → List (Int) → List (Int) → Option (List Int × (List Int × Int × Int))) (b0_1 : Int) (b0_2 : Int) (r1 : List (Int)) (r2 : List (Int)) : Option (List Int × (List Int × Int × Int)) :=
  Option.bind (s_l1Cur_pick r2 b0_1 b0_2 2) fun r =>
    bif decide ((↑(List.length r1) : Int) < IntKind.wrap IntKind.i64 (8 + Prod.fst r)) then
      bif Nat.ble (List.length r1 + 1) 4294967296 then
        g1 (Prod.fst (Prod.snd (Prod.snd r))) (Prod.snd (Prod.snd (Prod.snd r))) (r1 ++ [30]) (Prod.fst (Prod.snd r))
      else none
    else some (r1, Prod.fst (Prod.snd r), Prod.fst (Prod.snd (Prod.snd r)), Prod.snd (Prod.snd (Prod.snd r)))
noncomputable def s_l1Cur_rolls_t0 (g1 : Int → Int → List (Int) → List (Int) → Option (List Int × (List Int × Int × Int))) (c0_code : List Int) (c0_at : Int) (c0_seed : Int) : Option (List Int × (List Int × Int × Int)) :=
  Option.bind (s_l1Cur_sureRolls c0_code c0_at c0_seed 5) fun r =>
    Option.bind (s_l1Cur_pick (Prod.fst (Prod.snd r)) (Prod.fst (Prod.snd (Prod.snd r))) (Prod.snd (Prod.snd (Prod.snd r))) 20) fun r_1 =>
      bif Prod.fst r_1 == 0 then some ([], Prod.fst (Prod.snd r_1), Prod.fst (Prod.snd (Prod.snd r_1)), Prod.snd (Prod.snd (Prod.snd r_1)))
      else
        bif Prod.fst r_1 == 1 then
          Option.bind
            (s_l1Cur_among (Prod.fst (Prod.snd r_1)) (Prod.fst (Prod.snd (Prod.snd r_1))) (Prod.snd (Prod.snd (Prod.snd r_1)))
              [-1, 0, 1, 2000, 2001, 4611686018427387904])
            fun r_2 =>
            bif Nat.ble (List.length (Prod.fst r) + 1) 4294967296 then
              some (Prod.fst r ++ [Prod.fst r_2], Prod.fst (Prod.snd r_2), Prod.fst (Prod.snd (Prod.snd r_2)), Prod.snd (Prod.snd (Prod.snd r_2)))
            else none
        else
          bif Prod.fst r_1 == 2 then g1 (Prod.fst (Prod.snd (Prod.snd r_1))) (Prod.snd (Prod.snd (Prod.snd r_1))) (Prod.fst r) (Prod.fst (Prod.snd r_1))
          else some (Prod.fst r, Prod.fst (Prod.snd r_1), Prod.fst (Prod.snd (Prod.snd r_1)), Prod.snd (Prod.snd (Prod.snd r_1)))
theorem s_l1Cur_rolls_ts : Tails c_s_l1Cur_rolls.pts c_s_l1Cur_rolls.round :=
  ⟨fun s => by
    obtain ⟨⟨⟨_, b0_1, b0_2, _⟩, r1, r2, _⟩, ⟨_, _, _⟩, ⟨_, _⟩⟩ := s
    refine Tail.eq (Y := fun g => s_l1Cur_rolls_t1 (fun b0_1 b0_2 r1 r2 => g.1 ((((), b0_1, b0_2, ()), r1, r2, ()), ((), (), ()), ((), ()))) b0_1 b0_2 r1 r2) ?_ (fun g => by kernel_rfl)
    simp only [s_l1Cur_rolls_t1]; repeat (first | exact Tail.const _ | exact Tail.here _ | exact Tail.there (Tail.here _) | exact Tail.there (Tail.there (Tail.here _)) | exact Tail.there (Tail.there (Tail.there (Tail.here _))) | exact Tail.there (Tail.there (Tail.there (Tail.there (Tail.here _)))) | exact Tail.there (Tail.there (Tail.there (Tail.there (Tail.there (Tail.here _))))) | apply Tail.cond | (apply Tail.bind; intro _)), trivial⟩
theorem s_l1Cur_rolls_hs : ∀ x, Tail c_s_l1Cur_rolls.pts (fun g => c_s_l1Cur_rolls.start g x) := fun x => by
    obtain ⟨⟨c0_code, c0_at, c0_seed⟩, _⟩ := x
    refine Tail.eq (Y := fun g => s_l1Cur_rolls_t0 (fun b0_1 b0_2 r1 r2 => g.1 ((((), b0_1, b0_2, ()), r1, r2, ()), ((), (), ()), ((), ()))) c0_code c0_at c0_seed) ?_ (fun g => by kernel_rfl)
    simp only [s_l1Cur_rolls_t0]; repeat (first | exact Tail.const _ | exact Tail.here _ | exact Tail.there (Tail.here _) | exact Tail.there (Tail.there (Tail.here _)) | exact Tail.there (Tail.there (Tail.there (Tail.here _))) | exact Tail.there (Tail.there (Tail.there (Tail.there (Tail.here _)))) | exact Tail.there (Tail.there (Tail.there (Tail.there (Tail.there (Tail.here _))))) | apply Tail.cond | (apply Tail.bind; intro _))
noncomputable def s_l1Cur_rolls_L1 (b0_1 : Int) (b0_2 : Int) (r1 : List (Int)) (r2 : List (Int)) : Option (List Int × (List Int × Int × Int)) := c_s_l1Cur_rolls.L.1 ((((), b0_1, b0_2, ()), r1, r2, ()), ((), (), ()), ((), ()))
theorem s_l1Cur_rolls_u1 (b0_1 : Int) (b0_2 : Int) (r1 : List (Int)) (r2 : List (Int)) : s_l1Cur_rolls_L1 b0_1 b0_2 r1 r2 = s_l1Cur_rolls_t1 s_l1Cur_rolls_L1 b0_1 b0_2 r1 r2 :=
  (congrArg (fun g => g.1 ((((), b0_1, b0_2, ()), r1, r2, ()), ((), (), ()), ((), ()))) (FnCx.L_eq s_l1Cur_rolls_ts)).trans (by kernel_rfl)
noncomputable def s_l1Cur_rolls (c0_code : List Int) (c0_at : Int) (c0_seed : Int) : Option (List Int × (List Int × Int × Int)) := s_l1Cur_rolls_t0 s_l1Cur_rolls_L1 c0_code c0_at c0_seed
theorem s_l1Cur_rolls_e (c0_code : List Int) (c0_at : Int) (c0_seed : Int) : c_s_l1Cur_rolls.start c_s_l1Cur_rolls.L ((c0_code, c0_at, c0_seed), ()) = s_l1Cur_rolls c0_code c0_at c0_seed := by kernel_rfl
noncomputable def F_s_l1Cur_rolls : Ins c_s_l1Cur_rolls.ins → Option (List Int × (List Int × Int × Int)) := fun x => s_l1Cur_rolls x.1.1 x.1.2.1 x.1.2.2
noncomputable def S_s_l1Cur_rolls : FSpec := mkF c_s_l1Cur_rolls.env.pre c_s_l1Cur_rolls.ins c_s_l1Cur_rolls.out c_s_l1Cur_rolls.inj F_s_l1Cur_rolls
theorem h_s_l1Cur_rolls : Cert Tryz.prog 68 S_s_l1Cur_rolls := FnCx.certF (c := c_s_l1Cur_rolls) F_s_l1Cur_rolls (tyOk _ _ _) (spOk ⟨h_s_l1Cur_sureRolls, fun _ _ h => h, ⟨h_s_l1Cur_pick, fun _ _ h => h, ⟨h_s_l1Cur_among, fun _ _ h => h, trivial⟩⟩⟩) (fun _ _ _ _ _ hs => noDr_ok) Tryz.func68 rfl rfl Tryz.ntmps68 (by kernel_rfl) rfl rfl (fun _ => rfl) s_l1Cur_rolls_ts s_l1Cur_rolls_hs (fun x t hb ht => by
  obtain ⟨⟨c0_code, c0_at, c0_seed⟩, _⟩ := x
  exact (s_l1Cur_rolls_e c0_code c0_at c0_seed).trans ht)
/-! (*spec.l1Cur).one -/
noncomputable def c_s_l1Cur_one : FnCx := { env := env 9 [(71, S_s_l1Cur_pick)] [], body := bodyOf Tryz.f73, res := [.tmp 4], ins := [.ptr 69 ksl1Cur, .ro kint], out := [(kbool, true)], T := Bool × (List Int × Int × Int), fin := fun r => (r.1.1, r.2.1), inj := fun t => ((t.1, ()), (t.2, (), ())), pts := [], fuel := 400, dr := noDr }
noncomputable def s_l1Cur_one (c0_code : List Int) (c0_at : Int) (c0_seed : Int) (n1 : Int) : Option (Bool × (List Int × Int × Int)) :=
  Option.bind (s_l1Cur_pick c0_code c0_at c0_seed n1) fun r =>
    some (Prod.fst r == 0, Prod.fst (Prod.snd r), Prod.fst (Prod.snd (Prod.snd r)), Prod.snd (Prod.snd (Prod.snd r)))
theorem s_l1Cur_one_e (c0_code : List Int) (c0_at : Int) (c0_seed : Int) (n1 : Int) : c_s_l1Cur_one.start c_s_l1Cur_one.L ((c0_code, c0_at, c0_seed), n1, ()) = s_l1Cur_one c0_code c0_at c0_seed n1 := by kernel_rfl
noncomputable def F_s_l1Cur_one : Ins c_s_l1Cur_one.ins → Option (Bool × (List Int × Int × Int)) := fun x => s_l1Cur_one x.1.1 x.1.2.1 x.1.2.2 x.2.1
noncomputable def S_s_l1Cur_one : FSpec := mkF c_s_l1Cur_one.env.pre c_s_l1Cur_one.ins c_s_l1Cur_one.out c_s_l1Cur_one.inj F_s_l1Cur_one
theorem h_s_l1Cur_one : Cert Tryz.prog 73 S_s_l1Cur_one := FnCx.certF (c := c_s_l1Cur_one) F_s_l1Cur_one (tyOk _ _ _) (spOk ⟨h_s_l1Cur_pick, fun _ _ h => h, trivial⟩) (fun _ _ _ _ _ hs => noDr_ok) Tryz.func73 rfl rfl Tryz.ntmps73 (by kernel_rfl) rfl rfl (fun _ => rfl) trivial (fun x => .inl ⟨c_s_l1Cur_one.start () x, fun _ => rfl⟩) (fun x t hb ht => by
  obtain ⟨⟨c0_code, c0_at, c0_seed⟩, n1, _⟩ := x
  exact (s_l1Cur_one_e c0_code c0_at c0_seed n1).trans ht)
/-! (*spec.l1Cur).covered -/
noncomputable def c_s_l1Cur_covered : FnCx := { env := env 11 [(73, S_s_l1Cur_one), (72, S_s_l1Cur_among), (71, S_s_l1Cur_pick)] [], body := bodyOf Tryz.f70, res := [.tmp 2], ins := [.ptr 69 ksl1Cur], out := [(kint, true)], T := Int × (List Int × Int × Int), fin := fun r => (r.1.1, r.2.1), inj := fun t => ((t.1, ()), (t.2, ())), pts := [], fuel := 400, dr := noDr }
noncomputable def s_l1Cur_covered (c0_code : List Int) (c0_at : Int) (c0_seed : Int) : Option (Int × (List Int × Int × Int)) :=
  Option.bind (s_l1Cur_one c0_code c0_at c0_seed 10) fun r =>
    bif Prod.fst r then
      Option.bind
        (s_l1Cur_among (Prod.fst (Prod.snd r)) (Prod.fst (Prod.snd (Prod.snd r))) (Prod.snd (Prod.snd (Prod.snd r))) [-1, 0, 1, 100, 101, 4611686018427387904])
        fun r => some (Prod.fst r, Prod.fst (Prod.snd r), Prod.fst (Prod.snd (Prod.snd r)), Prod.snd (Prod.snd (Prod.snd r)))
    else
      Option.bind (s_l1Cur_pick (Prod.fst (Prod.snd r)) (Prod.fst (Prod.snd (Prod.snd r))) (Prod.snd (Prod.snd (Prod.snd r))) 20) fun r =>
        some (IntKind.wrap IntKind.i64 (1 + Prod.fst r), Prod.fst (Prod.snd r), Prod.fst (Prod.snd (Prod.snd r)), Prod.snd (Prod.snd (Prod.snd r)))
theorem s_l1Cur_covered_e (c0_code : List Int) (c0_at : Int) (c0_seed : Int) : c_s_l1Cur_covered.start c_s_l1Cur_covered.L ((c0_code, c0_at, c0_seed), ()) = s_l1Cur_covered c0_code c0_at c0_seed := by kernel_rfl
noncomputable def F_s_l1Cur_covered : Ins c_s_l1Cur_covered.ins → Option (Int × (List Int × Int × Int)) := fun x => s_l1Cur_covered x.1.1 x.1.2.1 x.1.2.2
noncomputable def S_s_l1Cur_covered : FSpec := mkF c_s_l1Cur_covered.env.pre c_s_l1Cur_covered.ins c_s_l1Cur_covered.out c_s_l1Cur_covered.inj F_s_l1Cur_covered
theorem h_s_l1Cur_covered : Cert Tryz.prog 70 S_s_l1Cur_covered := FnCx.certF (c := c_s_l1Cur_covered) F_s_l1Cur_covered (tyOk _ _ _) (spOk ⟨h_s_l1Cur_one, fun _ _ h => h, ⟨h_s_l1Cur_among, fun _ _ h => h, ⟨h_s_l1Cur_pick, fun _ _ h => h, trivial⟩⟩⟩) (fun _ _ _ _ _ hs => noDr_ok) Tryz.func70 rfl rfl Tryz.ntmps70 (by kernel_rfl) rfl rfl (fun _ => rfl) trivial (fun x => .inl ⟨c_s_l1Cur_covered.start () x, fun _ => rfl⟩) (fun x t hb ht => by
  obtain ⟨⟨c0_code, c0_at, c0_seed⟩, _⟩ := x
  exact (s_l1Cur_covered_e c0_code c0_at c0_seed).trans ht)
/-! (*spec.l1Cur).need -/
noncomputable def c_s_l1Cur_need : FnCx := { env := env 11 [(73, S_s_l1Cur_one), (72, S_s_l1Cur_among), (71, S_s_l1Cur_pick)] [], body := bodyOf Tryz.f69, res := [.tmp 2], ins := [.ptr 69 ksl1Cur], out := [(kint, true)], T := Int × (List Int × Int × Int), fin := fun r => (r.1.1, r.2.1), inj := fun t => ((t.1, ()), (t.2, ())), pts := [], fuel := 400, dr := noDr }
noncomputable def s_l1Cur_need (c0_code : List Int) (c0_at : Int) (c0_seed : Int) : Option (Int × (List Int × Int × Int)) :=
  Option.bind (s_l1Cur_one c0_code c0_at c0_seed 10) fun r =>
    bif Prod.fst r then
      Option.bind
        (s_l1Cur_among (Prod.fst (Prod.snd r)) (Prod.fst (Prod.snd (Prod.snd r))) (Prod.snd (Prod.snd (Prod.snd r))) [-1, 0, 1, 100, 101, 4611686018427387904])
        fun r => some (Prod.fst r, Prod.fst (Prod.snd r), Prod.fst (Prod.snd (Prod.snd r)), Prod.snd (Prod.snd (Prod.snd r)))
    else
      Option.bind (s_l1Cur_pick (Prod.fst (Prod.snd r)) (Prod.fst (Prod.snd (Prod.snd r))) (Prod.snd (Prod.snd (Prod.snd r))) 30) fun r =>
        some (IntKind.wrap IntKind.i64 (1 + Prod.fst r), Prod.fst (Prod.snd r), Prod.fst (Prod.snd (Prod.snd r)), Prod.snd (Prod.snd (Prod.snd r)))
theorem s_l1Cur_need_e (c0_code : List Int) (c0_at : Int) (c0_seed : Int) : c_s_l1Cur_need.start c_s_l1Cur_need.L ((c0_code, c0_at, c0_seed), ()) = s_l1Cur_need c0_code c0_at c0_seed := by kernel_rfl
noncomputable def F_s_l1Cur_need : Ins c_s_l1Cur_need.ins → Option (Int × (List Int × Int × Int)) := fun x => s_l1Cur_need x.1.1 x.1.2.1 x.1.2.2
noncomputable def S_s_l1Cur_need : FSpec := mkF c_s_l1Cur_need.env.pre c_s_l1Cur_need.ins c_s_l1Cur_need.out c_s_l1Cur_need.inj F_s_l1Cur_need
theorem h_s_l1Cur_need : Cert Tryz.prog 69 S_s_l1Cur_need := FnCx.certF (c := c_s_l1Cur_need) F_s_l1Cur_need (tyOk _ _ _) (spOk ⟨h_s_l1Cur_one, fun _ _ h => h, ⟨h_s_l1Cur_among, fun _ _ h => h, ⟨h_s_l1Cur_pick, fun _ _ h => h, trivial⟩⟩⟩) (fun _ _ _ _ _ hs => noDr_ok) Tryz.func69 rfl rfl Tryz.ntmps69 (by kernel_rfl) rfl rfl (fun _ => rfl) trivial (fun x => .inl ⟨c_s_l1Cur_need.start () x, fun _ => rfl⟩) (fun x t hb ht => by
  obtain ⟨⟨c0_code, c0_at, c0_seed⟩, _⟩ := x
  exact (s_l1Cur_need_e c0_code c0_at c0_seed).trans ht)
/-! spec.DrawFewestRolls -/
noncomputable def c_s_DrawFewestRolls : FnCx := { env := env 15 [(68, S_s_l1Cur_rolls), (70, S_s_l1Cur_covered), (69, S_s_l1Cur_need)] [], body := bodyOf Tryz.f67, res := [.tmp 2, .tmp 3, .tmp 4], ins := [.ro kSuint8], out := [(kSint, true), (kint, true), (kint, true)], T := List Int × Int × Int, fin := fun r => (r.1.1, r.1.2.1, r.1.2.2.1), inj := fun t => ((t.1, t.2.1, t.2.2, ()), ((), ())), pts := [], fuel := 400, dr := noDr }
noncomputable def s_DrawFewestRolls (code0 : List Int) : Option (List Int × Int × Int) :=
  Option.bind (s_l1Cur_rolls code0 0 0) fun r =>
    Option.bind (s_l1Cur_covered (Prod.fst (Prod.snd r)) (Prod.fst (Prod.snd (Prod.snd r))) (Prod.snd (Prod.snd (Prod.snd r)))) fun r_1 =>
      Option.bind (s_l1Cur_need (Prod.fst (Prod.snd r_1)) (Prod.fst (Prod.snd (Prod.snd r_1))) (Prod.snd (Prod.snd (Prod.snd r_1)))) fun r_2 =>
        some (Prod.fst r, Prod.fst r_1, Prod.fst r_2)
theorem s_DrawFewestRolls_e (code0 : List Int) : c_s_DrawFewestRolls.start c_s_DrawFewestRolls.L (code0, ()) = s_DrawFewestRolls code0 := by kernel_rfl
noncomputable def F_s_DrawFewestRolls : Ins c_s_DrawFewestRolls.ins → Option (List Int × Int × Int) := fun x => s_DrawFewestRolls x.1
noncomputable def S_s_DrawFewestRolls : FSpec := mkF c_s_DrawFewestRolls.env.pre c_s_DrawFewestRolls.ins c_s_DrawFewestRolls.out c_s_DrawFewestRolls.inj F_s_DrawFewestRolls
theorem h_s_DrawFewestRolls : Cert Tryz.prog 67 S_s_DrawFewestRolls := FnCx.certF (c := c_s_DrawFewestRolls) F_s_DrawFewestRolls (tyOk _ _ _) (spOk ⟨h_s_l1Cur_rolls, fun _ _ h => h, ⟨h_s_l1Cur_covered, fun _ _ h => h, ⟨h_s_l1Cur_need, fun _ _ h => h, trivial⟩⟩⟩) (fun _ _ _ _ _ hs => noDr_ok) Tryz.func67 rfl rfl Tryz.ntmps67 (by kernel_rfl) rfl rfl (fun _ => rfl) trivial (fun x => .inl ⟨c_s_DrawFewestRolls.start () x, fun _ => rfl⟩) (fun x t hb ht => by
  obtain ⟨code0, _⟩ := x
  exact (s_DrawFewestRolls_e code0).trans ht)
/-! spec.DrawFirstRolls -/
noncomputable def c_s_DrawFirstRolls : FnCx := { env := env 10 [(67, S_s_DrawFewestRolls)] [], body := bodyOf Tryz.f36, res := [.tmp 2, .tmp 3, .tmp 4], ins := [.ro kSuint8], out := [(kSint, true), (kint, true), (kint, true)], T := List Int × Int × Int, fin := fun r => (r.1.1, r.1.2.1, r.1.2.2.1), inj := fun t => ((t.1, t.2.1, t.2.2, ()), ((), ())), pts := [], fuel := 400, dr := noDr }
noncomputable def s_DrawFirstRolls (code0 : List Int) : Option (List Int × Int × Int) :=
  Option.bind (s_DrawFewestRolls code0) fun r => some (Prod.fst r, Prod.fst (Prod.snd r), Prod.snd (Prod.snd r))
theorem s_DrawFirstRolls_e (code0 : List Int) : c_s_DrawFirstRolls.start c_s_DrawFirstRolls.L (code0, ()) = s_DrawFirstRolls code0 := by kernel_rfl
noncomputable def F_s_DrawFirstRolls : Ins c_s_DrawFirstRolls.ins → Option (List Int × Int × Int) := fun x => s_DrawFirstRolls x.1
noncomputable def S_s_DrawFirstRolls : FSpec := mkF c_s_DrawFirstRolls.env.pre c_s_DrawFirstRolls.ins c_s_DrawFirstRolls.out c_s_DrawFirstRolls.inj F_s_DrawFirstRolls
theorem h_s_DrawFirstRolls : Cert Tryz.prog 36 S_s_DrawFirstRolls := FnCx.certF (c := c_s_DrawFirstRolls) F_s_DrawFirstRolls (tyOk _ _ _) (spOk ⟨h_s_DrawFewestRolls, fun _ _ h => h, trivial⟩) (fun _ _ _ _ _ hs => noDr_ok) Tryz.func36 rfl rfl Tryz.ntmps36 (by kernel_rfl) rfl rfl (fun _ => rfl) trivial (fun x => .inl ⟨c_s_DrawFirstRolls.start () x, fun _ => rfl⟩) (fun x t hb ht => by
  obtain ⟨code0, _⟩ := x
  exact (s_DrawFirstRolls_e code0).trans ht)
/-! spec.DrawStepsOfRolls -/
noncomputable def c_s_DrawStepsOfRolls : FnCx := { env := env 12 [(68, S_s_l1Cur_rolls), (69, S_s_l1Cur_need)] [], body := bodyOf Tryz.f37, res := [.tmp 2, .tmp 3], ins := [.ro kSuint8], out := [(kSint, true), (kint, true)], T := List Int × Int, fin := fun r => (r.1.1, r.1.2.1), inj := fun t => ((t.1, t.2, ()), ((), ())), pts := [], fuel := 400, dr := noDr }
noncomputable def s_DrawStepsOfRolls (code0 : List Int) : Option (List Int × Int) :=
  Option.bind (s_l1Cur_rolls code0 0 0) fun r =>
    Option.bind (s_l1Cur_need (Prod.fst (Prod.snd r)) (Prod.fst (Prod.snd (Prod.snd r))) (Prod.snd (Prod.snd (Prod.snd r)))) fun r_1 =>
      some (Prod.fst r, Prod.fst r_1)
theorem s_DrawStepsOfRolls_e (code0 : List Int) : c_s_DrawStepsOfRolls.start c_s_DrawStepsOfRolls.L (code0, ()) = s_DrawStepsOfRolls code0 := by kernel_rfl
noncomputable def F_s_DrawStepsOfRolls : Ins c_s_DrawStepsOfRolls.ins → Option (List Int × Int) := fun x => s_DrawStepsOfRolls x.1
noncomputable def S_s_DrawStepsOfRolls : FSpec := mkF c_s_DrawStepsOfRolls.env.pre c_s_DrawStepsOfRolls.ins c_s_DrawStepsOfRolls.out c_s_DrawStepsOfRolls.inj F_s_DrawStepsOfRolls
theorem h_s_DrawStepsOfRolls : Cert Tryz.prog 37 S_s_DrawStepsOfRolls := FnCx.certF (c := c_s_DrawStepsOfRolls) F_s_DrawStepsOfRolls (tyOk _ _ _) (spOk ⟨h_s_l1Cur_rolls, fun _ _ h => h, ⟨h_s_l1Cur_need, fun _ _ h => h, trivial⟩⟩) (fun _ _ _ _ _ hs => noDr_ok) Tryz.func37 rfl rfl Tryz.ntmps37 (by kernel_rfl) rfl rfl (fun _ => rfl) trivial (fun x => .inl ⟨c_s_DrawStepsOfRolls.start () x, fun _ => rfl⟩) (fun x t hb ht => by
  obtain ⟨code0, _⟩ := x
  exact (s_DrawStepsOfRolls_e code0).trans ht)
/-! spec.DrawGreatestNeed -/
noncomputable def c_s_DrawGreatestNeed : FnCx := { env := env 12 [(68, S_s_l1Cur_rolls), (70, S_s_l1Cur_covered)] [], body := bodyOf Tryz.f38, res := [.tmp 2, .tmp 3], ins := [.ro kSuint8], out := [(kSint, true), (kint, true)], T := List Int × Int, fin := fun r => (r.1.1, r.1.2.1), inj := fun t => ((t.1, t.2, ()), ((), ())), pts := [], fuel := 400, dr := noDr }
noncomputable def s_DrawGreatestNeed (code0 : List Int) : Option (List Int × Int) :=
  Option.bind (s_l1Cur_rolls code0 0 0) fun r =>
    Option.bind (s_l1Cur_covered (Prod.fst (Prod.snd r)) (Prod.fst (Prod.snd (Prod.snd r))) (Prod.snd (Prod.snd (Prod.snd r)))) fun r_1 =>
      some (Prod.fst r, Prod.fst r_1)
theorem s_DrawGreatestNeed_e (code0 : List Int) : c_s_DrawGreatestNeed.start c_s_DrawGreatestNeed.L (code0, ()) = s_DrawGreatestNeed code0 := by kernel_rfl
noncomputable def F_s_DrawGreatestNeed : Ins c_s_DrawGreatestNeed.ins → Option (List Int × Int) := fun x => s_DrawGreatestNeed x.1
noncomputable def S_s_DrawGreatestNeed : FSpec := mkF c_s_DrawGreatestNeed.env.pre c_s_DrawGreatestNeed.ins c_s_DrawGreatestNeed.out c_s_DrawGreatestNeed.inj F_s_DrawGreatestNeed
theorem h_s_DrawGreatestNeed : Cert Tryz.prog 38 S_s_DrawGreatestNeed := FnCx.certF (c := c_s_DrawGreatestNeed) F_s_DrawGreatestNeed (tyOk _ _ _) (spOk ⟨h_s_l1Cur_rolls, fun _ _ h => h, ⟨h_s_l1Cur_covered, fun _ _ h => h, trivial⟩⟩) (fun _ _ _ _ _ hs => noDr_ok) Tryz.func38 rfl rfl Tryz.ntmps38 (by kernel_rfl) rfl rfl (fun _ => rfl) trivial (fun x => .inl ⟨c_s_DrawGreatestNeed.start () x, fun _ => rfl⟩) (fun x t hb ht => by
  obtain ⟨code0, _⟩ := x
  exact (s_DrawGreatestNeed_e code0).trans ht)
/-! spec.DrawJoinsOfPlan -/
noncomputable def c_s_DrawJoinsOfPlan : FnCx := { env := env 51 [(71, S_s_l1Cur_pick), (72, S_s_l1Cur_among)] [], body := bodyOf Tryz.f39, res := [.tmp 2], ins := [.ro kSuint8], out := [(kSint, true)], T := List Int, fin := fun r => r.1.1, inj := fun t => ((t, ()), ((), ())), pts := [([.inLoop [1, 1, 1, 1, 0, 1, 0, 0], .inBlock 0, .code [1, 1, 1, 1, 1]], Shape.mk [Bs.box 69 [Cs.sl 2, Cs.sc kint, Cs.sc kuint], Bs.row kint 3 true, Bs.row kuint8 5 false] [(3, Ss.one (Cs.ptr 0 0)), (4, Ss.one (Cs.sl 1)), (5, Ss.one (Cs.sc kint)), (6, Ss.one (Cs.sc kint))] [Ss.one (Cs.any)]), ([.inLoop [1, 1, 1, 1, 1, 0, 1, 0, 1, 1, 1, 1, 1, 0, 0, 0], .inBlock 3, .inBlock 2, .code [1, 1, 1, 1, 1, 1]], Shape.mk [Bs.box 69 [Cs.sl 2, Cs.sc kint, Cs.sc kuint], Bs.row kint 3 true, Bs.row kuint8 5 false] [(3, Ss.one (Cs.ptr 0 0)), (4, Ss.one (Cs.sl 1))] [Ss.one (Cs.any)])], fuel := 400, dr := noDr }
noncomputable def s_DrawJoinsOfPlan_t1 (g1 : Int → Int → List (Int) → List (Int) → Int → Int → Option (List Int)) (g2 : Int → Int → List (Int) → List (Int) → Option (List Int)) (b0_1 : Int) (b0_2 : Int) (r1 : List (Int)) (r2 : List (Int)) (at5 : Int) (k6 : Int) : Option (List Int) :=
  bif decide (k6 > 0) then
    bif Nat.ble (List.length r1 + 1) 4294967296 then
      Option.bind (s_l1Cur_pick r2 b0_1 b0_2 3) fun r =>
        g1 (Prod.fst (Prod.snd (Prod.snd r))) (Prod.snd (Prod.snd (Prod.snd r))) (r1 ++ [at5]) (Prod.fst (Prod.snd r))
          (Int.tmod (IntKind.wrap IntKind.i64 (at5 + IntKind.wrap IntKind.i64 (Int.tdiv (Prod.fst r) 2))) 8) (IntKind.wrap IntKind.i64 (k6 - 1))
    else none
  else
    Option.bind (s_l1Cur_pick r2 b0_1 b0_2 12) fun r =>
      bif Prod.fst r == 0 then
        Option.bind
          (s_l1Cur_among (Prod.fst (Prod.snd r)) (Prod.fst (Prod.snd (Prod.snd r))) (Prod.snd (Prod.snd (Prod.snd r))) [-1, 0, 7, 8, 4611686018427387904])
          fun r => bif Nat.ble (List.length r1 + 1) 4294967296 then some (r1 ++ [Prod.fst r]) else none
      else
        bif Prod.fst r == 1 then some []
        else bif Prod.fst r == 2 then g2 (Prod.fst (Prod.snd (Prod.snd r))) (Prod.snd (Prod.snd (Prod.snd r))) r1 (Prod.fst (Prod.snd r)) else some r1
noncomputable def s_DrawJoinsOfPlan_t2 (g1 : Int → Int → List (Int) → List (Int) → Int → Int → Option (List Int)) (g2 : Int → Int → List (Int) → List (Int) → Option (List Int)) (b0_1 : Int) (b0_2 : Int) (r1 : List (Int)) (r2 : List (Int)) : Option (List Int) :=
  Option.bind (s_l1Cur_pick r2 b0_1 b0_2 2) fun r =>
    bif decide ((↑(List.length r1) : Int) < IntKind.wrap IntKind.i64 (100 + Prod.fst r)) then
      bif Nat.ble (List.length r1 + 1) 4294967296 then
        g2 (Prod.fst (Prod.snd (Prod.snd r))) (Prod.snd (Prod.snd (Prod.snd r))) (r1 ++ [1]) (Prod.fst (Prod.snd r))
      else none
    else some r1
noncomputable def s_DrawJoinsOfPlan_t0 (g1 : Int → Int → List (Int) → List (Int) → Int → Int → Option (List Int)) (g2 : Int → Int → List (Int) → List (Int) → Option (List Int)) (code0 : List Int) : Option (List Int) :=
  Option.bind (s_l1Cur_pick code0 0 0 9) fun r =>
    g1 (Prod.fst (Prod.snd (Prod.snd r))) (Prod.snd (Prod.snd (Prod.snd r))) [] (Prod.fst (Prod.snd r)) 0 (IntKind.wrap IntKind.i64 (1 + Prod.fst r))
theorem s_DrawJoinsOfPlan_ts : Tails c_s_DrawJoinsOfPlan.pts c_s_DrawJoinsOfPlan.round :=
  ⟨fun s => by
    obtain ⟨⟨⟨_, b0_1, b0_2, _⟩, r1, r2, _⟩, ⟨_, _, at5, k6, _⟩, ⟨_, _⟩⟩ := s
    refine Tail.eq (Y := fun g => s_DrawJoinsOfPlan_t1 (fun b0_1 b0_2 r1 r2 at5 k6 => g.1 ((((), b0_1, b0_2, ()), r1, r2, ()), ((), (), at5, k6, ()), ((), ()))) (fun b0_1 b0_2 r1 r2 => g.2.1 ((((), b0_1, b0_2, ()), r1, r2, ()), ((), (), ()), ((), ()))) b0_1 b0_2 r1 r2 at5 k6) ?_ (fun g => by kernel_rfl)
    simp only [s_DrawJoinsOfPlan_t1]; repeat (first | exact Tail.const _ | exact Tail.here _ | exact Tail.there (Tail.here _) | exact Tail.there (Tail.there (Tail.here _)) | exact Tail.there (Tail.there (Tail.there (Tail.here _))) | exact Tail.there (Tail.there (Tail.there (Tail.there (Tail.here _)))) | exact Tail.there (Tail.there (Tail.there (Tail.there (Tail.there (Tail.here _))))) | apply Tail.cond | (apply Tail.bind; intro _)),
  fun s => by
    obtain ⟨⟨⟨_, b0_1, b0_2, _⟩, r1, r2, _⟩, ⟨_, _, _⟩, ⟨_, _⟩⟩ := s
    refine Tail.eq (Y := fun g => s_DrawJoinsOfPlan_t2 (fun b0_1 b0_2 r1 r2 at5 k6 => g.1 ((((), b0_1, b0_2, ()), r1, r2, ()), ((), (), at5, k6, ()), ((), ()))) (fun b0_1 b0_2 r1 r2 => g.2.1 ((((), b0_1, b0_2, ()), r1, r2, ()), ((), (), ()), ((), ()))) b0_1 b0_2 r1 r2) ?_ (fun g => by kernel_rfl)
    simp only [s_DrawJoinsOfPlan_t2]; repeat (first | exact Tail.const _ | exact Tail.here _ | exact Tail.there (Tail.here _) | exact Tail.there (Tail.there (Tail.here _)) | exact Tail.there (Tail.there (Tail.there (Tail.here _))) | exact Tail.there (Tail.there (Tail.there (Tail.there (Tail.here _)))) | exact Tail.there (Tail.there (Tail.there (Tail.there (Tail.there (Tail.here _))))) | apply Tail.cond | (apply Tail.bind; intro _)), trivial⟩
theorem s_DrawJoinsOfPlan_hs : ∀ x, Tail c_s_DrawJoinsOfPlan.pts (fun g => c_s_DrawJoinsOfPlan.start g x) := fun x => by
    obtain ⟨code0, _⟩ := x
    refine Tail.eq (Y := fun g => s_DrawJoinsOfPlan_t0 (fun b0_1 b0_2 r1 r2 at5 k6 => g.1 ((((), b0_1, b0_2, ()), r1, r2, ()), ((), (), at5, k6, ()), ((), ()))) (fun b0_1 b0_2 r1 r2 => g.2.1 ((((), b0_1, b0_2, ()), r1, r2, ()), ((), (), ()), ((), ()))) code0) ?_ (fun g => by kernel_rfl)
    simp only [s_DrawJoinsOfPlan_t0]; repeat (first | exact Tail.const _ | exact Tail.here _ | exact Tail.there (Tail.here _) | exact Tail.there (Tail.there (Tail.here _)) | exact Tail.there (Tail.there (Tail.there (Tail.here _))) | exact Tail.there (Tail.there (Tail.there (Tail.there (Tail.here _)))) | exact Tail.there (Tail.there (Tail.there (Tail.there (Tail.there (Tail.here _))))) | apply Tail.cond | (apply Tail.bind; intro _))
noncomputable def s_DrawJoinsOfPlan_L1 (b0_1 : Int) (b0_2 : Int) (r1 : List (Int)) (r2 : List (Int)) (at5 : Int) (k6 : Int) : Option (List Int) := c_s_DrawJoinsOfPlan.L.1 ((((), b0_1, b0_2, ()), r1, r2, ()), ((), (), at5, k6, ()), ((), ()))
noncomputable def s_DrawJoinsOfPlan_L2 (b0_1 : Int) (b0_2 : Int) (r1 : List (Int)) (r2 : List (Int)) : Option (List Int) := c_s_DrawJoinsOfPlan.L.2.1 ((((), b0_1, b0_2, ()), r1, r2, ()), ((), (), ()), ((), ()))
theorem s_DrawJoinsOfPlan_u1 (b0_1 : Int) (b0_2 : Int) (r1 : List (Int)) (r2 : List (Int)) (at5 : Int) (k6 : Int) : s_DrawJoinsOfPlan_L1 b0_1 b0_2 r1 r2 at5 k6 = s_DrawJoinsOfPlan_t1 s_DrawJoinsOfPlan_L1 s_DrawJoinsOfPlan_L2 b0_1 b0_2 r1 r2 at5 k6 :=
  (congrArg (fun g => g.1 ((((), b0_1, b0_2, ()), r1, r2, ()), ((), (), at5, k6, ()), ((), ()))) (FnCx.L_eq s_DrawJoinsOfPlan_ts)).trans (by kernel_rfl)
theorem s_DrawJoinsOfPlan_u2 (b0_1 : Int) (b0_2 : Int) (r1 : List (Int)) (r2 : List (Int)) : s_DrawJoinsOfPlan_L2 b0_1 b0_2 r1 r2 = s_DrawJoinsOfPlan_t2 s_DrawJoinsOfPlan_L1 s_DrawJoinsOfPlan_L2 b0_1 b0_2 r1 r2 :=
  (congrArg (fun g => g.2.1 ((((), b0_1, b0_2, ()), r1, r2, ()), ((), (), ()), ((), ()))) (FnCx.L_eq s_DrawJoinsOfPlan_ts)).trans (by kernel_rfl)
noncomputable def s_DrawJoinsOfPlan (code0 : List Int) : Option (List Int) := s_DrawJoinsOfPlan_t0 s_DrawJoinsOfPlan_L1 s_DrawJoinsOfPlan_L2 code0
theorem s_DrawJoinsOfPlan_e (code0 : List Int) : c_s_DrawJoinsOfPlan.start c_s_DrawJoinsOfPlan.L (code0, ()) = s_DrawJoinsOfPlan code0 := by kernel_rfl
noncomputable def F_s_DrawJoinsOfPlan : Ins c_s_DrawJoinsOfPlan.ins → Option (List Int) := fun x => s_DrawJoinsOfPlan x.1
noncomputable def S_s_DrawJoinsOfPlan : FSpec := mkF c_s_DrawJoinsOfPlan.env.pre c_s_DrawJoinsOfPlan.ins c_s_DrawJoinsOfPlan.out c_s_DrawJoinsOfPlan.inj F_s_DrawJoinsOfPlan
theorem h_s_DrawJoinsOfPlan : Cert Tryz.prog 39 S_s_DrawJoinsOfPlan := FnCx.certF (c := c_s_DrawJoinsOfPlan) F_s_DrawJoinsOfPlan (tyOk _ _ _) (spOk ⟨h_s_l1Cur_pick, fun _ _ h => h, ⟨h_s_l1Cur_among, fun _ _ h => h, trivial⟩⟩) (fun _ _ _ _ _ hs => noDr_ok) Tryz.func39 rfl rfl Tryz.ntmps39 (by kernel_rfl) rfl rfl (fun _ => rfl) s_DrawJoinsOfPlan_ts s_DrawJoinsOfPlan_hs (fun x t hb ht => by
  obtain ⟨code0, _⟩ := x
  exact (s_DrawJoinsOfPlan_e code0).trans ht)
/-! spec.DrawStepsOfRoll -/
noncomputable def c_s_DrawStepsOfRoll : FnCx := { env := env 20 [(73, S_s_l1Cur_one), (72, S_s_l1Cur_among), (69, S_s_l1Cur_need), (71, S_s_l1Cur_pick)] [], body := bodyOf Tryz.f40, res := [.tmp 2, .tmp 3], ins := [.ro kSuint8], out := [(kint, true), (kint, true)], T := Int × Int, fin := fun r => (r.1.1, r.1.2.1), inj := fun t => ((t.1, t.2, ()), ((), ())), pts := [], fuel := 400, dr := noDr }
noncomputable def s_DrawStepsOfRoll (code0 : List Int) : Option (Int × Int) :=
  Option.bind (s_l1Cur_one code0 0 0 8) fun r =>
    bif Prod.fst r then
      Option.bind (s_l1Cur_among (Prod.fst (Prod.snd r)) (Prod.fst (Prod.snd (Prod.snd r))) (Prod.snd (Prod.snd (Prod.snd r))) [-1, 0, 1, 2000, 2001]) fun r =>
        Option.bind (s_l1Cur_need (Prod.fst (Prod.snd r)) (Prod.fst (Prod.snd (Prod.snd r))) (Prod.snd (Prod.snd (Prod.snd r)))) fun r_1 =>
          some (Prod.fst r, Prod.fst r_1)
    else
      Option.bind (s_l1Cur_pick (Prod.fst (Prod.snd r)) (Prod.fst (Prod.snd (Prod.snd r))) (Prod.snd (Prod.snd (Prod.snd r))) 200) fun r =>
        Option.bind (s_l1Cur_need (Prod.fst (Prod.snd r)) (Prod.fst (Prod.snd (Prod.snd r))) (Prod.snd (Prod.snd (Prod.snd r)))) fun r_1 =>
          some (IntKind.wrap IntKind.i64 (1 + Prod.fst r), Prod.fst r_1)
theorem s_DrawStepsOfRoll_e (code0 : List Int) : c_s_DrawStepsOfRoll.start c_s_DrawStepsOfRoll.L (code0, ()) = s_DrawStepsOfRoll code0 := by kernel_rfl
noncomputable def F_s_DrawStepsOfRoll : Ins c_s_DrawStepsOfRoll.ins → Option (Int × Int) := fun x => s_DrawStepsOfRoll x.1
noncomputable def S_s_DrawStepsOfRoll : FSpec := mkF c_s_DrawStepsOfRoll.env.pre c_s_DrawStepsOfRoll.ins c_s_DrawStepsOfRoll.out c_s_DrawStepsOfRoll.inj F_s_DrawStepsOfRoll
theorem h_s_DrawStepsOfRoll : Cert Tryz.prog 40 S_s_DrawStepsOfRoll := FnCx.certF (c := c_s_DrawStepsOfRoll) F_s_DrawStepsOfRoll (tyOk _ _ _) (spOk ⟨h_s_l1Cur_one, fun _ _ h => h, ⟨h_s_l1Cur_among, fun _ _ h => h, ⟨h_s_l1Cur_need, fun _ _ h => h, ⟨h_s_l1Cur_pick, fun _ _ h => h, trivial⟩⟩⟩⟩) (fun _ _ _ _ _ hs => noDr_ok) Tryz.func40 rfl rfl Tryz.ntmps40 (by kernel_rfl) rfl rfl (fun _ => rfl) trivial (fun x => .inl ⟨c_s_DrawStepsOfRoll.start () x, fun _ => rfl⟩) (fun x t hb ht => by
  obtain ⟨code0, _⟩ := x
  exact (s_DrawStepsOfRoll_e code0).trans ht)
/-! (*spec.l1Cur).spoilt -/
noncomputable def c_s_l1Cur_spoilt : FnCx := { env := env 68 [(71, S_s_l1Cur_pick)] [], body := bodyOf Tryz.f75, res := [.tmp 6], ins := [.ptr 69 ksl1Cur, .ro kstring, .ro kstring], out := [(kstring, true)], T := ByteArray × (List Int × Int × Int), fin := fun r => (r.1.1, r.2.1), inj := fun t => ((t.1, ()), (t.2, (), (), ())), pts := [([.inLoop [1, 0, 1, 0, 0], .inBlock 0, .code [1, 1]], Shape.mk [Bs.box 69 [Cs.sl 1, Cs.sc kint, Cs.sc kuint], Bs.row kuint8 5 false] [(0, Ss.one (Cs.ptr 0 0)), (1, Ss.one (Cs.sc kstring)), (2, Ss.one (Cs.sc kstring)), (7, Ss.one (Cs.sc kint))] [Ss.one (Cs.ptr 0 0), Ss.one (Cs.any), Ss.one (Cs.any)])], fuel := 400, dr := evDr (env 68 [(71, S_s_l1Cur_pick)] []) }
noncomputable def s_l1Cur_spoilt_t1 (g1 : Int → Int → List (Int) → ByteArray → ByteArray → Int → Option (ByteArray × (List Int × Int × Int))) (b0_1 : Int) (b0_2 : Int) (r1 : List (Int)) (t1 : ByteArray) (with2 : ByteArray) (n7 : Int) : Option (ByteArray × (List Int × Int × Int)) :=
  bif decide (n7 > 0) then
    bif decide ((↑(ByteArray.size t1) : Int) > 0) then
      Option.bind (s_l1Cur_pick r1 b0_1 b0_2 (↑(ByteArray.size t1) : Int)) fun r =>
        Option.bind (s_l1Cur_pick (Prod.fst (Prod.snd r)) (Prod.fst (Prod.snd (Prod.snd r))) (Prod.snd (Prod.snd (Prod.snd r))) (↑(ByteArray.size with2) : Int))
          fun r_1 =>
          bif decide (0 ≤ Prod.fst r_1) then
            bif decide (Prod.fst r_1 < (↑(ByteArray.size with2) : Int)) then
              Option.bind (s_l1Cur_pick (Prod.fst (Prod.snd r_1)) (Prod.fst (Prod.snd (Prod.snd r_1))) (Prod.snd (Prod.snd (Prod.snd r_1))) 3) fun r_2 =>
                bif Prod.fst r_2 == 0 then
                  bif decide (0 ≤ Prod.fst r) then
                    bif decide (Prod.fst r ≤ (↑(ByteArray.size t1) : Int)) then
                      bif
                          Nat.ble
                            (ByteArray.size (ByteArray.extract t1 (Int.toNat 0) (Int.toNat (Prod.fst r))) +
                              ByteArray.size (List.foldl (fun r n => ByteArray.push r (UInt8.ofNat (Int.toNat n))) ByteArray.empty [bt with2 (Prod.fst r_1)]))
                            9223372036854775807 then
                        bif decide (0 ≤ Prod.fst r) then
                          bif decide (Prod.fst r ≤ (↑(ByteArray.size t1) : Int)) then
                            bif
                                Nat.ble
                                  (ByteArray.size
                                      (ByteArray.extract t1 (Int.toNat 0) (Int.toNat (Prod.fst r)) ++
                                        List.foldl (fun r n => ByteArray.push r (UInt8.ofNat (Int.toNat n))) ByteArray.empty [bt with2 (Prod.fst r_1)]) +
                                    ByteArray.size (ByteArray.extract t1 (Int.toNat (Prod.fst r)) (Int.toNat (↑(ByteArray.size t1) : Int))))
                                  9223372036854775807 then
                              g1 (Prod.fst (Prod.snd (Prod.snd r_2))) (Prod.snd (Prod.snd (Prod.snd r_2))) (Prod.fst (Prod.snd r_2))
                                (ByteArray.extract t1 (Int.toNat 0) (Int.toNat (Prod.fst r)) ++
                                    List.foldl (fun r n => ByteArray.push r (UInt8.ofNat (Int.toNat n))) ByteArray.empty [bt with2 (Prod.fst r_1)] ++
                                  ByteArray.extract t1 (Int.toNat (Prod.fst r)) (Int.toNat (↑(ByteArray.size t1) : Int)))
                                with2 (IntKind.wrap IntKind.i64 (n7 - 1))
                            else none
                          else none
                        else none
                      else none
                    else none
                  else none
                else
                  bif Prod.fst r_2 == 1 then
                    bif decide (0 ≤ Prod.fst r) then
                      bif decide (Prod.fst r ≤ (↑(ByteArray.size t1) : Int)) then
                        bif
                            Nat.ble
                              (ByteArray.size (ByteArray.extract t1 (Int.toNat 0) (Int.toNat (Prod.fst r))) +
                                ByteArray.size (List.foldl (fun r n => ByteArray.push r (UInt8.ofNat (Int.toNat n))) ByteArray.empty [bt with2 (Prod.fst r_1)]))
                              9223372036854775807 then
                          bif decide (0 ≤ IntKind.wrap IntKind.i64 (Prod.fst r + 1)) then
                            bif decide (IntKind.wrap IntKind.i64 (Prod.fst r + 1) ≤ (↑(ByteArray.size t1) : Int)) then
                              bif
                                  Nat.ble
                                    (ByteArray.size
                                        (ByteArray.extract t1 (Int.toNat 0) (Int.toNat (Prod.fst r)) ++
                                          List.foldl (fun r n => ByteArray.push r (UInt8.ofNat (Int.toNat n))) ByteArray.empty [bt with2 (Prod.fst r_1)]) +
                                      ByteArray.size
                                        (ByteArray.extract t1 (Int.toNat (IntKind.wrap IntKind.i64 (Prod.fst r + 1))) (Int.toNat (↑(ByteArray.size t1) : Int))))
                                    9223372036854775807 then
                                g1 (Prod.fst (Prod.snd (Prod.snd r_2))) (Prod.snd (Prod.snd (Prod.snd r_2))) (Prod.fst (Prod.snd r_2))
                                  (ByteArray.extract t1 (Int.toNat 0) (Int.toNat (Prod.fst r)) ++
                                      List.foldl (fun r n => ByteArray.push r (UInt8.ofNat (Int.toNat n))) ByteArray.empty [bt with2 (Prod.fst r_1)] ++
                                    ByteArray.extract t1 (Int.toNat (IntKind.wrap IntKind.i64 (Prod.fst r + 1))) (Int.toNat (↑(ByteArray.size t1) : Int)))
                                  with2 (IntKind.wrap IntKind.i64 (n7 - 1))
                              else none
                            else none
                          else none
                        else none
                      else none
                    else none
                  else
                    bif decide (0 ≤ Prod.fst r) then
                      bif decide (Prod.fst r ≤ (↑(ByteArray.size t1) : Int)) then
                        bif decide (0 ≤ IntKind.wrap IntKind.i64 (Prod.fst r + 1)) then
                          bif decide (IntKind.wrap IntKind.i64 (Prod.fst r + 1) ≤ (↑(ByteArray.size t1) : Int)) then
                            bif
                                Nat.ble
                                  (ByteArray.size (ByteArray.extract t1 (Int.toNat 0) (Int.toNat (Prod.fst r))) +
                                    ByteArray.size
                                      (ByteArray.extract t1 (Int.toNat (IntKind.wrap IntKind.i64 (Prod.fst r + 1))) (Int.toNat (↑(ByteArray.size t1) : Int))))
                                  9223372036854775807 then
                              g1 (Prod.fst (Prod.snd (Prod.snd r_2))) (Prod.snd (Prod.snd (Prod.snd r_2))) (Prod.fst (Prod.snd r_2))
                                (ByteArray.extract t1 (Int.toNat 0) (Int.toNat (Prod.fst r)) ++
                                  ByteArray.extract t1 (Int.toNat (IntKind.wrap IntKind.i64 (Prod.fst r + 1))) (Int.toNat (↑(ByteArray.size t1) : Int)))
                                with2 (IntKind.wrap IntKind.i64 (n7 - 1))
                            else none
                          else none
                        else none
                      else none
                    else none
            else none
          else none
    else some (t1, r1, b0_1, b0_2)
  else some (t1, r1, b0_1, b0_2)
noncomputable def s_l1Cur_spoilt_t0 (g1 : Int → Int → List (Int) → ByteArray → ByteArray → Int → Option (ByteArray × (List Int × Int × Int))) (c0_code : List Int) (c0_at : Int) (c0_seed : Int) (t1 : ByteArray) (with2 : ByteArray) : Option (ByteArray × (List Int × Int × Int)) :=
  Option.bind (s_l1Cur_pick c0_code c0_at c0_seed 2) fun r =>
    g1 (Prod.fst (Prod.snd (Prod.snd r))) (Prod.snd (Prod.snd (Prod.snd r))) (Prod.fst (Prod.snd r)) t1 with2 (IntKind.wrap IntKind.i64 (1 + Prod.fst r))
theorem s_l1Cur_spoilt_ts : Tails c_s_l1Cur_spoilt.pts c_s_l1Cur_spoilt.round :=
  ⟨fun s => by
    obtain ⟨⟨⟨_, b0_1, b0_2, _⟩, r1, _⟩, ⟨_, t1, with2, n7, _⟩, ⟨_, _, _, _⟩⟩ := s
    refine Tail.eq (Y := fun g => s_l1Cur_spoilt_t1 (fun b0_1 b0_2 r1 t1 with2 n7 => g.1 ((((), b0_1, b0_2, ()), r1, ()), ((), t1, with2, n7, ()), ((), (), (), ()))) b0_1 b0_2 r1 t1 with2 n7) ?_ (fun g => by kernel_rfl)
    simp only [s_l1Cur_spoilt_t1]; repeat (first | apply Tail.cond | (apply Tail.bind; intro _) | exact Tail.here _ | exact Tail.there (Tail.here _) | exact Tail.there (Tail.there (Tail.here _)) | exact Tail.there (Tail.there (Tail.there (Tail.here _))) | exact Tail.there (Tail.there (Tail.there (Tail.there (Tail.here _)))) | exact Tail.there (Tail.there (Tail.there (Tail.there (Tail.there (Tail.here _))))) | exact Tail.const _), trivial⟩
theorem s_l1Cur_spoilt_hs : ∀ x, Tail c_s_l1Cur_spoilt.pts (fun g => c_s_l1Cur_spoilt.start g x) := fun x => by
    obtain ⟨⟨c0_code, c0_at, c0_seed⟩, t1, with2, _⟩ := x
    refine Tail.eq (Y := fun g => s_l1Cur_spoilt_t0 (fun b0_1 b0_2 r1 t1 with2 n7 => g.1 ((((), b0_1, b0_2, ()), r1, ()), ((), t1, with2, n7, ()), ((), (), (), ()))) c0_code c0_at c0_seed t1 with2) ?_ (fun g => by kernel_rfl)
    simp only [s_l1Cur_spoilt_t0]; repeat (first | apply Tail.cond | (apply Tail.bind; intro _) | exact Tail.here _ | exact Tail.there (Tail.here _) | exact Tail.there (Tail.there (Tail.here _)) | exact Tail.there (Tail.there (Tail.there (Tail.here _))) | exact Tail.there (Tail.there (Tail.there (Tail.there (Tail.here _)))) | exact Tail.there (Tail.there (Tail.there (Tail.there (Tail.there (Tail.here _))))) | exact Tail.const _)
noncomputable def s_l1Cur_spoilt_L1 (b0_1 : Int) (b0_2 : Int) (r1 : List (Int)) (t1 : ByteArray) (with2 : ByteArray) (n7 : Int) : Option (ByteArray × (List Int × Int × Int)) := c_s_l1Cur_spoilt.L.1 ((((), b0_1, b0_2, ()), r1, ()), ((), t1, with2, n7, ()), ((), (), (), ()))
theorem s_l1Cur_spoilt_u1 (b0_1 : Int) (b0_2 : Int) (r1 : List (Int)) (t1 : ByteArray) (with2 : ByteArray) (n7 : Int) : s_l1Cur_spoilt_L1 b0_1 b0_2 r1 t1 with2 n7 = s_l1Cur_spoilt_t1 s_l1Cur_spoilt_L1 b0_1 b0_2 r1 t1 with2 n7 :=
  (congrArg (fun g => g.1 ((((), b0_1, b0_2, ()), r1, ()), ((), t1, with2, n7, ()), ((), (), (), ()))) (FnCx.L_eq s_l1Cur_spoilt_ts)).trans (by kernel_rfl)
noncomputable def s_l1Cur_spoilt (c0_code : List Int) (c0_at : Int) (c0_seed : Int) (t1 : ByteArray) (with2 : ByteArray) : Option (ByteArray × (List Int × Int × Int)) := s_l1Cur_spoilt_t0 s_l1Cur_spoilt_L1 c0_code c0_at c0_seed t1 with2
theorem s_l1Cur_spoilt_e (c0_code : List Int) (c0_at : Int) (c0_seed : Int) (t1 : ByteArray) (with2 : ByteArray) : c_s_l1Cur_spoilt.start c_s_l1Cur_spoilt.L ((c0_code, c0_at, c0_seed), t1, with2, ()) = s_l1Cur_spoilt c0_code c0_at c0_seed t1 with2 := by kernel_rfl
noncomputable def F_s_l1Cur_spoilt : Ins c_s_l1Cur_spoilt.ins → Option (ByteArray × (List Int × Int × Int)) := fun x => s_l1Cur_spoilt x.1.1 x.1.2.1 x.1.2.2 x.2.1 x.2.2.1
noncomputable def S_s_l1Cur_spoilt : FSpec := mkF c_s_l1Cur_spoilt.env.pre c_s_l1Cur_spoilt.ins c_s_l1Cur_spoilt.out c_s_l1Cur_spoilt.inj F_s_l1Cur_spoilt
theorem h_s_l1Cur_spoilt : Cert Tryz.prog 75 S_s_l1Cur_spoilt := FnCx.certF (c := c_s_l1Cur_spoilt) F_s_l1Cur_spoilt (tyOk _ _ _) (spOk ⟨h_s_l1Cur_pick, fun _ _ h => h, trivial⟩) (fun _ _ _ _ _ hs => evDr_ok (tyOk _ _ _) hs follows) Tryz.func75 rfl rfl Tryz.ntmps75 (by kernel_rfl) rfl rfl (fun _ => rfl) s_l1Cur_spoilt_ts s_l1Cur_spoilt_hs (fun x t hb ht => by
  obtain ⟨⟨c0_code, c0_at, c0_seed⟩, t1, with2, _⟩ := x
  exact (s_l1Cur_spoilt_e c0_code c0_at c0_seed t1 with2).trans ht)
/-! spec.DrawParseRolls -/
noncomputable def c_s_DrawParseRolls : FnCx := { env := env 17 [(74, S_s_l1Cur_sureRolls), (65, S_s_cpText), (73, S_s_l1Cur_one), (75, S_s_l1Cur_spoilt)] [], body := bodyOf Tryz.f41, res := [.tmp 2], ins := [.ro kSuint8], out := [(kstring, true)], T := ByteArray, fin := fun r => r.1.1, inj := fun t => ((t, ()), ((), ())), pts := [], fuel := 400, dr := noDr }
noncomputable def s_DrawParseRolls (code0 : List Int) : Option ByteArray :=
  Option.bind (s_l1Cur_sureRolls code0 0 0 4) fun r =>
    Option.bind (s_cpText (Prod.fst r)) fun r_1 =>
      Option.bind (s_l1Cur_one (Prod.fst (Prod.snd r)) (Prod.fst (Prod.snd (Prod.snd r))) (Prod.snd (Prod.snd (Prod.snd r))) 3) fun r =>
        bif Prod.fst r then
          Option.bind
            (s_l1Cur_spoilt (Prod.fst (Prod.snd r)) (Prod.fst (Prod.snd (Prod.snd r))) (Prod.snd (Prod.snd (Prod.snd r))) r_1
              { data := #[48, 49, 50, 51, 43, 120] })
            fun r => some (Prod.fst r)
        else some r_1
theorem s_DrawParseRolls_e (code0 : List Int) : c_s_DrawParseRolls.start c_s_DrawParseRolls.L (code0, ()) = s_DrawParseRolls code0 := by kernel_rfl
noncomputable def F_s_DrawParseRolls : Ins c_s_DrawParseRolls.ins → Option ByteArray := fun x => s_DrawParseRolls x.1
noncomputable def S_s_DrawParseRolls : FSpec := mkF c_s_DrawParseRolls.env.pre c_s_DrawParseRolls.ins c_s_DrawParseRolls.out c_s_DrawParseRolls.inj F_s_DrawParseRolls
theorem h_s_DrawParseRolls : Cert Tryz.prog 41 S_s_DrawParseRolls := FnCx.certF (c := c_s_DrawParseRolls) F_s_DrawParseRolls (tyOk _ _ _) (spOk ⟨h_s_l1Cur_sureRolls, fun _ _ h => h, ⟨h_s_cpText, fun _ _ h => h, ⟨h_s_l1Cur_one, fun _ _ h => h, ⟨h_s_l1Cur_spoilt, fun _ _ h => h, trivial⟩⟩⟩⟩) (fun _ _ _ _ _ hs => noDr_ok) Tryz.func41 rfl rfl Tryz.ntmps41 (by kernel_rfl) rfl rfl (fun _ => rfl) trivial (fun x => .inl ⟨c_s_DrawParseRolls.start () x, fun _ => rfl⟩) (fun x t hb ht => by
  obtain ⟨code0, _⟩ := x
  exact (s_DrawParseRolls_e code0).trans ht)
/-! spec.DrawAreRolls -/
noncomputable def c_s_DrawAreRolls : FnCx := { env := env 9 [(68, S_s_l1Cur_rolls)] [], body := bodyOf Tryz.f76, res := [.tmp 2], ins := [.ro kSuint8], out := [(kSint, true)], T := List Int, fin := fun r => r.1.1, inj := fun t => ((t, ()), ((), ())), pts := [], fuel := 400, dr := noDr }
noncomputable def s_DrawAreRolls (code0 : List Int) : Option (List Int) :=
  Option.bind (s_l1Cur_rolls code0 0 0) fun r => some (Prod.fst r)
theorem s_DrawAreRolls_e (code0 : List Int) : c_s_DrawAreRolls.start c_s_DrawAreRolls.L (code0, ()) = s_DrawAreRolls code0 := by kernel_rfl
noncomputable def F_s_DrawAreRolls : Ins c_s_DrawAreRolls.ins → Option (List Int) := fun x => s_DrawAreRolls x.1
noncomputable def S_s_DrawAreRolls : FSpec := mkF c_s_DrawAreRolls.env.pre c_s_DrawAreRolls.ins c_s_DrawAreRolls.out c_s_DrawAreRolls.inj F_s_DrawAreRolls
theorem h_s_DrawAreRolls : Cert Tryz.prog 76 S_s_DrawAreRolls := FnCx.certF (c := c_s_DrawAreRolls) F_s_DrawAreRolls (tyOk _ _ _) (spOk ⟨h_s_l1Cur_rolls, fun _ _ h => h, trivial⟩) (fun _ _ _ _ _ hs => noDr_ok) Tryz.func76 rfl rfl Tryz.ntmps76 (by kernel_rfl) rfl rfl (fun _ => rfl) trivial (fun x => .inl ⟨c_s_DrawAreRolls.start () x, fun _ => rfl⟩) (fun x t hb ht => by
  obtain ⟨code0, _⟩ := x
  exact (s_DrawAreRolls_e code0).trans ht)
/-! spec.DrawRollsText -/
noncomputable def c_s_DrawRollsText : FnCx := { env := env 5 [(76, S_s_DrawAreRolls)] [], body := bodyOf Tryz.f42, res := [.tmp 2], ins := [.ro kSuint8], out := [(kSint, true)], T := List Int, fin := fun r => r.1.1, inj := fun t => ((t, ()), ((), ())), pts := [], fuel := 400, dr := noDr }
noncomputable def s_DrawRollsText (code0 : List Int) : Option (List Int) :=
  Option.bind (s_DrawAreRolls code0) fun r => some r
theorem s_DrawRollsText_e (code0 : List Int) : c_s_DrawRollsText.start c_s_DrawRollsText.L (code0, ()) = s_DrawRollsText code0 := by kernel_rfl
noncomputable def F_s_DrawRollsText : Ins c_s_DrawRollsText.ins → Option (List Int) := fun x => s_DrawRollsText x.1
noncomputable def S_s_DrawRollsText : FSpec := mkF c_s_DrawRollsText.env.pre c_s_DrawRollsText.ins c_s_DrawRollsText.out c_s_DrawRollsText.inj F_s_DrawRollsText
theorem h_s_DrawRollsText : Cert Tryz.prog 42 S_s_DrawRollsText := FnCx.certF (c := c_s_DrawRollsText) F_s_DrawRollsText (tyOk _ _ _) (spOk ⟨h_s_DrawAreRolls, fun _ _ h => h, trivial⟩) (fun _ _ _ _ _ hs => noDr_ok) Tryz.func42 rfl rfl Tryz.ntmps42 (by kernel_rfl) rfl rfl (fun _ => rfl) trivial (fun x => .inl ⟨c_s_DrawRollsText.start () x, fun _ => rfl⟩) (fun x t hb ht => by
  obtain ⟨code0, _⟩ := x
  exact (s_DrawRollsText_e code0).trans ht)
/-! laws.FnCarpetsCut -/
noncomputable def c_w_FnCarpetsCut : FnCx := { env := env 696 [(35, S_w_big), (36, S_s_DrawFirstRolls), (5, S_i_FirstRolls), (6, S_s_FirstRolls), (7, S_i_FewestRolls), (8, S_s_FewestRolls), (9, S_i_LeastLength), (10, S_s_LeastLength), (11, S_i_RollsOfLeast), (12, S_s_RollsOfLeast), (13, S_i_CoverPlan), (14, S_s_CoverPlan), (15, S_w_wSame), (16, S_i_AreRolls), (17, S_s_AreRolls), (18, S_w_wRises), (19, S_i_JoinsOfPlan), (37, S_s_DrawStepsOfRolls), (20, S_i_StepsOfRolls), (21, S_s_StepsOfRolls), (22, S_i_RestOfRolls), (23, S_s_RestOfRolls), (38, S_s_DrawGreatestNeed), (24, S_i_GreatestNeed), (25, S_s_GreatestNeed), (39, S_s_DrawJoinsOfPlan), (26, S_s_JoinsOfPlan), (40, S_s_DrawStepsOfRoll), (27, S_i_StepsOfRoll), (28, S_s_StepsOfRoll), (41, S_s_DrawParseRolls), (29, S_i_ParseRolls), (30, S_s_ParseRolls), (42, S_s_DrawRollsText), (31, S_i_RollsText), (32, S_s_RollsText), (33, S_w_wSum), (34, S_w_wHas)] [], body := bodyOf Tryz.f4, res := [.tmp 4], ins := [.ro kSuint8, .ro kSuint8], out := [(kbool, true)], T := Bool, fin := fun r => r.1.1, inj := fun t => ((t, ()), ((), (), ())), pts := [([.code [1, 1, 1, 1, 1, 1, 1, 1, 1, 1, 1, 1, 1, 1]], Shape.mk [Bs.row kuint8 5 false, Bs.row kint 3 false, Bs.row kint 3 false, Bs.row kint 3 false, Bs.row kint 3 true] [(1, Ss.one (Cs.sl 0)), (5, Ss.one (Cs.sl 1)), (6, Ss.one (Cs.sc kint)), (7, Ss.one (Cs.sc kint)), (8, Ss.one (Cs.sl 2)), (9, Ss.one (Cs.sc kbool)), (12, Ss.one (Cs.sc kint)), (16, Ss.one (Cs.sc kint)), (20, Ss.one (Cs.sl 3)), (24, Ss.one (Cs.sl 4))] [Ss.one (Cs.any), Ss.one (Cs.any)]), ([.code [1, 1, 1, 1, 1, 1, 1, 1, 1, 1, 1, 1, 1, 1, 1]], Shape.mk [Bs.row kuint8 5 false] [(1, Ss.one (Cs.sl 0))] [Ss.one (Cs.any), Ss.one (Cs.any)]), ([.code [1, 1, 1, 1, 1, 1, 1, 1, 1, 1, 1, 1, 1, 1, 1, 1, 1, 1, 1, 1, 1, 1, 1, 1, 1, 1, 1, 1, 1, 1, 1, 1, 1, 1, 1, 1, 1]], Shape.mk [Bs.row kint 3 true, Bs.row kint 3 true, Bs.row kint 3 true, Bs.row kint 3 true, Bs.row kint 3 true] [(50, Ss.one (Cs.sl 0)), (51, Ss.one (Cs.sc kint)), (52, Ss.one (Cs.sc kint)), (53, Ss.one (Cs.sc kbool)), (56, Ss.one (Cs.sl 1)), (57, Ss.one (Cs.sl 2)), (58, Ss.one (Cs.sc kbool)), (61, Ss.one (Cs.sc kint)), (62, Ss.one (Cs.sc kint)), (63, Ss.one (Cs.sc kint)), (64, Ss.one (Cs.sc kint)), (65, Ss.one (Cs.sc kbool)), (69, Ss.one (Cs.sc kstring)), (70, Ss.one (Cs.sl 3)), (71, Ss.one (Cs.sc kbool)), (74, Ss.one (Cs.sl 4)), (75, Ss.one (Cs.sc kstring)), (76, Ss.one (Cs.sc kbool))] [Ss.one (Cs.any), Ss.one (Cs.any)]), ([.code [1, 1, 1, 1, 1, 1, 1, 1, 1, 1, 1, 1, 1, 1, 1, 1, 1, 1, 1, 1, 1, 1, 1, 1, 1, 1, 1, 1, 1, 1, 1, 1, 1, 1, 1, 1, 1, 1]], Shape.mk [Bs.row kint 3 true, Bs.row kint 3 true, Bs.row kint 3 true, Bs.row kint 3 true] [(56, Ss.one (Cs.sl 0)), (57, Ss.one (Cs.sl 1)), (58, Ss.one (Cs.sc kbool)), (61, Ss.one (Cs.sc kint)), (62, Ss.one (Cs.sc kint)), (63, Ss.one (Cs.sc kint)), (64, Ss.one (Cs.sc kint)), (65, Ss.one (Cs.sc kbool)), (69, Ss.one (Cs.sc kstring)), (70, Ss.one (Cs.sl 2)), (71, Ss.one (Cs.sc kbool)), (74, Ss.one (Cs.sl 3)), (75, Ss.one (Cs.sc kstring)), (76, Ss.one (Cs.sc kbool))] [Ss.one (Cs.any), Ss.one (Cs.any)]), ([.code [1, 1, 1, 1, 1, 1, 1, 1, 1, 1, 1, 1, 1, 1, 1, 1, 1, 1, 1, 1, 1, 1, 1, 1, 1, 1, 1, 1, 1, 1, 1, 1, 1, 1, 1, 1, 1, 1, 1]], Shape.mk [Bs.row kint 3 true, Bs.row kint 3 true] [(61, Ss.one (Cs.sc kint)), (62, Ss.one (Cs.sc kint)), (63, Ss.one (Cs.sc kint)), (64, Ss.one (Cs.sc kint)), (65, Ss.one (Cs.sc kbool)), (69, Ss.one (Cs.sc kstring)), (70, Ss.one (Cs.sl 0)), (71, Ss.one (Cs.sc kbool)), (74, Ss.one (Cs.sl 1)), (75, Ss.one (Cs.sc kstring)), (76, Ss.one (Cs.sc kbool))] [Ss.one (Cs.any), Ss.one (Cs.any)]), ([.code [1, 1, 1, 1, 1, 1, 1, 1, 1, 1, 1, 1, 1, 1, 1, 1, 1, 1, 1, 1, 1, 1, 1, 1, 1, 1, 1, 1, 1, 1, 1, 1, 1, 1, 1, 1, 1, 1, 1, 1]], Shape.mk [Bs.row kint 3 true, Bs.row kint 3 true] [(69, Ss.one (Cs.sc kstring)), (70, Ss.one (Cs.sl 0)), (71, Ss.one (Cs.sc kbool)), (74, Ss.one (Cs.sl 1)), (75, Ss.one (Cs.sc kstring)), (76, Ss.one (Cs.sc kbool))] [Ss.one (Cs.any), Ss.one (Cs.any)]), ([.code [1, 1, 1, 1, 1, 1, 1, 1, 1, 1, 1, 1, 1, 1, 1, 1, 1, 1, 1, 1, 1, 1, 1, 1, 1, 1, 1, 1, 1, 1, 1, 1, 1, 1, 1, 1, 1, 1, 1, 1, 1]], Shape.mk [Bs.row kint 3 true] [(69, Ss.one (Cs.sc kstring)), (70, Ss.one (Cs.sl 0)), (71, Ss.one (Cs.sc kbool))] [Ss.one (Cs.any), Ss.one (Cs.any)]), ([.inLoop [1, 1, 1, 1, 1, 1, 1, 1, 1, 1, 1, 1, 1, 1, 0, 1, 0, 1, 1, 0, 1, 0, 0], .inBlock 0, .code [1, 1, 1, 1, 1, 1, 1, 1, 1, 1, 1, 1, 1, 1, 0, 1, 0, 1, 1, 1], .code [1, 1, 1, 1, 1, 1, 1, 1, 1, 1, 1, 1, 1, 1, 1]], Shape.mk [Bs.row kuint8 5 false, Bs.row kint 3 false, Bs.row kint 3 false, Bs.row kint 3 true, Bs.row kint 3 false] [(1, Ss.one (Cs.sl 0)), (5, Ss.one (Cs.sl 1)), (6, Ss.one (Cs.sc kint)), (7, Ss.one (Cs.sc kint)), (16, Ss.one (Cs.sc kint)), (20, Ss.one (Cs.sl 2)), (24, Ss.one (Cs.sl 3)), (28, Ss.one (Cs.sc kint)), (29, Ss.one (Cs.sc kint)), (30, Ss.one (Cs.sc kint)), (31, Ss.one (Cs.sc kint)), (280, Ss.one (Cs.sl 4)), (281, Ss.one (Cs.sc kint)), (282, Ss.one (Cs.sc kint))] [Ss.one (Cs.any), Ss.one (Cs.any)]), ([.inLoop [1, 1, 1, 1, 1, 1, 1, 1, 1, 1, 1, 1, 1, 1, 0, 1, 0, 1, 1, 1, 0, 1, 0, 0], .inBlock 2, .code [1, 1, 1, 1, 1, 1, 1, 1, 1, 1, 1, 1, 1, 1, 0, 1, 0, 1, 1, 1, 1], .code [1, 1, 1, 1, 1, 1, 1, 1, 1, 1, 1, 1, 1, 1, 1]], Shape.mk [Bs.row kuint8 5 false, Bs.row kint 3 false, Bs.row kint 3 true, Bs.row kint 3 false] [(1, Ss.one (Cs.sl 0)), (5, Ss.one (Cs.sl 1)), (6, Ss.one (Cs.sc kint)), (7, Ss.one (Cs.sc kint)), (16, Ss.one (Cs.sc kint)), (24, Ss.one (Cs.sl 2)), (28, Ss.one (Cs.sc kint)), (29, Ss.one (Cs.sc kint)), (30, Ss.one (Cs.sc kint)), (31, Ss.one (Cs.sc kint)), (309, Ss.one (Cs.sl 3)), (310, Ss.one (Cs.sc kint)), (311, Ss.one (Cs.sc kint))] [Ss.one (Cs.any), Ss.one (Cs.any)]), ([.inLoop [1, 1, 1, 1, 1, 1, 1, 1, 1, 1, 1, 1, 1, 1, 0, 1, 0, 1, 1, 1, 1, 1, 0, 1, 0, 0], .inBlock 4, .code [1, 1, 1, 1, 1, 1, 1, 1, 1, 1, 1, 1, 1, 1, 0, 1, 0, 1, 1, 1, 1, 1, 1], .code [1, 1, 1, 1, 1, 1, 1, 1, 1, 1, 1, 1, 1, 1, 1]], Shape.mk [Bs.row kuint8 5 false, Bs.row kint 3 false, Bs.row kint 3 true] [(1, Ss.one (Cs.sl 0)), (5, Ss.one (Cs.sl 1)), (24, Ss.one (Cs.sl 2)), (356, Ss.one (Cs.sl 2)), (357, Ss.one (Cs.sc kint)), (358, Ss.one (Cs.sc kint))] [Ss.one (Cs.any), Ss.one (Cs.any)]), ([.inLoop [1, 1, 1, 1, 1, 1, 1, 1, 1, 1, 1, 1, 1, 1, 1, 1, 1, 1, 1, 1, 1, 1, 1, 1, 1, 1, 1, 1, 1, 1, 1, 1, 1, 1, 1, 1, 1, 1, 0, 1, 0, 1, 0, 0], .inBlock 6, .code [1, 1, 1, 1, 1, 1, 1, 1, 1, 1, 1, 1, 1, 1, 1, 1, 1, 1, 1, 1, 1, 1, 1, 1, 1, 1, 1, 1, 1, 1, 1, 1, 1, 1, 1, 1, 1, 1, 1]], Shape.mk [Bs.row kint 3 true, Bs.row kint 3 true, Bs.row kint 3 true, Bs.row kint 3 true] [(56, Ss.one (Cs.sl 0)), (57, Ss.one (Cs.sl 1)), (61, Ss.one (Cs.sc kint)), (62, Ss.one (Cs.sc kint)), (63, Ss.one (Cs.sc kint)), (64, Ss.one (Cs.sc kint)), (65, Ss.one (Cs.sc kbool)), (69, Ss.one (Cs.sc kstring)), (70, Ss.one (Cs.sl 2)), (71, Ss.one (Cs.sc kbool)), (74, Ss.one (Cs.sl 3)), (75, Ss.one (Cs.sc kstring)), (76, Ss.one (Cs.sc kbool)), (623, Ss.one (Cs.sc kint)), (624, Ss.one (Cs.sc kint))] [Ss.one (Cs.any), Ss.one (Cs.any)])], fuel := 400, dr := evDr (env 696 [(35, S_w_big), (36, S_s_DrawFirstRolls), (5, S_i_FirstRolls), (6, S_s_FirstRolls), (7, S_i_FewestRolls), (8, S_s_FewestRolls), (9, S_i_LeastLength), (10, S_s_LeastLength), (11, S_i_RollsOfLeast), (12, S_s_RollsOfLeast), (13, S_i_CoverPlan), (14, S_s_CoverPlan), (15, S_w_wSame), (16, S_i_AreRolls), (17, S_s_AreRolls), (18, S_w_wRises), (19, S_i_JoinsOfPlan), (37, S_s_DrawStepsOfRolls), (20, S_i_StepsOfRolls), (21, S_s_StepsOfRolls), (22, S_i_RestOfRolls), (23, S_s_RestOfRolls), (38, S_s_DrawGreatestNeed), (24, S_i_GreatestNeed), (25, S_s_GreatestNeed), (39, S_s_DrawJoinsOfPlan), (26, S_s_JoinsOfPlan), (40, S_s_DrawStepsOfRoll), (27, S_i_StepsOfRoll), (28, S_s_StepsOfRoll), (41, S_s_DrawParseRolls), (29, S_i_ParseRolls), (30, S_s_ParseRolls), (42, S_s_DrawRollsText), (31, S_i_RollsText), (32, S_s_RollsText), (33, S_w_wSum), (34, S_w_wHas)] []) }
noncomputable def w_FnCarpetsCut_t1 (g1 : List (Int) → List (Int) → List (Int) → List (Int) → List (Int) → Int → Int → Bool → Int → Int → Option (Bool)) (g2 : List (Int) → Option (Bool)) (g3 : List (Int) → List (Int) → List (Int) → List (Int) → List (Int) → Int → Int → Bool → Bool → Int → Int → Int → Int → Bool → ByteArray → Bool → ByteArray → Bool → Option (Bool)) (g4 : List (Int) → List (Int) → List (Int) → List (Int) → Bool → Int → Int → Int → Int → Bool → ByteArray → Bool → ByteArray → Bool → Option (Bool)) (g5 : List (Int) → List (Int) → Int → Int → Int → Int → Bool → ByteArray → Bool → ByteArray → Bool → Option (Bool)) (g6 : List (Int) → List (Int) → ByteArray → Bool → ByteArray → Bool → Option (Bool)) (g7 : List (Int) → ByteArray → Bool → Option (Bool)) (g8 : List (Int) → List (Int) → List (Int) → List (Int) → List (Int) → Int → Int → Int → Int → Int → Int → Int → Int → Int → Option (Bool)) (g9 : List (Int) → List (Int) → List (Int) → List (Int) → Int → Int → Int → Int → Int → Int → Int → Int → Int → Option (Bool)) (g10 : List (Int) → List (Int) → List (Int) → Int → Int → Option (Bool)) (g11 : List (Int) → List (Int) → List (Int) → List (Int) → Int → Int → Int → Int → Bool → ByteArray → Bool → ByteArray → Bool → Int → Int → Option (Bool)) (r0 : List (Int)) (r1 : List (Int)) (r2 : List (Int)) (r3 : List (Int)) (r4 : List (Int)) (steps6 : Int) (need7 : Int) (ok9 : Bool) (few12 : Int) (least16 : Int) : Option Bool :=
  bif ok9 then
    Option.bind (w_wRises r2) fun r =>
      bif !r then some false
      else
        Option.bind (w_wRises r3) fun r =>
          bif !r then some false
          else
            bif (↑(List.length r2) : Int) != few12 then some false
            else
              bif decide ((↑(List.length r3) : Int) < few12) then some false
              else bif (↑(List.length r4) : Int) != steps6 then some false else g8 r0 r1 r3 r4 r2 steps6 need7 least16 0 0 0 0 (↑(List.length r2) : Int) 0
  else g2 r0
noncomputable def w_FnCarpetsCut_t2 (g1 : List (Int) → List (Int) → List (Int) → List (Int) → List (Int) → Int → Int → Bool → Int → Int → Option (Bool)) (g2 : List (Int) → Option (Bool)) (g3 : List (Int) → List (Int) → List (Int) → List (Int) → List (Int) → Int → Int → Bool → Bool → Int → Int → Int → Int → Bool → ByteArray → Bool → ByteArray → Bool → Option (Bool)) (g4 : List (Int) → List (Int) → List (Int) → List (Int) → Bool → Int → Int → Int → Int → Bool → ByteArray → Bool → ByteArray → Bool → Option (Bool)) (g5 : List (Int) → List (Int) → Int → Int → Int → Int → Bool → ByteArray → Bool → ByteArray → Bool → Option (Bool)) (g6 : List (Int) → List (Int) → ByteArray → Bool → ByteArray → Bool → Option (Bool)) (g7 : List (Int) → ByteArray → Bool → Option (Bool)) (g8 : List (Int) → List (Int) → List (Int) → List (Int) → List (Int) → Int → Int → Int → Int → Int → Int → Int → Int → Int → Option (Bool)) (g9 : List (Int) → List (Int) → List (Int) → List (Int) → Int → Int → Int → Int → Int → Int → Int → Int → Int → Option (Bool)) (g10 : List (Int) → List (Int) → List (Int) → Int → Int → Option (Bool)) (g11 : List (Int) → List (Int) → List (Int) → List (Int) → Int → Int → Int → Int → Bool → ByteArray → Bool → ByteArray → Bool → Int → Int → Option (Bool)) (r0 : List (Int)) : Option Bool :=
  Option.bind (s_DrawStepsOfRolls r0) fun r =>
    Option.bind (i_StepsOfRolls (Prod.fst r) (Prod.snd r)) fun r_1 =>
      Option.bind (s_StepsOfRolls (Prod.fst r) (Prod.snd r)) fun r_2 =>
        Option.bind (i_RestOfRolls (Prod.fst r) (Prod.snd r)) fun r_3 =>
          Option.bind (s_RestOfRolls (Prod.fst r) (Prod.snd r)) fun r_4 =>
            Option.bind (s_DrawGreatestNeed r0) fun r_5 =>
              Option.bind (i_GreatestNeed (Prod.fst r_5) (Prod.snd r_5)) fun r_6 =>
                Option.bind (s_GreatestNeed (Prod.fst r_5) (Prod.snd r_5)) fun r_7 =>
                  Option.bind (s_DrawJoinsOfPlan r0) fun r_8 =>
                    Option.bind (i_JoinsOfPlan r_8) fun r_9 =>
                      Option.bind (s_JoinsOfPlan r_8) fun r_10 =>
                        Option.bind (s_DrawStepsOfRoll r0) fun r_11 =>
                          Option.bind (i_StepsOfRoll (Prod.fst r_11) (Prod.snd r_11)) fun r_12 =>
                            Option.bind (s_StepsOfRoll (Prod.fst r_11) (Prod.snd r_11)) fun r_13 =>
                              Option.bind (s_DrawParseRolls r0) fun r_14 =>
                                Option.bind (i_ParseRolls r_14) fun r_15 =>
                                  Option.bind (s_ParseRolls r_14) fun r_16 =>
                                    Option.bind (s_DrawRollsText r0) fun r_17 =>
                                      Option.bind (i_RollsText r_17) fun r_18 =>
                                        Option.bind (s_RollsText r_17) fun r_19 =>
                                          bif !Prod.snd r_1 == Prod.snd r_2 then some false
                                          else
                                            bif Prod.fst r_1 != Prod.fst r_2 then some false
                                            else
                                              bif !Prod.snd r_3 == Prod.snd r_4 then some false
                                              else
                                                bif Prod.fst r_3 != Prod.fst r_4 then some false
                                                else
                                                  bif !Prod.snd r_6 == Prod.snd r_7 then some false
                                                  else
                                                    bif Prod.fst r_6 != Prod.fst r_7 then some false
                                                    else
                                                      bif !Prod.snd r_9 == Prod.snd r_10 then some false
                                                      else
                                                        Option.bind (w_wSame (Prod.fst r_9) (Prod.fst r_10)) fun r_20 =>
                                                          bif !r_20 then some false
                                                          else
                                                            bif !Prod.snd (Prod.snd r_12) == Prod.snd (Prod.snd r_13) then some false
                                                            else
                                                              bif Prod.fst r_12 != Prod.fst r_13 then some false
                                                              else
                                                                bif Prod.fst (Prod.snd r_12) != Prod.fst (Prod.snd r_13) then some false
                                                                else
                                                                  bif !Prod.snd r_15 == Prod.snd r_16 then some false
                                                                  else
                                                                    Option.bind (w_wSame (Prod.fst r_15) (Prod.fst r_16)) fun r_21 =>
                                                                      bif !r_21 then some false
                                                                      else
                                                                        bif !Prod.snd r_18 == Prod.snd r_19 then some false
                                                                        else
                                                                          bif !ByteArray.toList (Prod.fst r_18) == ByteArray.toList (Prod.fst r_19) then
                                                                            some false
                                                                          else
                                                                            bif !Prod.snd r_3 == Prod.snd r_1 then some false
                                                                            else
                                                                              bif Prod.snd r_1 then
                                                                                Option.bind (w_wSum (Prod.fst r)) fun r_22 =>
                                                                                  bif
                                                                                      IntKind.wrap IntKind.i64
                                                                                          (IntKind.wrap IntKind.i64 (Prod.fst r_1 * Prod.snd r) + Prod.fst r_3) !=
                                                                                        r_22 then
                                                                                    some false
                                                                                  else
                                                                                    g3 (Prod.fst r_5) r_8 (Prod.fst r_9) (Prod.fst r_15) r_17 (Prod.snd r_5)
                                                                                      (Prod.fst r_6) (Prod.snd r_6) (Prod.snd r_9) (Prod.fst r_11) (Prod.snd r_11)
                                                                                      (Prod.fst r_12) (Prod.fst (Prod.snd r_12)) (Prod.snd (Prod.snd r_12)) r_14
                                                                                      (Prod.snd r_15) (Prod.fst r_18) (Prod.snd r_18)
                                                                              else
                                                                                g3 (Prod.fst r_5) r_8 (Prod.fst r_9) (Prod.fst r_15) r_17 (Prod.snd r_5)
                                                                                  (Prod.fst r_6) (Prod.snd r_6) (Prod.snd r_9) (Prod.fst r_11) (Prod.snd r_11)
                                                                                  (Prod.fst r_12) (Prod.fst (Prod.snd r_12)) (Prod.snd (Prod.snd r_12)) r_14
                                                                                  (Prod.snd r_15) (Prod.fst r_18) (Prod.snd r_18)
noncomputable def w_FnCarpetsCut_t3 (g1 : List (Int) → List (Int) → List (Int) → List (Int) → List (Int) → Int → Int → Bool → Int → Int → Option (Bool)) (g2 : List (Int) → Option (Bool)) (g3 : List (Int) → List (Int) → List (Int) → List (Int) → List (Int) → Int → Int → Bool → Bool → Int → Int → Int → Int → Bool → ByteArray → Bool → ByteArray → Bool → Option (Bool)) (g4 : List (Int) → List (Int) → List (Int) → List (Int) → Bool → Int → Int → Int → Int → Bool → ByteArray → Bool → ByteArray → Bool → Option (Bool)) (g5 : List (Int) → List (Int) → Int → Int → Int → Int → Bool → ByteArray → Bool → ByteArray → Bool → Option (Bool)) (g6 : List (Int) → List (Int) → ByteArray → Bool → ByteArray → Bool → Option (Bool)) (g7 : List (Int) → ByteArray → Bool → Option (Bool)) (g8 : List (Int) → List (Int) → List (Int) → List (Int) → List (Int) → Int → Int → Int → Int → Int → Int → Int → Int → Int → Option (Bool)) (g9 : List (Int) → List (Int) → List (Int) → List (Int) → Int → Int → Int → Int → Int → Int → Int → Int → Int → Option (Bool)) (g10 : List (Int) → List (Int) → List (Int) → Int → Int → Option (Bool)) (g11 : List (Int) → List (Int) → List (Int) → List (Int) → Int → Int → Int → Int → Bool → ByteArray → Bool → ByteArray → Bool → Int → Int → Option (Bool)) (r0 : List (Int)) (r1 : List (Int)) (r2 : List (Int)) (r3 : List (Int)) (r4 : List (Int)) (many51 : Int) (great52 : Int) (thirteen53 : Bool) (fifteen58 : Bool) (a61 : Int) (b62 : Int) (whole63 : Int) (left64 : Int) (seventeen65 : Bool) (t69 : ByteArray) (nineteen71 : Bool) (text75 : ByteArray) (last76 : Bool) : Option Bool :=
  bif thirteen53 then
    Option.bind (i_StepsOfRolls r0 great52) fun r =>
      bif !Prod.snd r then some false
      else
        bif decide (Prod.fst r < many51) then some false
        else
          bif decide (great52 < 100) then
            Option.bind (i_StepsOfRolls r0 (IntKind.wrap IntKind.i64 (great52 + 1))) fun r =>
              bif !Prod.snd r then some false
              else bif decide (Prod.fst r ≥ many51) then some false else g4 r1 r2 r3 r4 fifteen58 a61 b62 whole63 left64 seventeen65 t69 nineteen71 text75 last76
          else g4 r1 r2 r3 r4 fifteen58 a61 b62 whole63 left64 seventeen65 t69 nineteen71 text75 last76
  else g4 r1 r2 r3 r4 fifteen58 a61 b62 whole63 left64 seventeen65 t69 nineteen71 text75 last76
noncomputable def w_FnCarpetsCut_t4 (g1 : List (Int) → List (Int) → List (Int) → List (Int) → List (Int) → Int → Int → Bool → Int → Int → Option (Bool)) (g2 : List (Int) → Option (Bool)) (g3 : List (Int) → List (Int) → List (Int) → List (Int) → List (Int) → Int → Int → Bool → Bool → Int → Int → Int → Int → Bool → ByteArray → Bool → ByteArray → Bool → Option (Bool)) (g4 : List (Int) → List (Int) → List (Int) → List (Int) → Bool → Int → Int → Int → Int → Bool → ByteArray → Bool → ByteArray → Bool → Option (Bool)) (g5 : List (Int) → List (Int) → Int → Int → Int → Int → Bool → ByteArray → Bool → ByteArray → Bool → Option (Bool)) (g6 : List (Int) → List (Int) → ByteArray → Bool → ByteArray → Bool → Option (Bool)) (g7 : List (Int) → ByteArray → Bool → Option (Bool)) (g8 : List (Int) → List (Int) → List (Int) → List (Int) → List (Int) → Int → Int → Int → Int → Int → Int → Int → Int → Int → Option (Bool)) (g9 : List (Int) → List (Int) → List (Int) → List (Int) → Int → Int → Int → Int → Int → Int → Int → Int → Int → Option (Bool)) (g10 : List (Int) → List (Int) → List (Int) → Int → Int → Option (Bool)) (g11 : List (Int) → List (Int) → List (Int) → List (Int) → Int → Int → Int → Int → Bool → ByteArray → Bool → ByteArray → Bool → Int → Int → Option (Bool)) (r0 : List (Int)) (r1 : List (Int)) (r2 : List (Int)) (r3 : List (Int)) (fifteen58 : Bool) (a61 : Int) (b62 : Int) (whole63 : Int) (left64 : Int) (seventeen65 : Bool) (t69 : ByteArray) (nineteen71 : Bool) (text75 : ByteArray) (last76 : Bool) : Option Bool :=
  bif fifteen58 then g11 r0 r1 r2 r3 a61 b62 whole63 left64 seventeen65 t69 nineteen71 text75 last76 (↑(List.length r0) : Int) 0
  else g5 r2 r3 a61 b62 whole63 left64 seventeen65 t69 nineteen71 text75 last76
noncomputable def w_FnCarpetsCut_t5 (g1 : List (Int) → List (Int) → List (Int) → List (Int) → List (Int) → Int → Int → Bool → Int → Int → Option (Bool)) (g2 : List (Int) → Option (Bool)) (g3 : List (Int) → List (Int) → List (Int) → List (Int) → List (Int) → Int → Int → Bool → Bool → Int → Int → Int → Int → Bool → ByteArray → Bool → ByteArray → Bool → Option (Bool)) (g4 : List (Int) → List (Int) → List (Int) → List (Int) → Bool → Int → Int → Int → Int → Bool → ByteArray → Bool → ByteArray → Bool → Option (Bool)) (g5 : List (Int) → List (Int) → Int → Int → Int → Int → Bool → ByteArray → Bool → ByteArray → Bool → Option (Bool)) (g6 : List (Int) → List (Int) → ByteArray → Bool → ByteArray → Bool → Option (Bool)) (g7 : List (Int) → ByteArray → Bool → Option (Bool)) (g8 : List (Int) → List (Int) → List (Int) → List (Int) → List (Int) → Int → Int → Int → Int → Int → Int → Int → Int → Int → Option (Bool)) (g9 : List (Int) → List (Int) → List (Int) → List (Int) → Int → Int → Int → Int → Int → Int → Int → Int → Int → Option (Bool)) (g10 : List (Int) → List (Int) → List (Int) → Int → Int → Option (Bool)) (g11 : List (Int) → List (Int) → List (Int) → List (Int) → Int → Int → Int → Int → Bool → ByteArray → Bool → ByteArray → Bool → Int → Int → Option (Bool)) (r0 : List (Int)) (r1 : List (Int)) (a61 : Int) (b62 : Int) (whole63 : Int) (left64 : Int) (seventeen65 : Bool) (t69 : ByteArray) (nineteen71 : Bool) (text75 : ByteArray) (last76 : Bool) : Option Bool :=
  bif seventeen65 then
    bif decide (whole63 < 0) then some false
    else
      bif decide (left64 < 0) then some false
      else
        bif decide (left64 ≥ b62) then some false
        else bif IntKind.wrap IntKind.i64 (IntKind.wrap IntKind.i64 (whole63 * b62) + left64) != a61 then some false else g6 r0 r1 t69 nineteen71 text75 last76
  else g6 r0 r1 t69 nineteen71 text75 last76
noncomputable def w_FnCarpetsCut_t6 (g1 : List (Int) → List (Int) → List (Int) → List (Int) → List (Int) → Int → Int → Bool → Int → Int → Option (Bool)) (g2 : List (Int) → Option (Bool)) (g3 : List (Int) → List (Int) → List (Int) → List (Int) → List (Int) → Int → Int → Bool → Bool → Int → Int → Int → Int → Bool → ByteArray → Bool → ByteArray → Bool → Option (Bool)) (g4 : List (Int) → List (Int) → List (Int) → List (Int) → Bool → Int → Int → Int → Int → Bool → ByteArray → Bool → ByteArray → Bool → Option (Bool)) (g5 : List (Int) → List (Int) → Int → Int → Int → Int → Bool → ByteArray → Bool → ByteArray → Bool → Option (Bool)) (g6 : List (Int) → List (Int) → ByteArray → Bool → ByteArray → Bool → Option (Bool)) (g7 : List (Int) → ByteArray → Bool → Option (Bool)) (g8 : List (Int) → List (Int) → List (Int) → List (Int) → List (Int) → Int → Int → Int → Int → Int → Int → Int → Int → Int → Option (Bool)) (g9 : List (Int) → List (Int) → List (Int) → List (Int) → Int → Int → Int → Int → Int → Int → Int → Int → Int → Option (Bool)) (g10 : List (Int) → List (Int) → List (Int) → Int → Int → Option (Bool)) (g11 : List (Int) → List (Int) → List (Int) → List (Int) → Int → Int → Int → Int → Bool → ByteArray → Bool → ByteArray → Bool → Int → Int → Option (Bool)) (r0 : List (Int)) (r1 : List (Int)) (t69 : ByteArray) (nineteen71 : Bool) (text75 : ByteArray) (last76 : Bool) : Option Bool :=
  bif last76 then
    Option.bind (i_ParseRolls text75) fun r =>
      bif !Prod.snd r then some false else Option.bind (w_wSame (Prod.fst r) r1) fun r => bif !r then some false else g7 r0 t69 nineteen71
  else g7 r0 t69 nineteen71
noncomputable def w_FnCarpetsCut_t7 (g1 : List (Int) → List (Int) → List (Int) → List (Int) → List (Int) → Int → Int → Bool → Int → Int → Option (Bool)) (g2 : List (Int) → Option (Bool)) (g3 : List (Int) → List (Int) → List (Int) → List (Int) → List (Int) → Int → Int → Bool → Bool → Int → Int → Int → Int → Bool → ByteArray → Bool → ByteArray → Bool → Option (Bool)) (g4 : List (Int) → List (Int) → List (Int) → List (Int) → Bool → Int → Int → Int → Int → Bool → ByteArray → Bool → ByteArray → Bool → Option (Bool)) (g5 : List (Int) → List (Int) → Int → Int → Int → Int → Bool → ByteArray → Bool → ByteArray → Bool → Option (Bool)) (g6 : List (Int) → List (Int) → ByteArray → Bool → ByteArray → Bool → Option (Bool)) (g7 : List (Int) → ByteArray → Bool → Option (Bool)) (g8 : List (Int) → List (Int) → List (Int) → List (Int) → List (Int) → Int → Int → Int → Int → Int → Int → Int → Int → Int → Option (Bool)) (g9 : List (Int) → List (Int) → List (Int) → List (Int) → Int → Int → Int → Int → Int → Int → Int → Int → Int → Option (Bool)) (g10 : List (Int) → List (Int) → List (Int) → Int → Int → Option (Bool)) (g11 : List (Int) → List (Int) → List (Int) → List (Int) → Int → Int → Int → Int → Bool → ByteArray → Bool → ByteArray → Bool → Int → Int → Option (Bool)) (r0 : List (Int)) (t69 : ByteArray) (nineteen71 : Bool) : Option Bool :=
  bif nineteen71 then Option.bind (i_RollsText r0) fun r => bif Prod.snd r then some (ByteArray.toList (Prod.fst r) == ByteArray.toList t69) else some false
  else some true
noncomputable def w_FnCarpetsCut_t8 (g1 : List (Int) → List (Int) → List (Int) → List (Int) → List (Int) → Int → Int → Bool → Int → Int → Option (Bool)) (g2 : List (Int) → Option (Bool)) (g3 : List (Int) → List (Int) → List (Int) → List (Int) → List (Int) → Int → Int → Bool → Bool → Int → Int → Int → Int → Bool → ByteArray → Bool → ByteArray → Bool → Option (Bool)) (g4 : List (Int) → List (Int) → List (Int) → List (Int) → Bool → Int → Int → Int → Int → Bool → ByteArray → Bool → ByteArray → Bool → Option (Bool)) (g5 : List (Int) → List (Int) → Int → Int → Int → Int → Bool → ByteArray → Bool → ByteArray → Bool → Option (Bool)) (g6 : List (Int) → List (Int) → ByteArray → Bool → ByteArray → Bool → Option (Bool)) (g7 : List (Int) → ByteArray → Bool → Option (Bool)) (g8 : List (Int) → List (Int) → List (Int) → List (Int) → List (Int) → Int → Int → Int → Int → Int → Int → Int → Int → Int → Option (Bool)) (g9 : List (Int) → List (Int) → List (Int) → List (Int) → Int → Int → Int → Int → Int → Int → Int → Int → Int → Option (Bool)) (g10 : List (Int) → List (Int) → List (Int) → Int → Int → Option (Bool)) (g11 : List (Int) → List (Int) → List (Int) → List (Int) → Int → Int → Int → Int → Bool → ByteArray → Bool → ByteArray → Bool → Int → Int → Option (Bool)) (r0 : List (Int)) (r1 : List (Int)) (r2 : List (Int)) (r3 : List (Int)) (r4 : List (Int)) (steps6 : Int) (need7 : Int) (least16 : Int) (covered28 : Int) (long29 : Int) (other30 : Int) (length31 : Int) (s281 : Int) (s282 : Int) : Option Bool :=
  bif decide (s282 < s281) then
    bif decide (0 ≤ s282) then
      bif decide (s282 < (↑(List.length r4) : Int)) then
        bif decide (rdk kint r4 s282 < 0) then some false
        else
          bif decide (rdk kint r4 s282 ≥ (↑(List.length r1) : Int)) then some false
          else
            bif decide (0 ≤ rdk kint r4 s282) then
              bif decide (rdk kint r4 s282 < (↑(List.length r1) : Int)) then
                bif need7 == 0 then none
                else
                  bif decide (0 ≤ rdk kint r4 s282) then
                    bif decide (rdk kint r4 s282 < (↑(List.length r1) : Int)) then
                      g8 r0 r1 r2 r3 r4 steps6 need7 least16
                        (IntKind.wrap IntKind.i64
                          (covered28 + IntKind.wrap IntKind.i64 (Int.tdiv (rdk kint r1 (rdk kint r4 s282)) need7)))
                        long29 other30 (IntKind.wrap IntKind.i64 (length31 + rdk kint r1 (rdk kint r4 s282))) s281
                        (IntKind.wrap IntKind.i64 (s282 + 1))
                    else none
                  else none
              else none
            else none
      else none
    else none
  else g9 r0 r1 r3 r2 steps6 need7 least16 covered28 long29 other30 length31 (↑(List.length r2) : Int) 0
noncomputable def w_FnCarpetsCut_t9 (g1 : List (Int) → List (Int) → List (Int) → List (Int) → List (Int) → Int → Int → Bool → Int → Int → Option (Bool)) (g2 : List (Int) → Option (Bool)) (g3 : List (Int) → List (Int) → List (Int) → List (Int) → List (Int) → Int → Int → Bool → Bool → Int → Int → Int → Int → Bool → ByteArray → Bool → ByteArray → Bool → Option (Bool)) (g4 : List (Int) → List (Int) → List (Int) → List (Int) → Bool → Int → Int → Int → Int → Bool → ByteArray → Bool → ByteArray → Bool → Option (Bool)) (g5 : List (Int) → List (Int) → Int → Int → Int → Int → Bool → ByteArray → Bool → ByteArray → Bool → Option (Bool)) (g6 : List (Int) → List (Int) → ByteArray → Bool → ByteArray → Bool → Option (Bool)) (g7 : List (Int) → ByteArray → Bool → Option (Bool)) (g8 : List (Int) → List (Int) → List (Int) → List (Int) → List (Int) → Int → Int → Int → Int → Int → Int → Int → Int → Int → Option (Bool)) (g9 : List (Int) → List (Int) → List (Int) → List (Int) → Int → Int → Int → Int → Int → Int → Int → Int → Int → Option (Bool)) (g10 : List (Int) → List (Int) → List (Int) → Int → Int → Option (Bool)) (g11 : List (Int) → List (Int) → List (Int) → List (Int) → Int → Int → Int → Int → Bool → ByteArray → Bool → ByteArray → Bool → Int → Int → Option (Bool)) (r0 : List (Int)) (r1 : List (Int)) (r2 : List (Int)) (r3 : List (Int)) (steps6 : Int) (need7 : Int) (least16 : Int) (covered28 : Int) (long29 : Int) (other30 : Int) (length31 : Int) (s310 : Int) (s311 : Int) : Option Bool :=
  bif decide (s311 < s310) then
    bif decide (0 ≤ s311) then
      bif decide (s311 < (↑(List.length r3) : Int)) then
        bif decide (rdk kint r3 s311 < 0) then some false
        else
          bif decide (rdk kint r3 s311 ≥ (↑(List.length r1) : Int)) then some false
          else
            bif decide (0 ≤ rdk kint r3 s311) then
              bif decide (rdk kint r3 s311 < (↑(List.length r1) : Int)) then
                bif need7 == 0 then none
                else
                  bif decide (0 ≤ rdk kint r3 s311) then
                    bif decide (rdk kint r3 s311 < (↑(List.length r1) : Int)) then
                      g9 r0 r1 r2 r3 steps6 need7 least16 covered28
                        (IntKind.wrap IntKind.i64 (long29 + rdk kint r1 (rdk kint r3 s311)))
                        (IntKind.wrap IntKind.i64
                          (other30 + IntKind.wrap IntKind.i64 (Int.tdiv (rdk kint r1 (rdk kint r3 s311)) need7)))
                        length31 s310 (IntKind.wrap IntKind.i64 (s311 + 1))
                    else none
                  else none
              else none
            else none
      else none
    else none
  else
    bif decide (covered28 < steps6) then some false
    else
      bif decide (other30 < steps6) then some false
      else bif long29 != least16 then some false else bif decide (length31 < least16) then some false else g10 r0 r1 r2 (↑(List.length r2) : Int) 0
noncomputable def w_FnCarpetsCut_t10 (g1 : List (Int) → List (Int) → List (Int) → List (Int) → List (Int) → Int → Int → Bool → Int → Int → Option (Bool)) (g2 : List (Int) → Option (Bool)) (g3 : List (Int) → List (Int) → List (Int) → List (Int) → List (Int) → Int → Int → Bool → Bool → Int → Int → Int → Int → Bool → ByteArray → Bool → ByteArray → Bool → Option (Bool)) (g4 : List (Int) → List (Int) → List (Int) → List (Int) → Bool → Int → Int → Int → Int → Bool → ByteArray → Bool → ByteArray → Bool → Option (Bool)) (g5 : List (Int) → List (Int) → Int → Int → Int → Int → Bool → ByteArray → Bool → ByteArray → Bool → Option (Bool)) (g6 : List (Int) → List (Int) → ByteArray → Bool → ByteArray → Bool → Option (Bool)) (g7 : List (Int) → ByteArray → Bool → Option (Bool)) (g8 : List (Int) → List (Int) → List (Int) → List (Int) → List (Int) → Int → Int → Int → Int → Int → Int → Int → Int → Int → Option (Bool)) (g9 : List (Int) → List (Int) → List (Int) → List (Int) → Int → Int → Int → Int → Int → Int → Int → Int → Int → Option (Bool)) (g10 : List (Int) → List (Int) → List (Int) → Int → Int → Option (Bool)) (g11 : List (Int) → List (Int) → List (Int) → List (Int) → Int → Int → Int → Int → Bool → ByteArray → Bool → ByteArray → Bool → Int → Int → Option (Bool)) (r0 : List (Int)) (r1 : List (Int)) (r2 : List (Int)) (s357 : Int) (s358 : Int) : Option Bool :=
  bif decide (s358 < s357) then
    bif decide (0 ≤ s358) then
      bif decide (s358 < (↑(List.length r2) : Int)) then
        bif decide (rdk kint r2 s358 < 0) then some false
        else
          bif decide (rdk kint r2 s358 ≥ (↑(List.length r1) : Int)) then some false
          else
            bif decide (s358 > 0) then
              bif decide (0 ≤ IntKind.wrap IntKind.i64 (s358 - 1)) then
                bif decide (IntKind.wrap IntKind.i64 (s358 - 1) < (↑(List.length r2) : Int)) then
                  bif decide (rdk kint r2 (IntKind.wrap IntKind.i64 (s358 - 1)) > rdk kint r2 s358) then some false
                  else g10 r0 r1 r2 s357 (IntKind.wrap IntKind.i64 (s358 + 1))
                else none
              else none
            else g10 r0 r1 r2 s357 (IntKind.wrap IntKind.i64 (s358 + 1))
      else none
    else none
  else
    Option.bind (i_JoinsOfPlan r2) fun r =>
      bif !Prod.snd r then some false else bif decide ((↑(List.length (Prod.fst r)) : Int) ≥ (↑(List.length r1) : Int)) then some false else g2 r0
noncomputable def w_FnCarpetsCut_t11 (g1 : List (Int) → List (Int) → List (Int) → List (Int) → List (Int) → Int → Int → Bool → Int → Int → Option (Bool)) (g2 : List (Int) → Option (Bool)) (g3 : List (Int) → List (Int) → List (Int) → List (Int) → List (Int) → Int → Int → Bool → Bool → Int → Int → Int → Int → Bool → ByteArray → Bool → ByteArray → Bool → Option (Bool)) (g4 : List (Int) → List (Int) → List (Int) → List (Int) → Bool → Int → Int → Int → Int → Bool → ByteArray → Bool → ByteArray → Bool → Option (Bool)) (g5 : List (Int) → List (Int) → Int → Int → Int → Int → Bool → ByteArray → Bool → ByteArray → Bool → Option (Bool)) (g6 : List (Int) → List (Int) → ByteArray → Bool → ByteArray → Bool → Option (Bool)) (g7 : List (Int) → ByteArray → Bool → Option (Bool)) (g8 : List (Int) → List (Int) → List (Int) → List (Int) → List (Int) → Int → Int → Int → Int → Int → Int → Int → Int → Int → Option (Bool)) (g9 : List (Int) → List (Int) → List (Int) → List (Int) → Int → Int → Int → Int → Int → Int → Int → Int → Int → Option (Bool)) (g10 : List (Int) → List (Int) → List (Int) → Int → Int → Option (Bool)) (g11 : List (Int) → List (Int) → List (Int) → List (Int) → Int → Int → Int → Int → Bool → ByteArray → Bool → ByteArray → Bool → Int → Int → Option (Bool)) (r0 : List (Int)) (r1 : List (Int)) (r2 : List (Int)) (r3 : List (Int)) (a61 : Int) (b62 : Int) (whole63 : Int) (left64 : Int) (seventeen65 : Bool) (t69 : ByteArray) (nineteen71 : Bool) (text75 : ByteArray) (last76 : Bool) (s623 : Int) (s624 : Int) : Option Bool :=
  bif decide (s624 < s623) then
    Option.bind (w_wHas r1 (IntKind.wrap IntKind.i64 (s624 + 1))) fun r =>
      bif decide (s624 > 0) then
        bif decide (0 ≤ s624) then
          bif decide (s624 < (↑(List.length r0) : Int)) then
            bif decide (0 ≤ IntKind.wrap IntKind.i64 (s624 - 1)) then
              bif decide (IntKind.wrap IntKind.i64 (s624 - 1) < (↑(List.length r0) : Int)) then
                bif !r == (rdk kint r0 s624 != rdk kint r0 (IntKind.wrap IntKind.i64 (s624 - 1))) then some false
                else g11 r0 r1 r2 r3 a61 b62 whole63 left64 seventeen65 t69 nineteen71 text75 last76 s623 (IntKind.wrap IntKind.i64 (s624 + 1))
              else none
            else none
          else none
        else none
      else
        bif !r == false then some false
        else g11 r0 r1 r2 r3 a61 b62 whole63 left64 seventeen65 t69 nineteen71 text75 last76 s623 (IntKind.wrap IntKind.i64 (s624 + 1))
  else g5 r2 r3 a61 b62 whole63 left64 seventeen65 t69 nineteen71 text75 last76
noncomputable def w_FnCarpetsCut_t0 (g1 : List (Int) → List (Int) → List (Int) → List (Int) → List (Int) → Int → Int → Bool → Int → Int → Option (Bool)) (g2 : List (Int) → Option (Bool)) (g3 : List (Int) → List (Int) → List (Int) → List (Int) → List (Int) → Int → Int → Bool → Bool → Int → Int → Int → Int → Bool → ByteArray → Bool → ByteArray → Bool → Option (Bool)) (g4 : List (Int) → List (Int) → List (Int) → List (Int) → Bool → Int → Int → Int → Int → Bool → ByteArray → Bool → ByteArray → Bool → Option (Bool)) (g5 : List (Int) → List (Int) → Int → Int → Int → Int → Bool → ByteArray → Bool → ByteArray → Bool → Option (Bool)) (g6 : List (Int) → List (Int) → ByteArray → Bool → ByteArray → Bool → Option (Bool)) (g7 : List (Int) → ByteArray → Bool → Option (Bool)) (g8 : List (Int) → List (Int) → List (Int) → List (Int) → List (Int) → Int → Int → Int → Int → Int → Int → Int → Int → Int → Option (Bool)) (g9 : List (Int) → List (Int) → List (Int) → List (Int) → Int → Int → Int → Int → Int → Int → Int → Int → Int → Option (Bool)) (g10 : List (Int) → List (Int) → List (Int) → Int → Int → Option (Bool)) (g11 : List (Int) → List (Int) → List (Int) → List (Int) → Int → Int → Int → Int → Bool → ByteArray → Bool → ByteArray → Bool → Int → Int → Option (Bool)) (code0 : List Int) (more1 : List Int) : Option Bool :=
  bif w_big code0 more1 then some true
  else
    Option.bind (s_DrawFirstRolls code0) fun r =>
      Option.bind (i_FirstRolls (Prod.fst r) (Prod.fst (Prod.snd r)) (Prod.snd (Prod.snd r))) fun r_1 =>
        Option.bind (s_FirstRolls (Prod.fst r) (Prod.fst (Prod.snd r)) (Prod.snd (Prod.snd r))) fun r_2 =>
          Option.bind (i_FewestRolls (Prod.fst r) (Prod.fst (Prod.snd r)) (Prod.snd (Prod.snd r))) fun r_3 =>
            Option.bind (s_FewestRolls (Prod.fst r) (Prod.fst (Prod.snd r)) (Prod.snd (Prod.snd r))) fun r_4 =>
              Option.bind (i_LeastLength (Prod.fst r) (Prod.fst (Prod.snd r)) (Prod.snd (Prod.snd r))) fun r_5 =>
                Option.bind (s_LeastLength (Prod.fst r) (Prod.fst (Prod.snd r)) (Prod.snd (Prod.snd r))) fun r_6 =>
                  Option.bind (i_RollsOfLeast (Prod.fst r) (Prod.fst (Prod.snd r)) (Prod.snd (Prod.snd r))) fun r_7 =>
                    Option.bind (s_RollsOfLeast (Prod.fst r) (Prod.fst (Prod.snd r)) (Prod.snd (Prod.snd r))) fun r_8 =>
                      Option.bind (i_CoverPlan (Prod.fst r) (Prod.fst (Prod.snd r)) (Prod.snd (Prod.snd r))) fun r_9 =>
                        Option.bind (s_CoverPlan (Prod.fst r) (Prod.fst (Prod.snd r)) (Prod.snd (Prod.snd r))) fun r_10 =>
                          bif !Prod.snd r_1 == Prod.snd r_2 then some false
                          else
                            Option.bind (w_wSame (Prod.fst r_1) (Prod.fst r_2)) fun r_11 =>
                              bif !r_11 then some false
                              else
                                bif !Prod.snd r_3 == Prod.snd r_4 then some false
                                else
                                  bif Prod.fst r_3 != Prod.fst r_4 then some false
                                  else
                                    bif !Prod.snd r_5 == Prod.snd r_6 then some false
                                    else
                                      bif Prod.fst r_5 != Prod.fst r_6 then some false
                                      else
                                        bif !Prod.snd r_7 == Prod.snd r_8 then some false
                                        else
                                          Option.bind (w_wSame (Prod.fst r_7) (Prod.fst r_8)) fun r_12 =>
                                            bif !r_12 then some false
                                            else
                                              bif !Prod.snd r_9 == Prod.snd r_10 then some false
                                              else
                                                Option.bind (w_wSame (Prod.fst r_9) (Prod.fst r_10)) fun r_13 =>
                                                  bif !r_13 then some false
                                                  else
                                                    bif !Prod.snd r_3 == Prod.snd r_1 then some false
                                                    else
                                                      bif !Prod.snd r_5 == Prod.snd r_1 then some false
                                                      else
                                                        bif !Prod.snd r_7 == Prod.snd r_1 then some false
                                                        else
                                                          bif !Prod.snd r_9 == Prod.snd r_1 then some false
                                                          else
                                                            bif Prod.snd r_1 then
                                                              bif !i_AreRolls (Prod.fst r) then some false
                                                              else
                                                                bif !i_AreRolls (Prod.fst r) == s_AreRolls (Prod.fst r) then some false
                                                                else
                                                                  g1 more1 (Prod.fst r) (Prod.fst r_1) (Prod.fst r_7) (Prod.fst r_9) (Prod.fst (Prod.snd r))
                                                                    (Prod.snd (Prod.snd r)) (Prod.snd r_1) (Prod.fst r_3) (Prod.fst r_5)
                                                            else
                                                              bif !i_AreRolls (Prod.fst r) == s_AreRolls (Prod.fst r) then some false
                                                              else
                                                                g1 more1 (Prod.fst r) (Prod.fst r_1) (Prod.fst r_7) (Prod.fst r_9) (Prod.fst (Prod.snd r))
                                                                  (Prod.snd (Prod.snd r)) (Prod.snd r_1) (Prod.fst r_3) (Prod.fst r_5)
theorem w_FnCarpetsCut_ts : Tails c_w_FnCarpetsCut.pts c_w_FnCarpetsCut.round :=
  ⟨fun s => by
    obtain ⟨⟨r0, r1, r2, r3, r4, _⟩, ⟨_, _, steps6, need7, _, ok9, few12, least16, _, _, _⟩, ⟨_, _, _⟩⟩ := s
    refine Tail.eq (Y := fun g => w_FnCarpetsCut_t1 (fun r0 r1 r2 r3 r4 steps6 need7 ok9 few12 least16 => g.1 ((r0, r1, r2, r3, r4, ()), ((), (), steps6, need7, (), ok9, few12, least16, (), (), ()), ((), (), ()))) (fun r0 => g.2.1 ((r0, ()), ((), ()), ((), (), ()))) (fun r0 r1 r2 r3 r4 many51 great52 thirteen53 fifteen58 a61 b62 whole63 left64 seventeen65 t69 nineteen71 text75 last76 => g.2.2.1 ((r0, r1, r2, r3, r4, ()), ((), many51, great52, thirteen53, (), (), fifteen58, a61, b62, whole63, left64, seventeen65, t69, (), nineteen71, (), text75, last76, ()), ((), (), ()))) (fun r0 r1 r2 r3 fifteen58 a61 b62 whole63 left64 seventeen65 t69 nineteen71 text75 last76 => g.2.2.2.1 ((r0, r1, r2, r3, ()), ((), (), fifteen58, a61, b62, whole63, left64, seventeen65, t69, (), nineteen71, (), text75, last76, ()), ((), (), ()))) (fun r0 r1 a61 b62 whole63 left64 seventeen65 t69 nineteen71 text75 last76 => g.2.2.2.2.1 ((r0, r1, ()), (a61, b62, whole63, left64, seventeen65, t69, (), nineteen71, (), text75, last76, ()), ((), (), ()))) (fun r0 r1 t69 nineteen71 text75 last76 => g.2.2.2.2.2.1 ((r0, r1, ()), (t69, (), nineteen71, (), text75, last76, ()), ((), (), ()))) (fun r0 t69 nineteen71 => g.2.2.2.2.2.2.1 ((r0, ()), (t69, (), nineteen71, ()), ((), (), ()))) (fun r0 r1 r2 r3 r4 steps6 need7 least16 covered28 long29 other30 length31 s281 s282 => g.2.2.2.2.2.2.2.1 ((r0, r1, r2, r3, r4, ()), ((), (), steps6, need7, least16, (), (), covered28, long29, other30, length31, (), s281, s282, ()), ((), (), ()))) (fun r0 r1 r2 r3 steps6 need7 least16 covered28 long29 other30 length31 s310 s311 => g.2.2.2.2.2.2.2.2.1 ((r0, r1, r2, r3, ()), ((), (), steps6, need7, least16, (), covered28, long29, other30, length31, (), s310, s311, ()), ((), (), ()))) (fun r0 r1 r2 s357 s358 => g.2.2.2.2.2.2.2.2.2.1 ((r0, r1, r2, ()), ((), (), (), (), s357, s358, ()), ((), (), ()))) (fun r0 r1 r2 r3 a61 b62 whole63 left64 seventeen65 t69 nineteen71 text75 last76 s623 s624 => g.2.2.2.2.2.2.2.2.2.2.1 ((r0, r1, r2, r3, ()), ((), (), a61, b62, whole63, left64, seventeen65, t69, (), nineteen71, (), text75, last76, s623, s624, ()), ((), (), ()))) r0 r1 r2 r3 r4 steps6 need7 ok9 few12 least16) ?_ (fun g => by kernel_rfl)
    simp only [w_FnCarpetsCut_t1]; repeat (first | apply Tail.cond | (apply Tail.bind; intro _) | exact Tail.here _ | exact Tail.there (Tail.here _) | exact Tail.there (Tail.there (Tail.here _)) | exact Tail.there (Tail.there (Tail.there (Tail.here _))) | exact Tail.there (Tail.there (Tail.there (Tail.there (Tail.here _)))) | exact Tail.there (Tail.there (Tail.there (Tail.there (Tail.there (Tail.here _))))) | exact Tail.there (Tail.there (Tail.there (Tail.there (Tail.there (Tail.there (Tail.here _)))))) | exact Tail.there (Tail.there (Tail.there (Tail.there (Tail.there (Tail.there (Tail.there (Tail.here _))))))) | exact Tail.there (Tail.there (Tail.there (Tail.there (Tail.there (Tail.there (Tail.there (Tail.there (Tail.here _)))))))) | exact Tail.there (Tail.there (Tail.there (Tail.there (Tail.there (Tail.there (Tail.there (Tail.there (Tail.there (Tail.here _))))))))) | exact Tail.there (Tail.there (Tail.there (Tail.there (Tail.there (Tail.there (Tail.there (Tail.there (Tail.there (Tail.there (Tail.here _)))))))))) | exact Tail.const _),
  fun s => by
    obtain ⟨⟨r0, _⟩, ⟨_, _⟩, ⟨_, _, _⟩⟩ := s
    refine Tail.eq (Y := fun g => w_FnCarpetsCut_t2 (fun r0 r1 r2 r3 r4 steps6 need7 ok9 few12 least16 => g.1 ((r0, r1, r2, r3, r4, ()), ((), (), steps6, need7, (), ok9, few12, least16, (), (), ()), ((), (), ()))) (fun r0 => g.2.1 ((r0, ()), ((), ()), ((), (), ()))) (fun r0 r1 r2 r3 r4 many51 great52 thirteen53 fifteen58 a61 b62 whole63 left64 seventeen65 t69 nineteen71 text75 last76 => g.2.2.1 ((r0, r1, r2, r3, r4, ()), ((), many51, great52, thirteen53, (), (), fifteen58, a61, b62, whole63, left64, seventeen65, t69, (), nineteen71, (), text75, last76, ()), ((), (), ()))) (fun r0 r1 r2 r3 fifteen58 a61 b62 whole63 left64 seventeen65 t69 nineteen71 text75 last76 => g.2.2.2.1 ((r0, r1, r2, r3, ()), ((), (), fifteen58, a61, b62, whole63, left64, seventeen65, t69, (), nineteen71, (), text75, last76, ()), ((), (), ()))) (fun r0 r1 a61 b62 whole63 left64 seventeen65 t69 nineteen71 text75 last76 => g.2.2.2.2.1 ((r0, r1, ()), (a61, b62, whole63, left64, seventeen65, t69, (), nineteen71, (), text75, last76, ()), ((), (), ()))) (fun r0 r1 t69 nineteen71 text75 last76 => g.2.2.2.2.2.1 ((r0, r1, ()), (t69, (), nineteen71, (), text75, last76, ()), ((), (), ()))) (fun r0 t69 nineteen71 => g.2.2.2.2.2.2.1 ((r0, ()), (t69, (), nineteen71, ()), ((), (), ()))) (fun r0 r1 r2 r3 r4 steps6 need7 least16 covered28 long29 other30 length31 s281 s282 => g.2.2.2.2.2.2.2.1 ((r0, r1, r2, r3, r4, ()), ((), (), steps6, need7, least16, (), (), covered28, long29, other30, length31, (), s281, s282, ()), ((), (), ()))) (fun r0 r1 r2 r3 steps6 need7 least16 covered28 long29 other30 length31 s310 s311 => g.2.2.2.2.2.2.2.2.1 ((r0, r1, r2, r3, ()), ((), (), steps6, need7, least16, (), covered28, long29, other30, length31, (), s310, s311, ()), ((), (), ()))) (fun r0 r1 r2 s357 s358 => g.2.2.2.2.2.2.2.2.2.1 ((r0, r1, r2, ()), ((), (), (), (), s357, s358, ()), ((), (), ()))) (fun r0 r1 r2 r3 a61 b62 whole63 left64 seventeen65 t69 nineteen71 text75 last76 s623 s624 => g.2.2.2.2.2.2.2.2.2.2.1 ((r0, r1, r2, r3, ()), ((), (), a61, b62, whole63, left64, seventeen65, t69, (), nineteen71, (), text75, last76, s623, s624, ()), ((), (), ()))) r0) ?_ (fun g => by kernel_rfl)
    simp only [w_FnCarpetsCut_t2]; repeat (first | apply Tail.cond | (apply Tail.bind; intro _) | exact Tail.here _ | exact Tail.there (Tail.here _) | exact Tail.there (Tail.there (Tail.here _)) | exact Tail.there (Tail.there (Tail.there (Tail.here _))) | exact Tail.there (Tail.there (Tail.there (Tail.there (Tail.here _)))) | exact Tail.there (Tail.there (Tail.there (Tail.there (Tail.there (Tail.here _))))) | exact Tail.there (Tail.there (Tail.there (Tail.there (Tail.there (Tail.there (Tail.here _)))))) | exact Tail.there (Tail.there (Tail.there (Tail.there (Tail.there (Tail.there (Tail.there (Tail.here _))))))) | exact Tail.there (Tail.there (Tail.there (Tail.there (Tail.there (Tail.there (Tail.there (Tail.there (Tail.here _)))))))) | exact Tail.there (Tail.there (Tail.there (Tail.there (Tail.there (Tail.there (Tail.there (Tail.there (Tail.there (Tail.here _))))))))) | exact Tail.there (Tail.there (Tail.there (Tail.there (Tail.there (Tail.there (Tail.there (Tail.there (Tail.there (Tail.there (Tail.here _)))))))))) | exact Tail.const _),
  fun s => by
    obtain ⟨⟨r0, r1, r2, r3, r4, _⟩, ⟨_, many51, great52, thirteen53, _, _, fifteen58, a61, b62, whole63, left64, seventeen65, t69, _, nineteen71, _, text75, last76, _⟩, ⟨_, _, _⟩⟩ := s
    refine Tail.eq (Y := fun g => w_FnCarpetsCut_t3 (fun r0 r1 r2 r3 r4 steps6 need7 ok9 few12 least16 => g.1 ((r0, r1, r2, r3, r4, ()), ((), (), steps6, need7, (), ok9, few12, least16, (), (), ()), ((), (), ()))) (fun r0 => g.2.1 ((r0, ()), ((), ()), ((), (), ()))) (fun r0 r1 r2 r3 r4 many51 great52 thirteen53 fifteen58 a61 b62 whole63 left64 seventeen65 t69 nineteen71 text75 last76 => g.2.2.1 ((r0, r1, r2, r3, r4, ()), ((), many51, great52, thirteen53, (), (), fifteen58, a61, b62, whole63, left64, seventeen65, t69, (), nineteen71, (), text75, last76, ()), ((), (), ()))) (fun r0 r1 r2 r3 fifteen58 a61 b62 whole63 left64 seventeen65 t69 nineteen71 text75 last76 => g.2.2.2.1 ((r0, r1, r2, r3, ()), ((), (), fifteen58, a61, b62, whole63, left64, seventeen65, t69, (), nineteen71, (), text75, last76, ()), ((), (), ()))) (fun r0 r1 a61 b62 whole63 left64 seventeen65 t69 nineteen71 text75 last76 => g.2.2.2.2.1 ((r0, r1, ()), (a61, b62, whole63, left64, seventeen65, t69, (), nineteen71, (), text75, last76, ()), ((), (), ()))) (fun r0 r1 t69 nineteen71 text75 last76 => g.2.2.2.2.2.1 ((r0, r1, ()), (t69, (), nineteen71, (), text75, last76, ()), ((), (), ()))) (fun r0 t69 nineteen71 => g.2.2.2.2.2.2.1 ((r0, ()), (t69, (), nineteen71, ()), ((), (), ()))) (fun r0 r1 r2 r3 r4 steps6 need7 least16 covered28 long29 other30 length31 s281 s282 => g.2.2.2.2.2.2.2.1 ((r0, r1, r2, r3, r4, ()), ((), (), steps6, need7, least16, (), (), covered28, long29, other30, length31, (), s281, s282, ()), ((), (), ()))) (fun r0 r1 r2 r3 steps6 need7 least16 covered28 long29 other30 length31 s310 s311 => g.2.2.2.2.2.2.2.2.1 ((r0, r1, r2, r3, ()), ((), (), steps6, need7, least16, (), covered28, long29, other30, length31, (), s310, s311, ()), ((), (), ()))) (fun r0 r1 r2 s357 s358 => g.2.2.2.2.2.2.2.2.2.1 ((r0, r1, r2, ()), ((), (), (), (), s357, s358, ()), ((), (), ()))) (fun r0 r1 r2 r3 a61 b62 whole63 left64 seventeen65 t69 nineteen71 text75 last76 s623 s624 => g.2.2.2.2.2.2.2.2.2.2.1 ((r0, r1, r2, r3, ()), ((), (), a61, b62, whole63, left64, seventeen65, t69, (), nineteen71, (), text75, last76, s623, s624, ()), ((), (), ()))) r0 r1 r2 r3 r4 many51 great52 thirteen53 fifteen58 a61 b62 whole63 left64 seventeen65 t69 nineteen71 text75 last76) ?_ (fun g => by kernel_rfl)
    simp only [w_FnCarpetsCut_t3]; repeat (first | apply Tail.cond | (apply Tail.bind; intro _) | exact Tail.here _ | exact Tail.there (Tail.here _) | exact Tail.there (Tail.there (Tail.here _)) | exact Tail.there (Tail.there (Tail.there (Tail.here _))) | exact Tail.there (Tail.there (Tail.there (Tail.there (Tail.here _)))) | exact Tail.there (Tail.there (Tail.there (Tail.there (Tail.there (Tail.here _))))) | exact Tail.there (Tail.there (Tail.there (Tail.there (Tail.there (Tail.there (Tail.here _)))))) | exact Tail.there (Tail.there (Tail.there (Tail.there (Tail.there (Tail.there (Tail.there (Tail.here _))))))) | exact Tail.there (Tail.there (Tail.there (Tail.there (Tail.there (Tail.there (Tail.there (Tail.there (Tail.here _)))))))) | exact Tail.there (Tail.there (Tail.there (Tail.there (Tail.there (Tail.there (Tail.there (Tail.there (Tail.there (Tail.here _))))))))) | exact Tail.there (Tail.there (Tail.there (Tail.there (Tail.there (Tail.there (Tail.there (Tail.there (Tail.there (Tail.there (Tail.here _)))))))))) | exact Tail.const _),
  fun s => by
    obtain ⟨⟨r0, r1, r2, r3, _⟩, ⟨_, _, fifteen58, a61, b62, whole63, left64, seventeen65, t69, _, nineteen71, _, text75, last76, _⟩, ⟨_, _, _⟩⟩ := s
    refine Tail.eq (Y := fun g => w_FnCarpetsCut_t4 (fun r0 r1 r2 r3 r4 steps6 need7 ok9 few12 least16 => g.1 ((r0, r1, r2, r3, r4, ()), ((), (), steps6, need7, (), ok9, few12, least16, (), (), ()), ((), (), ()))) (fun r0 => g.2.1 ((r0, ()), ((), ()), ((), (), ()))) (fun r0 r1 r2 r3 r4 many51 great52 thirteen53 fifteen58 a61 b62 whole63 left64 seventeen65 t69 nineteen71 text75 last76 => g.2.2.1 ((r0, r1, r2, r3, r4, ()), ((), many51, great52, thirteen53, (), (), fifteen58, a61, b62, whole63, left64, seventeen65, t69, (), nineteen71, (), text75, last76, ()), ((), (), ()))) (fun r0 r1 r2 r3 fifteen58 a61 b62 whole63 left64 seventeen65 t69 nineteen71 text75 last76 => g.2.2.2.1 ((r0, r1, r2, r3, ()), ((), (), fifteen58, a61, b62, whole63, left64, seventeen65, t69, (), nineteen71, (), text75, last76, ()), ((), (), ()))) (fun r0 r1 a61 b62 whole63 left64 seventeen65 t69 nineteen71 text75 last76 => g.2.2.2.2.1 ((r0, r1, ()), (a61, b62, whole63, left64, seventeen65, t69, (), nineteen71, (), text75, last76, ()), ((), (), ()))) (fun r0 r1 t69 nineteen71 text75 last76 => g.2.2.2.2.2.1 ((r0, r1, ()), (t69, (), nineteen71, (), text75, last76, ()), ((), (), ()))) (fun r0 t69 nineteen71 => g.2.2.2.2.2.2.1 ((r0, ()), (t69, (), nineteen71, ()), ((), (), ()))) (fun r0 r1 r2 r3 r4 steps6 need7 least16 covered28 long29 other30 length31 s281 s282 => g.2.2.2.2.2.2.2.1 ((r0, r1, r2, r3, r4, ()), ((), (), steps6, need7, least16, (), (), covered28, long29, other30, length31, (), s281, s282, ()), ((), (), ()))) (fun r0 r1 r2 r3 steps6 need7 least16 covered28 long29 other30 length31 s310 s311 => g.2.2.2.2.2.2.2.2.1 ((r0, r1, r2, r3, ()), ((), (), steps6, need7, least16, (), covered28, long29, other30, length31, (), s310, s311, ()), ((), (), ()))) (fun r0 r1 r2 s357 s358 => g.2.2.2.2.2.2.2.2.2.1 ((r0, r1, r2, ()), ((), (), (), (), s357, s358, ()), ((), (), ()))) (fun r0 r1 r2 r3 a61 b62 whole63 left64 seventeen65 t69 nineteen71 text75 last76 s623 s624 => g.2.2.2.2.2.2.2.2.2.2.1 ((r0, r1, r2, r3, ()), ((), (), a61, b62, whole63, left64, seventeen65, t69, (), nineteen71, (), text75, last76, s623, s624, ()), ((), (), ()))) r0 r1 r2 r3 fifteen58 a61 b62 whole63 left64 seventeen65 t69 nineteen71 text75 last76) ?_ (fun g => by kernel_rfl)
    simp only [w_FnCarpetsCut_t4]; repeat (first | apply Tail.cond | (apply Tail.bind; intro _) | exact Tail.here _ | exact Tail.there (Tail.here _) | exact Tail.there (Tail.there (Tail.here _)) | exact Tail.there (Tail.there (Tail.there (Tail.here _))) | exact Tail.there (Tail.there (Tail.there (Tail.there (Tail.here _)))) | exact Tail.there (Tail.there (Tail.there (Tail.there (Tail.there (Tail.here _))))) | exact Tail.there (Tail.there (Tail.there (Tail.there (Tail.there (Tail.there (Tail.here _)))))) | exact Tail.there (Tail.there (Tail.there (Tail.there (Tail.there (Tail.there (Tail.there (Tail.here _))))))) | exact Tail.there (Tail.there (Tail.there (Tail.there (Tail.there (Tail.there (Tail.there (Tail.there (Tail.here _)))))))) | exact Tail.there (Tail.there (Tail.there (Tail.there (Tail.there (Tail.there (Tail.there (Tail.there (Tail.there (Tail.here _))))))))) | exact Tail.there (Tail.there (Tail.there (Tail.there (Tail.there (Tail.there (Tail.there (Tail.there (Tail.there (Tail.there (Tail.here _)))))))))) | exact Tail.const _),
  fun s => by
    obtain ⟨⟨r0, r1, _⟩, ⟨a61, b62, whole63, left64, seventeen65, t69, _, nineteen71, _, text75, last76, _⟩, ⟨_, _, _⟩⟩ := s
    refine Tail.eq (Y := fun g => w_FnCarpetsCut_t5 (fun r0 r1 r2 r3 r4 steps6 need7 ok9 few12 least16 => g.1 ((r0, r1, r2, r3, r4, ()), ((), (), steps6, need7, (), ok9, few12, least16, (), (), ()), ((), (), ()))) (fun r0 => g.2.1 ((r0, ()), ((), ()), ((), (), ()))) (fun r0 r1 r2 r3 r4 many51 great52 thirteen53 fifteen58 a61 b62 whole63 left64 seventeen65 t69 nineteen71 text75 last76 => g.2.2.1 ((r0, r1, r2, r3, r4, ()), ((), many51, great52, thirteen53, (), (), fifteen58, a61, b62, whole63, left64, seventeen65, t69, (), nineteen71, (), text75, last76, ()), ((), (), ()))) (fun r0 r1 r2 r3 fifteen58 a61 b62 whole63 left64 seventeen65 t69 nineteen71 text75 last76 => g.2.2.2.1 ((r0, r1, r2, r3, ()), ((), (), fifteen58, a61, b62, whole63, left64, seventeen65, t69, (), nineteen71, (), text75, last76, ()), ((), (), ()))) (fun r0 r1 a61 b62 whole63 left64 seventeen65 t69 nineteen71 text75 last76 => g.2.2.2.2.1 ((r0, r1, ()), (a61, b62, whole63, left64, seventeen65, t69, (), nineteen71, (), text75, last76, ()), ((), (), ()))) (fun r0 r1 t69 nineteen71 text75 last76 => g.2.2.2.2.2.1 ((r0, r1, ()), (t69, (), nineteen71, (), text75, last76, ()), ((), (), ()))) (fun r0 t69 nineteen71 => g.2.2.2.2.2.2.1 ((r0, ()), (t69, (), nineteen71, ()), ((), (), ()))) (fun r0 r1 r2 r3 r4 steps6 need7 least16 covered28 long29 other30 length31 s281 s282 => g.2.2.2.2.2.2.2.1 ((r0, r1, r2, r3, r4, ()), ((), (), steps6, need7, least16, (), (), covered28, long29, other30, length31, (), s281, s282, ()), ((), (), ()))) (fun r0 r1 r2 r3 steps6 need7 least16 covered28 long29 other30 length31 s310 s311 => g.2.2.2.2.2.2.2.2.1 ((r0, r1, r2, r3, ()), ((), (), steps6, need7, least16, (), covered28, long29, other30, length31, (), s310, s311, ()), ((), (), ()))) (fun r0 r1 r2 s357 s358 => g.2.2.2.2.2.2.2.2.2.1 ((r0, r1, r2, ()), ((), (), (), (), s357, s358, ()), ((), (), ()))) (fun r0 r1 r2 r3 a61 b62 whole63 left64 seventeen65 t69 nineteen71 text75 last76 s623 s624 => g.2.2.2.2.2.2.2.2.2.2.1 ((r0, r1, r2, r3, ()), ((), (), a61, b62, whole63, left64, seventeen65, t69, (), nineteen71, (), text75, last76, s623, s624, ()), ((), (), ()))) r0 r1 a61 b62 whole63 left64 seventeen65 t69 nineteen71 text75 last76) ?_ (fun g => by kernel_rfl)
    simp only [w_FnCarpetsCut_t5]; repeat (first | apply Tail.cond | (apply Tail.bind; intro _) | exact Tail.here _ | exact Tail.there (Tail.here _) | exact Tail.there (Tail.there (Tail.here _)) | exact Tail.there (Tail.there (Tail.there (Tail.here _))) | exact Tail.there (Tail.there (Tail.there (Tail.there (Tail.here _)))) | exact Tail.there (Tail.there (Tail.there (Tail.there (Tail.there (Tail.here _))))) | exact Tail.there (Tail.there (Tail.there (Tail.there (Tail.there (Tail.there (Tail.here _)))))) | exact Tail.there (Tail.there (Tail.there (Tail.there (Tail.there (Tail.there (Tail.there (Tail.here _))))))) | exact Tail.there (Tail.there (Tail.there (Tail.there (Tail.there (Tail.there (Tail.there (Tail.there (Tail.here _)))))))) | exact Tail.there (Tail.there (Tail.there (Tail.there (Tail.there (Tail.there (Tail.there (Tail.there (Tail.there (Tail.here _))))))))) | exact Tail.there (Tail.there (Tail.there (Tail.there (Tail.there (Tail.there (Tail.there (Tail.there (Tail.there (Tail.there (Tail.here _)))))))))) | exact Tail.const _),
  fun s => by
    obtain ⟨⟨r0, r1, _⟩, ⟨t69, _, nineteen71, _, text75, last76, _⟩, ⟨_, _, _⟩⟩ := s
    refine Tail.eq (Y := fun g => w_FnCarpetsCut_t6 (fun r0 r1 r2 r3 r4 steps6 need7 ok9 few12 least16 => g.1 ((r0, r1, r2, r3, r4, ()), ((), (), steps6, need7, (), ok9, few12, least16, (), (), ()), ((), (), ()))) (fun r0 => g.2.1 ((r0, ()), ((), ()), ((), (), ()))) (fun r0 r1 r2 r3 r4 many51 great52 thirteen53 fifteen58 a61 b62 whole63 left64 seventeen65 t69 nineteen71 text75 last76 => g.2.2.1 ((r0, r1, r2, r3, r4, ()), ((), many51, great52, thirteen53, (), (), fifteen58, a61, b62, whole63, left64, seventeen65, t69, (), nineteen71, (), text75, last76, ()), ((), (), ()))) (fun r0 r1 r2 r3 fifteen58 a61 b62 whole63 left64 seventeen65 t69 nineteen71 text75 last76 => g.2.2.2.1 ((r0, r1, r2, r3, ()), ((), (), fifteen58, a61, b62, whole63, left64, seventeen65, t69, (), nineteen71, (), text75, last76, ()), ((), (), ()))) (fun r0 r1 a61 b62 whole63 left64 seventeen65 t69 nineteen71 text75 last76 => g.2.2.2.2.1 ((r0, r1, ()), (a61, b62, whole63, left64, seventeen65, t69, (), nineteen71, (), text75, last76, ()), ((), (), ()))) (fun r0 r1 t69 nineteen71 text75 last76 => g.2.2.2.2.2.1 ((r0, r1, ()), (t69, (), nineteen71, (), text75, last76, ()), ((), (), ()))) (fun r0 t69 nineteen71 => g.2.2.2.2.2.2.1 ((r0, ()), (t69, (), nineteen71, ()), ((), (), ()))) (fun r0 r1 r2 r3 r4 steps6 need7 least16 covered28 long29 other30 length31 s281 s282 => g.2.2.2.2.2.2.2.1 ((r0, r1, r2, r3, r4, ()), ((), (), steps6, need7, least16, (), (), covered28, long29, other30, length31, (), s281, s282, ()), ((), (), ()))) (fun r0 r1 r2 r3 steps6 need7 least16 covered28 long29 other30 length31 s310 s311 => g.2.2.2.2.2.2.2.2.1 ((r0, r1, r2, r3, ()), ((), (), steps6, need7, least16, (), covered28, long29, other30, length31, (), s310, s311, ()), ((), (), ()))) (fun r0 r1 r2 s357 s358 => g.2.2.2.2.2.2.2.2.2.1 ((r0, r1, r2, ()), ((), (), (), (), s357, s358, ()), ((), (), ()))) (fun r0 r1 r2 r3 a61 b62 whole63 left64 seventeen65 t69 nineteen71 text75 last76 s623 s624 => g.2.2.2.2.2.2.2.2.2.2.1 ((r0, r1, r2, r3, ()), ((), (), a61, b62, whole63, left64, seventeen65, t69, (), nineteen71, (), text75, last76, s623, s624, ()), ((), (), ()))) r0 r1 t69 nineteen71 text75 last76) ?_ (fun g => by kernel_rfl)
    simp only [w_FnCarpetsCut_t6]; repeat (first | apply Tail.cond | (apply Tail.bind; intro _) | exact Tail.here _ | exact Tail.there (Tail.here _) | exact Tail.there (Tail.there (Tail.here _)) | exact Tail.there (Tail.there (Tail.there (Tail.here _))) | exact Tail.there (Tail.there (Tail.there (Tail.there (Tail.here _)))) | exact Tail.there (Tail.there (Tail.there (Tail.there (Tail.there (Tail.here _))))) | exact Tail.there (Tail.there (Tail.there (Tail.there (Tail.there (Tail.there (Tail.here _)))))) | exact Tail.there (Tail.there (Tail.there (Tail.there (Tail.there (Tail.there (Tail.there (Tail.here _))))))) | exact Tail.there (Tail.there (Tail.there (Tail.there (Tail.there (Tail.there (Tail.there (Tail.there (Tail.here _)))))))) | exact Tail.there (Tail.there (Tail.there (Tail.there (Tail.there (Tail.there (Tail.there (Tail.there (Tail.there (Tail.here _))))))))) | exact Tail.there (Tail.there (Tail.there (Tail.there (Tail.there (Tail.there (Tail.there (Tail.there (Tail.there (Tail.there (Tail.here _)))))))))) | exact Tail.const _),
  fun s => by
    obtain ⟨⟨r0, _⟩, ⟨t69, _, nineteen71, _⟩, ⟨_, _, _⟩⟩ := s
    refine Tail.eq (Y := fun g => w_FnCarpetsCut_t7 (fun r0 r1 r2 r3 r4 steps6 need7 ok9 few12 least16 => g.1 ((r0, r1, r2, r3, r4, ()), ((), (), steps6, need7, (), ok9, few12, least16, (), (), ()), ((), (), ()))) (fun r0 => g.2.1 ((r0, ()), ((), ()), ((), (), ()))) (fun r0 r1 r2 r3 r4 many51 great52 thirteen53 fifteen58 a61 b62 whole63 left64 seventeen65 t69 nineteen71 text75 last76 => g.2.2.1 ((r0, r1, r2, r3, r4, ()), ((), many51, great52, thirteen53, (), (), fifteen58, a61, b62, whole63, left64, seventeen65, t69, (), nineteen71, (), text75, last76, ()), ((), (), ()))) (fun r0 r1 r2 r3 fifteen58 a61 b62 whole63 left64 seventeen65 t69 nineteen71 text75 last76 => g.2.2.2.1 ((r0, r1, r2, r3, ()), ((), (), fifteen58, a61, b62, whole63, left64, seventeen65, t69, (), nineteen71, (), text75, last76, ()), ((), (), ()))) (fun r0 r1 a61 b62 whole63 left64 seventeen65 t69 nineteen71 text75 last76 => g.2.2.2.2.1 ((r0, r1, ()), (a61, b62, whole63, left64, seventeen65, t69, (), nineteen71, (), text75, last76, ()), ((), (), ()))) (fun r0 r1 t69 nineteen71 text75 last76 => g.2.2.2.2.2.1 ((r0, r1, ()), (t69, (), nineteen71, (), text75, last76, ()), ((), (), ()))) (fun r0 t69 nineteen71 => g.2.2.2.2.2.2.1 ((r0, ()), (t69, (), nineteen71, ()), ((), (), ()))) (fun r0 r1 r2 r3 r4 steps6 need7 least16 covered28 long29 other30 length31 s281 s282 => g.2.2.2.2.2.2.2.1 ((r0, r1, r2, r3, r4, ()), ((), (), steps6, need7, least16, (), (), covered28, long29, other30, length31, (), s281, s282, ()), ((), (), ()))) (fun r0 r1 r2 r3 steps6 need7 least16 covered28 long29 other30 length31 s310 s311 => g.2.2.2.2.2.2.2.2.1 ((r0, r1, r2, r3, ()), ((), (), steps6, need7, least16, (), covered28, long29, other30, length31, (), s310, s311, ()), ((), (), ()))) (fun r0 r1 r2 s357 s358 => g.2.2.2.2.2.2.2.2.2.1 ((r0, r1, r2, ()), ((), (), (), (), s357, s358, ()), ((), (), ()))) (fun r0 r1 r2 r3 a61 b62 whole63 left64 seventeen65 t69 nineteen71 text75 last76 s623 s624 => g.2.2.2.2.2.2.2.2.2.2.1 ((r0, r1, r2, r3, ()), ((), (), a61, b62, whole63, left64, seventeen65, t69, (), nineteen71, (), text75, last76, s623, s624, ()), ((), (), ()))) r0 t69 nineteen71) ?_ (fun g => by kernel_rfl)
    simp only [w_FnCarpetsCut_t7]; repeat (first | apply Tail.cond | (apply Tail.bind; intro _) | exact Tail.here _ | exact Tail.there (Tail.here _) | exact Tail.there (Tail.there (Tail.here _)) | exact Tail.there (Tail.there (Tail.there (Tail.here _))) | exact Tail.there (Tail.there (Tail.there (Tail.there (Tail.here _)))) | exact Tail.there (Tail.there (Tail.there (Tail.there (Tail.there (Tail.here _))))) | exact Tail.there (Tail.there (Tail.there (Tail.there (Tail.there (Tail.there (Tail.here _)))))) | exact Tail.there (Tail.there (Tail.there (Tail.there (Tail.there (Tail.there (Tail.there (Tail.here _))))))) | exact Tail.there (Tail.there (Tail.there (Tail.there (Tail.there (Tail.there (Tail.there (Tail.there (Tail.here _)))))))) | exact Tail.there (Tail.there (Tail.there (Tail.there (Tail.there (Tail.there (Tail.there (Tail.there (Tail.there (Tail.here _))))))))) | exact Tail.there (Tail.there (Tail.there (Tail.there (Tail.there (Tail.there (Tail.there (Tail.there (Tail.there (Tail.there (Tail.here _)))))))))) | exact Tail.const _),
  fun s => by
    obtain ⟨⟨r0, r1, r2, r3, r4, _⟩, ⟨_, _, steps6, need7, least16, _, _, covered28, long29, other30, length31, _, s281, s282, _⟩, ⟨_, _, _⟩⟩ := s
    refine Tail.eq (Y := fun g => w_FnCarpetsCut_t8 (fun r0 r1 r2 r3 r4 steps6 need7 ok9 few12 least16 => g.1 ((r0, r1, r2, r3, r4, ()), ((), (), steps6, need7, (), ok9, few12, least16, (), (), ()), ((), (), ()))) (fun r0 => g.2.1 ((r0, ()), ((), ()), ((), (), ()))) (fun r0 r1 r2 r3 r4 many51 great52 thirteen53 fifteen58 a61 b62 whole63 left64 seventeen65 t69 nineteen71 text75 last76 => g.2.2.1 ((r0, r1, r2, r3, r4, ()), ((), many51, great52, thirteen53, (), (), fifteen58, a61, b62, whole63, left64, seventeen65, t69, (), nineteen71, (), text75, last76, ()), ((), (), ()))) (fun r0 r1 r2 r3 fifteen58 a61 b62 whole63 left64 seventeen65 t69 nineteen71 text75 last76 => g.2.2.2.1 ((r0, r1, r2, r3, ()), ((), (), fifteen58, a61, b62, whole63, left64, seventeen65, t69, (), nineteen71, (), text75, last76, ()), ((), (), ()))) (fun r0 r1 a61 b62 whole63 left64 seventeen65 t69 nineteen71 text75 last76 => g.2.2.2.2.1 ((r0, r1, ()), (a61, b62, whole63, left64, seventeen65, t69, (), nineteen71, (), text75, last76, ()), ((), (), ()))) (fun r0 r1 t69 nineteen71 text75 last76 => g.2.2.2.2.2.1 ((r0, r1, ()), (t69, (), nineteen71, (), text75, last76, ()), ((), (), ()))) (fun r0 t69 nineteen71 => g.2.2.2.2.2.2.1 ((r0, ()), (t69, (), nineteen71, ()), ((), (), ()))) (fun r0 r1 r2 r3 r4 steps6 need7 least16 covered28 long29 other30 length31 s281 s282 => g.2.2.2.2.2.2.2.1 ((r0, r1, r2, r3, r4, ()), ((), (), steps6, need7, least16, (), (), covered28, long29, other30, length31, (), s281, s282, ()), ((), (), ()))) (fun r0 r1 r2 r3 steps6 need7 least16 covered28 long29 other30 length31 s310 s311 => g.2.2.2.2.2.2.2.2.1 ((r0, r1, r2, r3, ()), ((), (), steps6, need7, least16, (), covered28, long29, other30, length31, (), s310, s311, ()), ((), (), ()))) (fun r0 r1 r2 s357 s358 => g.2.2.2.2.2.2.2.2.2.1 ((r0, r1, r2, ()), ((), (), (), (), s357, s358, ()), ((), (), ()))) (fun r0 r1 r2 r3 a61 b62 whole63 left64 seventeen65 t69 nineteen71 text75 last76 s623 s624 => g.2.2.2.2.2.2.2.2.2.2.1 ((r0, r1, r2, r3, ()), ((), (), a61, b62, whole63, left64, seventeen65, t69, (), nineteen71, (), text75, last76, s623, s624, ()), ((), (), ()))) r0 r1 r2 r3 r4 steps6 need7 least16 covered28 long29 other30 length31 s281 s282) ?_ (fun g => by kernel_rfl)
    simp only [w_FnCarpetsCut_t8]; repeat (first | apply Tail.cond | (apply Tail.bind; intro _) | exact Tail.here _ | exact Tail.there (Tail.here _) | exact Tail.there (Tail.there (Tail.here _)) | exact Tail.there (Tail.there (Tail.there (Tail.here _))) | exact Tail.there (Tail.there (Tail.there (Tail.there (Tail.here _)))) | exact Tail.there (Tail.there (Tail.there (Tail.there (Tail.there (Tail.here _))))) | exact Tail.there (Tail.there (Tail.there (Tail.there (Tail.there (Tail.there (Tail.here _)))))) | exact Tail.there (Tail.there (Tail.there (Tail.there (Tail.there (Tail.there (Tail.there (Tail.here _))))))) | exact Tail.there (Tail.there (Tail.there (Tail.there (Tail.there (Tail.there (Tail.there (Tail.there (Tail.here _)))))))) | exact Tail.there (Tail.there (Tail.there (Tail.there (Tail.there (Tail.there (Tail.there (Tail.there (Tail.there (Tail.here _))))))))) | exact Tail.there (Tail.there (Tail.there (Tail.there (Tail.there (Tail.there (Tail.there (Tail.there (Tail.there (Tail.there (Tail.here _)))))))))) | exact Tail.const _),
  fun s => by
    obtain ⟨⟨r0, r1, r2, r3, _⟩, ⟨_, _, steps6, need7, least16, _, covered28, long29, other30, length31, _, s310, s311, _⟩, ⟨_, _, _⟩⟩ := s
    refine Tail.eq (Y := fun g => w_FnCarpetsCut_t9 (fun r0 r1 r2 r3 r4 steps6 need7 ok9 few12 least16 => g.1 ((r0, r1, r2, r3, r4, ()), ((), (), steps6, need7, (), ok9, few12, least16, (), (), ()), ((), (), ()))) (fun r0 => g.2.1 ((r0, ()), ((), ()), ((), (), ()))) (fun r0 r1 r2 r3 r4 many51 great52 thirteen53 fifteen58 a61 b62 whole63 left64 seventeen65 t69 nineteen71 text75 last76 => g.2.2.1 ((r0, r1, r2, r3, r4, ()), ((), many51, great52, thirteen53, (), (), fifteen58, a61, b62, whole63, left64, seventeen65, t69, (), nineteen71, (), text75, last76, ()), ((), (), ()))) (fun r0 r1 r2 r3 fifteen58 a61 b62 whole63 left64 seventeen65 t69 nineteen71 text75 last76 => g.2.2.2.1 ((r0, r1, r2, r3, ()), ((), (), fifteen58, a61, b62, whole63, left64, seventeen65, t69, (), nineteen71, (), text75, last76, ()), ((), (), ()))) (fun r0 r1 a61 b62 whole63 left64 seventeen65 t69 nineteen71 text75 last76 => g.2.2.2.2.1 ((r0, r1, ()), (a61, b62, whole63, left64, seventeen65, t69, (), nineteen71, (), text75, last76, ()), ((), (), ()))) (fun r0 r1 t69 nineteen71 text75 last76 => g.2.2.2.2.2.1 ((r0, r1, ()), (t69, (), nineteen71, (), text75, last76, ()), ((), (), ()))) (fun r0 t69 nineteen71 => g.2.2.2.2.2.2.1 ((r0, ()), (t69, (), nineteen71, ()), ((), (), ()))) (fun r0 r1 r2 r3 r4 steps6 need7 least16 covered28 long29 other30 length31 s281 s282 => g.2.2.2.2.2.2.2.1 ((r0, r1, r2, r3, r4, ()), ((), (), steps6, need7, least16, (), (), covered28, long29, other30, length31, (), s281, s282, ()), ((), (), ()))) (fun r0 r1 r2 r3 steps6 need7 least16 covered28 long29 other30 length31 s310 s311 => g.2.2.2.2.2.2.2.2.1 ((r0, r1, r2, r3, ()), ((), (), steps6, need7, least16, (), covered28, long29, other30, length31, (), s310, s311, ()), ((), (), ()))) (fun r0 r1 r2 s357 s358 => g.2.2.2.2.2.2.2.2.2.1 ((r0, r1, r2, ()), ((), (), (), (), s357, s358, ()), ((), (), ()))) (fun r0 r1 r2 r3 a61 b62 whole63 left64 seventeen65 t69 nineteen71 text75 last76 s623 s624 => g.2.2.2.2.2.2.2.2.2.2.1 ((r0, r1, r2, r3, ()), ((), (), a61, b62, whole63, left64, seventeen65, t69, (), nineteen71, (), text75, last76, s623, s624, ()), ((), (), ()))) r0 r1 r2 r3 steps6 need7 least16 covered28 long29 other30 length31 s310 s311) ?_ (fun g => by kernel_rfl)
    simp only [w_FnCarpetsCut_t9]; repeat (first | apply Tail.cond | (apply Tail.bind; intro _) | exact Tail.here _ | exact Tail.there (Tail.here _) | exact Tail.there (Tail.there (Tail.here _)) | exact Tail.there (Tail.there (Tail.there (Tail.here _))) | exact Tail.there (Tail.there (Tail.there (Tail.there (Tail.here _)))) | exact Tail.there (Tail.there (Tail.there (Tail.there (Tail.there (Tail.here _))))) | exact Tail.there (Tail.there (Tail.there (Tail.there (Tail.there (Tail.there (Tail.here _)))))) | exact Tail.there (Tail.there (Tail.there (Tail.there (Tail.there (Tail.there (Tail.there (Tail.here _))))))) | exact Tail.there (Tail.there (Tail.there (Tail.there (Tail.there (Tail.there (Tail.there (Tail.there (Tail.here _)))))))) | exact Tail.there (Tail.there (Tail.there (Tail.there (Tail.there (Tail.there (Tail.there (Tail.there (Tail.there (Tail.here _))))))))) | exact Tail.there (Tail.there (Tail.there (Tail.there (Tail.there (Tail.there (Tail.there (Tail.there (Tail.there (Tail.there (Tail.here _)))))))))) | exact Tail.const _),
  fun s => by
    obtain ⟨⟨r0, r1, r2, _⟩, ⟨_, _, _, _, s357, s358, _⟩, ⟨_, _, _⟩⟩ := s
    refine Tail.eq (Y := fun g => w_FnCarpetsCut_t10 (fun r0 r1 r2 r3 r4 steps6 need7 ok9 few12 least16 => g.1 ((r0, r1, r2, r3, r4, ()), ((), (), steps6, need7, (), ok9, few12, least16, (), (), ()), ((), (), ()))) (fun r0 => g.2.1 ((r0, ()), ((), ()), ((), (), ()))) (fun r0 r1 r2 r3 r4 many51 great52 thirteen53 fifteen58 a61 b62 whole63 left64 seventeen65 t69 nineteen71 text75 last76 => g.2.2.1 ((r0, r1, r2, r3, r4, ()), ((), many51, great52, thirteen53, (), (), fifteen58, a61, b62, whole63, left64, seventeen65, t69, (), nineteen71, (), text75, last76, ()), ((), (), ()))) (fun r0 r1 r2 r3 fifteen58 a61 b62 whole63 left64 seventeen65 t69 nineteen71 text75 last76 => g.2.2.2.1 ((r0, r1, r2, r3, ()), ((), (), fifteen58, a61, b62, whole63, left64, seventeen65, t69, (), nineteen71, (), text75, last76, ()), ((), (), ()))) (fun r0 r1 a61 b62 whole63 left64 seventeen65 t69 nineteen71 text75 last76 => g.2.2.2.2.1 ((r0, r1, ()), (a61, b62, whole63, left64, seventeen65, t69, (), nineteen71, (), text75, last76, ()), ((), (), ()))) (fun r0 r1 t69 nineteen71 text75 last76 => g.2.2.2.2.2.1 ((r0, r1, ()), (t69, (), nineteen71, (), text75, last76, ()), ((), (), ()))) (fun r0 t69 nineteen71 => g.2.2.2.2.2.2.1 ((r0, ()), (t69, (), nineteen71, ()), ((), (), ()))) (fun r0 r1 r2 r3 r4 steps6 need7 least16 covered28 long29 other30 length31 s281 s282 => g.2.2.2.2.2.2.2.1 ((r0, r1, r2, r3, r4, ()), ((), (), steps6, need7, least16, (), (), covered28, long29, other30, length31, (), s281, s282, ()), ((), (), ()))) (fun r0 r1 r2 r3 steps6 need7 least16 covered28 long29 other30 length31 s310 s311 => g.2.2.2.2.2.2.2.2.1 ((r0, r1, r2, r3, ()), ((), (), steps6, need7, least16, (), covered28, long29, other30, length31, (), s310, s311, ()), ((), (), ()))) (fun r0 r1 r2 s357 s358 => g.2.2.2.2.2.2.2.2.2.1 ((r0, r1, r2, ()), ((), (), (), (), s357, s358, ()), ((), (), ()))) (fun r0 r1 r2 r3 a61 b62 whole63 left64 seventeen65 t69 nineteen71 text75 last76 s623 s624 => g.2.2.2.2.2.2.2.2.2.2.1 ((r0, r1, r2, r3, ()), ((), (), a61, b62, whole63, left64, seventeen65, t69, (), nineteen71, (), text75, last76, s623, s624, ()), ((), (), ()))) r0 r1 r2 s357 s358) ?_ (fun g => by kernel_rfl)
    simp only [w_FnCarpetsCut_t10]; repeat (first | apply Tail.cond | (apply Tail.bind; intro _) | exact Tail.here _ | exact Tail.there (Tail.here _) | exact Tail.there (Tail.there (Tail.here _)) | exact Tail.there (Tail.there (Tail.there (Tail.here _))) | exact Tail.there (Tail.there (Tail.there (Tail.there (Tail.here _)))) | exact Tail.there (Tail.there (Tail.there (Tail.there (Tail.there (Tail.here _))))) | exact Tail.there (Tail.there (Tail.there (Tail.there (Tail.there (Tail.there (Tail.here _)))))) | exact Tail.there (Tail.there (Tail.there (Tail.there (Tail.there (Tail.there (Tail.there (Tail.here _))))))) | exact Tail.there (Tail.there (Tail.there (Tail.there (Tail.there (Tail.there (Tail.there (Tail.there (Tail.here _)))))))) | exact Tail.there (Tail.there (Tail.there (Tail.there (Tail.there (Tail.there (Tail.there (Tail.there (Tail.there (Tail.here _))))))))) | exact Tail.there (Tail.there (Tail.there (Tail.there (Tail.there (Tail.there (Tail.there (Tail.there (Tail.there (Tail.there (Tail.here _)))))))))) | exact Tail.const _),
  fun s => by
    obtain ⟨⟨r0, r1, r2, r3, _⟩, ⟨_, _, a61, b62, whole63, left64, seventeen65, t69, _, nineteen71, _, text75, last76, s623, s624, _⟩, ⟨_, _, _⟩⟩ := s
    refine Tail.eq (Y := fun g => w_FnCarpetsCut_t11 (fun r0 r1 r2 r3 r4 steps6 need7 ok9 few12 least16 => g.1 ((r0, r1, r2, r3, r4, ()), ((), (), steps6, need7, (), ok9, few12, least16, (), (), ()), ((), (), ()))) (fun r0 => g.2.1 ((r0, ()), ((), ()), ((), (), ()))) (fun r0 r1 r2 r3 r4 many51 great52 thirteen53 fifteen58 a61 b62 whole63 left64 seventeen65 t69 nineteen71 text75 last76 => g.2.2.1 ((r0, r1, r2, r3, r4, ()), ((), many51, great52, thirteen53, (), (), fifteen58, a61, b62, whole63, left64, seventeen65, t69, (), nineteen71, (), text75, last76, ()), ((), (), ()))) (fun r0 r1 r2 r3 fifteen58 a61 b62 whole63 left64 seventeen65 t69 nineteen71 text75 last76 => g.2.2.2.1 ((r0, r1, r2, r3, ()), ((), (), fifteen58, a61, b62, whole63, left64, seventeen65, t69, (), nineteen71, (), text75, last76, ()), ((), (), ()))) (fun r0 r1 a61 b62 whole63 left64 seventeen65 t69 nineteen71 text75 last76 => g.2.2.2.2.1 ((r0, r1, ()), (a61, b62, whole63, left64, seventeen65, t69, (), nineteen71, (), text75, last76, ()), ((), (), ()))) (fun r0 r1 t69 nineteen71 text75 last76 => g.2.2.2.2.2.1 ((r0, r1, ()), (t69, (), nineteen71, (), text75, last76, ()), ((), (), ()))) (fun r0 t69 nineteen71 => g.2.2.2.2.2.2.1 ((r0, ()), (t69, (), nineteen71, ()), ((), (), ()))) (fun r0 r1 r2 r3 r4 steps6 need7 least16 covered28 long29 other30 length31 s281 s282 => g.2.2.2.2.2.2.2.1 ((r0, r1, r2, r3, r4, ()), ((), (), steps6, need7, least16, (), (), covered28, long29, other30, length31, (), s281, s282, ()), ((), (), ()))) (fun r0 r1 r2 r3 steps6 need7 least16 covered28 long29 other30 length31 s310 s311 => g.2.2.2.2.2.2.2.2.1 ((r0, r1, r2, r3, ()), ((), (), steps6, need7, least16, (), covered28, long29, other30, length31, (), s310, s311, ()), ((), (), ()))) (fun r0 r1 r2 s357 s358 => g.2.2.2.2.2.2.2.2.2.1 ((r0, r1, r2, ()), ((), (), (), (), s357, s358, ()), ((), (), ()))) (fun r0 r1 r2 r3 a61 b62 whole63 left64 seventeen65 t69 nineteen71 text75 last76 s623 s624 => g.2.2.2.2.2.2.2.2.2.2.1 ((r0, r1, r2, r3, ()), ((), (), a61, b62, whole63, left64, seventeen65, t69, (), nineteen71, (), text75, last76, s623, s624, ()), ((), (), ()))) r0 r1 r2 r3 a61 b62 whole63 left64 seventeen65 t69 nineteen71 text75 last76 s623 s624) ?_ (fun g => by kernel_rfl)
    simp only [w_FnCarpetsCut_t11]; repeat (first | apply Tail.cond | (apply Tail.bind; intro _) | exact Tail.here _ | exact Tail.there (Tail.here _) | exact Tail.there (Tail.there (Tail.here _)) | exact Tail.there (Tail.there (Tail.there (Tail.here _))) | exact Tail.there (Tail.there (Tail.there (Tail.there (Tail.here _)))) | exact Tail.there (Tail.there (Tail.there (Tail.there (Tail.there (Tail.here _))))) | exact Tail.there (Tail.there (Tail.there (Tail.there (Tail.there (Tail.there (Tail.here _)))))) | exact Tail.there (Tail.there (Tail.there (Tail.there (Tail.there (Tail.there (Tail.there (Tail.here _))))))) | exact Tail.there (Tail.there (Tail.there (Tail.there (Tail.there (Tail.there (Tail.there (Tail.there (Tail.here _)))))))) | exact Tail.there (Tail.there (Tail.there (Tail.there (Tail.there (Tail.there (Tail.there (Tail.there (Tail.there (Tail.here _))))))))) | exact Tail.there (Tail.there (Tail.there (Tail.there (Tail.there (Tail.there (Tail.there (Tail.there (Tail.there (Tail.there (Tail.here _)))))))))) | exact Tail.const _), trivial⟩
theorem w_FnCarpetsCut_hs : ∀ x, Tail c_w_FnCarpetsCut.pts (fun g => c_w_FnCarpetsCut.start g x) := fun x => by
    obtain ⟨code0, more1, _⟩ := x
    refine Tail.eq (Y := fun g => w_FnCarpetsCut_t0 (fun r0 r1 r2 r3 r4 steps6 need7 ok9 few12 least16 => g.1 ((r0, r1, r2, r3, r4, ()), ((), (), steps6, need7, (), ok9, few12, least16, (), (), ()), ((), (), ()))) (fun r0 => g.2.1 ((r0, ()), ((), ()), ((), (), ()))) (fun r0 r1 r2 r3 r4 many51 great52 thirteen53 fifteen58 a61 b62 whole63 left64 seventeen65 t69 nineteen71 text75 last76 => g.2.2.1 ((r0, r1, r2, r3, r4, ()), ((), many51, great52, thirteen53, (), (), fifteen58, a61, b62, whole63, left64, seventeen65, t69, (), nineteen71, (), text75, last76, ()), ((), (), ()))) (fun r0 r1 r2 r3 fifteen58 a61 b62 whole63 left64 seventeen65 t69 nineteen71 text75 last76 => g.2.2.2.1 ((r0, r1, r2, r3, ()), ((), (), fifteen58, a61, b62, whole63, left64, seventeen65, t69, (), nineteen71, (), text75, last76, ()), ((), (), ()))) (fun r0 r1 a61 b62 whole63 left64 seventeen65 t69 nineteen71 text75 last76 => g.2.2.2.2.1 ((r0, r1, ()), (a61, b62, whole63, left64, seventeen65, t69, (), nineteen71, (), text75, last76, ()), ((), (), ()))) (fun r0 r1 t69 nineteen71 text75 last76 => g.2.2.2.2.2.1 ((r0, r1, ()), (t69, (), nineteen71, (), text75, last76, ()), ((), (), ()))) (fun r0 t69 nineteen71 => g.2.2.2.2.2.2.1 ((r0, ()), (t69, (), nineteen71, ()), ((), (), ()))) (fun r0 r1 r2 r3 r4 steps6 need7 least16 covered28 long29 other30 length31 s281 s282 => g.2.2.2.2.2.2.2.1 ((r0, r1, r2, r3, r4, ()), ((), (), steps6, need7, least16, (), (), covered28, long29, other30, length31, (), s281, s282, ()), ((), (), ()))) (fun r0 r1 r2 r3 steps6 need7 least16 covered28 long29 other30 length31 s310 s311 => g.2.2.2.2.2.2.2.2.1 ((r0, r1, r2, r3, ()), ((), (), steps6, need7, least16, (), covered28, long29, other30, length31, (), s310, s311, ()), ((), (), ()))) (fun r0 r1 r2 s357 s358 => g.2.2.2.2.2.2.2.2.2.1 ((r0, r1, r2, ()), ((), (), (), (), s357, s358, ()), ((), (), ()))) (fun r0 r1 r2 r3 a61 b62 whole63 left64 seventeen65 t69 nineteen71 text75 last76 s623 s624 => g.2.2.2.2.2.2.2.2.2.2.1 ((r0, r1, r2, r3, ()), ((), (), a61, b62, whole63, left64, seventeen65, t69, (), nineteen71, (), text75, last76, s623, s624, ()), ((), (), ()))) code0 more1) ?_ (fun g => by kernel_rfl)
    simp only [w_FnCarpetsCut_t0]; repeat (first | apply Tail.cond | (apply Tail.bind; intro _) | exact Tail.here _ | exact Tail.there (Tail.here _) | exact Tail.there (Tail.there (Tail.here _)) | exact Tail.there (Tail.there (Tail.there (Tail.here _))) | exact Tail.there (Tail.there (Tail.there (Tail.there (Tail.here _)))) | exact Tail.there (Tail.there (Tail.there (Tail.there (Tail.there (Tail.here _))))) | exact Tail.there (Tail.there (Tail.there (Tail.there (Tail.there (Tail.there (Tail.here _)))))) | exact Tail.there (Tail.there (Tail.there (Tail.there (Tail.there (Tail.there (Tail.there (Tail.here _))))))) | exact Tail.there (Tail.there (Tail.there (Tail.there (Tail.there (Tail.there (Tail.there (Tail.there (Tail.here _)))))))) | exact Tail.there (Tail.there (Tail.there (Tail.there (Tail.there (Tail.there (Tail.there (Tail.there (Tail.there (Tail.here _))))))))) | exact Tail.there (Tail.there (Tail.there (Tail.there (Tail.there (Tail.there (Tail.there (Tail.there (Tail.there (Tail.there (Tail.here _)))))))))) | exact Tail.const _)
noncomputable def w_FnCarpetsCut_L1 (r0 : List (Int)) (r1 : List (Int)) (r2 : List (Int)) (r3 : List (Int)) (r4 : List (Int)) (steps6 : Int) (need7 : Int) (ok9 : Bool) (few12 : Int) (least16 : Int) : Option Bool := c_w_FnCarpetsCut.L.1 ((r0, r1, r2, r3, r4, ()), ((), (), steps6, need7, (), ok9, few12, least16, (), (), ()), ((), (), ()))
noncomputable def w_FnCarpetsCut_L2 (r0 : List (Int)) : Option Bool := c_w_FnCarpetsCut.L.2.1 ((r0, ()), ((), ()), ((), (), ()))
noncomputable def w_FnCarpetsCut_L3 (r0 : List (Int)) (r1 : List (Int)) (r2 : List (Int)) (r3 : List (Int)) (r4 : List (Int)) (many51 : Int) (great52 : Int) (thirteen53 : Bool) (fifteen58 : Bool) (a61 : Int) (b62 : Int) (whole63 : Int) (left64 : Int) (seventeen65 : Bool) (t69 : ByteArray) (nineteen71 : Bool) (text75 : ByteArray) (last76 : Bool) : Option Bool := c_w_FnCarpetsCut.L.2.2.1 ((r0, r1, r2, r3, r4, ()), ((), many51, great52, thirteen53, (), (), fifteen58, a61, b62, whole63, left64, seventeen65, t69, (), nineteen71, (), text75, last76, ()), ((), (), ()))
noncomputable def w_FnCarpetsCut_L4 (r0 : List (Int)) (r1 : List (Int)) (r2 : List (Int)) (r3 : List (Int)) (fifteen58 : Bool) (a61 : Int) (b62 : Int) (whole63 : Int) (left64 : Int) (seventeen65 : Bool) (t69 : ByteArray) (nineteen71 : Bool) (text75 : ByteArray) (last76 : Bool) : Option Bool := c_w_FnCarpetsCut.L.2.2.2.1 ((r0, r1, r2, r3, ()), ((), (), fifteen58, a61, b62, whole63, left64, seventeen65, t69, (), nineteen71, (), text75, last76, ()), ((), (), ()))
noncomputable def w_FnCarpetsCut_L5 (r0 : List (Int)) (r1 : List (Int)) (a61 : Int) (b62 : Int) (whole63 : Int) (left64 : Int) (seventeen65 : Bool) (t69 : ByteArray) (nineteen71 : Bool) (text75 : ByteArray) (last76 : Bool) : Option Bool := c_w_FnCarpetsCut.L.2.2.2.2.1 ((r0, r1, ()), (a61, b62, whole63, left64, seventeen65, t69, (), nineteen71, (), text75, last76, ()), ((), (), ()))
noncomputable def w_FnCarpetsCut_L6 (r0 : List (Int)) (r1 : List (Int)) (t69 : ByteArray) (nineteen71 : Bool) (text75 : ByteArray) (last76 : Bool) : Option Bool := c_w_FnCarpetsCut.L.2.2.2.2.2.1 ((r0, r1, ()), (t69, (), nineteen71, (), text75, last76, ()), ((), (), ()))
noncomputable def w_FnCarpetsCut_L7 (r0 : List (Int)) (t69 : ByteArray) (nineteen71 : Bool) : Option Bool := c_w_FnCarpetsCut.L.2.2.2.2.2.2.1 ((r0, ()), (t69, (), nineteen71, ()), ((), (), ()))
noncomputable def w_FnCarpetsCut_L8 (r0 : List (Int)) (r1 : List (Int)) (r2 : List (Int)) (r3 : List (Int)) (r4 : List (Int)) (steps6 : Int) (need7 : Int) (least16 : Int) (covered28 : Int) (long29 : Int) (other30 : Int) (length31 : Int) (s281 : Int) (s282 : Int) : Option Bool := c_w_FnCarpetsCut.L.2.2.2.2.2.2.2.1 ((r0, r1, r2, r3, r4, ()), ((), (), steps6, need7, least16, (), (), covered28, long29, other30, length31, (), s281, s282, ()), ((), (), ()))
noncomputable def w_FnCarpetsCut_L9 (r0 : List (Int)) (r1 : List (Int)) (r2 : List (Int)) (r3 : List (Int)) (steps6 : Int) (need7 : Int) (least16 : Int) (covered28 : Int) (long29 : Int) (other30 : Int) (length31 : Int) (s310 : Int) (s311 : Int) : Option Bool := c_w_FnCarpetsCut.L.2.2.2.2.2.2.2.2.1 ((r0, r1, r2, r3, ()), ((), (), steps6, need7, least16, (), covered28, long29, other30, length31, (), s310, s311, ()), ((), (), ()))
noncomputable def w_FnCarpetsCut_L10 (r0 : List (Int)) (r1 : List (Int)) (r2 : List (Int)) (s357 : Int) (s358 : Int) : Option Bool := c_w_FnCarpetsCut.L.2.2.2.2.2.2.2.2.2.1 ((r0, r1, r2, ()), ((), (), (), (), s357, s358, ()), ((), (), ()))
noncomputable def w_FnCarpetsCut_L11 (r0 : List (Int)) (r1 : List (Int)) (r2 : List (Int)) (r3 : List (Int)) (a61 : Int) (b62 : Int) (whole63 : Int) (left64 : Int) (seventeen65 : Bool) (t69 : ByteArray) (nineteen71 : Bool) (text75 : ByteArray) (last76 : Bool) (s623 : Int) (s624 : Int) : Option Bool := c_w_FnCarpetsCut.L.2.2.2.2.2.2.2.2.2.2.1 ((r0, r1, r2, r3, ()), ((), (), a61, b62, whole63, left64, seventeen65, t69, (), nineteen71, (), text75, last76, s623, s624, ()), ((), (), ()))
theorem w_FnCarpetsCut_u1 (r0 : List (Int)) (r1 : List (Int)) (r2 : List (Int)) (r3 : List (Int)) (r4 : List (Int)) (steps6 : Int) (need7 : Int) (ok9 : Bool) (few12 : Int) (least16 : Int) : w_FnCarpetsCut_L1 r0 r1 r2 r3 r4 steps6 need7 ok9 few12 least16 = w_FnCarpetsCut_t1 w_FnCarpetsCut_L1 w_FnCarpetsCut_L2 w_FnCarpetsCut_L3 w_FnCarpetsCut_L4 w_FnCarpetsCut_L5 w_FnCarpetsCut_L6 w_FnCarpetsCut_L7 w_FnCarpetsCut_L8 w_FnCarpetsCut_L9 w_FnCarpetsCut_L10 w_FnCarpetsCut_L11 r0 r1 r2 r3 r4 steps6 need7 ok9 few12 least16 :=
  (congrArg (fun g => g.1 ((r0, r1, r2, r3, r4, ()), ((), (), steps6, need7, (), ok9, few12, least16, (), (), ()), ((), (), ()))) (FnCx.L_eq w_FnCarpetsCut_ts)).trans (by kernel_rfl)
theorem w_FnCarpetsCut_u2 (r0 : List (Int)) : w_FnCarpetsCut_L2 r0 = w_FnCarpetsCut_t2 w_FnCarpetsCut_L1 w_FnCarpetsCut_L2 w_FnCarpetsCut_L3 w_FnCarpetsCut_L4 w_FnCarpetsCut_L5 w_FnCarpetsCut_L6 w_FnCarpetsCut_L7 w_FnCarpetsCut_L8 w_FnCarpetsCut_L9 w_FnCarpetsCut_L10 w_FnCarpetsCut_L11 r0 :=
  (congrArg (fun g => g.2.1 ((r0, ()), ((), ()), ((), (), ()))) (FnCx.L_eq w_FnCarpetsCut_ts)).trans (by kernel_rfl)
theorem w_FnCarpetsCut_u3 (r0 : List (Int)) (r1 : List (Int)) (r2 : List (Int)) (r3 : List (Int)) (r4 : List (Int)) (many51 : Int) (great52 : Int) (thirteen53 : Bool) (fifteen58 : Bool) (a61 : Int) (b62 : Int) (whole63 : Int) (left64 : Int) (seventeen65 : Bool) (t69 : ByteArray) (nineteen71 : Bool) (text75 : ByteArray) (last76 : Bool) : w_FnCarpetsCut_L3 r0 r1 r2 r3 r4 many51 great52 thirteen53 fifteen58 a61 b62 whole63 left64 seventeen65 t69 nineteen71 text75 last76 = w_FnCarpetsCut_t3 w_FnCarpetsCut_L1 w_FnCarpetsCut_L2 w_FnCarpetsCut_L3 w_FnCarpetsCut_L4 w_FnCarpetsCut_L5 w_FnCarpetsCut_L6 w_FnCarpetsCut_L7 w_FnCarpetsCut_L8 w_FnCarpetsCut_L9 w_FnCarpetsCut_L10 w_FnCarpetsCut_L11 r0 r1 r2 r3 r4 many51 great52 thirteen53 fifteen58 a61 b62 whole63 left64 seventeen65 t69 nineteen71 text75 last76 :=
  (congrArg (fun g => g.2.2.1 ((r0, r1, r2, r3, r4, ()), ((), many51, great52, thirteen53, (), (), fifteen58, a61, b62, whole63, left64, seventeen65, t69, (), nineteen71, (), text75, last76, ()), ((), (), ()))) (FnCx.L_eq w_FnCarpetsCut_ts)).trans (by kernel_rfl)
theorem w_FnCarpetsCut_u4 (r0 : List (Int)) (r1 : List (Int)) (r2 : List (Int)) (r3 : List (Int)) (fifteen58 : Bool) (a61 : Int) (b62 : Int) (whole63 : Int) (left64 : Int) (seventeen65 : Bool) (t69 : ByteArray) (nineteen71 : Bool) (text75 : ByteArray) (last76 : Bool) : w_FnCarpetsCut_L4 r0 r1 r2 r3 fifteen58 a61 b62 whole63 left64 seventeen65 t69 nineteen71 text75 last76 = w_FnCarpetsCut_t4 w_FnCarpetsCut_L1 w_FnCarpetsCut_L2 w_FnCarpetsCut_L3 w_FnCarpetsCut_L4 w_FnCarpetsCut_L5 w_FnCarpetsCut_L6 w_FnCarpetsCut_L7 w_FnCarpetsCut_L8 w_FnCarpetsCut_L9 w_FnCarpetsCut_L10 w_FnCarpetsCut_L11 r0 r1 r2 r3 fifteen58 a61 b62 whole63 left64 seventeen65 t69 nineteen71 text75 last76 :=
  (congrArg (fun g => g.2.2.2.1 ((r0, r1, r2, r3, ()), ((), (), fifteen58, a61, b62, whole63, left64, seventeen65, t69, (), nineteen71, (), text75, last76, ()), ((), (), ()))) (FnCx.L_eq w_FnCarpetsCut_ts)).trans (by kernel_rfl)
theorem w_FnCarpetsCut_u5 (r0 : List (Int)) (r1 : List (Int)) (a61 : Int) (b62 : Int) (whole63 : Int) (left64 : Int) (seventeen65 : Bool) (t69 : ByteArray) (nineteen71 : Bool) (text75 : ByteArray) (last76 : Bool) : w_FnCarpetsCut_L5 r0 r1 a61 b62 whole63 left64 seventeen65 t69 nineteen71 text75 last76 = w_FnCarpetsCut_t5 w_FnCarpetsCut_L1 w_FnCarpetsCut_L2 w_FnCarpetsCut_L3 w_FnCarpetsCut_L4 w_FnCarpetsCut_L5 w_FnCarpetsCut_L6 w_FnCarpetsCut_L7 w_FnCarpetsCut_L8 w_FnCarpetsCut_L9 w_FnCarpetsCut_L10 w_FnCarpetsCut_L11 r0 r1 a61 b62 whole63 left64 seventeen65 t69 nineteen71 text75 last76 :=
  (congrArg (fun g => g.2.2.2.2.1 ((r0, r1, ()), (a61, b62, whole63, left64, seventeen65, t69, (), nineteen71, (), text75, last76, ()), ((), (), ()))) (FnCx.L_eq w_FnCarpetsCut_ts)).trans (by kernel_rfl)
theorem w_FnCarpetsCut_u6 (r0 : List (Int)) (r1 : List (Int)) (t69 : ByteArray) (nineteen71 : Bool) (text75 : ByteArray) (last76 : Bool) : w_FnCarpetsCut_L6 r0 r1 t69 nineteen71 text75 last76 = w_FnCarpetsCut_t6 w_FnCarpetsCut_L1 w_FnCarpetsCut_L2 w_FnCarpetsCut_L3 w_FnCarpetsCut_L4 w_FnCarpetsCut_L5 w_FnCarpetsCut_L6 w_FnCarpetsCut_L7 w_FnCarpetsCut_L8 w_FnCarpetsCut_L9 w_FnCarpetsCut_L10 w_FnCarpetsCut_L11 r0 r1 t69 nineteen71 text75 last76 :=
  (congrArg (fun g => g.2.2.2.2.2.1 ((r0, r1, ()), (t69, (), nineteen71, (), text75, last76, ()), ((), (), ()))) (FnCx.L_eq w_FnCarpetsCut_ts)).trans (by kernel_rfl)
theorem w_FnCarpetsCut_u7 (r0 : List (Int)) (t69 : ByteArray) (nineteen71 : Bool) : w_FnCarpetsCut_L7 r0 t69 nineteen71 = w_FnCarpetsCut_t7 w_FnCarpetsCut_L1 w_FnCarpetsCut_L2 w_FnCarpetsCut_L3 w_FnCarpetsCut_L4 w_FnCarpetsCut_L5 w_FnCarpetsCut_L6 w_FnCarpetsCut_L7 w_FnCarpetsCut_L8 w_FnCarpetsCut_L9 w_FnCarpetsCut_L10 w_FnCarpetsCut_L11 r0 t69 nineteen71 :=
  (congrArg (fun g => g.2.2.2.2.2.2.1 ((r0, ()), (t69, (), nineteen71, ()), ((), (), ()))) (FnCx.L_eq w_FnCarpetsCut_ts)).trans (by kernel_rfl)
theorem w_FnCarpetsCut_u8 (r0 : List (Int)) (r1 : List (Int)) (r2 : List (Int)) (r3 : List (Int)) (r4 : List (Int)) (steps6 : Int) (need7 : Int) (least16 : Int) (covered28 : Int) (long29 : Int) (other30 : Int) (length31 : Int) (s281 : Int) (s282 : Int) : w_FnCarpetsCut_L8 r0 r1 r2 r3 r4 steps6 need7 least16 covered28 long29 other30 length31 s281 s282 = w_FnCarpetsCut_t8 w_FnCarpetsCut_L1 w_FnCarpetsCut_L2 w_FnCarpetsCut_L3 w_FnCarpetsCut_L4 w_FnCarpetsCut_L5 w_FnCarpetsCut_L6 w_FnCarpetsCut_L7 w_FnCarpetsCut_L8 w_FnCarpetsCut_L9 w_FnCarpetsCut_L10 w_FnCarpetsCut_L11 r0 r1 r2 r3 r4 steps6 need7 least16 covered28 long29 other30 length31 s281 s282 :=
  (congrArg (fun g => g.2.2.2.2.2.2.2.1 ((r0, r1, r2, r3, r4, ()), ((), (), steps6, need7, least16, (), (), covered28, long29, other30, length31, (), s281, s282, ()), ((), (), ()))) (FnCx.L_eq w_FnCarpetsCut_ts)).trans (by kernel_rfl)
theorem w_FnCarpetsCut_u9 (r0 : List (Int)) (r1 : List (Int)) (r2 : List (Int)) (r3 : List (Int)) (steps6 : Int) (need7 : Int) (least16 : Int) (covered28 : Int) (long29 : Int) (other30 : Int) (length31 : Int) (s310 : Int) (s311 : Int) : w_FnCarpetsCut_L9 r0 r1 r2 r3 steps6 need7 least16 covered28 long29 other30 length31 s310 s311 = w_FnCarpetsCut_t9 w_FnCarpetsCut_L1 w_FnCarpetsCut_L2 w_FnCarpetsCut_L3 w_FnCarpetsCut_L4 w_FnCarpetsCut_L5 w_FnCarpetsCut_L6 w_FnCarpetsCut_L7 w_FnCarpetsCut_L8 w_FnCarpetsCut_L9 w_FnCarpetsCut_L10 w_FnCarpetsCut_L11 r0 r1 r2 r3 steps6 need7 least16 covered28 long29 other30 length31 s310 s311 :=
  (congrArg (fun g => g.2.2.2.2.2.2.2.2.1 ((r0, r1, r2, r3, ()), ((), (), steps6, need7, least16, (), covered28, long29, other30, length31, (), s310, s311, ()), ((), (), ()))) (FnCx.L_eq w_FnCarpetsCut_ts)).trans (by kernel_rfl)
theorem w_FnCarpetsCut_u10 (r0 : List (Int)) (r1 : List (Int)) (r2 : List (Int)) (s357 : Int) (s358 : Int) : w_FnCarpetsCut_L10 r0 r1 r2 s357 s358 = w_FnCarpetsCut_t10 w_FnCarpetsCut_L1 w_FnCarpetsCut_L2 w_FnCarpetsCut_L3 w_FnCarpetsCut_L4 w_FnCarpetsCut_L5 w_FnCarpetsCut_L6 w_FnCarpetsCut_L7 w_FnCarpetsCut_L8 w_FnCarpetsCut_L9 w_FnCarpetsCut_L10 w_FnCarpetsCut_L11 r0 r1 r2 s357 s358 :=
  (congrArg (fun g => g.2.2.2.2.2.2.2.2.2.1 ((r0, r1, r2, ()), ((), (), (), (), s357, s358, ()), ((), (), ()))) (FnCx.L_eq w_FnCarpetsCut_ts)).trans (by kernel_rfl)
theorem w_FnCarpetsCut_u11 (r0 : List (Int)) (r1 : List (Int)) (r2 : List (Int)) (r3 : List (Int)) (a61 : Int) (b62 : Int) (whole63 : Int) (left64 : Int) (seventeen65 : Bool) (t69 : ByteArray) (nineteen71 : Bool) (text75 : ByteArray) (last76 : Bool) (s623 : Int) (s624 : Int) : w_FnCarpetsCut_L11 r0 r1 r2 r3 a61 b62 whole63 left64 seventeen65 t69 nineteen71 text75 last76 s623 s624 = w_FnCarpetsCut_t11 w_FnCarpetsCut_L1 w_FnCarpetsCut_L2 w_FnCarpetsCut_L3 w_FnCarpetsCut_L4 w_FnCarpetsCut_L5 w_FnCarpetsCut_L6 w_FnCarpetsCut_L7 w_FnCarpetsCut_L8 w_FnCarpetsCut_L9 w_FnCarpetsCut_L10 w_FnCarpetsCut_L11 r0 r1 r2 r3 a61 b62 whole63 left64 seventeen65 t69 nineteen71 text75 last76 s623 s624 :=
  (congrArg (fun g => g.2.2.2.2.2.2.2.2.2.2.1 ((r0, r1, r2, r3, ()), ((), (), a61, b62, whole63, left64, seventeen65, t69, (), nineteen71, (), text75, last76, s623, s624, ()), ((), (), ()))) (FnCx.L_eq w_FnCarpetsCut_ts)).trans (by kernel_rfl)
noncomputable def w_FnCarpetsCut (code0 : List Int) (more1 : List Int) : Option Bool := w_FnCarpetsCut_t0 w_FnCarpetsCut_L1 w_FnCarpetsCut_L2 w_FnCarpetsCut_L3 w_FnCarpetsCut_L4 w_FnCarpetsCut_L5 w_FnCarpetsCut_L6 w_FnCarpetsCut_L7 w_FnCarpetsCut_L8 w_FnCarpetsCut_L9 w_FnCarpetsCut_L10 w_FnCarpetsCut_L11 code0 more1
theorem w_FnCarpetsCut_e (code0 : List Int) (more1 : List Int) : c_w_FnCarpetsCut.start c_w_FnCarpetsCut.L (code0, more1, ()) = w_FnCarpetsCut code0 more1 := by kernel_rfl
noncomputable def F_w_FnCarpetsCut : Ins c_w_FnCarpetsCut.ins → Option Bool := fun x => w_FnCarpetsCut x.1 x.2.1
noncomputable def S_w_FnCarpetsCut : FSpec := mkF c_w_FnCarpetsCut.env.pre c_w_FnCarpetsCut.ins c_w_FnCarpetsCut.out c_w_FnCarpetsCut.inj F_w_FnCarpetsCut
theorem h_w_FnCarpetsCut : Cert Tryz.prog 4 S_w_FnCarpetsCut := FnCx.certF (c := c_w_FnCarpetsCut) F_w_FnCarpetsCut (tyOk _ _ _) (spOk ⟨h_w_big, fun _ _ h => h, ⟨h_s_DrawFirstRolls, fun _ _ h => h, ⟨h_i_FirstRolls, fun _ _ h => h, ⟨h_s_FirstRolls, fun _ _ h => h, ⟨h_i_FewestRolls, fun _ _ h => h, ⟨h_s_FewestRolls, fun _ _ h => h, ⟨h_i_LeastLength, fun _ _ h => h, ⟨h_s_LeastLength, fun _ _ h => h, ⟨h_i_RollsOfLeast, fun _ _ h => h, ⟨h_s_RollsOfLeast, fun _ _ h => h, ⟨h_i_CoverPlan, fun _ _ h => h, ⟨h_s_CoverPlan, fun _ _ h => h, ⟨h_w_wSame, fun _ _ h => h, ⟨h_i_AreRolls, fun _ _ h => h, ⟨h_s_AreRolls, fun _ _ h => h, ⟨h_w_wRises, fun _ _ h => h, ⟨h_i_JoinsOfPlan, fun _ _ h => h, ⟨h_s_DrawStepsOfRolls, fun _ _ h => h, ⟨h_i_StepsOfRolls, fun _ _ h => h, ⟨h_s_StepsOfRolls, fun _ _ h => h, ⟨h_i_RestOfRolls, fun _ _ h => h, ⟨h_s_RestOfRolls, fun _ _ h => h, ⟨h_s_DrawGreatestNeed, fun _ _ h => h, ⟨h_i_GreatestNeed, fun _ _ h => h, ⟨h_s_GreatestNeed, fun _ _ h => h, ⟨h_s_DrawJoinsOfPlan, fun _ _ h => h, ⟨h_s_JoinsOfPlan, fun _ _ h => h, ⟨h_s_DrawStepsOfRoll, fun _ _ h => h, ⟨h_i_StepsOfRoll, fun _ _ h => h, ⟨h_s_StepsOfRoll, fun _ _ h => h, ⟨h_s_DrawParseRolls, fun _ _ h => h, ⟨h_i_ParseRolls, fun _ _ h => h, ⟨h_s_ParseRolls, fun _ _ h => h, ⟨h_s_DrawRollsText, fun _ _ h => h, ⟨h_i_RollsText, fun _ _ h => h, ⟨h_s_RollsText, fun _ _ h => h, ⟨h_w_wSum, fun _ _ h => h, ⟨h_w_wHas, fun _ _ h => h, trivial⟩⟩⟩⟩⟩⟩⟩⟩⟩⟩⟩⟩⟩⟩⟩⟩⟩⟩⟩⟩⟩⟩⟩⟩⟩⟩⟩⟩⟩⟩⟩⟩⟩⟩⟩⟩⟩⟩) (fun _ _ _ _ _ hs => evDr_ok (tyOk _ _ _) hs follows) Tryz.func4 rfl rfl Tryz.ntmps4 (by kernel_rfl) rfl rfl (fun _ => rfl) w_FnCarpetsCut_ts w_FnCarpetsCut_hs (fun x t hb ht => by
  obtain ⟨code0, more1, _⟩ := x
  exact (w_FnCarpetsCut_e code0 more1).trans ht)
end Go.Proofs.YtddiigejhjfhdaaGreatDoor.V
