/- Functions of the program, as plain functions. No condition. -/
import Derived.Test.YthenlapjhlljnaaC1
set_option linter.unusedVariables false
set_option linter.unusedSimpArgs false
set_option maxRecDepth 100000
namespace Go.Proofs.Ythenlapjhlljnaa.V
open Go Go.Ev Go.Proofs
/-! (*spec.l1Cur).sureJumps -/
noncomputable def c_s_l1Cur_sureJumps : FnCx := { env := env 19 [(183, S_s_l1Cur_pick)] [], body := bodyOf Try.f268, res := [.tmp 2], ins := [.ptr 128 ksl1Cur], out := [(kSint, true)], T := List Int × (List Int × Int × Int), fin := fun r => (r.1.1, r.2.1), inj := fun t => ((t.1, ()), (t.2, ())), pts := [([.inLoop [1, 1, 0, 1, 0, 0], .inBlock 0, .code [1, 1, 1]], Shape.mk [Bs.box 128 [Cs.sl 2, Cs.sc kint, Cs.sc kuint64], Bs.row kint 3 true, Bs.row kuint8 5 false] [(0, Ss.one (Cs.ptr 0 0)), (3, Ss.one (Cs.sl 1)), (4, Ss.one (Cs.sc kint))] [Ss.one (Cs.ptr 0 0)])], fuel := 400, dr := noDr }
noncomputable def s_l1Cur_sureJumps_t1 (g1 : Int → Int → List (Int) → List (Int) → Int → Option (List Int × (List Int × Int × Int))) (b0_1 : Int) (b0_2 : Int) (r1 : List (Int)) (r2 : List (Int)) (k4 : Int) : Option (List Int × (List Int × Int × Int)) :=
  bif decide (k4 > 0) then
    Option.bind (s_l1Cur_pick r2 b0_1 b0_2 9) fun r =>
      bif Nat.ble (List.length r1 + 1) 4294967296 then
        g1 (Prod.fst (Prod.snd (Prod.snd r))) (Prod.snd (Prod.snd (Prod.snd r))) (r1 ++ [IntKind.wrap IntKind.i64 (Prod.fst r - 4)]) (Prod.fst (Prod.snd r))
          (IntKind.wrap IntKind.i64 (k4 - 1))
      else none
  else some (r1, r2, b0_1, b0_2)
noncomputable def s_l1Cur_sureJumps_t0 (g1 : Int → Int → List (Int) → List (Int) → Int → Option (List Int × (List Int × Int × Int))) (c0_code : List Int) (c0_at : Int) (c0_seed : Int) : Option (List Int × (List Int × Int × Int)) :=
  Option.bind (s_l1Cur_pick c0_code c0_at c0_seed 9) fun r =>
    g1 (Prod.fst (Prod.snd (Prod.snd r))) (Prod.snd (Prod.snd (Prod.snd r))) [] (Prod.fst (Prod.snd r)) (IntKind.wrap IntKind.i64 (1 + Prod.fst r))
theorem s_l1Cur_sureJumps_ts : Tails c_s_l1Cur_sureJumps.pts c_s_l1Cur_sureJumps.round :=
  ⟨fun s => by
    obtain ⟨⟨⟨_, b0_1, b0_2, _⟩, r1, r2, _⟩, ⟨_, _, k4, _⟩, ⟨_, _⟩⟩ := s
    refine Tail.eq (Y := fun g => s_l1Cur_sureJumps_t1 (fun b0_1 b0_2 r1 r2 k4 => g.1 ((((), b0_1, b0_2, ()), r1, r2, ()), ((), (), k4, ()), ((), ()))) b0_1 b0_2 r1 r2 k4) ?_ (fun g => by kernel_rfl)
    simp only [s_l1Cur_sureJumps_t1]; repeat (first | exact Tail.const _ | exact Tail.here _ | exact Tail.there (Tail.here _) | exact Tail.there (Tail.there (Tail.here _)) | exact Tail.there (Tail.there (Tail.there (Tail.here _))) | exact Tail.there (Tail.there (Tail.there (Tail.there (Tail.here _)))) | exact Tail.there (Tail.there (Tail.there (Tail.there (Tail.there (Tail.here _))))) | apply Tail.cond | (apply Tail.bind; intro _)), trivial⟩
theorem s_l1Cur_sureJumps_hs : ∀ x, Tail c_s_l1Cur_sureJumps.pts (fun g => c_s_l1Cur_sureJumps.start g x) := fun x => by
    obtain ⟨⟨c0_code, c0_at, c0_seed⟩, _⟩ := x
    refine Tail.eq (Y := fun g => s_l1Cur_sureJumps_t0 (fun b0_1 b0_2 r1 r2 k4 => g.1 ((((), b0_1, b0_2, ()), r1, r2, ()), ((), (), k4, ()), ((), ()))) c0_code c0_at c0_seed) ?_ (fun g => by kernel_rfl)
    simp only [s_l1Cur_sureJumps_t0]; repeat (first | exact Tail.const _ | exact Tail.here _ | exact Tail.there (Tail.here _) | exact Tail.there (Tail.there (Tail.here _)) | exact Tail.there (Tail.there (Tail.there (Tail.here _))) | exact Tail.there (Tail.there (Tail.there (Tail.there (Tail.here _)))) | exact Tail.there (Tail.there (Tail.there (Tail.there (Tail.there (Tail.here _))))) | apply Tail.cond | (apply Tail.bind; intro _))
noncomputable def s_l1Cur_sureJumps_L1 (b0_1 : Int) (b0_2 : Int) (r1 : List (Int)) (r2 : List (Int)) (k4 : Int) : Option (List Int × (List Int × Int × Int)) := c_s_l1Cur_sureJumps.L.1 ((((), b0_1, b0_2, ()), r1, r2, ()), ((), (), k4, ()), ((), ()))
theorem s_l1Cur_sureJumps_u1 (b0_1 : Int) (b0_2 : Int) (r1 : List (Int)) (r2 : List (Int)) (k4 : Int) : s_l1Cur_sureJumps_L1 b0_1 b0_2 r1 r2 k4 = s_l1Cur_sureJumps_t1 s_l1Cur_sureJumps_L1 b0_1 b0_2 r1 r2 k4 :=
  (congrArg (fun g => g.1 ((((), b0_1, b0_2, ()), r1, r2, ()), ((), (), k4, ()), ((), ()))) (FnCx.L_eq s_l1Cur_sureJumps_ts)).trans (by kernel_rfl)
noncomputable def s_l1Cur_sureJumps (c0_code : List Int) (c0_at : Int) (c0_seed : Int) : Option (List Int × (List Int × Int × Int)) := s_l1Cur_sureJumps_t0 s_l1Cur_sureJumps_L1 c0_code c0_at c0_seed
theorem s_l1Cur_sureJumps_e (c0_code : List Int) (c0_at : Int) (c0_seed : Int) : c_s_l1Cur_sureJumps.start c_s_l1Cur_sureJumps.L ((c0_code, c0_at, c0_seed), ()) = s_l1Cur_sureJumps c0_code c0_at c0_seed := by kernel_rfl
noncomputable def F_s_l1Cur_sureJumps : Ins c_s_l1Cur_sureJumps.ins → Option (List Int × (List Int × Int × Int)) := fun x => s_l1Cur_sureJumps x.1.1 x.1.2.1 x.1.2.2
noncomputable def S_s_l1Cur_sureJumps : FSpec := mkF c_s_l1Cur_sureJumps.env.pre c_s_l1Cur_sureJumps.ins c_s_l1Cur_sureJumps.out c_s_l1Cur_sureJumps.inj F_s_l1Cur_sureJumps
theorem h_s_l1Cur_sureJumps : Cert Try.prog 268 S_s_l1Cur_sureJumps := FnCx.certF (c := c_s_l1Cur_sureJumps) F_s_l1Cur_sureJumps (tyOk _ _ _) (spOk ⟨h_s_l1Cur_pick, fun _ _ _ => trivial, trivial⟩) (fun _ _ _ _ _ hs => noDr_ok) Try.func268 rfl rfl Try.ntmps268 (by kernel_rfl) rfl rfl (fun _ => rfl) s_l1Cur_sureJumps_ts s_l1Cur_sureJumps_hs (fun x t hb ht => by
  obtain ⟨⟨c0_code, c0_at, c0_seed⟩, _⟩ := x
  exact (s_l1Cur_sureJumps_e c0_code c0_at c0_seed).trans ht)
/-! (*spec.l1Cur).jumps -/
noncomputable def c_s_l1Cur_jumps : FnCx := { env := env 32 [(268, S_s_l1Cur_sureJumps), (183, S_s_l1Cur_pick), (180, S_s_l1Cur_among)] [], body := bodyOf Try.f200, res := [.tmp 2], ins := [.ptr 128 ksl1Cur], out := [(kSint, true)], T := List Int × (List Int × Int × Int), fin := fun r => (r.1.1, r.2.1), inj := fun t => ((t.1, ()), (t.2, ())), pts := [([.inLoop [1, 1, 0, 1, 0, 1, 1, 1, 1, 1, 0, 0, 0], .inBlock 1, .inBlock 0, .code [1, 1, 1]], Shape.mk [Bs.box 128 [Cs.sl 2, Cs.sc kint, Cs.sc kuint64], Bs.row kint 3 true, Bs.row kuint8 5 false] [(0, Ss.one (Cs.ptr 0 0)), (3, Ss.one (Cs.sl 1))] [Ss.one (Cs.ptr 0 0)])], fuel := 400, dr := noDr }
noncomputable def s_l1Cur_jumps_t1 (g1 : Int → Int → List (Int) → List (Int) → Option (List Int × (List Int × Int × Int))) (b0_1 : Int) (b0_2 : Int) (r1 : List (Int)) (r2 : List (Int)) : Option (List Int × (List Int × Int × Int)) :=
  Option.bind (s_l1Cur_pick r2 b0_1 b0_2 2) fun r =>
    bif decide ((↑(List.length r1) : Int) < IntKind.wrap IntKind.i64 (30 + Prod.fst r)) then
      Option.bind (s_l1Cur_pick (Prod.fst (Prod.snd r)) (Prod.fst (Prod.snd (Prod.snd r))) (Prod.snd (Prod.snd (Prod.snd r))) 11) fun r =>
        bif Nat.ble (List.length r1 + 1) 4294967296 then
          g1 (Prod.fst (Prod.snd (Prod.snd r))) (Prod.snd (Prod.snd (Prod.snd r))) (r1 ++ [IntKind.wrap IntKind.i64 (Prod.fst r - 5)]) (Prod.fst (Prod.snd r))
        else none
    else some (r1, Prod.fst (Prod.snd r), Prod.fst (Prod.snd (Prod.snd r)), Prod.snd (Prod.snd (Prod.snd r)))
noncomputable def s_l1Cur_jumps_t0 (g1 : Int → Int → List (Int) → List (Int) → Option (List Int × (List Int × Int × Int))) (c0_code : List Int) (c0_at : Int) (c0_seed : Int) : Option (List Int × (List Int × Int × Int)) :=
  Option.bind (s_l1Cur_sureJumps c0_code c0_at c0_seed) fun r =>
    Option.bind (s_l1Cur_pick (Prod.fst (Prod.snd r)) (Prod.fst (Prod.snd (Prod.snd r))) (Prod.snd (Prod.snd (Prod.snd r))) 14) fun r_1 =>
      bif Prod.fst r_1 == 0 then some ([], Prod.fst (Prod.snd r_1), Prod.fst (Prod.snd (Prod.snd r_1)), Prod.snd (Prod.snd (Prod.snd r_1)))
      else
        bif Prod.fst r_1 == 1 then
          Option.bind
            (s_l1Cur_among (Prod.fst (Prod.snd r_1)) (Prod.fst (Prod.snd (Prod.snd r_1))) (Prod.snd (Prod.snd (Prod.snd r_1)))
              [-30, 30, 31, -31, 4611686018427387904])
            fun r_2 =>
            bif decide (0 < (↑(List.length (Prod.fst r)) : Int)) then
              some
                (List.set (Prod.fst r) (Int.toNat 0) (Prod.fst r_2), Prod.fst (Prod.snd r_2), Prod.fst (Prod.snd (Prod.snd r_2)),
                  Prod.snd (Prod.snd (Prod.snd r_2)))
            else none
        else
          bif Prod.fst r_1 == 2 then g1 (Prod.fst (Prod.snd (Prod.snd r_1))) (Prod.snd (Prod.snd (Prod.snd r_1))) (Prod.fst r) (Prod.fst (Prod.snd r_1))
          else some (Prod.fst r, Prod.fst (Prod.snd r_1), Prod.fst (Prod.snd (Prod.snd r_1)), Prod.snd (Prod.snd (Prod.snd r_1)))
theorem s_l1Cur_jumps_ts : Tails c_s_l1Cur_jumps.pts c_s_l1Cur_jumps.round :=
  ⟨fun s => by
    obtain ⟨⟨⟨_, b0_1, b0_2, _⟩, r1, r2, _⟩, ⟨_, _, _⟩, ⟨_, _⟩⟩ := s
    refine Tail.eq (Y := fun g => s_l1Cur_jumps_t1 (fun b0_1 b0_2 r1 r2 => g.1 ((((), b0_1, b0_2, ()), r1, r2, ()), ((), (), ()), ((), ()))) b0_1 b0_2 r1 r2) ?_ (fun g => by kernel_rfl)
    simp only [s_l1Cur_jumps_t1]; repeat (first | exact Tail.const _ | exact Tail.here _ | exact Tail.there (Tail.here _) | exact Tail.there (Tail.there (Tail.here _)) | exact Tail.there (Tail.there (Tail.there (Tail.here _))) | exact Tail.there (Tail.there (Tail.there (Tail.there (Tail.here _)))) | exact Tail.there (Tail.there (Tail.there (Tail.there (Tail.there (Tail.here _))))) | apply Tail.cond | (apply Tail.bind; intro _)), trivial⟩
theorem s_l1Cur_jumps_hs : ∀ x, Tail c_s_l1Cur_jumps.pts (fun g => c_s_l1Cur_jumps.start g x) := fun x => by
    obtain ⟨⟨c0_code, c0_at, c0_seed⟩, _⟩ := x
    refine Tail.eq (Y := fun g => s_l1Cur_jumps_t0 (fun b0_1 b0_2 r1 r2 => g.1 ((((), b0_1, b0_2, ()), r1, r2, ()), ((), (), ()), ((), ()))) c0_code c0_at c0_seed) ?_ (fun g => by kernel_rfl)
    simp only [s_l1Cur_jumps_t0]; repeat (first | exact Tail.const _ | exact Tail.here _ | exact Tail.there (Tail.here _) | exact Tail.there (Tail.there (Tail.here _)) | exact Tail.there (Tail.there (Tail.there (Tail.here _))) | exact Tail.there (Tail.there (Tail.there (Tail.there (Tail.here _)))) | exact Tail.there (Tail.there (Tail.there (Tail.there (Tail.there (Tail.here _))))) | apply Tail.cond | (apply Tail.bind; intro _))
noncomputable def s_l1Cur_jumps_L1 (b0_1 : Int) (b0_2 : Int) (r1 : List (Int)) (r2 : List (Int)) : Option (List Int × (List Int × Int × Int)) := c_s_l1Cur_jumps.L.1 ((((), b0_1, b0_2, ()), r1, r2, ()), ((), (), ()), ((), ()))
theorem s_l1Cur_jumps_u1 (b0_1 : Int) (b0_2 : Int) (r1 : List (Int)) (r2 : List (Int)) : s_l1Cur_jumps_L1 b0_1 b0_2 r1 r2 = s_l1Cur_jumps_t1 s_l1Cur_jumps_L1 b0_1 b0_2 r1 r2 :=
  (congrArg (fun g => g.1 ((((), b0_1, b0_2, ()), r1, r2, ()), ((), (), ()), ((), ()))) (FnCx.L_eq s_l1Cur_jumps_ts)).trans (by kernel_rfl)
noncomputable def s_l1Cur_jumps (c0_code : List Int) (c0_at : Int) (c0_seed : Int) : Option (List Int × (List Int × Int × Int)) := s_l1Cur_jumps_t0 s_l1Cur_jumps_L1 c0_code c0_at c0_seed
theorem s_l1Cur_jumps_e (c0_code : List Int) (c0_at : Int) (c0_seed : Int) : c_s_l1Cur_jumps.start c_s_l1Cur_jumps.L ((c0_code, c0_at, c0_seed), ()) = s_l1Cur_jumps c0_code c0_at c0_seed := by kernel_rfl
noncomputable def F_s_l1Cur_jumps : Ins c_s_l1Cur_jumps.ins → Option (List Int × (List Int × Int × Int)) := fun x => s_l1Cur_jumps x.1.1 x.1.2.1 x.1.2.2
noncomputable def S_s_l1Cur_jumps : FSpec := mkF c_s_l1Cur_jumps.env.pre c_s_l1Cur_jumps.ins c_s_l1Cur_jumps.out c_s_l1Cur_jumps.inj F_s_l1Cur_jumps
theorem h_s_l1Cur_jumps : Cert Try.prog 200 S_s_l1Cur_jumps := FnCx.certF (c := c_s_l1Cur_jumps) F_s_l1Cur_jumps (tyOk _ _ _) (spOk ⟨h_s_l1Cur_sureJumps, fun _ _ _ => trivial, ⟨h_s_l1Cur_pick, fun _ _ _ => trivial, ⟨h_s_l1Cur_among, fun _ _ _ => trivial, trivial⟩⟩⟩) (fun _ _ _ _ _ hs => noDr_ok) Try.func200 rfl rfl Try.ntmps200 (by kernel_rfl) rfl rfl (fun _ => rfl) s_l1Cur_jumps_ts s_l1Cur_jumps_hs (fun x t hb ht => by
  obtain ⟨⟨c0_code, c0_at, c0_seed⟩, _⟩ := x
  exact (s_l1Cur_jumps_e c0_code c0_at c0_seed).trans ht)
/-! (*spec.l1Cur).onStep -/
noncomputable def c_s_l1Cur_onStep : FnCx := { env := env 14 [(183, S_s_l1Cur_pick)] [], body := bodyOf Try.f201, res := [.tmp 4], ins := [.ptr 128 ksl1Cur, .ro kSint], out := [(kint, true)], T := Int × (List Int × Int × Int), fin := fun r => (r.1.1, r.2.1), inj := fun t => ((t.1, ()), (t.2, (), ())), pts := [], fuel := 400, dr := noDr }
noncomputable def s_l1Cur_onStep (c0_code : List Int) (c0_at : Int) (c0_seed : Int) (jumps1 : List Int) : Option (Int × (List Int × Int × Int)) :=
  Option.bind (s_l1Cur_pick c0_code c0_at c0_seed (IntKind.wrap IntKind.i64 ((↑(List.length jumps1) : Int) + 1))) fun r =>
    Option.bind (s_l1Cur_pick (Prod.fst (Prod.snd r)) (Prod.fst (Prod.snd (Prod.snd r))) (Prod.snd (Prod.snd (Prod.snd r))) 16) fun r_1 =>
      some
        (IntKind.wrap IntKind.i64 (Prod.fst r - IntKind.wrap IntKind.i64 (Int.tdiv (Prod.fst r_1) 15)), Prod.fst (Prod.snd r_1),
          Prod.fst (Prod.snd (Prod.snd r_1)), Prod.snd (Prod.snd (Prod.snd r_1)))
theorem s_l1Cur_onStep_e (c0_code : List Int) (c0_at : Int) (c0_seed : Int) (jumps1 : List Int) : c_s_l1Cur_onStep.start c_s_l1Cur_onStep.L ((c0_code, c0_at, c0_seed), jumps1, ()) = s_l1Cur_onStep c0_code c0_at c0_seed jumps1 := by kernel_rfl
noncomputable def F_s_l1Cur_onStep : Ins c_s_l1Cur_onStep.ins → Option (Int × (List Int × Int × Int)) := fun x => s_l1Cur_onStep x.1.1 x.1.2.1 x.1.2.2 x.2.1
noncomputable def S_s_l1Cur_onStep : FSpec := mkF c_s_l1Cur_onStep.env.pre c_s_l1Cur_onStep.ins c_s_l1Cur_onStep.out c_s_l1Cur_onStep.inj F_s_l1Cur_onStep
theorem h_s_l1Cur_onStep : Cert Try.prog 201 S_s_l1Cur_onStep := FnCx.certF (c := c_s_l1Cur_onStep) F_s_l1Cur_onStep (tyOk _ _ _) (spOk ⟨h_s_l1Cur_pick, fun _ _ _ => trivial, trivial⟩) (fun _ _ _ _ _ hs => noDr_ok) Try.func201 rfl rfl Try.ntmps201 (by kernel_rfl) rfl rfl (fun _ => rfl) trivial (fun x => .inl ⟨c_s_l1Cur_onStep.start () x, fun _ => rfl⟩) (fun x t hb ht => by
  obtain ⟨⟨c0_code, c0_at, c0_seed⟩, jumps1, _⟩ := x
  exact (s_l1Cur_onStep_e c0_code c0_at c0_seed jumps1).trans ht)
/-! spec.DrawPlaceAfter -/
noncomputable def c_s_DrawPlaceAfter : FnCx := { env := env 21 [(200, S_s_l1Cur_jumps), (201, S_s_l1Cur_onStep), (180, S_s_l1Cur_among)] [], body := bodyOf Try.f65, res := [.tmp 2, .tmp 3, .tmp 4], ins := [.ro kSuint8], out := [(kSint, false), (kint, true), (kint, true)], T := List Int × Int × Int, fin := fun r => (r.1.1, r.1.2.1, r.1.2.2.1), inj := fun t => ((t.1, t.2.1, t.2.2, ()), ((), ())), pts := [], fuel := 400, dr := noDr }
noncomputable def s_DrawPlaceAfter (code0 : List Int) : Option (List Int × Int × Int) :=
  Option.bind (s_l1Cur_jumps code0 0 0) fun r =>
    Option.bind (s_l1Cur_onStep (Prod.fst (Prod.snd r)) (Prod.fst (Prod.snd (Prod.snd r))) (Prod.snd (Prod.snd (Prod.snd r))) (Prod.fst r)) fun r_1 =>
      Option.bind
        (s_l1Cur_among (Prod.fst (Prod.snd r_1)) (Prod.fst (Prod.snd (Prod.snd r_1))) (Prod.snd (Prod.snd (Prod.snd r_1)))
          [0, 1, 2, 3, 7, 100, 1000000000000, 1000000000001, -1])
        fun r_2 => some (Prod.fst r, Prod.fst r_1, Prod.fst r_2)
theorem s_DrawPlaceAfter_e (code0 : List Int) : c_s_DrawPlaceAfter.start c_s_DrawPlaceAfter.L (code0, ()) = s_DrawPlaceAfter code0 := by kernel_rfl
noncomputable def F_s_DrawPlaceAfter : Ins c_s_DrawPlaceAfter.ins → Option (List Int × Int × Int) := fun x => s_DrawPlaceAfter x.1
noncomputable def S_s_DrawPlaceAfter : FSpec := mkF c_s_DrawPlaceAfter.env.pre c_s_DrawPlaceAfter.ins c_s_DrawPlaceAfter.out c_s_DrawPlaceAfter.inj F_s_DrawPlaceAfter
theorem h_s_DrawPlaceAfter : Cert Try.prog 65 S_s_DrawPlaceAfter := FnCx.certF (c := c_s_DrawPlaceAfter) F_s_DrawPlaceAfter (tyOk _ _ _) (spOk ⟨h_s_l1Cur_jumps, fun _ _ _ => trivial, ⟨h_s_l1Cur_onStep, fun _ _ _ => trivial, ⟨h_s_l1Cur_among, fun _ _ _ => trivial, trivial⟩⟩⟩) (fun _ _ _ _ _ hs => noDr_ok) Try.func65 rfl rfl Try.ntmps65 (by kernel_rfl) rfl rfl (fun _ => rfl) trivial (fun x => .inl ⟨c_s_DrawPlaceAfter.start () x, fun _ => rfl⟩) (fun x t hb ht => by
  obtain ⟨code0, _⟩ := x
  exact (s_DrawPlaceAfter_e code0).trans ht)
/-! impl.AreJumps$1 -/
noncomputable def c_i_AreJumps_c1 : FnCx := { env := env 6 [(175, S_i_within)] [], body := bodyOf Try.f292, res := [.tmp 2], ins := [.ro kint], out := [(kbool, true)], T := Bool, fin := fun r => r.1.1, inj := fun t => ((t, ()), ((), ())), pts := [], fuel := 400, dr := noDr }
noncomputable def i_AreJumps_c1 (n0 : Int) : Bool :=
  !i_within n0 (-30) 30
theorem i_AreJumps_c1_e (n0 : Int) : c_i_AreJumps_c1.start c_i_AreJumps_c1.L (n0, ()) = some (i_AreJumps_c1 n0) := by kernel_rfl
noncomputable def F_i_AreJumps_c1 : Ins c_i_AreJumps_c1.ins → Bool := fun x => i_AreJumps_c1 x.1
noncomputable def S_i_AreJumps_c1 : FSpec := mkT c_i_AreJumps_c1.env.pre c_i_AreJumps_c1.ins c_i_AreJumps_c1.out c_i_AreJumps_c1.inj F_i_AreJumps_c1
theorem h_i_AreJumps_c1 : Cert Try.prog 292 S_i_AreJumps_c1 := FnCx.certT (c := c_i_AreJumps_c1) F_i_AreJumps_c1 (tyOk _ _ _) (spOk ⟨h_i_within, fun _ _ _ => trivial, trivial⟩) (fun _ _ _ _ _ hs => noDr_ok) Try.func292 rfl rfl Try.ntmps292 (by kernel_rfl) rfl rfl (fun _ => rfl) trivial (fun x => .inl ⟨c_i_AreJumps_c1.start () x, fun _ => rfl⟩) (fun x hb => by
  obtain ⟨n0, _⟩ := x
  exact i_AreJumps_c1_e n0)
/-! slices.IndexFunc[[]int,int] -/
noncomputable def c_slices_IndexFunc_int__i_AreJumps_c1 : FnCx := { env := env 19 [(292, S_i_AreJumps_c1)] [], body := bodyOf Try.f248, res := [.tmp 4], ins := [.ro kSint, .fn 292 []], out := [(kint, true)], T := Int, fin := fun r => r.1.1, inj := fun t => ((t, ()), ((), (), ())), pts := [([.inLoop [1, 0, 1, 0, 0], .inBlock 0, .code [1, 1]], Shape.mk [Bs.row kint 3 false] [(0, Ss.one (Cs.sl 0)), (1, Ss.fn 292 []), (7, Ss.one (Cs.sc kint)), (8, Ss.one (Cs.sc kint))] [Ss.one (Cs.any), Ss.fn 292 []])], fuel := 400, dr := noDr }
noncomputable def slices_IndexFunc_int__i_AreJumps_c1_t1 (g1 : List (Int) → Int → Int → Option (Int)) (r0 : List (Int)) (s7 : Int) (s8 : Int) : Option Int :=
  bif decide (s8 < s7) then
    bif decide (0 ≤ s8) then
      bif decide (s8 < (↑(List.length r0) : Int)) then
        bif i_AreJumps_c1 (rdk kint r0 s8) then some s8 else g1 r0 s7 (IntKind.wrap IntKind.i64 (s8 + 1))
      else none
    else none
  else some (-1)
noncomputable def slices_IndexFunc_int__i_AreJumps_c1_t0 (g1 : List (Int) → Int → Int → Option (Int)) (s0 : List Int) : Option Int :=
  g1 s0 (↑(List.length s0) : Int) 0
theorem slices_IndexFunc_int__i_AreJumps_c1_ts : Tails c_slices_IndexFunc_int__i_AreJumps_c1.pts c_slices_IndexFunc_int__i_AreJumps_c1.round :=
  ⟨fun s => by
    obtain ⟨⟨r0, _⟩, ⟨_, _, s7, s8, _⟩, ⟨_, _, _⟩⟩ := s
    refine Tail.eq (Y := fun g => slices_IndexFunc_int__i_AreJumps_c1_t1 (fun r0 s7 s8 => g.1 ((r0, ()), ((), (), s7, s8, ()), ((), (), ()))) r0 s7 s8) ?_ (fun g => by kernel_rfl)
    simp only [slices_IndexFunc_int__i_AreJumps_c1_t1]; repeat (first | exact Tail.const _ | exact Tail.here _ | exact Tail.there (Tail.here _) | exact Tail.there (Tail.there (Tail.here _)) | exact Tail.there (Tail.there (Tail.there (Tail.here _))) | exact Tail.there (Tail.there (Tail.there (Tail.there (Tail.here _)))) | exact Tail.there (Tail.there (Tail.there (Tail.there (Tail.there (Tail.here _))))) | apply Tail.cond | (apply Tail.bind; intro _)), trivial⟩
theorem slices_IndexFunc_int__i_AreJumps_c1_hs : ∀ x, Tail c_slices_IndexFunc_int__i_AreJumps_c1.pts (fun g => c_slices_IndexFunc_int__i_AreJumps_c1.start g x) := fun x => by
    obtain ⟨s0, _, _⟩ := x
    refine Tail.eq (Y := fun g => slices_IndexFunc_int__i_AreJumps_c1_t0 (fun r0 s7 s8 => g.1 ((r0, ()), ((), (), s7, s8, ()), ((), (), ()))) s0) ?_ (fun g => by kernel_rfl)
    simp only [slices_IndexFunc_int__i_AreJumps_c1_t0]; repeat (first | exact Tail.const _ | exact Tail.here _ | exact Tail.there (Tail.here _) | exact Tail.there (Tail.there (Tail.here _)) | exact Tail.there (Tail.there (Tail.there (Tail.here _))) | exact Tail.there (Tail.there (Tail.there (Tail.there (Tail.here _)))) | exact Tail.there (Tail.there (Tail.there (Tail.there (Tail.there (Tail.here _))))) | apply Tail.cond | (apply Tail.bind; intro _))
noncomputable def slices_IndexFunc_int__i_AreJumps_c1_L1 (r0 : List (Int)) (s7 : Int) (s8 : Int) : Option Int := c_slices_IndexFunc_int__i_AreJumps_c1.L.1 ((r0, ()), ((), (), s7, s8, ()), ((), (), ()))
theorem slices_IndexFunc_int__i_AreJumps_c1_u1 (r0 : List (Int)) (s7 : Int) (s8 : Int) : slices_IndexFunc_int__i_AreJumps_c1_L1 r0 s7 s8 = slices_IndexFunc_int__i_AreJumps_c1_t1 slices_IndexFunc_int__i_AreJumps_c1_L1 r0 s7 s8 :=
  (congrArg (fun g => g.1 ((r0, ()), ((), (), s7, s8, ()), ((), (), ()))) (FnCx.L_eq slices_IndexFunc_int__i_AreJumps_c1_ts)).trans (by kernel_rfl)
noncomputable def slices_IndexFunc_int__i_AreJumps_c1 (s0 : List Int) : Option Int := slices_IndexFunc_int__i_AreJumps_c1_t0 slices_IndexFunc_int__i_AreJumps_c1_L1 s0
theorem slices_IndexFunc_int__i_AreJumps_c1_e (s0 : List Int) : c_slices_IndexFunc_int__i_AreJumps_c1.start c_slices_IndexFunc_int__i_AreJumps_c1.L (s0, (), ()) = slices_IndexFunc_int__i_AreJumps_c1 s0 := by kernel_rfl
-- NICE tot
noncomputable def slices_IndexFunc_int__i_AreJumps_c1_n (l : List Int) : Int := idxF (fun x => i_AreJumps_c1 x) l 0
theorem slices_IndexFunc_int__i_AreJumps_c1_ok (l : List Int) (hb : BdI c_slices_IndexFunc_int__i_AreJumps_c1.ins (l, (), ())) : slices_IndexFunc_int__i_AreJumps_c1 l = some (slices_IndexFunc_int__i_AreJumps_c1_n l) :=
  have hm : l.length ≤ maxLen := hb.1.1
  loop_idx (L := fun i => slices_IndexFunc_int__i_AreJumps_c1_L1 l l.length (i : Int)) (l := l) (p := fun x => i_AreJumps_c1 x)
    (fun i h => by simp only [slices_IndexFunc_int__i_AreJumps_c1_u1 l l.length i, slices_IndexFunc_int__i_AreJumps_c1_t1, rdk_get (k := kint) h, wrapS h hm]; simp [h]) (by simp [slices_IndexFunc_int__i_AreJumps_c1_u1 l l.length l.length, slices_IndexFunc_int__i_AreJumps_c1_t1])
noncomputable def F_slices_IndexFunc_int__i_AreJumps_c1 : Ins c_slices_IndexFunc_int__i_AreJumps_c1.ins → Int := fun x => slices_IndexFunc_int__i_AreJumps_c1_n x.1
noncomputable def S_slices_IndexFunc_int__i_AreJumps_c1 : FSpec := mkT c_slices_IndexFunc_int__i_AreJumps_c1.env.pre c_slices_IndexFunc_int__i_AreJumps_c1.ins c_slices_IndexFunc_int__i_AreJumps_c1.out c_slices_IndexFunc_int__i_AreJumps_c1.inj F_slices_IndexFunc_int__i_AreJumps_c1
theorem h_slices_IndexFunc_int__i_AreJumps_c1 : Cert Try.prog 248 S_slices_IndexFunc_int__i_AreJumps_c1 := FnCx.certT (c := c_slices_IndexFunc_int__i_AreJumps_c1) F_slices_IndexFunc_int__i_AreJumps_c1 (tyOk _ _ _) (spOk ⟨h_i_AreJumps_c1, fun _ _ _ => trivial, trivial⟩) (fun _ _ _ _ _ hs => noDr_ok) Try.func248 rfl rfl Try.ntmps248 (by kernel_rfl) rfl rfl (fun _ => rfl) slices_IndexFunc_int__i_AreJumps_c1_ts slices_IndexFunc_int__i_AreJumps_c1_hs (fun x hb => by
  obtain ⟨s0, _, _⟩ := x
  exact (slices_IndexFunc_int__i_AreJumps_c1_e s0).trans (slices_IndexFunc_int__i_AreJumps_c1_ok s0 hb))
/-! slices.ContainsFunc[[]int,int] -/
noncomputable def c_slices_ContainsFunc_int__i_AreJumps_c1 : FnCx := { env := env 9 [(248, S_slices_IndexFunc_int__i_AreJumps_c1)] [], body := bodyOf Try.f291, res := [.tmp 4], ins := [.ro kSint, .fn 292 []], out := [(kbool, true)], T := Bool, fin := fun r => r.1.1, inj := fun t => ((t, ()), ((), (), ())), pts := [], fuel := 400, dr := noDr }
noncomputable def slices_ContainsFunc_int__i_AreJumps_c1 (s0 : List Int) : Bool :=
  decide (slices_IndexFunc_int__i_AreJumps_c1_n s0 ≥ 0)
theorem slices_ContainsFunc_int__i_AreJumps_c1_e (s0 : List Int) : c_slices_ContainsFunc_int__i_AreJumps_c1.start c_slices_ContainsFunc_int__i_AreJumps_c1.L (s0, (), ()) = some (slices_ContainsFunc_int__i_AreJumps_c1 s0) := by kernel_rfl
noncomputable def F_slices_ContainsFunc_int__i_AreJumps_c1 : Ins c_slices_ContainsFunc_int__i_AreJumps_c1.ins → Bool := fun x => slices_ContainsFunc_int__i_AreJumps_c1 x.1
noncomputable def S_slices_ContainsFunc_int__i_AreJumps_c1 : FSpec := mkT c_slices_ContainsFunc_int__i_AreJumps_c1.env.pre c_slices_ContainsFunc_int__i_AreJumps_c1.ins c_slices_ContainsFunc_int__i_AreJumps_c1.out c_slices_ContainsFunc_int__i_AreJumps_c1.inj F_slices_ContainsFunc_int__i_AreJumps_c1
theorem h_slices_ContainsFunc_int__i_AreJumps_c1 : Cert Try.prog 291 S_slices_ContainsFunc_int__i_AreJumps_c1 := FnCx.certT (c := c_slices_ContainsFunc_int__i_AreJumps_c1) F_slices_ContainsFunc_int__i_AreJumps_c1 (tyOk _ _ _) (spOk ⟨h_slices_IndexFunc_int__i_AreJumps_c1, fun _ _ _ => trivial, trivial⟩) (fun _ _ _ _ _ hs => noDr_ok) Try.func291 rfl rfl Try.ntmps291 (by kernel_rfl) rfl rfl (fun _ => rfl) trivial (fun x => .inl ⟨c_slices_ContainsFunc_int__i_AreJumps_c1.start () x, fun _ => rfl⟩) (fun x hb => by
  obtain ⟨s0, _, _⟩ := x
  exact slices_ContainsFunc_int__i_AreJumps_c1_e s0)
/-! spec.l1All -/
noncomputable def c_s_l1All : FnCx := { env := env 21 [(176, S_s_l1In)] [], body := bodyOf Try.f293, res := [.tmp 6], ins := [.ro kSint, .ro kint, .ro kint], out := [(kbool, true)], T := Bool, fin := fun r => r.1.1, inj := fun t => ((t, ()), ((), (), (), ())), pts := [([.inLoop [1, 0, 1, 0, 0], .inBlock 0, .code [1, 1]], Shape.mk [Bs.row kint 3 false] [(1, Ss.one (Cs.sc kint)), (2, Ss.one (Cs.sc kint)), (9, Ss.one (Cs.sl 0)), (10, Ss.one (Cs.sc kint)), (11, Ss.one (Cs.sc kint))] [Ss.one (Cs.any), Ss.one (Cs.any), Ss.one (Cs.any)])], fuel := 400, dr := noDr }
noncomputable def s_l1All_t1 (g1 : List (Int) → Int → Int → Int → Int → Option (Bool)) (r0 : List (Int)) (lo1 : Int) (hi2 : Int) (s10 : Int) (s11 : Int) : Option Bool :=
  bif decide (s11 < s10) then
    bif decide (0 ≤ s11) then
      bif decide (s11 < (↑(List.length r0) : Int)) then
        bif !s_l1In (rdk kint r0 s11) lo1 hi2 then some false else g1 r0 lo1 hi2 s10 (IntKind.wrap IntKind.i64 (s11 + 1))
      else none
    else none
  else some true
noncomputable def s_l1All_t0 (g1 : List (Int) → Int → Int → Int → Int → Option (Bool)) (l0 : List Int) (lo1 : Int) (hi2 : Int) : Option Bool :=
  g1 l0 lo1 hi2 (↑(List.length l0) : Int) 0
theorem s_l1All_ts : Tails c_s_l1All.pts c_s_l1All.round :=
  ⟨fun s => by
    obtain ⟨⟨r0, _⟩, ⟨lo1, hi2, _, s10, s11, _⟩, ⟨_, _, _, _⟩⟩ := s
    refine Tail.eq (Y := fun g => s_l1All_t1 (fun r0 lo1 hi2 s10 s11 => g.1 ((r0, ()), (lo1, hi2, (), s10, s11, ()), ((), (), (), ()))) r0 lo1 hi2 s10 s11) ?_ (fun g => by kernel_rfl)
    simp only [s_l1All_t1]; repeat (first | exact Tail.const _ | exact Tail.here _ | exact Tail.there (Tail.here _) | exact Tail.there (Tail.there (Tail.here _)) | exact Tail.there (Tail.there (Tail.there (Tail.here _))) | exact Tail.there (Tail.there (Tail.there (Tail.there (Tail.here _)))) | exact Tail.there (Tail.there (Tail.there (Tail.there (Tail.there (Tail.here _))))) | apply Tail.cond | (apply Tail.bind; intro _)), trivial⟩
theorem s_l1All_hs : ∀ x, Tail c_s_l1All.pts (fun g => c_s_l1All.start g x) := fun x => by
    obtain ⟨l0, lo1, hi2, _⟩ := x
    refine Tail.eq (Y := fun g => s_l1All_t0 (fun r0 lo1 hi2 s10 s11 => g.1 ((r0, ()), (lo1, hi2, (), s10, s11, ()), ((), (), (), ()))) l0 lo1 hi2) ?_ (fun g => by kernel_rfl)
    simp only [s_l1All_t0]; repeat (first | exact Tail.const _ | exact Tail.here _ | exact Tail.there (Tail.here _) | exact Tail.there (Tail.there (Tail.here _)) | exact Tail.there (Tail.there (Tail.there (Tail.here _))) | exact Tail.there (Tail.there (Tail.there (Tail.there (Tail.here _)))) | exact Tail.there (Tail.there (Tail.there (Tail.there (Tail.there (Tail.here _))))) | apply Tail.cond | (apply Tail.bind; intro _))
noncomputable def s_l1All_L1 (r0 : List (Int)) (lo1 : Int) (hi2 : Int) (s10 : Int) (s11 : Int) : Option Bool := c_s_l1All.L.1 ((r0, ()), (lo1, hi2, (), s10, s11, ()), ((), (), (), ()))
theorem s_l1All_u1 (r0 : List (Int)) (lo1 : Int) (hi2 : Int) (s10 : Int) (s11 : Int) : s_l1All_L1 r0 lo1 hi2 s10 s11 = s_l1All_t1 s_l1All_L1 r0 lo1 hi2 s10 s11 :=
  (congrArg (fun g => g.1 ((r0, ()), (lo1, hi2, (), s10, s11, ()), ((), (), (), ()))) (FnCx.L_eq s_l1All_ts)).trans (by kernel_rfl)
noncomputable def s_l1All (l0 : List Int) (lo1 : Int) (hi2 : Int) : Option Bool := s_l1All_t0 s_l1All_L1 l0 lo1 hi2
theorem s_l1All_e (l0 : List Int) (lo1 : Int) (hi2 : Int) : c_s_l1All.start c_s_l1All.L (l0, lo1, hi2, ()) = s_l1All l0 lo1 hi2 := by kernel_rfl
-- NICE tot
noncomputable def s_l1All_n (l : List Int) (lo hi : Int) : Bool := l.all (inB lo hi)
theorem s_l1In_inB2 (x lo hi : Int) : s_l1In x lo hi = inB lo hi x := by
  unfold s_l1In inB
  cases h1 : decide (lo ≤ x) <;> simp_all
theorem s_l1All_ok (l : List Int) (lo hi : Int) (hb : BdI c_s_l1All.ins (l, lo, hi, ())) : s_l1All l lo hi = some (s_l1All_n l lo hi) := by
  have hm : l.length ≤ maxLen := hb.1.1
  have e := loop_any (L := fun i => s_l1All_L1 l lo hi l.length (i : Int)) (l := l) (p := fun x => !inB lo hi x) (a := false) (b := true)
    (fun i h => by simp only [s_l1All_u1 l lo hi l.length i, s_l1All_t1, rdk_get (k := kint) h, wrapS h hm, s_l1In_inB2]; simp [h]) (by simp [s_l1All_u1 l lo hi l.length l.length, s_l1All_t1])
  refine Eq.trans e (congrArg some ?_)
  unfold s_l1All_n
  rw [any_not]
noncomputable def F_s_l1All : Ins c_s_l1All.ins → Bool := fun x => s_l1All_n x.1 x.2.1 x.2.2.1
noncomputable def S_s_l1All : FSpec := mkT c_s_l1All.env.pre c_s_l1All.ins c_s_l1All.out c_s_l1All.inj F_s_l1All
theorem h_s_l1All : Cert Try.prog 293 S_s_l1All := FnCx.certT (c := c_s_l1All) F_s_l1All (tyOk _ _ _) (spOk ⟨h_s_l1In, fun _ _ _ => trivial, trivial⟩) (fun _ _ _ _ _ hs => noDr_ok) Try.func293 rfl rfl Try.ntmps293 (by kernel_rfl) rfl rfl (fun _ => rfl) s_l1All_ts s_l1All_hs (fun x hb => by
  obtain ⟨l0, lo1, hi2, _⟩ := x
  exact (s_l1All_e l0 lo1 hi2).trans (s_l1All_ok l0 lo1 hi2 hb))
/-! spec.baGood -/
noncomputable def c_s_baGood : FnCx := { env := env 10 [(176, S_s_l1In), (293, S_s_l1All)] [], body := bodyOf Try.f270, res := [.tmp 2], ins := [.ro kSint], out := [(kbool, true)], T := Bool, fin := fun r => r.1.1, inj := fun t => ((t, ()), ((), ())), pts := [], fuel := 400, dr := noDr }
noncomputable def s_baGood (jumps0 : List Int) : Bool :=
  bif s_l1In (↑(List.length jumps0) : Int) 1 30 then s_l1All_n jumps0 (-30) 30 else false
theorem s_baGood_e (jumps0 : List Int) : c_s_baGood.start c_s_baGood.L (jumps0, ()) = some (s_baGood jumps0) := by
  refine Eq.trans (b := (bif s_l1In (↑(List.length jumps0) : Int) 1 30 then some (s_l1All_n jumps0 (-30) 30) else some false : Option Bool)) (by kernel_rfl) ?_
  unfold s_baGood
  repeat (first | rfl | apply condS)
noncomputable def F_s_baGood : Ins c_s_baGood.ins → Bool := fun x => s_baGood x.1
noncomputable def S_s_baGood : FSpec := mkT c_s_baGood.env.pre c_s_baGood.ins c_s_baGood.out c_s_baGood.inj F_s_baGood
theorem h_s_baGood : Cert Try.prog 270 S_s_baGood := FnCx.certT (c := c_s_baGood) F_s_baGood (tyOk _ _ _) (spOk ⟨h_s_l1In, fun _ _ _ => trivial, ⟨h_s_l1All, fun _ _ _ => trivial, trivial⟩⟩) (fun _ _ _ _ _ hs => noDr_ok) Try.func270 rfl rfl Try.ntmps270 (by kernel_rfl) rfl rfl (fun _ => rfl) trivial (fun x => .inl ⟨c_s_baGood.start () x, fun _ => rfl⟩) (fun x hb => by
  obtain ⟨jumps0, _⟩ := x
  exact s_baGood_e jumps0)
/-! impl.AreJumps -/
noncomputable def c_i_AreJumps : FnCx := { env := env 11 [(175, S_i_within), (291, S_slices_ContainsFunc_int__i_AreJumps_c1)] [], body := bodyOf Try.f269, res := [.tmp 2], ins := [.ro kSint], out := [(kbool, true)], T := Bool, fin := fun r => r.1.1, inj := fun t => ((t, ()), ((), ())), pts := [], fuel := 400, dr := noDr }
noncomputable def i_AreJumps (jumps0 : List Int) : Bool :=
  bif i_within (↑(List.length jumps0) : Int) 1 30 then !slices_ContainsFunc_int__i_AreJumps_c1 jumps0 else false
theorem i_AreJumps_e (jumps0 : List Int) : c_i_AreJumps.start c_i_AreJumps.L (jumps0, ()) = some (i_AreJumps jumps0) := by
  refine Eq.trans (b := (bif i_within (↑(List.length jumps0) : Int) 1 30 then some !slices_ContainsFunc_int__i_AreJumps_c1 jumps0 else some false : Option Bool)) (by kernel_rfl) ?_
  unfold i_AreJumps
  repeat (first | rfl | apply condS)
theorem i_within_inB2 (x lo hi : Int) : i_within x lo hi = inB lo hi x := by
  unfold i_within inB
  cases h1 : decide (lo ≤ x) <;> simp_all
theorem i_AreJumps_eq (l : List Int) : i_AreJumps l = s_baGood l := by
  unfold i_AreJumps s_baGood slices_ContainsFunc_int__i_AreJumps_c1 slices_IndexFunc_int__i_AreJumps_c1_n s_l1All_n
  rw [idxF_any, ← any_not]
  simp only [i_AreJumps_c1, i_within_inB2, s_l1In_inB2]
  cases inB 1 30 (l.length : Int) <;> cases l.any (fun x => !inB (-30) 30 x) <;> rfl
noncomputable def F_i_AreJumps : Ins c_i_AreJumps.ins → Bool := fun x => i_AreJumps x.1
noncomputable def S_i_AreJumps : FSpec := mkT c_i_AreJumps.env.pre c_i_AreJumps.ins c_i_AreJumps.out c_i_AreJumps.inj F_i_AreJumps
theorem h_i_AreJumps : Cert Try.prog 269 S_i_AreJumps := FnCx.certT (c := c_i_AreJumps) F_i_AreJumps (tyOk _ _ _) (spOk ⟨h_i_within, fun _ _ _ => trivial, ⟨h_slices_ContainsFunc_int__i_AreJumps_c1, fun _ _ _ => trivial, trivial⟩⟩) (fun _ _ _ _ _ hs => noDr_ok) Try.func269 rfl rfl Try.ntmps269 (by kernel_rfl) rfl rfl (fun _ => rfl) trivial (fun x => .inl ⟨c_i_AreJumps.start () x, fun _ => rfl⟩) (fun x hb => by
  obtain ⟨jumps0, _⟩ := x
  exact i_AreJumps_e jumps0)
/-! impl.haveSteps -/
noncomputable def c_i_haveSteps : FnCx := { env := env 22 [(175, S_i_within), (269, S_i_AreJumps)] [], body := bodyOf Try.f202, res := [.tmp 4], ins := [.ro kSint, .ro kSint], out := [(kbool, true)], T := Bool, fin := fun r => r.1.1, inj := fun t => ((t, ()), ((), (), ())), pts := [([.inLoop [1, 0, 1, 0, 0], .inBlock 0, .code [1, 1]], Shape.mk [Bs.row kint 3 false, Bs.row kint 3 false] [(0, Ss.one (Cs.sl 0)), (7, Ss.one (Cs.sl 1)), (8, Ss.one (Cs.sc kint)), (9, Ss.one (Cs.sc kint))] [Ss.one (Cs.any), Ss.one (Cs.any)])], fuel := 400, dr := noDr }
noncomputable def i_haveSteps_t1 (g1 : List (Int) → List (Int) → Int → Int → Option (Bool)) (r0 : List (Int)) (r1 : List (Int)) (s8 : Int) (s9 : Int) : Option Bool :=
  bif decide (s9 < s8) then
    bif decide (0 ≤ s9) then
      bif decide (s9 < (↑(List.length r1) : Int)) then
        bif !i_within (rdk kint r1 s9) 0 (IntKind.wrap IntKind.i64 ((↑(List.length r0) : Int) - 1)) then some false
        else g1 r0 r1 s8 (IntKind.wrap IntKind.i64 (s9 + 1))
      else none
    else none
  else some (i_AreJumps r0)
noncomputable def i_haveSteps_t0 (g1 : List (Int) → List (Int) → Int → Int → Option (Bool)) (jumps0 : List Int) (steps1 : List Int) : Option Bool :=
  g1 jumps0 steps1 (↑(List.length steps1) : Int) 0
theorem i_haveSteps_ts : Tails c_i_haveSteps.pts c_i_haveSteps.round :=
  ⟨fun s => by
    obtain ⟨⟨r0, r1, _⟩, ⟨_, _, s8, s9, _⟩, ⟨_, _, _⟩⟩ := s
    refine Tail.eq (Y := fun g => i_haveSteps_t1 (fun r0 r1 s8 s9 => g.1 ((r0, r1, ()), ((), (), s8, s9, ()), ((), (), ()))) r0 r1 s8 s9) ?_ (fun g => by kernel_rfl)
    simp only [i_haveSteps_t1]; repeat (first | exact Tail.const _ | exact Tail.here _ | exact Tail.there (Tail.here _) | exact Tail.there (Tail.there (Tail.here _)) | exact Tail.there (Tail.there (Tail.there (Tail.here _))) | exact Tail.there (Tail.there (Tail.there (Tail.there (Tail.here _)))) | exact Tail.there (Tail.there (Tail.there (Tail.there (Tail.there (Tail.here _))))) | apply Tail.cond | (apply Tail.bind; intro _)), trivial⟩
theorem i_haveSteps_hs : ∀ x, Tail c_i_haveSteps.pts (fun g => c_i_haveSteps.start g x) := fun x => by
    obtain ⟨jumps0, steps1, _⟩ := x
    refine Tail.eq (Y := fun g => i_haveSteps_t0 (fun r0 r1 s8 s9 => g.1 ((r0, r1, ()), ((), (), s8, s9, ()), ((), (), ()))) jumps0 steps1) ?_ (fun g => by kernel_rfl)
    simp only [i_haveSteps_t0]; repeat (first | exact Tail.const _ | exact Tail.here _ | exact Tail.there (Tail.here _) | exact Tail.there (Tail.there (Tail.here _)) | exact Tail.there (Tail.there (Tail.there (Tail.here _))) | exact Tail.there (Tail.there (Tail.there (Tail.there (Tail.here _)))) | exact Tail.there (Tail.there (Tail.there (Tail.there (Tail.there (Tail.here _))))) | apply Tail.cond | (apply Tail.bind; intro _))
noncomputable def i_haveSteps_L1 (r0 : List (Int)) (r1 : List (Int)) (s8 : Int) (s9 : Int) : Option Bool := c_i_haveSteps.L.1 ((r0, r1, ()), ((), (), s8, s9, ()), ((), (), ()))
theorem i_haveSteps_u1 (r0 : List (Int)) (r1 : List (Int)) (s8 : Int) (s9 : Int) : i_haveSteps_L1 r0 r1 s8 s9 = i_haveSteps_t1 i_haveSteps_L1 r0 r1 s8 s9 :=
  (congrArg (fun g => g.1 ((r0, r1, ()), ((), (), s8, s9, ()), ((), (), ()))) (FnCx.L_eq i_haveSteps_ts)).trans (by kernel_rfl)
noncomputable def i_haveSteps (jumps0 : List Int) (steps1 : List Int) : Option Bool := i_haveSteps_t0 i_haveSteps_L1 jumps0 steps1
theorem i_haveSteps_e (jumps0 : List Int) (steps1 : List Int) : c_i_haveSteps.start c_i_haveSteps.L (jumps0, steps1, ()) = i_haveSteps jumps0 steps1 := by kernel_rfl
noncomputable def F_i_haveSteps : Ins c_i_haveSteps.ins → Option Bool := fun x => i_haveSteps x.1 x.2.1
noncomputable def S_i_haveSteps : FSpec := mkF c_i_haveSteps.env.pre c_i_haveSteps.ins c_i_haveSteps.out c_i_haveSteps.inj F_i_haveSteps
theorem h_i_haveSteps : Cert Try.prog 202 S_i_haveSteps := FnCx.certF (c := c_i_haveSteps) F_i_haveSteps (tyOk _ _ _) (spOk ⟨h_i_within, fun _ _ _ => trivial, ⟨h_i_AreJumps, fun _ _ _ => trivial, trivial⟩⟩) (fun _ _ _ _ _ hs => noDr_ok) Try.func202 rfl rfl Try.ntmps202 (by kernel_rfl) rfl rfl (fun _ => rfl) i_haveSteps_ts i_haveSteps_hs (fun x t hb ht => by
  obtain ⟨jumps0, steps1, _⟩ := x
  exact (i_haveSteps_e jumps0 steps1).trans ht)
/-! impl.isOut -/
noncomputable def c_i_isOut : FnCx := { env := env 11 [(175, S_i_within)] [], body := bodyOf Try.f204, res := [.tmp 4], ins := [.ro kSint, .ro kint], out := [(kbool, true)], T := Bool, fin := fun r => r.1.1, inj := fun t => ((t, ()), ((), (), ())), pts := [], fuel := 400, dr := noDr }
noncomputable def i_isOut (jumps0 : List Int) (place1 : Int) : Bool :=
  !i_within place1 0 (IntKind.wrap IntKind.i64 ((↑(List.length jumps0) : Int) - 1))
theorem i_isOut_e (jumps0 : List Int) (place1 : Int) : c_i_isOut.start c_i_isOut.L (jumps0, place1, ()) = some (i_isOut jumps0 place1) := by kernel_rfl
noncomputable def F_i_isOut : Ins c_i_isOut.ins → Bool := fun x => i_isOut x.1 x.2.1
noncomputable def S_i_isOut : FSpec := mkT c_i_isOut.env.pre c_i_isOut.ins c_i_isOut.out c_i_isOut.inj F_i_isOut
theorem h_i_isOut : Cert Try.prog 204 S_i_isOut := FnCx.certT (c := c_i_isOut) F_i_isOut (tyOk _ _ _) (spOk ⟨h_i_within, fun _ _ _ => trivial, trivial⟩) (fun _ _ _ _ _ hs => noDr_ok) Try.func204 rfl rfl Try.ntmps204 (by kernel_rfl) rfl rfl (fun _ => rfl) trivial (fun x => .inl ⟨c_i_isOut.start () x, fun _ => rfl⟩) (fun x hb => by
  obtain ⟨jumps0, place1, _⟩ := x
  exact i_isOut_e jumps0 place1)
/-! slices.Index[[]int,int] -/
noncomputable def c_slices_Index_int : FnCx := { env := env 19 [] [], body := bodyOf Try.f205, res := [.tmp 4], ins := [.ro kSint, .ro kint], out := [(kint, true)], T := Int, fin := fun r => r.1.1, inj := fun t => ((t, ()), ((), (), ())), pts := [([.inLoop [1, 0, 1, 0, 0], .inBlock 0, .code [1, 1]], Shape.mk [Bs.row kint 3 false] [(0, Ss.one (Cs.sl 0)), (1, Ss.one (Cs.sc kint)), (7, Ss.one (Cs.sc kint)), (8, Ss.one (Cs.sc kint))] [Ss.one (Cs.any), Ss.one (Cs.any)])], fuel := 400, dr := noDr }
noncomputable def slices_Index_int_t1 (g1 : List (Int) → Int → Int → Int → Option (Int)) (r0 : List (Int)) (v1 : Int) (s7 : Int) (s8 : Int) : Option Int :=
  bif decide (s8 < s7) then
    bif decide (0 ≤ s8) then
      bif decide (s8 < (↑(List.length r0) : Int)) then bif v1 == rdk kint r0 s8 then some s8 else g1 r0 v1 s7 (IntKind.wrap IntKind.i64 (s8 + 1))
      else none
    else none
  else some (-1)
noncomputable def slices_Index_int_t0 (g1 : List (Int) → Int → Int → Int → Option (Int)) (s0 : List Int) (v1 : Int) : Option Int :=
  g1 s0 v1 (↑(List.length s0) : Int) 0
theorem slices_Index_int_ts : Tails c_slices_Index_int.pts c_slices_Index_int.round :=
  ⟨fun s => by
    obtain ⟨⟨r0, _⟩, ⟨_, v1, s7, s8, _⟩, ⟨_, _, _⟩⟩ := s
    refine Tail.eq (Y := fun g => slices_Index_int_t1 (fun r0 v1 s7 s8 => g.1 ((r0, ()), ((), v1, s7, s8, ()), ((), (), ()))) r0 v1 s7 s8) ?_ (fun g => by kernel_rfl)
    simp only [slices_Index_int_t1]; repeat (first | exact Tail.const _ | exact Tail.here _ | exact Tail.there (Tail.here _) | exact Tail.there (Tail.there (Tail.here _)) | exact Tail.there (Tail.there (Tail.there (Tail.here _))) | exact Tail.there (Tail.there (Tail.there (Tail.there (Tail.here _)))) | exact Tail.there (Tail.there (Tail.there (Tail.there (Tail.there (Tail.here _))))) | apply Tail.cond | (apply Tail.bind; intro _)), trivial⟩
theorem slices_Index_int_hs : ∀ x, Tail c_slices_Index_int.pts (fun g => c_slices_Index_int.start g x) := fun x => by
    obtain ⟨s0, v1, _⟩ := x
    refine Tail.eq (Y := fun g => slices_Index_int_t0 (fun r0 v1 s7 s8 => g.1 ((r0, ()), ((), v1, s7, s8, ()), ((), (), ()))) s0 v1) ?_ (fun g => by kernel_rfl)
    simp only [slices_Index_int_t0]; repeat (first | exact Tail.const _ | exact Tail.here _ | exact Tail.there (Tail.here _) | exact Tail.there (Tail.there (Tail.here _)) | exact Tail.there (Tail.there (Tail.there (Tail.here _))) | exact Tail.there (Tail.there (Tail.there (Tail.there (Tail.here _)))) | exact Tail.there (Tail.there (Tail.there (Tail.there (Tail.there (Tail.here _))))) | apply Tail.cond | (apply Tail.bind; intro _))
noncomputable def slices_Index_int_L1 (r0 : List (Int)) (v1 : Int) (s7 : Int) (s8 : Int) : Option Int := c_slices_Index_int.L.1 ((r0, ()), ((), v1, s7, s8, ()), ((), (), ()))
theorem slices_Index_int_u1 (r0 : List (Int)) (v1 : Int) (s7 : Int) (s8 : Int) : slices_Index_int_L1 r0 v1 s7 s8 = slices_Index_int_t1 slices_Index_int_L1 r0 v1 s7 s8 :=
  (congrArg (fun g => g.1 ((r0, ()), ((), v1, s7, s8, ()), ((), (), ()))) (FnCx.L_eq slices_Index_int_ts)).trans (by kernel_rfl)
noncomputable def slices_Index_int (s0 : List Int) (v1 : Int) : Option Int := slices_Index_int_t0 slices_Index_int_L1 s0 v1
theorem slices_Index_int_e (s0 : List Int) (v1 : Int) : c_slices_Index_int.start c_slices_Index_int.L (s0, v1, ()) = slices_Index_int s0 v1 := by kernel_rfl
-- NICE tot
noncomputable def slices_Index_int_n (l : List Int) (v : Int) : Int := idxF (fun x => v == x) l 0
theorem slices_Index_int_ok (l : List Int) (v : Int) (hb : BdI c_slices_Index_int.ins (l, v, ())) : slices_Index_int l v = some (slices_Index_int_n l v) :=
  have hm : l.length ≤ maxLen := hb.1.1
  loop_idx (L := fun i => slices_Index_int_L1 l v l.length (i : Int)) (l := l) (p := fun x => v == x)
    (fun i h => by simp only [slices_Index_int_u1 l v l.length i, slices_Index_int_t1, rdk_get (k := kint) h, wrapS h hm]; simp [h]) (by simp [slices_Index_int_u1 l v l.length l.length, slices_Index_int_t1])
noncomputable def F_slices_Index_int : Ins c_slices_Index_int.ins → Int := fun x => slices_Index_int_n x.1 x.2.1
noncomputable def S_slices_Index_int : FSpec := mkT c_slices_Index_int.env.pre c_slices_Index_int.ins c_slices_Index_int.out c_slices_Index_int.inj F_slices_Index_int
theorem h_slices_Index_int : Cert Try.prog 205 S_slices_Index_int := FnCx.certT (c := c_slices_Index_int) F_slices_Index_int (tyOk _ _ _) (spOk trivial) (fun _ _ _ _ _ hs => noDr_ok) Try.func205 rfl rfl Try.ntmps205 (by kernel_rfl) rfl rfl (fun _ => rfl) slices_Index_int_ts slices_Index_int_hs (fun x hb => by
  obtain ⟨s0, v1, _⟩ := x
  exact (slices_Index_int_e s0 v1).trans (slices_Index_int_ok s0 v1 hb))
/-! slices.Contains[[]int,int] -/
noncomputable def c_slices_Contains_int : FnCx := { env := env 9 [(205, S_slices_Index_int)] [], body := bodyOf Try.f216, res := [.tmp 4], ins := [.ro kSint, .ro kint], out := [(kbool, true)], T := Bool, fin := fun r => r.1.1, inj := fun t => ((t, ()), ((), (), ())), pts := [], fuel := 400, dr := noDr }
noncomputable def slices_Contains_int (s0 : List Int) (v1 : Int) : Bool :=
  decide (slices_Index_int_n s0 v1 ≥ 0)
theorem slices_Contains_int_e (s0 : List Int) (v1 : Int) : c_slices_Contains_int.start c_slices_Contains_int.L (s0, v1, ()) = some (slices_Contains_int s0 v1) := by kernel_rfl
theorem slices_Contains_int_eq (l : List Int) (v : Int) : slices_Contains_int l v = decide (v ∈ l) := by
  unfold slices_Contains_int slices_Index_int_n
  rw [idxF_any]
  induction l with
  | nil => rfl
  | cons x l ih => rw [List.any_cons, ih]; by_cases h : v = x <;> simp [h]
noncomputable def F_slices_Contains_int : Ins c_slices_Contains_int.ins → Bool := fun x => slices_Contains_int x.1 x.2.1
noncomputable def S_slices_Contains_int : FSpec := mkT c_slices_Contains_int.env.pre c_slices_Contains_int.ins c_slices_Contains_int.out c_slices_Contains_int.inj F_slices_Contains_int
theorem h_slices_Contains_int : Cert Try.prog 216 S_slices_Contains_int := FnCx.certT (c := c_slices_Contains_int) F_slices_Contains_int (tyOk _ _ _) (spOk ⟨h_slices_Index_int, fun _ _ _ => trivial, trivial⟩) (fun _ _ _ _ _ hs => noDr_ok) Try.func216 rfl rfl Try.ntmps216 (by kernel_rfl) rfl rfl (fun _ => rfl) trivial (fun x => .inl ⟨c_slices_Contains_int.start () x, fun _ => rfl⟩) (fun x hb => by
  obtain ⟨s0, v1, _⟩ := x
  exact slices_Contains_int_e s0 v1)
/-! impl.land -/
noncomputable def c_i_land : FnCx := { env := env 14 [] [], body := bodyOf Try.f274, res := [.tmp 6], ins := [.ro kSint, .ro kint, .ro kint], out := [(kint, true)], T := Int, fin := fun r => r.1.1, inj := fun t => ((t, ()), ((), (), (), ())), pts := [], fuel := 400, dr := noDr }
noncomputable def i_land (jumps0 : List Int) (step1 : Int) (jump2 : Int) : Int :=
  bif
      decide
        ((bif decide ((↑(List.length jumps0) : Int) < IntKind.wrap IntKind.i64 (step1 + jump2)) then (↑(List.length jumps0) : Int)
          else IntKind.wrap IntKind.i64 (step1 + jump2)) >
          -1) then
    bif decide ((↑(List.length jumps0) : Int) < IntKind.wrap IntKind.i64 (step1 + jump2)) then (↑(List.length jumps0) : Int)
    else IntKind.wrap IntKind.i64 (step1 + jump2)
  else -1
theorem i_land_e (jumps0 : List Int) (step1 : Int) (jump2 : Int) : c_i_land.start c_i_land.L (jumps0, step1, jump2, ()) = some (i_land jumps0 step1 jump2) := by
  refine Eq.trans (b := (some (bif decide ((bif decide ((↑(List.length jumps0) : Int) < IntKind.wrap IntKind.i64 (step1 + jump2)) then (↑(List.length jumps0) : Int) else IntKind.wrap IntKind.i64 (step1 + jump2)) > -1) then bif decide ((↑(List.length jumps0) : Int) < IntKind.wrap IntKind.i64 (step1 + jump2)) then (↑(List.length jumps0) : Int) else IntKind.wrap IntKind.i64 (step1 + jump2) else -1) : Option Int)) (by kernel_rfl) ?_
  unfold i_land
  repeat (first | rfl | apply condS)
noncomputable def F_i_land : Ins c_i_land.ins → Int := fun x => i_land x.1 x.2.1 x.2.2.1
noncomputable def S_i_land : FSpec := mkT c_i_land.env.pre c_i_land.ins c_i_land.out c_i_land.inj F_i_land
theorem h_i_land : Cert Try.prog 274 S_i_land := FnCx.certT (c := c_i_land) F_i_land (tyOk _ _ _) (spOk trivial) (fun _ _ _ _ _ hs => noDr_ok) Try.func274 rfl rfl Try.ntmps274 (by kernel_rfl) rfl rfl (fun _ => rfl) trivial (fun x => .inl ⟨c_i_land.start () x, fun _ => rfl⟩) (fun x hb => by
  obtain ⟨jumps0, step1, jump2, _⟩ := x
  exact i_land_e jumps0 step1 jump2)
/-! impl.next -/
noncomputable def c_i_next : FnCx := { env := env 12 [(274, S_i_land)] [], body := bodyOf Try.f214, res := [.tmp 4], ins := [.ro kSint, .ro kint], out := [(kint, true)], T := Int, fin := fun r => r.1.1, inj := fun t => ((t, ()), ((), (), ())), pts := [], fuel := 400, dr := noDr }
noncomputable def i_next (jumps0 : List Int) (step1 : Int) : Option Int :=
  bif decide (0 ≤ step1) then bif decide (step1 < (↑(List.length jumps0) : Int)) then some (i_land jumps0 step1 (rdk kint jumps0 step1)) else none else none
theorem i_next_e (jumps0 : List Int) (step1 : Int) : c_i_next.start c_i_next.L (jumps0, step1, ()) = i_next jumps0 step1 := by kernel_rfl
noncomputable def F_i_next : Ins c_i_next.ins → Option Int := fun x => i_next x.1 x.2.1
noncomputable def S_i_next : FSpec := mkF c_i_next.env.pre c_i_next.ins c_i_next.out c_i_next.inj F_i_next
theorem h_i_next : Cert Try.prog 214 S_i_next := FnCx.certF (c := c_i_next) F_i_next (tyOk _ _ _) (spOk ⟨h_i_land, fun _ _ _ => trivial, trivial⟩) (fun _ _ _ _ _ hs => noDr_ok) Try.func214 rfl rfl Try.ntmps214 (by kernel_rfl) rfl rfl (fun _ => rfl) trivial (fun x => .inl ⟨c_i_next.start () x, fun _ => rfl⟩) (fun x t hb ht => by
  obtain ⟨jumps0, step1, _⟩ := x
  exact (i_next_e jumps0 step1).trans ht)
/-! impl.path -/
noncomputable def c_i_path : FnCx := { env := env 27 [(204, S_i_isOut), (216, S_slices_Contains_int), (214, S_i_next)] [], body := bodyOf Try.f203, res := [.tmp 4, .tmp 5], ins := [.ro kSint, .ro kint], out := [(kSint, true), (kint, true)], T := List Int × Int, fin := fun r => (r.1.1, r.1.2.1), inj := fun t => ((t.1, t.2, ()), ((), (), ())), pts := [([.inLoop [1, 1, 0, 0, 0], .inBlock 0, .code [1, 1, 1]], Shape.mk [Bs.row kint 3 false, Bs.row kint 3 true] [(0, Ss.one (Cs.sl 0)), (1, Ss.one (Cs.sc kint)), (6, Ss.one (Cs.sl 1))] [Ss.one (Cs.any), Ss.one (Cs.any)])], fuel := 400, dr := noDr }
noncomputable def i_path_t1 (g1 : List (Int) → List (Int) → Int → Option (List Int × Int)) (r0 : List (Int)) (r1 : List (Int)) (step1 : Int) : Option (List Int × Int) :=
  bif !i_isOut r0 step1 then
    bif !slices_Contains_int r1 step1 then
      bif Nat.ble (List.length r1 + 1) 4294967296 then Option.bind (i_next r0 step1) fun r => g1 r0 (r1 ++ [step1]) r else none
    else some (r1, step1)
  else some (r1, step1)
noncomputable def i_path_t0 (g1 : List (Int) → List (Int) → Int → Option (List Int × Int)) (jumps0 : List Int) (step1 : Int) : Option (List Int × Int) :=
  g1 jumps0 [] step1
theorem i_path_ts : Tails c_i_path.pts c_i_path.round :=
  ⟨fun s => by
    obtain ⟨⟨r0, r1, _⟩, ⟨_, step1, _, _⟩, ⟨_, _, _⟩⟩ := s
    refine Tail.eq (Y := fun g => i_path_t1 (fun r0 r1 step1 => g.1 ((r0, r1, ()), ((), step1, (), ()), ((), (), ()))) r0 r1 step1) ?_ (fun g => by kernel_rfl)
    simp only [i_path_t1]; repeat (first | exact Tail.const _ | exact Tail.here _ | exact Tail.there (Tail.here _) | exact Tail.there (Tail.there (Tail.here _)) | exact Tail.there (Tail.there (Tail.there (Tail.here _))) | exact Tail.there (Tail.there (Tail.there (Tail.there (Tail.here _)))) | exact Tail.there (Tail.there (Tail.there (Tail.there (Tail.there (Tail.here _))))) | apply Tail.cond | (apply Tail.bind; intro _)), trivial⟩
theorem i_path_hs : ∀ x, Tail c_i_path.pts (fun g => c_i_path.start g x) := fun x => by
    obtain ⟨jumps0, step1, _⟩ := x
    refine Tail.eq (Y := fun g => i_path_t0 (fun r0 r1 step1 => g.1 ((r0, r1, ()), ((), step1, (), ()), ((), (), ()))) jumps0 step1) ?_ (fun g => by kernel_rfl)
    simp only [i_path_t0]; repeat (first | exact Tail.const _ | exact Tail.here _ | exact Tail.there (Tail.here _) | exact Tail.there (Tail.there (Tail.here _)) | exact Tail.there (Tail.there (Tail.there (Tail.here _))) | exact Tail.there (Tail.there (Tail.there (Tail.there (Tail.here _)))) | exact Tail.there (Tail.there (Tail.there (Tail.there (Tail.there (Tail.here _))))) | apply Tail.cond | (apply Tail.bind; intro _))
noncomputable def i_path_L1 (r0 : List (Int)) (r1 : List (Int)) (step1 : Int) : Option (List Int × Int) := c_i_path.L.1 ((r0, r1, ()), ((), step1, (), ()), ((), (), ()))
theorem i_path_u1 (r0 : List (Int)) (r1 : List (Int)) (step1 : Int) : i_path_L1 r0 r1 step1 = i_path_t1 i_path_L1 r0 r1 step1 :=
  (congrArg (fun g => g.1 ((r0, r1, ()), ((), step1, (), ()), ((), (), ()))) (FnCx.L_eq i_path_ts)).trans (by kernel_rfl)
noncomputable def i_path (jumps0 : List Int) (step1 : Int) : Option (List Int × Int) := i_path_t0 i_path_L1 jumps0 step1
theorem i_path_e (jumps0 : List Int) (step1 : Int) : c_i_path.start c_i_path.L (jumps0, step1, ()) = i_path jumps0 step1 := by kernel_rfl
noncomputable def F_i_path : Ins c_i_path.ins → Option (List Int × Int) := fun x => i_path x.1 x.2.1
noncomputable def S_i_path : FSpec := mkF c_i_path.env.pre c_i_path.ins c_i_path.out c_i_path.inj F_i_path
theorem h_i_path : Cert Try.prog 203 S_i_path := FnCx.certF (c := c_i_path) F_i_path (tyOk _ _ _) (spOk ⟨h_i_isOut, fun _ _ _ => trivial, ⟨h_slices_Contains_int, fun _ _ _ => trivial, ⟨h_i_next, fun _ _ _ => trivial, trivial⟩⟩⟩) (fun _ _ _ _ _ hs => noDr_ok) Try.func203 rfl rfl Try.ntmps203 (by kernel_rfl) rfl rfl (fun _ => rfl) i_path_ts i_path_hs (fun x t hb ht => by
  obtain ⟨jumps0, step1, _⟩ := x
  exact (i_path_e jumps0 step1).trans ht)
/-! impl.PlaceAfter -/
noncomputable def c_i_PlaceAfter : FnCx := { env := env 55 [(202, S_i_haveSteps), (175, S_i_within), (203, S_i_path), (204, S_i_isOut), (205, S_slices_Index_int)] [], body := bodyOf Try.f66, res := [.tmp 6, .tmp 7], ins := [.ro kSint, .ro kint, .ro kint], out := [(kint, true), (kbool, true)], T := Int × Bool, fin := fun r => (r.1.1, r.1.2.1), inj := fun t => ((t.1, t.2, ()), ((), (), (), ())), pts := [], fuel := 400, dr := noDr }
noncomputable def i_PlaceAfter (jumps0 : List Int) (step1 : Int) (time2 : Int) : Option (Int × Bool) :=
  Option.bind (i_haveSteps jumps0 [step1]) fun r =>
    bif !r then some (0, false)
    else
      bif !i_within time2 0 1000000000000 then some (0, false)
      else
        Option.bind (i_path jumps0 step1) fun r =>
          bif decide (time2 < (↑(List.length (Prod.fst r)) : Int)) then
            bif decide (0 ≤ time2) then
              bif decide (time2 < (↑(List.length (Prod.fst r)) : Int)) then some (rdk kint (Prod.fst r) time2, true) else none
            else none
          else
            bif i_isOut jumps0 (Prod.snd r) then some (Prod.snd r, true)
            else
              bif IntKind.wrap IntKind.i64 ((↑(List.length (Prod.fst r)) : Int) - slices_Index_int_n (Prod.fst r) (Prod.snd r)) == 0 then none
              else
                bif
                    decide
                      (0 ≤
                        IntKind.wrap IntKind.i64
                          (slices_Index_int_n (Prod.fst r) (Prod.snd r) +
                            Int.tmod (IntKind.wrap IntKind.i64 (time2 - slices_Index_int_n (Prod.fst r) (Prod.snd r)))
                              (IntKind.wrap IntKind.i64 ((↑(List.length (Prod.fst r)) : Int) - slices_Index_int_n (Prod.fst r) (Prod.snd r))))) then
                  bif
                      decide
                        (IntKind.wrap IntKind.i64
                            (slices_Index_int_n (Prod.fst r) (Prod.snd r) +
                              Int.tmod (IntKind.wrap IntKind.i64 (time2 - slices_Index_int_n (Prod.fst r) (Prod.snd r)))
                                (IntKind.wrap IntKind.i64 ((↑(List.length (Prod.fst r)) : Int) - slices_Index_int_n (Prod.fst r) (Prod.snd r)))) <
                          (↑(List.length (Prod.fst r)) : Int)) then
                    some
                      (rdk kint (Prod.fst r)
                          (IntKind.wrap IntKind.i64
                            (slices_Index_int_n (Prod.fst r) (Prod.snd r) +
                              Int.tmod (IntKind.wrap IntKind.i64 (time2 - slices_Index_int_n (Prod.fst r) (Prod.snd r)))
                                (IntKind.wrap IntKind.i64 ((↑(List.length (Prod.fst r)) : Int) - slices_Index_int_n (Prod.fst r) (Prod.snd r))))),
                        true)
                  else none
                else none
theorem i_PlaceAfter_e (jumps0 : List Int) (step1 : Int) (time2 : Int) : c_i_PlaceAfter.start c_i_PlaceAfter.L (jumps0, step1, time2, ()) = i_PlaceAfter jumps0 step1 time2 := by kernel_rfl
noncomputable def F_i_PlaceAfter : Ins c_i_PlaceAfter.ins → Option (Int × Bool) := fun x => i_PlaceAfter x.1 x.2.1 x.2.2.1
noncomputable def S_i_PlaceAfter : FSpec := mkF c_i_PlaceAfter.env.pre c_i_PlaceAfter.ins c_i_PlaceAfter.out c_i_PlaceAfter.inj F_i_PlaceAfter
theorem h_i_PlaceAfter : Cert Try.prog 66 S_i_PlaceAfter := FnCx.certF (c := c_i_PlaceAfter) F_i_PlaceAfter (tyOk _ _ _) (spOk ⟨h_i_haveSteps, fun _ _ _ => trivial, ⟨h_i_within, fun _ _ _ => trivial, ⟨h_i_path, fun _ _ _ => trivial, ⟨h_i_isOut, fun _ _ _ => trivial, ⟨h_slices_Index_int, fun _ _ _ => trivial, trivial⟩⟩⟩⟩⟩) (fun _ _ _ _ _ hs => noDr_ok) Try.func66 rfl rfl Try.ntmps66 (by kernel_rfl) rfl rfl (fun _ => rfl) trivial (fun x => .inl ⟨c_i_PlaceAfter.start () x, fun _ => rfl⟩) (fun x t hb ht => by
  obtain ⟨jumps0, step1, time2, _⟩ := x
  exact (i_PlaceAfter_e jumps0 step1 time2).trans ht)
/-! spec.baStep -/
noncomputable def c_s_baStep : FnCx := { env := env 14 [(270, S_s_baGood), (176, S_s_l1In)] [], body := bodyOf Try.f206, res := [.tmp 4], ins := [.ro kSint, .ro kint], out := [(kbool, true)], T := Bool, fin := fun r => r.1.1, inj := fun t => ((t, ()), ((), (), ())), pts := [], fuel := 400, dr := noDr }
noncomputable def s_baStep (jumps0 : List Int) (step1 : Int) : Bool :=
  bif s_baGood jumps0 then s_l1In step1 0 (IntKind.wrap IntKind.i64 ((↑(List.length jumps0) : Int) - 1)) else false
theorem s_baStep_e (jumps0 : List Int) (step1 : Int) : c_s_baStep.start c_s_baStep.L (jumps0, step1, ()) = some (s_baStep jumps0 step1) := by
  refine Eq.trans (b := (bif s_baGood jumps0 then some (s_l1In step1 0 (IntKind.wrap IntKind.i64 ((↑(List.length jumps0) : Int) - 1))) else some false : Option Bool)) (by kernel_rfl) ?_
  unfold s_baStep
  repeat (first | rfl | apply condS)
noncomputable def F_s_baStep : Ins c_s_baStep.ins → Bool := fun x => s_baStep x.1 x.2.1
noncomputable def S_s_baStep : FSpec := mkT c_s_baStep.env.pre c_s_baStep.ins c_s_baStep.out c_s_baStep.inj F_s_baStep
theorem h_s_baStep : Cert Try.prog 206 S_s_baStep := FnCx.certT (c := c_s_baStep) F_s_baStep (tyOk _ _ _) (spOk ⟨h_s_baGood, fun _ _ _ => trivial, ⟨h_s_l1In, fun _ _ _ => trivial, trivial⟩⟩) (fun _ _ _ _ _ hs => noDr_ok) Try.func206 rfl rfl Try.ntmps206 (by kernel_rfl) rfl rfl (fun _ => rfl) trivial (fun x => .inl ⟨c_s_baStep.start () x, fun _ => rfl⟩) (fun x hb => by
  obtain ⟨jumps0, step1, _⟩ := x
  exact s_baStep_e jumps0 step1)
/-! spec.l1Has -/
noncomputable def c_s_l1Has : FnCx := { env := env 17 [] [], body := bodyOf Try.f217, res := [.tmp 4], ins := [.ro kSint, .ro kint], out := [(kbool, true)], T := Bool, fin := fun r => r.1.1, inj := fun t => ((t, ()), ((), (), ())), pts := [([.inLoop [1, 0, 1, 0, 0], .inBlock 0, .code [1, 1]], Shape.mk [Bs.row kint 3 false] [(1, Ss.one (Cs.sc kint)), (7, Ss.one (Cs.sl 0)), (8, Ss.one (Cs.sc kint)), (9, Ss.one (Cs.sc kint))] [Ss.one (Cs.any), Ss.one (Cs.any)])], fuel := 400, dr := noDr }
noncomputable def s_l1Has_t1 (g1 : List (Int) → Int → Int → Int → Option (Bool)) (r0 : List (Int)) (n1 : Int) (s8 : Int) (s9 : Int) : Option Bool :=
  bif decide (s9 < s8) then
    bif decide (0 ≤ s9) then
      bif decide (s9 < (↑(List.length r0) : Int)) then
        bif rdk kint r0 s9 == n1 then some true else g1 r0 n1 s8 (IntKind.wrap IntKind.i64 (s9 + 1))
      else none
    else none
  else some false
noncomputable def s_l1Has_t0 (g1 : List (Int) → Int → Int → Int → Option (Bool)) (l0 : List Int) (n1 : Int) : Option Bool :=
  g1 l0 n1 (↑(List.length l0) : Int) 0
theorem s_l1Has_ts : Tails c_s_l1Has.pts c_s_l1Has.round :=
  ⟨fun s => by
    obtain ⟨⟨r0, _⟩, ⟨n1, _, s8, s9, _⟩, ⟨_, _, _⟩⟩ := s
    refine Tail.eq (Y := fun g => s_l1Has_t1 (fun r0 n1 s8 s9 => g.1 ((r0, ()), (n1, (), s8, s9, ()), ((), (), ()))) r0 n1 s8 s9) ?_ (fun g => by kernel_rfl)
    simp only [s_l1Has_t1]; repeat (first | exact Tail.const _ | exact Tail.here _ | exact Tail.there (Tail.here _) | exact Tail.there (Tail.there (Tail.here _)) | exact Tail.there (Tail.there (Tail.there (Tail.here _))) | exact Tail.there (Tail.there (Tail.there (Tail.there (Tail.here _)))) | exact Tail.there (Tail.there (Tail.there (Tail.there (Tail.there (Tail.here _))))) | apply Tail.cond | (apply Tail.bind; intro _)), trivial⟩
theorem s_l1Has_hs : ∀ x, Tail c_s_l1Has.pts (fun g => c_s_l1Has.start g x) := fun x => by
    obtain ⟨l0, n1, _⟩ := x
    refine Tail.eq (Y := fun g => s_l1Has_t0 (fun r0 n1 s8 s9 => g.1 ((r0, ()), (n1, (), s8, s9, ()), ((), (), ()))) l0 n1) ?_ (fun g => by kernel_rfl)
    simp only [s_l1Has_t0]; repeat (first | exact Tail.const _ | exact Tail.here _ | exact Tail.there (Tail.here _) | exact Tail.there (Tail.there (Tail.here _)) | exact Tail.there (Tail.there (Tail.there (Tail.here _))) | exact Tail.there (Tail.there (Tail.there (Tail.there (Tail.here _)))) | exact Tail.there (Tail.there (Tail.there (Tail.there (Tail.there (Tail.here _))))) | apply Tail.cond | (apply Tail.bind; intro _))
noncomputable def s_l1Has_L1 (r0 : List (Int)) (n1 : Int) (s8 : Int) (s9 : Int) : Option Bool := c_s_l1Has.L.1 ((r0, ()), (n1, (), s8, s9, ()), ((), (), ()))
theorem s_l1Has_u1 (r0 : List (Int)) (n1 : Int) (s8 : Int) (s9 : Int) : s_l1Has_L1 r0 n1 s8 s9 = s_l1Has_t1 s_l1Has_L1 r0 n1 s8 s9 :=
  (congrArg (fun g => g.1 ((r0, ()), (n1, (), s8, s9, ()), ((), (), ()))) (FnCx.L_eq s_l1Has_ts)).trans (by kernel_rfl)
noncomputable def s_l1Has (l0 : List Int) (n1 : Int) : Option Bool := s_l1Has_t0 s_l1Has_L1 l0 n1
theorem s_l1Has_e (l0 : List Int) (n1 : Int) : c_s_l1Has.start c_s_l1Has.L (l0, n1, ()) = s_l1Has l0 n1 := by kernel_rfl
-- NICE tot
noncomputable def s_l1Has_n (l : List Int) (v : Int) : Bool := decide (v ∈ l)
theorem s_l1Has_ok (l : List Int) (v : Int) (hb : BdI c_s_l1Has.ins (l, v, ())) : s_l1Has l v = some (s_l1Has_n l v) := by
  have hm : l.length ≤ maxLen := hb.1.1
  have e := loop_any (L := fun i => s_l1Has_L1 l v l.length (i : Int)) (l := l) (p := fun x => x == v) (a := true) (b := false)
    (fun i h => by simp only [s_l1Has_u1 l v l.length i, s_l1Has_t1, rdk_get (k := kint) h, wrapS h hm]; simp [h]) (by simp [s_l1Has_u1 l v l.length l.length, s_l1Has_t1])
  refine Eq.trans e (congrArg some ?_)
  unfold s_l1Has_n
  clear e hb hm
  induction l with
  | nil => rfl
  | cons x l ih =>
    rw [List.any_cons]
    by_cases h : x = v
    · simp [h]
    · have h' : ¬ v = x := fun e => h e.symm
      simp only [List.mem_cons, h', false_or] at ih ⊢
      rw [← ih]
      simp [h]
noncomputable def F_s_l1Has : Ins c_s_l1Has.ins → Bool := fun x => s_l1Has_n x.1 x.2.1
noncomputable def S_s_l1Has : FSpec := mkT c_s_l1Has.env.pre c_s_l1Has.ins c_s_l1Has.out c_s_l1Has.inj F_s_l1Has
theorem h_s_l1Has : Cert Try.prog 217 S_s_l1Has := FnCx.certT (c := c_s_l1Has) F_s_l1Has (tyOk _ _ _) (spOk trivial) (fun _ _ _ _ _ hs => noDr_ok) Try.func217 rfl rfl Try.ntmps217 (by kernel_rfl) rfl rfl (fun _ => rfl) s_l1Has_ts s_l1Has_hs (fun x hb => by
  obtain ⟨l0, n1, _⟩ := x
  exact (s_l1Has_e l0 n1).trans (s_l1Has_ok l0 n1 hb))
/-! spec.baNext -/
noncomputable def c_s_baNext : FnCx := { env := env 32 [] [], body := bodyOf Try.f215, res := [.tmp 4], ins := [.ro kSint, .ro kint], out := [(kint, true)], T := Int, fin := fun r => r.1.1, inj := fun t => ((t, ()), ((), (), ())), pts := [], fuel := 400, dr := noDr }
noncomputable def s_baNext (jumps0 : List Int) (place1 : Int) : Option Int :=
  bif decide (place1 < 0) then some place1
  else
    bif decide (place1 ≥ (↑(List.length jumps0) : Int)) then some place1
    else
      bif decide (0 ≤ place1) then
        bif decide (place1 < (↑(List.length jumps0) : Int)) then
          bif decide (IntKind.wrap IntKind.i64 (place1 + rdk kint jumps0 place1) < 0) then some (-1)
          else
            bif decide (IntKind.wrap IntKind.i64 (place1 + rdk kint jumps0 place1) > (↑(List.length jumps0) : Int)) then
              some (↑(List.length jumps0) : Int)
            else some (IntKind.wrap IntKind.i64 (place1 + rdk kint jumps0 place1))
        else none
      else none
theorem s_baNext_e (jumps0 : List Int) (place1 : Int) : c_s_baNext.start c_s_baNext.L (jumps0, place1, ()) = s_baNext jumps0 place1 := by kernel_rfl
noncomputable def F_s_baNext : Ins c_s_baNext.ins → Option Int := fun x => s_baNext x.1 x.2.1
noncomputable def S_s_baNext : FSpec := mkF c_s_baNext.env.pre c_s_baNext.ins c_s_baNext.out c_s_baNext.inj F_s_baNext
theorem h_s_baNext : Cert Try.prog 215 S_s_baNext := FnCx.certF (c := c_s_baNext) F_s_baNext (tyOk _ _ _) (spOk trivial) (fun _ _ _ _ _ hs => noDr_ok) Try.func215 rfl rfl Try.ntmps215 (by kernel_rfl) rfl rfl (fun _ => rfl) trivial (fun x => .inl ⟨c_s_baNext.start () x, fun _ => rfl⟩) (fun x t hb ht => by
  obtain ⟨jumps0, place1, _⟩ := x
  exact (s_baNext_e jumps0 place1).trans ht)
/-! spec.baPath -/
noncomputable def c_s_baPath : FnCx := { env := env 32 [(217, S_s_l1Has), (215, S_s_baNext)] [], body := bodyOf Try.f207, res := [.tmp 4, .tmp 5], ins := [.ro kSint, .ro kint], out := [(kSint, true), (kint, true)], T := List Int × Int, fin := fun r => (r.1.1, r.1.2.1), inj := fun t => ((t.1, t.2, ()), ((), (), ())), pts := [([.inLoop [1, 1, 1, 0, 0, 0], .inBlock 0, .code [1, 1, 1, 1]], Shape.mk [Bs.row kint 3 false, Bs.row kint 3 true] [(0, Ss.one (Cs.sl 0)), (6, Ss.one (Cs.sl 1)), (7, Ss.one (Cs.sc kint))] [Ss.one (Cs.any), Ss.one (Cs.any)])], fuel := 400, dr := noDr }
noncomputable def s_baPath_t1 (g1 : List (Int) → List (Int) → Int → Option (List Int × Int)) (r0 : List (Int)) (r1 : List (Int)) (at7 : Int) : Option (List Int × Int) :=
  bif decide (at7 ≥ 0) then
    bif decide (at7 < (↑(List.length r0) : Int)) then
      bif !s_l1Has_n r1 at7 then bif Nat.ble (List.length r1 + 1) 4294967296 then Option.bind (s_baNext r0 at7) fun r => g1 r0 (r1 ++ [at7]) r else none
      else some (r1, at7)
    else some (r1, at7)
  else some (r1, at7)
noncomputable def s_baPath_t0 (g1 : List (Int) → List (Int) → Int → Option (List Int × Int)) (jumps0 : List Int) (step1 : Int) : Option (List Int × Int) :=
  g1 jumps0 [] step1
theorem s_baPath_ts : Tails c_s_baPath.pts c_s_baPath.round :=
  ⟨fun s => by
    obtain ⟨⟨r0, r1, _⟩, ⟨_, _, at7, _⟩, ⟨_, _, _⟩⟩ := s
    refine Tail.eq (Y := fun g => s_baPath_t1 (fun r0 r1 at7 => g.1 ((r0, r1, ()), ((), (), at7, ()), ((), (), ()))) r0 r1 at7) ?_ (fun g => by kernel_rfl)
    simp only [s_baPath_t1]; repeat (first | exact Tail.const _ | exact Tail.here _ | exact Tail.there (Tail.here _) | exact Tail.there (Tail.there (Tail.here _)) | exact Tail.there (Tail.there (Tail.there (Tail.here _))) | exact Tail.there (Tail.there (Tail.there (Tail.there (Tail.here _)))) | exact Tail.there (Tail.there (Tail.there (Tail.there (Tail.there (Tail.here _))))) | apply Tail.cond | (apply Tail.bind; intro _)), trivial⟩
theorem s_baPath_hs : ∀ x, Tail c_s_baPath.pts (fun g => c_s_baPath.start g x) := fun x => by
    obtain ⟨jumps0, step1, _⟩ := x
    refine Tail.eq (Y := fun g => s_baPath_t0 (fun r0 r1 at7 => g.1 ((r0, r1, ()), ((), (), at7, ()), ((), (), ()))) jumps0 step1) ?_ (fun g => by kernel_rfl)
    simp only [s_baPath_t0]; repeat (first | exact Tail.const _ | exact Tail.here _ | exact Tail.there (Tail.here _) | exact Tail.there (Tail.there (Tail.here _)) | exact Tail.there (Tail.there (Tail.there (Tail.here _))) | exact Tail.there (Tail.there (Tail.there (Tail.there (Tail.here _)))) | exact Tail.there (Tail.there (Tail.there (Tail.there (Tail.there (Tail.here _))))) | apply Tail.cond | (apply Tail.bind; intro _))
noncomputable def s_baPath_L1 (r0 : List (Int)) (r1 : List (Int)) (at7 : Int) : Option (List Int × Int) := c_s_baPath.L.1 ((r0, r1, ()), ((), (), at7, ()), ((), (), ()))
theorem s_baPath_u1 (r0 : List (Int)) (r1 : List (Int)) (at7 : Int) : s_baPath_L1 r0 r1 at7 = s_baPath_t1 s_baPath_L1 r0 r1 at7 :=
  (congrArg (fun g => g.1 ((r0, r1, ()), ((), (), at7, ()), ((), (), ()))) (FnCx.L_eq s_baPath_ts)).trans (by kernel_rfl)
noncomputable def s_baPath (jumps0 : List Int) (step1 : Int) : Option (List Int × Int) := s_baPath_t0 s_baPath_L1 jumps0 step1
theorem s_baPath_e (jumps0 : List Int) (step1 : Int) : c_s_baPath.start c_s_baPath.L (jumps0, step1, ()) = s_baPath jumps0 step1 := by kernel_rfl
noncomputable def F_s_baPath : Ins c_s_baPath.ins → Option (List Int × Int) := fun x => s_baPath x.1 x.2.1
noncomputable def S_s_baPath : FSpec := mkF c_s_baPath.env.pre c_s_baPath.ins c_s_baPath.out c_s_baPath.inj F_s_baPath
theorem h_s_baPath : Cert Try.prog 207 S_s_baPath := FnCx.certF (c := c_s_baPath) F_s_baPath (tyOk _ _ _) (spOk ⟨h_s_l1Has, fun _ _ _ => trivial, ⟨h_s_baNext, fun _ _ _ => trivial, trivial⟩⟩) (fun _ _ _ _ _ hs => noDr_ok) Try.func207 rfl rfl Try.ntmps207 (by kernel_rfl) rfl rfl (fun _ => rfl) s_baPath_ts s_baPath_hs (fun x t hb ht => by
  obtain ⟨jumps0, step1, _⟩ := x
  exact (s_baPath_e jumps0 step1).trans ht)
/-! spec.baPlace -/
noncomputable def c_s_baPlace : FnCx := { env := env 19 [] [], body := bodyOf Try.f208, res := [.tmp 4], ins := [.ro kSint, .ro kint], out := [(kint, true)], T := Int, fin := fun r => r.1.1, inj := fun t => ((t, ()), ((), (), ())), pts := [([.inLoop [1, 0, 1, 0, 0], .inBlock 0, .code [1, 1]], Shape.mk [Bs.row kint 3 false] [(1, Ss.one (Cs.sc kint)), (7, Ss.one (Cs.sl 0)), (8, Ss.one (Cs.sc kint)), (9, Ss.one (Cs.sc kint))] [Ss.one (Cs.any), Ss.one (Cs.any)])], fuel := 400, dr := noDr }
noncomputable def s_baPlace_t1 (g1 : List (Int) → Int → Int → Int → Option (Int)) (r0 : List (Int)) (step1 : Int) (s8 : Int) (s9 : Int) : Option Int :=
  bif decide (s9 < s8) then
    bif decide (0 ≤ s9) then
      bif decide (s9 < (↑(List.length r0) : Int)) then
        bif rdk kint r0 s9 == step1 then some s9 else g1 r0 step1 s8 (IntKind.wrap IntKind.i64 (s9 + 1))
      else none
    else none
  else some (-1)
noncomputable def s_baPlace_t0 (g1 : List (Int) → Int → Int → Int → Option (Int)) (path0 : List Int) (step1 : Int) : Option Int :=
  g1 path0 step1 (↑(List.length path0) : Int) 0
theorem s_baPlace_ts : Tails c_s_baPlace.pts c_s_baPlace.round :=
  ⟨fun s => by
    obtain ⟨⟨r0, _⟩, ⟨step1, _, s8, s9, _⟩, ⟨_, _, _⟩⟩ := s
    refine Tail.eq (Y := fun g => s_baPlace_t1 (fun r0 step1 s8 s9 => g.1 ((r0, ()), (step1, (), s8, s9, ()), ((), (), ()))) r0 step1 s8 s9) ?_ (fun g => by kernel_rfl)
    simp only [s_baPlace_t1]; repeat (first | exact Tail.const _ | exact Tail.here _ | exact Tail.there (Tail.here _) | exact Tail.there (Tail.there (Tail.here _)) | exact Tail.there (Tail.there (Tail.there (Tail.here _))) | exact Tail.there (Tail.there (Tail.there (Tail.there (Tail.here _)))) | exact Tail.there (Tail.there (Tail.there (Tail.there (Tail.there (Tail.here _))))) | apply Tail.cond | (apply Tail.bind; intro _)), trivial⟩
theorem s_baPlace_hs : ∀ x, Tail c_s_baPlace.pts (fun g => c_s_baPlace.start g x) := fun x => by
    obtain ⟨path0, step1, _⟩ := x
    refine Tail.eq (Y := fun g => s_baPlace_t0 (fun r0 step1 s8 s9 => g.1 ((r0, ()), (step1, (), s8, s9, ()), ((), (), ()))) path0 step1) ?_ (fun g => by kernel_rfl)
    simp only [s_baPlace_t0]; repeat (first | exact Tail.const _ | exact Tail.here _ | exact Tail.there (Tail.here _) | exact Tail.there (Tail.there (Tail.here _)) | exact Tail.there (Tail.there (Tail.there (Tail.here _))) | exact Tail.there (Tail.there (Tail.there (Tail.there (Tail.here _)))) | exact Tail.there (Tail.there (Tail.there (Tail.there (Tail.there (Tail.here _))))) | apply Tail.cond | (apply Tail.bind; intro _))
noncomputable def s_baPlace_L1 (r0 : List (Int)) (step1 : Int) (s8 : Int) (s9 : Int) : Option Int := c_s_baPlace.L.1 ((r0, ()), (step1, (), s8, s9, ()), ((), (), ()))
theorem s_baPlace_u1 (r0 : List (Int)) (step1 : Int) (s8 : Int) (s9 : Int) : s_baPlace_L1 r0 step1 s8 s9 = s_baPlace_t1 s_baPlace_L1 r0 step1 s8 s9 :=
  (congrArg (fun g => g.1 ((r0, ()), (step1, (), s8, s9, ()), ((), (), ()))) (FnCx.L_eq s_baPlace_ts)).trans (by kernel_rfl)
noncomputable def s_baPlace (path0 : List Int) (step1 : Int) : Option Int := s_baPlace_t0 s_baPlace_L1 path0 step1
theorem s_baPlace_e (path0 : List Int) (step1 : Int) : c_s_baPlace.start c_s_baPlace.L (path0, step1, ()) = s_baPlace path0 step1 := by kernel_rfl
noncomputable def F_s_baPlace : Ins c_s_baPlace.ins → Option Int := fun x => s_baPlace x.1 x.2.1
noncomputable def S_s_baPlace : FSpec := mkF c_s_baPlace.env.pre c_s_baPlace.ins c_s_baPlace.out c_s_baPlace.inj F_s_baPlace
theorem h_s_baPlace : Cert Try.prog 208 S_s_baPlace := FnCx.certF (c := c_s_baPlace) F_s_baPlace (tyOk _ _ _) (spOk trivial) (fun _ _ _ _ _ hs => noDr_ok) Try.func208 rfl rfl Try.ntmps208 (by kernel_rfl) rfl rfl (fun _ => rfl) s_baPlace_ts s_baPlace_hs (fun x t hb ht => by
  obtain ⟨path0, step1, _⟩ := x
  exact (s_baPlace_e path0 step1).trans ht)
/-! spec.PlaceAfter -/
noncomputable def c_s_PlaceAfter : FnCx := { env := env 59 [(206, S_s_baStep), (176, S_s_l1In), (207, S_s_baPath), (208, S_s_baPlace)] [], body := bodyOf Try.f67, res := [.tmp 6, .tmp 7], ins := [.ro kSint, .ro kint, .ro kint], out := [(kint, true), (kbool, true)], T := Int × Bool, fin := fun r => (r.1.1, r.1.2.1), inj := fun t => ((t.1, t.2, ()), ((), (), (), ())), pts := [], fuel := 400, dr := noDr }
noncomputable def s_PlaceAfter (jumps0 : List Int) (step1 : Int) (time2 : Int) : Option (Int × Bool) :=
  bif !s_baStep jumps0 step1 then some (0, false)
  else
    bif !s_l1In time2 0 1000000000000 then some (0, false)
    else
      Option.bind (s_baPath jumps0 step1) fun r =>
        bif decide (time2 < (↑(List.length (Prod.fst r)) : Int)) then
          bif decide (0 ≤ time2) then
            bif decide (time2 < (↑(List.length (Prod.fst r)) : Int)) then some (rdk kint (Prod.fst r) time2, true) else none
          else none
        else
          bif decide (Prod.snd r < 0) then some (Prod.snd r, true)
          else
            bif decide (Prod.snd r ≥ (↑(List.length jumps0) : Int)) then some (Prod.snd r, true)
            else
              Option.bind (s_baPlace (Prod.fst r) (Prod.snd r)) fun r_1 =>
                bif IntKind.wrap IntKind.i64 ((↑(List.length (Prod.fst r)) : Int) - r_1) == 0 then none
                else
                  bif
                      decide
                        (0 ≤
                          IntKind.wrap IntKind.i64
                            (r_1 + Int.tmod (IntKind.wrap IntKind.i64 (time2 - r_1)) (IntKind.wrap IntKind.i64 ((↑(List.length (Prod.fst r)) : Int) - r_1)))) then
                    bif
                        decide
                          (IntKind.wrap IntKind.i64
                              (r_1 + Int.tmod (IntKind.wrap IntKind.i64 (time2 - r_1)) (IntKind.wrap IntKind.i64 ((↑(List.length (Prod.fst r)) : Int) - r_1))) <
                            (↑(List.length (Prod.fst r)) : Int)) then
                      some
                        (rdk kint (Prod.fst r)
                            (IntKind.wrap IntKind.i64
                              (r_1 + Int.tmod (IntKind.wrap IntKind.i64 (time2 - r_1)) (IntKind.wrap IntKind.i64 ((↑(List.length (Prod.fst r)) : Int) - r_1)))),
                          true)
                    else none
                  else none
theorem s_PlaceAfter_e (jumps0 : List Int) (step1 : Int) (time2 : Int) : c_s_PlaceAfter.start c_s_PlaceAfter.L (jumps0, step1, time2, ()) = s_PlaceAfter jumps0 step1 time2 := by kernel_rfl
noncomputable def F_s_PlaceAfter : Ins c_s_PlaceAfter.ins → Option (Int × Bool) := fun x => s_PlaceAfter x.1 x.2.1 x.2.2.1
noncomputable def S_s_PlaceAfter : FSpec := mkF c_s_PlaceAfter.env.pre c_s_PlaceAfter.ins c_s_PlaceAfter.out c_s_PlaceAfter.inj F_s_PlaceAfter
theorem h_s_PlaceAfter : Cert Try.prog 67 S_s_PlaceAfter := FnCx.certF (c := c_s_PlaceAfter) F_s_PlaceAfter (tyOk _ _ _) (spOk ⟨h_s_baStep, fun _ _ _ => trivial, ⟨h_s_l1In, fun _ _ _ => trivial, ⟨h_s_baPath, fun _ _ _ => trivial, ⟨h_s_baPlace, fun _ _ _ => trivial, trivial⟩⟩⟩⟩) (fun _ _ _ _ _ hs => noDr_ok) Try.func67 rfl rfl Try.ntmps67 (by kernel_rfl) rfl rfl (fun _ => rfl) trivial (fun x => .inl ⟨c_s_PlaceAfter.start () x, fun _ => rfl⟩) (fun x t hb ht => by
  obtain ⟨jumps0, step1, time2, _⟩ := x
  exact (s_PlaceAfter_e jumps0 step1 time2).trans ht)
/-! impl.PathOfBall -/
noncomputable def c_i_PathOfBall : FnCx := { env := env 20 [(202, S_i_haveSteps), (203, S_i_path)] [], body := bodyOf Try.f68, res := [.tmp 4, .tmp 5], ins := [.ro kSint, .ro kint], out := [(kSint, true), (kbool, true)], T := List Int × Bool, fin := fun r => (r.1.1, r.1.2.1), inj := fun t => ((t.1, t.2, ()), ((), (), ())), pts := [], fuel := 400, dr := noDr }
noncomputable def i_PathOfBall (jumps0 : List Int) (step1 : Int) : Option (List Int × Bool) :=
  Option.bind (i_haveSteps jumps0 [step1]) fun r => bif !r then some ([], false) else Option.bind (i_path jumps0 step1) fun r => some (Prod.fst r, true)
theorem i_PathOfBall_e (jumps0 : List Int) (step1 : Int) : c_i_PathOfBall.start c_i_PathOfBall.L (jumps0, step1, ()) = i_PathOfBall jumps0 step1 := by kernel_rfl
noncomputable def F_i_PathOfBall : Ins c_i_PathOfBall.ins → Option (List Int × Bool) := fun x => i_PathOfBall x.1 x.2.1
noncomputable def S_i_PathOfBall : FSpec := mkF c_i_PathOfBall.env.pre c_i_PathOfBall.ins c_i_PathOfBall.out c_i_PathOfBall.inj F_i_PathOfBall
theorem h_i_PathOfBall : Cert Try.prog 68 S_i_PathOfBall := FnCx.certF (c := c_i_PathOfBall) F_i_PathOfBall (tyOk _ _ _) (spOk ⟨h_i_haveSteps, fun _ _ _ => trivial, ⟨h_i_path, fun _ _ _ => trivial, trivial⟩⟩) (fun _ _ _ _ _ hs => noDr_ok) Try.func68 rfl rfl Try.ntmps68 (by kernel_rfl) rfl rfl (fun _ => rfl) trivial (fun x => .inl ⟨c_i_PathOfBall.start () x, fun _ => rfl⟩) (fun x t hb ht => by
  obtain ⟨jumps0, step1, _⟩ := x
  exact (i_PathOfBall_e jumps0 step1).trans ht)
/-! spec.PathOfBall -/
noncomputable def c_s_PathOfBall : FnCx := { env := env 19 [(206, S_s_baStep), (207, S_s_baPath)] [], body := bodyOf Try.f69, res := [.tmp 4, .tmp 5], ins := [.ro kSint, .ro kint], out := [(kSint, true), (kbool, true)], T := List Int × Bool, fin := fun r => (r.1.1, r.1.2.1), inj := fun t => ((t.1, t.2, ()), ((), (), ())), pts := [], fuel := 400, dr := noDr }
noncomputable def s_PathOfBall (jumps0 : List Int) (step1 : Int) : Option (List Int × Bool) :=
  bif !s_baStep jumps0 step1 then some ([], false) else Option.bind (s_baPath jumps0 step1) fun r => some (Prod.fst r, true)
theorem s_PathOfBall_e (jumps0 : List Int) (step1 : Int) : c_s_PathOfBall.start c_s_PathOfBall.L (jumps0, step1, ()) = s_PathOfBall jumps0 step1 := by kernel_rfl
noncomputable def F_s_PathOfBall : Ins c_s_PathOfBall.ins → Option (List Int × Bool) := fun x => s_PathOfBall x.1 x.2.1
noncomputable def S_s_PathOfBall : FSpec := mkF c_s_PathOfBall.env.pre c_s_PathOfBall.ins c_s_PathOfBall.out c_s_PathOfBall.inj F_s_PathOfBall
theorem h_s_PathOfBall : Cert Try.prog 69 S_s_PathOfBall := FnCx.certF (c := c_s_PathOfBall) F_s_PathOfBall (tyOk _ _ _) (spOk ⟨h_s_baStep, fun _ _ _ => trivial, ⟨h_s_baPath, fun _ _ _ => trivial, trivial⟩⟩) (fun _ _ _ _ _ hs => noDr_ok) Try.func69 rfl rfl Try.ntmps69 (by kernel_rfl) rfl rfl (fun _ => rfl) trivial (fun x => .inl ⟨c_s_PathOfBall.start () x, fun _ => rfl⟩) (fun x t hb ht => by
  obtain ⟨jumps0, step1, _⟩ := x
  exact (s_PathOfBall_e jumps0 step1).trans ht)
/-! impl.end -/
noncomputable def c_i_end : FnCx := { env := env 21 [(203, S_i_path)] [], body := bodyOf Try.f209, res := [.tmp 4], ins := [.ro kSint, .ro kint], out := [(kstring, true)], T := ByteArray, fin := fun r => r.1.1, inj := fun t => ((t, ()), ((), (), ())), pts := [], fuel := 400, dr := noDr }
noncomputable def i_end (jumps0 : List Int) (step1 : Int) : Option ByteArray :=
  Option.bind (i_path jumps0 step1) fun r =>
    bif decide (Prod.snd r < 0) then some { data := #[97] }
    else bif Prod.snd r == (↑(List.length jumps0) : Int) then some { data := #[98] } else some { data := #[108] }
theorem i_end_e (jumps0 : List Int) (step1 : Int) : c_i_end.start c_i_end.L (jumps0, step1, ()) = i_end jumps0 step1 := by kernel_rfl
noncomputable def F_i_end : Ins c_i_end.ins → Option ByteArray := fun x => i_end x.1 x.2.1
noncomputable def S_i_end : FSpec := mkF c_i_end.env.pre c_i_end.ins c_i_end.out c_i_end.inj F_i_end
theorem h_i_end : Cert Try.prog 209 S_i_end := FnCx.certF (c := c_i_end) F_i_end (tyOk _ _ _) (spOk ⟨h_i_path, fun _ _ _ => trivial, trivial⟩) (fun _ _ _ _ _ hs => noDr_ok) Try.func209 rfl rfl Try.ntmps209 (by kernel_rfl) rfl rfl (fun _ => rfl) trivial (fun x => .inl ⟨c_i_end.start () x, fun _ => rfl⟩) (fun x t hb ht => by
  obtain ⟨jumps0, step1, _⟩ := x
  exact (i_end_e jumps0 step1).trans ht)
/-! impl.EndOfBall -/
noncomputable def c_i_EndOfBall : FnCx := { env := env 14 [(202, S_i_haveSteps), (209, S_i_end)] [], body := bodyOf Try.f70, res := [.tmp 4, .tmp 5], ins := [.ro kSint, .ro kint], out := [(kstring, true), (kbool, true)], T := ByteArray × Bool, fin := fun r => (r.1.1, r.1.2.1), inj := fun t => ((t.1, t.2, ()), ((), (), ())), pts := [], fuel := 400, dr := noDr }
noncomputable def i_EndOfBall (jumps0 : List Int) (step1 : Int) : Option (ByteArray × Bool) :=
  Option.bind (i_haveSteps jumps0 [step1]) fun r => bif !r then some ({ data := #[] }, false) else Option.bind (i_end jumps0 step1) fun r => some (r, true)
theorem i_EndOfBall_e (jumps0 : List Int) (step1 : Int) : c_i_EndOfBall.start c_i_EndOfBall.L (jumps0, step1, ()) = i_EndOfBall jumps0 step1 := by kernel_rfl
noncomputable def F_i_EndOfBall : Ins c_i_EndOfBall.ins → Option (ByteArray × Bool) := fun x => i_EndOfBall x.1 x.2.1
noncomputable def S_i_EndOfBall : FSpec := mkF c_i_EndOfBall.env.pre c_i_EndOfBall.ins c_i_EndOfBall.out c_i_EndOfBall.inj F_i_EndOfBall
theorem h_i_EndOfBall : Cert Try.prog 70 S_i_EndOfBall := FnCx.certF (c := c_i_EndOfBall) F_i_EndOfBall (tyOk _ _ _) (spOk ⟨h_i_haveSteps, fun _ _ _ => trivial, ⟨h_i_end, fun _ _ _ => trivial, trivial⟩⟩) (fun _ _ _ _ _ hs => noDr_ok) Try.func70 rfl rfl Try.ntmps70 (by kernel_rfl) rfl rfl (fun _ => rfl) trivial (fun x => .inl ⟨c_i_EndOfBall.start () x, fun _ => rfl⟩) (fun x t hb ht => by
  obtain ⟨jumps0, step1, _⟩ := x
  exact (i_EndOfBall_e jumps0 step1).trans ht)
/-! spec.baEnd -/
noncomputable def c_s_baEnd : FnCx := { env := env 21 [(207, S_s_baPath)] [], body := bodyOf Try.f210, res := [.tmp 4], ins := [.ro kSint, .ro kint], out := [(kstring, true)], T := ByteArray, fin := fun r => r.1.1, inj := fun t => ((t, ()), ((), (), ())), pts := [], fuel := 400, dr := noDr }
noncomputable def s_baEnd (jumps0 : List Int) (step1 : Int) : Option ByteArray :=
  Option.bind (s_baPath jumps0 step1) fun r =>
    bif decide (Prod.snd r < 0) then some { data := #[97] }
    else bif decide (Prod.snd r ≥ (↑(List.length jumps0) : Int)) then some { data := #[98] } else some { data := #[108] }
theorem s_baEnd_e (jumps0 : List Int) (step1 : Int) : c_s_baEnd.start c_s_baEnd.L (jumps0, step1, ()) = s_baEnd jumps0 step1 := by kernel_rfl
noncomputable def F_s_baEnd : Ins c_s_baEnd.ins → Option ByteArray := fun x => s_baEnd x.1 x.2.1
noncomputable def S_s_baEnd : FSpec := mkF c_s_baEnd.env.pre c_s_baEnd.ins c_s_baEnd.out c_s_baEnd.inj F_s_baEnd
theorem h_s_baEnd : Cert Try.prog 210 S_s_baEnd := FnCx.certF (c := c_s_baEnd) F_s_baEnd (tyOk _ _ _) (spOk ⟨h_s_baPath, fun _ _ _ => trivial, trivial⟩) (fun _ _ _ _ _ hs => noDr_ok) Try.func210 rfl rfl Try.ntmps210 (by kernel_rfl) rfl rfl (fun _ => rfl) trivial (fun x => .inl ⟨c_s_baEnd.start () x, fun _ => rfl⟩) (fun x t hb ht => by
  obtain ⟨jumps0, step1, _⟩ := x
  exact (s_baEnd_e jumps0 step1).trans ht)
/-! spec.EndOfBall -/
noncomputable def c_s_EndOfBall : FnCx := { env := env 13 [(206, S_s_baStep), (210, S_s_baEnd)] [], body := bodyOf Try.f71, res := [.tmp 4, .tmp 5], ins := [.ro kSint, .ro kint], out := [(kstring, true), (kbool, true)], T := ByteArray × Bool, fin := fun r => (r.1.1, r.1.2.1), inj := fun t => ((t.1, t.2, ()), ((), (), ())), pts := [], fuel := 400, dr := noDr }
noncomputable def s_EndOfBall (jumps0 : List Int) (step1 : Int) : Option (ByteArray × Bool) :=
  bif !s_baStep jumps0 step1 then some ({ data := #[] }, false) else Option.bind (s_baEnd jumps0 step1) fun r => some (r, true)
theorem s_EndOfBall_e (jumps0 : List Int) (step1 : Int) : c_s_EndOfBall.start c_s_EndOfBall.L (jumps0, step1, ()) = s_EndOfBall jumps0 step1 := by kernel_rfl
noncomputable def F_s_EndOfBall : Ins c_s_EndOfBall.ins → Option (ByteArray × Bool) := fun x => s_EndOfBall x.1 x.2.1
noncomputable def S_s_EndOfBall : FSpec := mkF c_s_EndOfBall.env.pre c_s_EndOfBall.ins c_s_EndOfBall.out c_s_EndOfBall.inj F_s_EndOfBall
theorem h_s_EndOfBall : Cert Try.prog 71 S_s_EndOfBall := FnCx.certF (c := c_s_EndOfBall) F_s_EndOfBall (tyOk _ _ _) (spOk ⟨h_s_baStep, fun _ _ _ => trivial, ⟨h_s_baEnd, fun _ _ _ => trivial, trivial⟩⟩) (fun _ _ _ _ _ hs => noDr_ok) Try.func71 rfl rfl Try.ntmps71 (by kernel_rfl) rfl rfl (fun _ => rfl) trivial (fun x => .inl ⟨c_s_EndOfBall.start () x, fun _ => rfl⟩) (fun x t hb ht => by
  obtain ⟨jumps0, step1, _⟩ := x
  exact (s_EndOfBall_e jumps0 step1).trans ht)
/-! impl.loop -/
noncomputable def c_i_loop : FnCx := { env := env 24 [(203, S_i_path), (205, S_slices_Index_int)] [], body := bodyOf Try.f211, res := [.tmp 4, .tmp 5], ins := [.ro kSint, .ro kint], out := [(kSint, false), (kint, true)], T := List Int × Int, fin := fun r => (r.1.1, r.1.2.1), inj := fun t => ((t.1, t.2, ()), ((), (), ())), pts := [], fuel := 400, dr := noDr }
noncomputable def i_loop (jumps0 : List Int) (step1 : Int) : Option (List Int × Int) :=
  Option.bind (i_path jumps0 step1) fun r =>
    bif decide (slices_Index_int_n (Prod.fst r) (Prod.snd r) < 0) then some ([], 0)
    else
      bif decide (0 ≤ slices_Index_int_n (Prod.fst r) (Prod.snd r)) then
        bif decide (slices_Index_int_n (Prod.fst r) (Prod.snd r) ≤ (↑(List.length (Prod.fst r)) : Int)) then
          some
            (List.take (Int.toNat (↑(List.length (Prod.fst r)) : Int) - Int.toNat (slices_Index_int_n (Prod.fst r) (Prod.snd r)))
                (List.drop (Int.toNat (slices_Index_int_n (Prod.fst r) (Prod.snd r))) (Prod.fst r)),
              slices_Index_int_n (Prod.fst r) (Prod.snd r))
        else none
      else none
theorem i_loop_e (jumps0 : List Int) (step1 : Int) : c_i_loop.start c_i_loop.L (jumps0, step1, ()) = i_loop jumps0 step1 := by kernel_rfl
noncomputable def F_i_loop : Ins c_i_loop.ins → Option (List Int × Int) := fun x => i_loop x.1 x.2.1
noncomputable def S_i_loop : FSpec := mkF c_i_loop.env.pre c_i_loop.ins c_i_loop.out c_i_loop.inj F_i_loop
theorem h_i_loop : Cert Try.prog 211 S_i_loop := FnCx.certF (c := c_i_loop) F_i_loop (tyOk _ _ _) (spOk ⟨h_i_path, fun _ _ _ => trivial, ⟨h_slices_Index_int, fun _ _ _ => trivial, trivial⟩⟩) (fun _ _ _ _ _ hs => noDr_ok) Try.func211 rfl rfl Try.ntmps211 (by kernel_rfl) rfl rfl (fun _ => rfl) trivial (fun x => .inl ⟨c_i_loop.start () x, fun _ => rfl⟩) (fun x t hb ht => by
  obtain ⟨jumps0, step1, _⟩ := x
  exact (i_loop_e jumps0 step1).trans ht)
/-! slices.Min[[]int,int] -/
noncomputable def c_slices_Min_int : FnCx := { env := env 25 [] [], body := bodyOf Try.f271, res := [.tmp 2], ins := [.ro kSint], out := [(kint, true)], T := Int, fin := fun r => r.1.1, inj := fun t => ((t, ()), ((), ())), pts := [([.inLoop [1, 1, 1, 0, 1, 0, 0], .inBlock 0, .code [1, 1, 1, 1]], Shape.mk [Bs.row kint 3 false] [(0, Ss.one (Cs.sl 0)), (3, Ss.one (Cs.sc kint)), (4, Ss.one (Cs.sc kint))] [Ss.one (Cs.any)])], fuel := 400, dr := noDr }
noncomputable def slices_Min_int_t1 (g1 : List (Int) → Int → Int → Option (Int)) (r0 : List (Int)) (m3 : Int) (i4 : Int) : Option Int :=
  bif decide (i4 < (↑(List.length r0) : Int)) then
    bif decide (0 ≤ i4) then
      bif decide (i4 < (↑(List.length r0) : Int)) then
        g1 r0 (bif decide (rdk kint r0 i4 < m3) then rdk kint r0 i4 else m3) (IntKind.wrap IntKind.i64 (i4 + 1))
      else none
    else none
  else some m3
noncomputable def slices_Min_int_t0 (g1 : List (Int) → Int → Int → Option (Int)) (x0 : List Int) : Option Int :=
  bif decide ((↑(List.length x0) : Int) < 1) then none else bif decide (0 < (↑(List.length x0) : Int)) then g1 x0 (rdk kint x0 0) 1 else none
theorem slices_Min_int_ts : Tails c_slices_Min_int.pts c_slices_Min_int.round :=
  ⟨fun s => by
    obtain ⟨⟨r0, _⟩, ⟨_, m3, i4, _⟩, ⟨_, _⟩⟩ := s
    refine Tail.eq (Y := fun g => slices_Min_int_t1 (fun r0 m3 i4 => g.1 ((r0, ()), ((), m3, i4, ()), ((), ()))) r0 m3 i4) ?_ (fun g => by kernel_rfl)
    simp only [slices_Min_int_t1]; repeat (first | exact Tail.const _ | exact Tail.here _ | exact Tail.there (Tail.here _) | exact Tail.there (Tail.there (Tail.here _)) | exact Tail.there (Tail.there (Tail.there (Tail.here _))) | exact Tail.there (Tail.there (Tail.there (Tail.there (Tail.here _)))) | exact Tail.there (Tail.there (Tail.there (Tail.there (Tail.there (Tail.here _))))) | apply Tail.cond | (apply Tail.bind; intro _)), trivial⟩
theorem slices_Min_int_hs : ∀ x, Tail c_slices_Min_int.pts (fun g => c_slices_Min_int.start g x) := fun x => by
    obtain ⟨x0, _⟩ := x
    refine Tail.eq (Y := fun g => slices_Min_int_t0 (fun r0 m3 i4 => g.1 ((r0, ()), ((), m3, i4, ()), ((), ()))) x0) ?_ (fun g => by kernel_rfl)
    simp only [slices_Min_int_t0]; repeat (first | exact Tail.const _ | exact Tail.here _ | exact Tail.there (Tail.here _) | exact Tail.there (Tail.there (Tail.here _)) | exact Tail.there (Tail.there (Tail.there (Tail.here _))) | exact Tail.there (Tail.there (Tail.there (Tail.there (Tail.here _)))) | exact Tail.there (Tail.there (Tail.there (Tail.there (Tail.there (Tail.here _))))) | apply Tail.cond | (apply Tail.bind; intro _))
noncomputable def slices_Min_int_L1 (r0 : List (Int)) (m3 : Int) (i4 : Int) : Option Int := c_slices_Min_int.L.1 ((r0, ()), ((), m3, i4, ()), ((), ()))
theorem slices_Min_int_u1 (r0 : List (Int)) (m3 : Int) (i4 : Int) : slices_Min_int_L1 r0 m3 i4 = slices_Min_int_t1 slices_Min_int_L1 r0 m3 i4 :=
  (congrArg (fun g => g.1 ((r0, ()), ((), m3, i4, ()), ((), ()))) (FnCx.L_eq slices_Min_int_ts)).trans (by kernel_rfl)
noncomputable def slices_Min_int (x0 : List Int) : Option Int := slices_Min_int_t0 slices_Min_int_L1 x0
theorem slices_Min_int_e (x0 : List Int) : c_slices_Min_int.start c_slices_Min_int.L (x0, ()) = slices_Min_int x0 := by kernel_rfl
noncomputable def F_slices_Min_int : Ins c_slices_Min_int.ins → Option Int := fun x => slices_Min_int x.1
noncomputable def S_slices_Min_int : FSpec := mkF c_slices_Min_int.env.pre c_slices_Min_int.ins c_slices_Min_int.out c_slices_Min_int.inj F_slices_Min_int
theorem h_slices_Min_int : Cert Try.prog 271 S_slices_Min_int := FnCx.certF (c := c_slices_Min_int) F_slices_Min_int (tyOk _ _ _) (spOk trivial) (fun _ _ _ _ _ hs => noDr_ok) Try.func271 rfl rfl Try.ntmps271 (by kernel_rfl) rfl rfl (fun _ => rfl) slices_Min_int_ts slices_Min_int_hs (fun x t hb ht => by
  obtain ⟨x0, _⟩ := x
  exact (slices_Min_int_e x0).trans ht)
/-! slices.Grow[[]int,int] -/
noncomputable def c_slices_Grow_int : FnCx := { env := env 27 [] [20, 25], body := bodyOf Try.f294, res := [.tmp 4], ins := [.nl, .ro kint], out := [(kSint, true)], T := List Int, fin := fun r => r.1.1, inj := fun t => ((t, ()), ((), (), ())), pts := [], fuel := 400, dr := noDr }
noncomputable def slices_Grow_int (n1 : Int) : Option (List Int) :=
  bif decide (n1 < 0) then none
  else
    bif decide (IntKind.wrap IntKind.i64 (n1 - IntKind.wrap IntKind.i64 (0 - 0)) > 0) then
      bif decide (0 ≤ IntKind.wrap IntKind.i64 (n1 - IntKind.wrap IntKind.i64 (0 - 0))) then
        bif decide (IntKind.wrap IntKind.i64 (n1 - IntKind.wrap IntKind.i64 (0 - 0)) ≤ (↑4294967296 : Int)) then
          some (List.take (Int.toNat 0) (List.replicate (Int.toNat (IntKind.wrap IntKind.i64 (n1 - IntKind.wrap IntKind.i64 (0 - 0)))) (Kd.zero kint)))
        else none
      else none
    else some []
theorem slices_Grow_int_e (n1 : Int) : c_slices_Grow_int.start c_slices_Grow_int.L ((), n1, ()) = slices_Grow_int n1 := by kernel_rfl
noncomputable def F_slices_Grow_int : Ins c_slices_Grow_int.ins → Option (List Int) := fun x => slices_Grow_int x.2.1
noncomputable def S_slices_Grow_int : FSpec := mkF c_slices_Grow_int.env.pre c_slices_Grow_int.ins c_slices_Grow_int.out c_slices_Grow_int.inj F_slices_Grow_int
theorem h_slices_Grow_int : Cert Try.prog 294 S_slices_Grow_int := FnCx.certF (c := c_slices_Grow_int) F_slices_Grow_int (tyOk _ _ _) (spOk trivial) (fun _ _ _ _ _ hs => noDr_ok) Try.func294 rfl rfl Try.ntmps294 (by kernel_rfl) rfl rfl (fun _ => rfl) trivial (fun x => .inl ⟨c_slices_Grow_int.start () x, fun _ => rfl⟩) (fun x t hb ht => by
  obtain ⟨_, n1, _⟩ := x
  exact (slices_Grow_int_e n1).trans ht)
/-! slices.Concat[[]int,int] -/
noncomputable def c_slices_Concat_int : FnCx := { env := env 36 [(294, S_slices_Grow_int)] [], body := bodyOf Try.f272, res := [.tmp 2], ins := [.ro kSSint], out := [(kSint, true)], T := List Int, fin := fun r => r.1.1, inj := fun t => ((t, ()), ((), ())), pts := [([.inLoop [1, 1, 0, 1, 0, 0], .inBlock 0, .code [1, 1, 1]], Shape.mk [Bs.row kSint 22 false] [(0, Ss.one (Cs.sl 0)), (3, Ss.one (Cs.sc kint)), (9, Ss.one (Cs.sl 0)), (10, Ss.one (Cs.sc kint)), (11, Ss.one (Cs.sc kint))] [Ss.one (Cs.any)]), ([.inLoop [1, 1, 1, 1, 0, 1, 0, 0], .inBlock 2, .code [1, 1, 1, 1, 1]], Shape.mk [Bs.row kint 3 true, Bs.row kSint 22 false] [(6, Ss.one (Cs.sl 0)), (25, Ss.one (Cs.sl 1)), (26, Ss.one (Cs.sc kint)), (27, Ss.one (Cs.sc kint))] [Ss.one (Cs.any)])], fuel := 400, dr := noDr }
noncomputable def slices_Concat_int_t1 (g1 : List (List (Int)) → Int → Int → Int → Option (List Int)) (g2 : List (Int) → List (List (Int)) → Int → Int → Option (List Int)) (r0 : List (List (Int))) (size3 : Int) (s10 : Int) (s11 : Int) : Option (List Int) :=
  bif decide (s11 < s10) then
    bif decide (0 ≤ s11) then
      bif decide (s11 < (↑(List.length r0) : Int)) then
        bif decide (IntKind.wrap IntKind.i64 (size3 + (↑(List.length (rdk kSint r0 s11)) : Int)) < 0) then none
        else
          g1 r0 (IntKind.wrap IntKind.i64 (size3 + (↑(List.length (rdk kSint r0 s11)) : Int))) s10 (IntKind.wrap IntKind.i64 (s11 + 1))
      else none
    else none
  else Option.bind (slices_Grow_int size3) fun r => g2 r r0 (↑(List.length r0) : Int) 0
noncomputable def slices_Concat_int_t2 (g1 : List (List (Int)) → Int → Int → Int → Option (List Int)) (g2 : List (Int) → List (List (Int)) → Int → Int → Option (List Int)) (r0 : List (Int)) (r1 : List (List (Int))) (s26 : Int) (s27 : Int) : Option (List Int) :=
  bif decide (s27 < s26) then
    bif decide (0 ≤ s27) then
      bif decide (s27 < (↑(List.length r1) : Int)) then
        bif Nat.ble (List.length r0 + List.length (rdk kSint r1 s27)) 4294967296 then
          g2 (r0 ++ rdk kSint r1 s27) r1 s26 (IntKind.wrap IntKind.i64 (s27 + 1))
        else none
      else none
    else none
  else some r0
noncomputable def slices_Concat_int_t0 (g1 : List (List (Int)) → Int → Int → Int → Option (List Int)) (g2 : List (Int) → List (List (Int)) → Int → Int → Option (List Int)) (slices0 : List (List Int)) : Option (List Int) :=
  g1 slices0 0 (↑(List.length slices0) : Int) 0
theorem slices_Concat_int_ts : Tails c_slices_Concat_int.pts c_slices_Concat_int.round :=
  ⟨fun s => by
    obtain ⟨⟨r0, _⟩, ⟨_, size3, _, s10, s11, _⟩, ⟨_, _⟩⟩ := s
    refine Tail.eq (Y := fun g => slices_Concat_int_t1 (fun r0 size3 s10 s11 => g.1 ((r0, ()), ((), size3, (), s10, s11, ()), ((), ()))) (fun r0 r1 s26 s27 => g.2.1 ((r0, r1, ()), ((), (), s26, s27, ()), ((), ()))) r0 size3 s10 s11) ?_ (fun g => by kernel_rfl)
    simp only [slices_Concat_int_t1]; repeat (first | exact Tail.const _ | exact Tail.here _ | exact Tail.there (Tail.here _) | exact Tail.there (Tail.there (Tail.here _)) | exact Tail.there (Tail.there (Tail.there (Tail.here _))) | exact Tail.there (Tail.there (Tail.there (Tail.there (Tail.here _)))) | exact Tail.there (Tail.there (Tail.there (Tail.there (Tail.there (Tail.here _))))) | apply Tail.cond | (apply Tail.bind; intro _)),
  fun s => by
    obtain ⟨⟨r0, r1, _⟩, ⟨_, _, s26, s27, _⟩, ⟨_, _⟩⟩ := s
    refine Tail.eq (Y := fun g => slices_Concat_int_t2 (fun r0 size3 s10 s11 => g.1 ((r0, ()), ((), size3, (), s10, s11, ()), ((), ()))) (fun r0 r1 s26 s27 => g.2.1 ((r0, r1, ()), ((), (), s26, s27, ()), ((), ()))) r0 r1 s26 s27) ?_ (fun g => by kernel_rfl)
    simp only [slices_Concat_int_t2]; repeat (first | exact Tail.const _ | exact Tail.here _ | exact Tail.there (Tail.here _) | exact Tail.there (Tail.there (Tail.here _)) | exact Tail.there (Tail.there (Tail.there (Tail.here _))) | exact Tail.there (Tail.there (Tail.there (Tail.there (Tail.here _)))) | exact Tail.there (Tail.there (Tail.there (Tail.there (Tail.there (Tail.here _))))) | apply Tail.cond | (apply Tail.bind; intro _)), trivial⟩
theorem slices_Concat_int_hs : ∀ x, Tail c_slices_Concat_int.pts (fun g => c_slices_Concat_int.start g x) := fun x => by
    obtain ⟨slices0, _⟩ := x
    refine Tail.eq (Y := fun g => slices_Concat_int_t0 (fun r0 size3 s10 s11 => g.1 ((r0, ()), ((), size3, (), s10, s11, ()), ((), ()))) (fun r0 r1 s26 s27 => g.2.1 ((r0, r1, ()), ((), (), s26, s27, ()), ((), ()))) slices0) ?_ (fun g => by kernel_rfl)
    simp only [slices_Concat_int_t0]; repeat (first | exact Tail.const _ | exact Tail.here _ | exact Tail.there (Tail.here _) | exact Tail.there (Tail.there (Tail.here _)) | exact Tail.there (Tail.there (Tail.there (Tail.here _))) | exact Tail.there (Tail.there (Tail.there (Tail.there (Tail.here _)))) | exact Tail.there (Tail.there (Tail.there (Tail.there (Tail.there (Tail.here _))))) | apply Tail.cond | (apply Tail.bind; intro _))
noncomputable def slices_Concat_int_L1 (r0 : List (List (Int))) (size3 : Int) (s10 : Int) (s11 : Int) : Option (List Int) := c_slices_Concat_int.L.1 ((r0, ()), ((), size3, (), s10, s11, ()), ((), ()))
noncomputable def slices_Concat_int_L2 (r0 : List (Int)) (r1 : List (List (Int))) (s26 : Int) (s27 : Int) : Option (List Int) := c_slices_Concat_int.L.2.1 ((r0, r1, ()), ((), (), s26, s27, ()), ((), ()))
theorem slices_Concat_int_u1 (r0 : List (List (Int))) (size3 : Int) (s10 : Int) (s11 : Int) : slices_Concat_int_L1 r0 size3 s10 s11 = slices_Concat_int_t1 slices_Concat_int_L1 slices_Concat_int_L2 r0 size3 s10 s11 :=
  (congrArg (fun g => g.1 ((r0, ()), ((), size3, (), s10, s11, ()), ((), ()))) (FnCx.L_eq slices_Concat_int_ts)).trans (by kernel_rfl)
theorem slices_Concat_int_u2 (r0 : List (Int)) (r1 : List (List (Int))) (s26 : Int) (s27 : Int) : slices_Concat_int_L2 r0 r1 s26 s27 = slices_Concat_int_t2 slices_Concat_int_L1 slices_Concat_int_L2 r0 r1 s26 s27 :=
  (congrArg (fun g => g.2.1 ((r0, r1, ()), ((), (), s26, s27, ()), ((), ()))) (FnCx.L_eq slices_Concat_int_ts)).trans (by kernel_rfl)
noncomputable def slices_Concat_int (slices0 : List (List Int)) : Option (List Int) := slices_Concat_int_t0 slices_Concat_int_L1 slices_Concat_int_L2 slices0
theorem slices_Concat_int_e (slices0 : List (List Int)) : c_slices_Concat_int.start c_slices_Concat_int.L (slices0, ()) = slices_Concat_int slices0 := by kernel_rfl
noncomputable def F_slices_Concat_int : Ins c_slices_Concat_int.ins → Option (List Int) := fun x => slices_Concat_int x.1
noncomputable def S_slices_Concat_int : FSpec := mkF c_slices_Concat_int.env.pre c_slices_Concat_int.ins c_slices_Concat_int.out c_slices_Concat_int.inj F_slices_Concat_int
theorem h_slices_Concat_int : Cert Try.prog 272 S_slices_Concat_int := FnCx.certF (c := c_slices_Concat_int) F_slices_Concat_int (tyOk _ _ _) (spOk ⟨h_slices_Grow_int, fun _ _ _ => trivial, trivial⟩) (fun _ _ _ _ _ hs => noDr_ok) Try.func272 rfl rfl Try.ntmps272 (by kernel_rfl) rfl rfl (fun _ => rfl) slices_Concat_int_ts slices_Concat_int_hs (fun x t hb ht => by
  obtain ⟨slices0, _⟩ := x
  exact (slices_Concat_int_e slices0).trans ht)
/-! impl.fromLeast -/
noncomputable def c_i_fromLeast : FnCx := { env := env 16 [(271, S_slices_Min_int), (205, S_slices_Index_int), (272, S_slices_Concat_int)] [], body := bodyOf Try.f212, res := [.tmp 2], ins := [.ro kSint], out := [(kSint, true)], T := List Int, fin := fun r => r.1.1, inj := fun t => ((t, ()), ((), ())), pts := [], fuel := 400, dr := evDr (env 16 [(271, S_slices_Min_int), (205, S_slices_Index_int), (272, S_slices_Concat_int)] []) }
noncomputable def i_fromLeast (l0 : List Int) : Option (List Int) :=
  Option.bind (slices_Min_int l0) fun r =>
    bif decide (0 ≤ slices_Index_int_n l0 r) then
      bif decide (slices_Index_int_n l0 r ≤ (↑(List.length l0) : Int)) then
        bif decide (0 ≤ slices_Index_int_n l0 r) then
          bif decide (slices_Index_int_n l0 r ≤ (↑(List.length l0) : Int)) then
            Option.bind
              (slices_Concat_int
                [List.take (Int.toNat (↑(List.length l0) : Int) - Int.toNat (slices_Index_int_n l0 r)) (List.drop (Int.toNat (slices_Index_int_n l0 r)) l0),
                  List.take (Int.toNat (slices_Index_int_n l0 r) - Int.toNat 0) (List.drop (Int.toNat 0) l0)])
              fun r => some r
          else none
        else none
      else none
    else none
theorem i_fromLeast_e (l0 : List Int) : c_i_fromLeast.start c_i_fromLeast.L (l0, ()) = i_fromLeast l0 := by kernel_rfl
noncomputable def F_i_fromLeast : Ins c_i_fromLeast.ins → Option (List Int) := fun x => i_fromLeast x.1
noncomputable def S_i_fromLeast : FSpec := mkF c_i_fromLeast.env.pre c_i_fromLeast.ins c_i_fromLeast.out c_i_fromLeast.inj F_i_fromLeast
theorem h_i_fromLeast : Cert Try.prog 212 S_i_fromLeast := FnCx.certF (c := c_i_fromLeast) F_i_fromLeast (tyOk _ _ _) (spOk ⟨h_slices_Min_int, fun _ _ _ => trivial, ⟨h_slices_Index_int, fun _ _ _ => trivial, ⟨h_slices_Concat_int, fun _ _ _ => trivial, trivial⟩⟩⟩) (fun _ _ _ _ _ hs => evDr_ok (tyOk _ _ _) hs follows) Try.func212 rfl rfl Try.ntmps212 (by kernel_rfl) rfl rfl (fun _ => rfl) trivial (fun x => .inl ⟨c_i_fromLeast.start () x, fun _ => rfl⟩) (fun x t hb ht => by
  obtain ⟨l0, _⟩ := x
  exact (i_fromLeast_e l0).trans ht)
/-! impl.LoopOfBall -/
noncomputable def c_i_LoopOfBall : FnCx := { env := env 24 [(202, S_i_haveSteps), (211, S_i_loop), (212, S_i_fromLeast)] [], body := bodyOf Try.f72, res := [.tmp 4, .tmp 5], ins := [.ro kSint, .ro kint], out := [(kSint, true), (kbool, true)], T := List Int × Bool, fin := fun r => (r.1.1, r.1.2.1), inj := fun t => ((t.1, t.2, ()), ((), (), ())), pts := [], fuel := 400, dr := noDr }
noncomputable def i_LoopOfBall (jumps0 : List Int) (step1 : Int) : Option (List Int × Bool) :=
  Option.bind (i_haveSteps jumps0 [step1]) fun r =>
    bif !r then some ([], false)
    else
      Option.bind (i_loop jumps0 step1) fun r =>
        bif (↑(List.length (Prod.fst r)) : Int) == 0 then some ([], false) else Option.bind (i_fromLeast (Prod.fst r)) fun r => some (r, true)
theorem i_LoopOfBall_e (jumps0 : List Int) (step1 : Int) : c_i_LoopOfBall.start c_i_LoopOfBall.L (jumps0, step1, ()) = i_LoopOfBall jumps0 step1 := by kernel_rfl
noncomputable def F_i_LoopOfBall : Ins c_i_LoopOfBall.ins → Option (List Int × Bool) := fun x => i_LoopOfBall x.1 x.2.1
noncomputable def S_i_LoopOfBall : FSpec := mkF c_i_LoopOfBall.env.pre c_i_LoopOfBall.ins c_i_LoopOfBall.out c_i_LoopOfBall.inj F_i_LoopOfBall
theorem h_i_LoopOfBall : Cert Try.prog 72 S_i_LoopOfBall := FnCx.certF (c := c_i_LoopOfBall) F_i_LoopOfBall (tyOk _ _ _) (spOk ⟨h_i_haveSteps, fun _ _ _ => trivial, ⟨h_i_loop, fun _ _ _ => trivial, ⟨h_i_fromLeast, fun _ _ _ => trivial, trivial⟩⟩⟩) (fun _ _ _ _ _ hs => noDr_ok) Try.func72 rfl rfl Try.ntmps72 (by kernel_rfl) rfl rfl (fun _ => rfl) trivial (fun x => .inl ⟨c_i_LoopOfBall.start () x, fun _ => rfl⟩) (fun x t hb ht => by
  obtain ⟨jumps0, step1, _⟩ := x
  exact (i_LoopOfBall_e jumps0 step1).trans ht)
/-! spec.l1Own -/
noncomputable def c_s_l1Own : FnCx := { env := env 6 [] [], body := bodyOf Try.f273, res := [.tmp 2], ins := [.ro kSint], out := [(kSint, true)], T := List Int, fin := fun r => r.1.1, inj := fun t => ((t, ()), ((), ())), pts := [], fuel := 400, dr := noDr }
noncomputable def s_l1Own (l0 : List Int) : Option (List Int) :=
  bif Nat.ble (0 + List.length l0) 4294967296 then some ([] ++ l0) else none
theorem s_l1Own_e (l0 : List Int) : c_s_l1Own.start c_s_l1Own.L (l0, ()) = s_l1Own l0 := by kernel_rfl
-- NICE opt
noncomputable def s_l1Own_n (s : List Int) : Option (List Int) := bif decide (s.length ≤ 4294967296) then some s else none
theorem s_l1Own_ok (s : List Int) (hb : BdI c_s_l1Own.ins (s, ())) (t : List Int) (ht : s_l1Own_n s = some t) : s_l1Own s = some t := by
  unfold s_l1Own_n at ht
  cases h : decide (s.length ≤ 4294967296)
  · rw [h] at ht; cases ht
  · rw [h] at ht; cases ht
    have h := of_decide_eq_true h
    unfold s_l1Own
    simp [ble_dec, h]
noncomputable def F_s_l1Own : Ins c_s_l1Own.ins → Option (List Int) := fun x => s_l1Own_n x.1
noncomputable def S_s_l1Own : FSpec := mkF c_s_l1Own.env.pre c_s_l1Own.ins c_s_l1Own.out c_s_l1Own.inj F_s_l1Own
theorem h_s_l1Own : Cert Try.prog 273 S_s_l1Own := FnCx.certF (c := c_s_l1Own) F_s_l1Own (tyOk _ _ _) (spOk trivial) (fun _ _ _ _ _ hs => noDr_ok) Try.func273 rfl rfl Try.ntmps273 (by kernel_rfl) rfl rfl (fun _ => rfl) trivial (fun x => .inl ⟨c_s_l1Own.start () x, fun _ => rfl⟩) (fun x t hb ht => by
  obtain ⟨l0, _⟩ := x
  exact (s_l1Own_e l0).trans (s_l1Own_ok l0 hb t ht))
/-! spec.baLoop -/
noncomputable def c_s_baLoop : FnCx := { env := env 49 [(207, S_s_baPath), (208, S_s_baPlace), (273, S_s_l1Own)] [], body := bodyOf Try.f213, res := [.tmp 4, .tmp 5], ins := [.ro kSint, .ro kint], out := [(kSint, true), (kint, true)], T := List Int × Int, fin := fun r => (r.1.1, r.1.2.1), inj := fun t => ((t.1, t.2, ()), ((), (), ())), pts := [([.inLoop [1, 1, 1, 1, 1, 0, 1, 0, 0], .inBlock 0, .code [1, 1, 1, 1, 1, 1]], Shape.mk [Bs.row kint 3 false] [(8, Ss.one (Cs.sc kint)), (9, Ss.one (Cs.sl 0)), (10, Ss.one (Cs.sc kint)), (25, Ss.one (Cs.sl 0)), (26, Ss.one (Cs.sc kint)), (27, Ss.one (Cs.sc kint))] [Ss.one (Cs.any), Ss.one (Cs.any)])], fuel := 400, dr := evDr (env 49 [(207, S_s_baPath), (208, S_s_baPlace), (273, S_s_l1Own)] []) }
noncomputable def s_baLoop_t1 (g1 : List (Int) → Int → Int → Int → Int → Option (List Int × Int)) (r0 : List (Int)) (from8 : Int) (least10 : Int) (s26 : Int) (s27 : Int) : Option (List Int × Int) :=
  bif decide (s27 < s26) then
    bif decide (0 ≤ s27) then
      bif decide (s27 < (↑(List.length r0) : Int)) then
        bif decide (0 ≤ least10) then
          bif decide (least10 < (↑(List.length r0) : Int)) then
            bif decide (rdk kint r0 s27 < rdk kint r0 least10) then g1 r0 from8 s27 s26 (IntKind.wrap IntKind.i64 (s27 + 1))
            else g1 r0 from8 least10 s26 (IntKind.wrap IntKind.i64 (s27 + 1))
          else none
        else none
      else none
    else none
  else
    bif decide (0 ≤ least10) then
      bif decide (least10 ≤ (↑(List.length r0) : Int)) then
        Option.bind (s_l1Own_n (List.take (Int.toNat (↑(List.length r0) : Int) - Int.toNat least10) (List.drop (Int.toNat least10) r0))) fun r =>
          bif decide (0 ≤ least10) then
            bif decide (least10 ≤ (↑(List.length r0) : Int)) then
              bif Nat.ble (List.length r + List.length (List.take (Int.toNat least10 - Int.toNat 0) (List.drop (Int.toNat 0) r0))) 4294967296 then
                some (r ++ List.take (Int.toNat least10 - Int.toNat 0) (List.drop (Int.toNat 0) r0), from8)
              else none
            else none
          else none
      else none
    else none
noncomputable def s_baLoop_t0 (g1 : List (Int) → Int → Int → Int → Int → Option (List Int × Int)) (jumps0 : List Int) (step1 : Int) : Option (List Int × Int) :=
  Option.bind (s_baPath jumps0 step1) fun r =>
    Option.bind (s_baPlace (Prod.fst r) (Prod.snd r)) fun r_1 =>
      bif decide (0 ≤ r_1) then
        bif decide (r_1 ≤ (↑(List.length (Prod.fst r)) : Int)) then
          g1 (List.take (Int.toNat (↑(List.length (Prod.fst r)) : Int) - Int.toNat r_1) (List.drop (Int.toNat r_1) (Prod.fst r))) r_1 0
            (↑(List.length (List.take (Int.toNat (↑(List.length (Prod.fst r)) : Int) - Int.toNat r_1) (List.drop (Int.toNat r_1) (Prod.fst r)))) : Int) 0
        else none
      else none
theorem s_baLoop_ts : Tails c_s_baLoop.pts c_s_baLoop.round :=
  ⟨fun s => by
    obtain ⟨⟨r0, _⟩, ⟨from8, _, least10, _, s26, s27, _⟩, ⟨_, _, _⟩⟩ := s
    refine Tail.eq (Y := fun g => s_baLoop_t1 (fun r0 from8 least10 s26 s27 => g.1 ((r0, ()), (from8, (), least10, (), s26, s27, ()), ((), (), ()))) r0 from8 least10 s26 s27) ?_ (fun g => by kernel_rfl)
    simp only [s_baLoop_t1]; repeat (first | exact Tail.const _ | exact Tail.here _ | exact Tail.there (Tail.here _) | exact Tail.there (Tail.there (Tail.here _)) | exact Tail.there (Tail.there (Tail.there (Tail.here _))) | exact Tail.there (Tail.there (Tail.there (Tail.there (Tail.here _)))) | exact Tail.there (Tail.there (Tail.there (Tail.there (Tail.there (Tail.here _))))) | apply Tail.cond | (apply Tail.bind; intro _)), trivial⟩
theorem s_baLoop_hs : ∀ x, Tail c_s_baLoop.pts (fun g => c_s_baLoop.start g x) := fun x => by
    obtain ⟨jumps0, step1, _⟩ := x
    refine Tail.eq (Y := fun g => s_baLoop_t0 (fun r0 from8 least10 s26 s27 => g.1 ((r0, ()), (from8, (), least10, (), s26, s27, ()), ((), (), ()))) jumps0 step1) ?_ (fun g => by kernel_rfl)
    simp only [s_baLoop_t0]; repeat (first | exact Tail.const _ | exact Tail.here _ | exact Tail.there (Tail.here _) | exact Tail.there (Tail.there (Tail.here _)) | exact Tail.there (Tail.there (Tail.there (Tail.here _))) | exact Tail.there (Tail.there (Tail.there (Tail.there (Tail.here _)))) | exact Tail.there (Tail.there (Tail.there (Tail.there (Tail.there (Tail.here _))))) | apply Tail.cond | (apply Tail.bind; intro _))
noncomputable def s_baLoop_L1 (r0 : List (Int)) (from8 : Int) (least10 : Int) (s26 : Int) (s27 : Int) : Option (List Int × Int) := c_s_baLoop.L.1 ((r0, ()), (from8, (), least10, (), s26, s27, ()), ((), (), ()))
theorem s_baLoop_u1 (r0 : List (Int)) (from8 : Int) (least10 : Int) (s26 : Int) (s27 : Int) : s_baLoop_L1 r0 from8 least10 s26 s27 = s_baLoop_t1 s_baLoop_L1 r0 from8 least10 s26 s27 :=
  (congrArg (fun g => g.1 ((r0, ()), (from8, (), least10, (), s26, s27, ()), ((), (), ()))) (FnCx.L_eq s_baLoop_ts)).trans (by kernel_rfl)
noncomputable def s_baLoop (jumps0 : List Int) (step1 : Int) : Option (List Int × Int) := s_baLoop_t0 s_baLoop_L1 jumps0 step1
theorem s_baLoop_e (jumps0 : List Int) (step1 : Int) : c_s_baLoop.start c_s_baLoop.L (jumps0, step1, ()) = s_baLoop jumps0 step1 := by kernel_rfl
noncomputable def F_s_baLoop : Ins c_s_baLoop.ins → Option (List Int × Int) := fun x => s_baLoop x.1 x.2.1
noncomputable def S_s_baLoop : FSpec := mkF c_s_baLoop.env.pre c_s_baLoop.ins c_s_baLoop.out c_s_baLoop.inj F_s_baLoop
theorem h_s_baLoop : Cert Try.prog 213 S_s_baLoop := FnCx.certF (c := c_s_baLoop) F_s_baLoop (tyOk _ _ _) (spOk ⟨h_s_baPath, fun _ _ _ => trivial, ⟨h_s_baPlace, fun _ _ _ => trivial, ⟨h_s_l1Own, fun _ _ _ => trivial, trivial⟩⟩⟩) (fun _ _ _ _ _ hs => evDr_ok (tyOk _ _ _) hs follows) Try.func213 rfl rfl Try.ntmps213 (by kernel_rfl) rfl rfl (fun _ => rfl) s_baLoop_ts s_baLoop_hs (fun x t hb ht => by
  obtain ⟨jumps0, step1, _⟩ := x
  exact (s_baLoop_e jumps0 step1).trans ht)
/-! spec.LoopOfBall -/
noncomputable def c_s_LoopOfBall : FnCx := { env := env 25 [(206, S_s_baStep), (210, S_s_baEnd), (213, S_s_baLoop)] [], body := bodyOf Try.f73, res := [.tmp 4, .tmp 5], ins := [.ro kSint, .ro kint], out := [(kSint, true), (kbool, true)], T := List Int × Bool, fin := fun r => (r.1.1, r.1.2.1), inj := fun t => ((t.1, t.2, ()), ((), (), ())), pts := [], fuel := 400, dr := noDr }
noncomputable def s_LoopOfBall (jumps0 : List Int) (step1 : Int) : Option (List Int × Bool) :=
  bif !s_baStep jumps0 step1 then some ([], false)
  else
    Option.bind (s_baEnd jumps0 step1) fun r =>
      bif !ByteArray.toList r == ByteArray.toList { data := #[108] } then some ([], false)
      else Option.bind (s_baLoop jumps0 step1) fun r => some (Prod.fst r, true)
theorem s_LoopOfBall_e (jumps0 : List Int) (step1 : Int) : c_s_LoopOfBall.start c_s_LoopOfBall.L (jumps0, step1, ()) = s_LoopOfBall jumps0 step1 := by kernel_rfl
noncomputable def F_s_LoopOfBall : Ins c_s_LoopOfBall.ins → Option (List Int × Bool) := fun x => s_LoopOfBall x.1 x.2.1
noncomputable def S_s_LoopOfBall : FSpec := mkF c_s_LoopOfBall.env.pre c_s_LoopOfBall.ins c_s_LoopOfBall.out c_s_LoopOfBall.inj F_s_LoopOfBall
theorem h_s_LoopOfBall : Cert Try.prog 73 S_s_LoopOfBall := FnCx.certF (c := c_s_LoopOfBall) F_s_LoopOfBall (tyOk _ _ _) (spOk ⟨h_s_baStep, fun _ _ _ => trivial, ⟨h_s_baEnd, fun _ _ _ => trivial, ⟨h_s_baLoop, fun _ _ _ => trivial, trivial⟩⟩⟩) (fun _ _ _ _ _ hs => noDr_ok) Try.func73 rfl rfl Try.ntmps73 (by kernel_rfl) rfl rfl (fun _ => rfl) trivial (fun x => .inl ⟨c_s_LoopOfBall.start () x, fun _ => rfl⟩) (fun x t hb ht => by
  obtain ⟨jumps0, step1, _⟩ := x
  exact (s_LoopOfBall_e jumps0 step1).trans ht)
/-! impl.TimeToLoop -/
noncomputable def c_i_TimeToLoop : FnCx := { env := env 23 [(202, S_i_haveSteps), (211, S_i_loop)] [], body := bodyOf Try.f74, res := [.tmp 4, .tmp 5], ins := [.ro kSint, .ro kint], out := [(kint, true), (kbool, true)], T := Int × Bool, fin := fun r => (r.1.1, r.1.2.1), inj := fun t => ((t.1, t.2, ()), ((), (), ())), pts := [], fuel := 400, dr := noDr }
noncomputable def i_TimeToLoop (jumps0 : List Int) (step1 : Int) : Option (Int × Bool) :=
  Option.bind (i_haveSteps jumps0 [step1]) fun r =>
    bif !r then some (0, false) else Option.bind (i_loop jumps0 step1) fun r => some (Prod.snd r, decide ((↑(List.length (Prod.fst r)) : Int) > 0))
theorem i_TimeToLoop_e (jumps0 : List Int) (step1 : Int) : c_i_TimeToLoop.start c_i_TimeToLoop.L (jumps0, step1, ()) = i_TimeToLoop jumps0 step1 := by kernel_rfl
noncomputable def F_i_TimeToLoop : Ins c_i_TimeToLoop.ins → Option (Int × Bool) := fun x => i_TimeToLoop x.1 x.2.1
noncomputable def S_i_TimeToLoop : FSpec := mkF c_i_TimeToLoop.env.pre c_i_TimeToLoop.ins c_i_TimeToLoop.out c_i_TimeToLoop.inj F_i_TimeToLoop
theorem h_i_TimeToLoop : Cert Try.prog 74 S_i_TimeToLoop := FnCx.certF (c := c_i_TimeToLoop) F_i_TimeToLoop (tyOk _ _ _) (spOk ⟨h_i_haveSteps, fun _ _ _ => trivial, ⟨h_i_loop, fun _ _ _ => trivial, trivial⟩⟩) (fun _ _ _ _ _ hs => noDr_ok) Try.func74 rfl rfl Try.ntmps74 (by kernel_rfl) rfl rfl (fun _ => rfl) trivial (fun x => .inl ⟨c_i_TimeToLoop.start () x, fun _ => rfl⟩) (fun x t hb ht => by
  obtain ⟨jumps0, step1, _⟩ := x
  exact (i_TimeToLoop_e jumps0 step1).trans ht)
/-! spec.TimeToLoop -/
noncomputable def c_s_TimeToLoop : FnCx := { env := env 25 [(206, S_s_baStep), (210, S_s_baEnd), (213, S_s_baLoop)] [], body := bodyOf Try.f75, res := [.tmp 4, .tmp 5], ins := [.ro kSint, .ro kint], out := [(kint, true), (kbool, true)], T := Int × Bool, fin := fun r => (r.1.1, r.1.2.1), inj := fun t => ((t.1, t.2, ()), ((), (), ())), pts := [], fuel := 400, dr := noDr }
noncomputable def s_TimeToLoop (jumps0 : List Int) (step1 : Int) : Option (Int × Bool) :=
  bif !s_baStep jumps0 step1 then some (0, false)
  else
    Option.bind (s_baEnd jumps0 step1) fun r =>
      bif !ByteArray.toList r == ByteArray.toList { data := #[108] } then some (0, false)
      else Option.bind (s_baLoop jumps0 step1) fun r => some (Prod.snd r, true)
theorem s_TimeToLoop_e (jumps0 : List Int) (step1 : Int) : c_s_TimeToLoop.start c_s_TimeToLoop.L (jumps0, step1, ()) = s_TimeToLoop jumps0 step1 := by kernel_rfl
noncomputable def F_s_TimeToLoop : Ins c_s_TimeToLoop.ins → Option (Int × Bool) := fun x => s_TimeToLoop x.1 x.2.1
noncomputable def S_s_TimeToLoop : FSpec := mkF c_s_TimeToLoop.env.pre c_s_TimeToLoop.ins c_s_TimeToLoop.out c_s_TimeToLoop.inj F_s_TimeToLoop
theorem h_s_TimeToLoop : Cert Try.prog 75 S_s_TimeToLoop := FnCx.certF (c := c_s_TimeToLoop) F_s_TimeToLoop (tyOk _ _ _) (spOk ⟨h_s_baStep, fun _ _ _ => trivial, ⟨h_s_baEnd, fun _ _ _ => trivial, ⟨h_s_baLoop, fun _ _ _ => trivial, trivial⟩⟩⟩) (fun _ _ _ _ _ hs => noDr_ok) Try.func75 rfl rfl Try.ntmps75 (by kernel_rfl) rfl rfl (fun _ => rfl) trivial (fun x => .inl ⟨c_s_TimeToLoop.start () x, fun _ => rfl⟩) (fun x t hb ht => by
  obtain ⟨jumps0, step1, _⟩ := x
  exact (s_TimeToLoop_e jumps0 step1).trans ht)
/-! impl.NextPlace -/
noncomputable def c_i_NextPlace : FnCx := { env := env 14 [(202, S_i_haveSteps), (214, S_i_next)] [], body := bodyOf Try.f76, res := [.tmp 4, .tmp 5], ins := [.ro kSint, .ro kint], out := [(kint, true), (kbool, true)], T := Int × Bool, fin := fun r => (r.1.1, r.1.2.1), inj := fun t => ((t.1, t.2, ()), ((), (), ())), pts := [], fuel := 400, dr := noDr }
noncomputable def i_NextPlace (jumps0 : List Int) (step1 : Int) : Option (Int × Bool) :=
  Option.bind (i_haveSteps jumps0 [step1]) fun r => bif !r then some (0, false) else Option.bind (i_next jumps0 step1) fun r => some (r, true)
theorem i_NextPlace_e (jumps0 : List Int) (step1 : Int) : c_i_NextPlace.start c_i_NextPlace.L (jumps0, step1, ()) = i_NextPlace jumps0 step1 := by kernel_rfl
noncomputable def F_i_NextPlace : Ins c_i_NextPlace.ins → Option (Int × Bool) := fun x => i_NextPlace x.1 x.2.1
noncomputable def S_i_NextPlace : FSpec := mkF c_i_NextPlace.env.pre c_i_NextPlace.ins c_i_NextPlace.out c_i_NextPlace.inj F_i_NextPlace
theorem h_i_NextPlace : Cert Try.prog 76 S_i_NextPlace := FnCx.certF (c := c_i_NextPlace) F_i_NextPlace (tyOk _ _ _) (spOk ⟨h_i_haveSteps, fun _ _ _ => trivial, ⟨h_i_next, fun _ _ _ => trivial, trivial⟩⟩) (fun _ _ _ _ _ hs => noDr_ok) Try.func76 rfl rfl Try.ntmps76 (by kernel_rfl) rfl rfl (fun _ => rfl) trivial (fun x => .inl ⟨c_i_NextPlace.start () x, fun _ => rfl⟩) (fun x t hb ht => by
  obtain ⟨jumps0, step1, _⟩ := x
  exact (i_NextPlace_e jumps0 step1).trans ht)
/-! spec.NextPlace -/
noncomputable def c_s_NextPlace : FnCx := { env := env 13 [(206, S_s_baStep), (215, S_s_baNext)] [], body := bodyOf Try.f77, res := [.tmp 4, .tmp 5], ins := [.ro kSint, .ro kint], out := [(kint, true), (kbool, true)], T := Int × Bool, fin := fun r => (r.1.1, r.1.2.1), inj := fun t => ((t.1, t.2, ()), ((), (), ())), pts := [], fuel := 400, dr := noDr }
noncomputable def s_NextPlace (jumps0 : List Int) (step1 : Int) : Option (Int × Bool) :=
  bif !s_baStep jumps0 step1 then some (0, false) else Option.bind (s_baNext jumps0 step1) fun r => some (r, true)
theorem s_NextPlace_e (jumps0 : List Int) (step1 : Int) : c_s_NextPlace.start c_s_NextPlace.L (jumps0, step1, ()) = s_NextPlace jumps0 step1 := by kernel_rfl
noncomputable def F_s_NextPlace : Ins c_s_NextPlace.ins → Option (Int × Bool) := fun x => s_NextPlace x.1 x.2.1
noncomputable def S_s_NextPlace : FSpec := mkF c_s_NextPlace.env.pre c_s_NextPlace.ins c_s_NextPlace.out c_s_NextPlace.inj F_s_NextPlace
theorem h_s_NextPlace : Cert Try.prog 77 S_s_NextPlace := FnCx.certF (c := c_s_NextPlace) F_s_NextPlace (tyOk _ _ _) (spOk ⟨h_s_baStep, fun _ _ _ => trivial, ⟨h_s_baNext, fun _ _ _ => trivial, trivial⟩⟩) (fun _ _ _ _ _ hs => noDr_ok) Try.func77 rfl rfl Try.ntmps77 (by kernel_rfl) rfl rfl (fun _ => rfl) trivial (fun x => .inl ⟨c_s_NextPlace.start () x, fun _ => rfl⟩) (fun x t hb ht => by
  obtain ⟨jumps0, step1, _⟩ := x
  exact (s_NextPlace_e jumps0 step1).trans ht)
/-! laws.lSame -/
noncomputable def c_w_lSame : FnCx := { env := env 26 [] [], body := bodyOf Try.f78, res := [.tmp 4], ins := [.ro kSint, .ro kSint], out := [(kbool, true)], T := Bool, fin := fun r => r.1.1, inj := fun t => ((t, ()), ((), (), ())), pts := [([.inLoop [1, 1, 0, 1, 0, 0], .inBlock 0, .code [1, 1, 1]], Shape.mk [Bs.row kint 3 false, Bs.row kint 3 false] [(0, Ss.one (Cs.sl 0)), (1, Ss.one (Cs.sl 1)), (12, Ss.one (Cs.sc kint)), (13, Ss.one (Cs.sc kint))] [Ss.one (Cs.any), Ss.one (Cs.any)])], fuel := 400, dr := evDr (env 26 [] []) }
noncomputable def w_lSame_t1 (g1 : List (Int) → List (Int) → Int → Int → Option (Bool)) (r0 : List (Int)) (r1 : List (Int)) (s12 : Int) (s13 : Int) : Option Bool :=
  bif decide (s13 < s12) then
    bif decide (0 ≤ s13) then
      bif decide (s13 < (↑(List.length r0) : Int)) then
        bif decide (0 ≤ s13) then
          bif decide (s13 < (↑(List.length r1) : Int)) then
            bif rdk kint r0 s13 != rdk kint r1 s13 then some false else g1 r0 r1 s12 (IntKind.wrap IntKind.i64 (s13 + 1))
          else none
        else none
      else none
    else none
  else some true
noncomputable def w_lSame_t0 (g1 : List (Int) → List (Int) → Int → Int → Option (Bool)) (a0 : List Int) (b1 : List Int) : Option Bool :=
  bif (↑(List.length a0) : Int) != (↑(List.length b1) : Int) then some false else g1 a0 b1 (↑(List.length a0) : Int) 0
theorem w_lSame_ts : Tails c_w_lSame.pts c_w_lSame.round :=
  ⟨fun s => by
    obtain ⟨⟨r0, r1, _⟩, ⟨_, _, s12, s13, _⟩, ⟨_, _, _⟩⟩ := s
    refine Tail.eq (Y := fun g => w_lSame_t1 (fun r0 r1 s12 s13 => g.1 ((r0, r1, ()), ((), (), s12, s13, ()), ((), (), ()))) r0 r1 s12 s13) ?_ (fun g => by kernel_rfl)
    simp only [w_lSame_t1]; repeat (first | exact Tail.const _ | exact Tail.here _ | exact Tail.there (Tail.here _) | exact Tail.there (Tail.there (Tail.here _)) | exact Tail.there (Tail.there (Tail.there (Tail.here _))) | exact Tail.there (Tail.there (Tail.there (Tail.there (Tail.here _)))) | exact Tail.there (Tail.there (Tail.there (Tail.there (Tail.there (Tail.here _))))) | apply Tail.cond | (apply Tail.bind; intro _)), trivial⟩
theorem w_lSame_hs : ∀ x, Tail c_w_lSame.pts (fun g => c_w_lSame.start g x) := fun x => by
    obtain ⟨a0, b1, _⟩ := x
    refine Tail.eq (Y := fun g => w_lSame_t0 (fun r0 r1 s12 s13 => g.1 ((r0, r1, ()), ((), (), s12, s13, ()), ((), (), ()))) a0 b1) ?_ (fun g => by kernel_rfl)
    simp only [w_lSame_t0]; repeat (first | exact Tail.const _ | exact Tail.here _ | exact Tail.there (Tail.here _) | exact Tail.there (Tail.there (Tail.here _)) | exact Tail.there (Tail.there (Tail.there (Tail.here _))) | exact Tail.there (Tail.there (Tail.there (Tail.there (Tail.here _)))) | exact Tail.there (Tail.there (Tail.there (Tail.there (Tail.there (Tail.here _))))) | apply Tail.cond | (apply Tail.bind; intro _))
noncomputable def w_lSame_L1 (r0 : List (Int)) (r1 : List (Int)) (s12 : Int) (s13 : Int) : Option Bool := c_w_lSame.L.1 ((r0, r1, ()), ((), (), s12, s13, ()), ((), (), ()))
theorem w_lSame_u1 (r0 : List (Int)) (r1 : List (Int)) (s12 : Int) (s13 : Int) : w_lSame_L1 r0 r1 s12 s13 = w_lSame_t1 w_lSame_L1 r0 r1 s12 s13 :=
  (congrArg (fun g => g.1 ((r0, r1, ()), ((), (), s12, s13, ()), ((), (), ()))) (FnCx.L_eq w_lSame_ts)).trans (by kernel_rfl)
noncomputable def w_lSame (a0 : List Int) (b1 : List Int) : Option Bool := w_lSame_t0 w_lSame_L1 a0 b1
theorem w_lSame_e (a0 : List Int) (b1 : List Int) : c_w_lSame.start c_w_lSame.L (a0, b1, ()) = w_lSame a0 b1 := by kernel_rfl
noncomputable def F_w_lSame : Ins c_w_lSame.ins → Option Bool := fun x => w_lSame x.1 x.2.1
noncomputable def S_w_lSame : FSpec := mkF c_w_lSame.env.pre c_w_lSame.ins c_w_lSame.out c_w_lSame.inj F_w_lSame
theorem h_w_lSame : Cert Try.prog 78 S_w_lSame := FnCx.certF (c := c_w_lSame) F_w_lSame (tyOk _ _ _) (spOk trivial) (fun _ _ _ _ _ hs => evDr_ok (tyOk _ _ _) hs follows) Try.func78 rfl rfl Try.ntmps78 (by kernel_rfl) rfl rfl (fun _ => rfl) w_lSame_ts w_lSame_hs (fun x t hb ht => by
  obtain ⟨a0, b1, _⟩ := x
  exact (w_lSame_e a0 b1).trans ht)
/-! laws.lHas -/
noncomputable def c_w_lHas : FnCx := { env := env 17 [] [], body := bodyOf Try.f79, res := [.tmp 4], ins := [.ro kSint, .ro kint], out := [(kbool, true)], T := Bool, fin := fun r => r.1.1, inj := fun t => ((t, ()), ((), (), ())), pts := [([.inLoop [1, 0, 1, 0, 0], .inBlock 0, .code [1, 1]], Shape.mk [Bs.row kint 3 false] [(1, Ss.one (Cs.sc kint)), (7, Ss.one (Cs.sl 0)), (8, Ss.one (Cs.sc kint)), (9, Ss.one (Cs.sc kint))] [Ss.one (Cs.any), Ss.one (Cs.any)])], fuel := 400, dr := noDr }
noncomputable def w_lHas_t1 (g1 : List (Int) → Int → Int → Int → Option (Bool)) (r0 : List (Int)) (n1 : Int) (s8 : Int) (s9 : Int) : Option Bool :=
  bif decide (s9 < s8) then
    bif decide (0 ≤ s9) then
      bif decide (s9 < (↑(List.length r0) : Int)) then
        bif rdk kint r0 s9 == n1 then some true else g1 r0 n1 s8 (IntKind.wrap IntKind.i64 (s9 + 1))
      else none
    else none
  else some false
noncomputable def w_lHas_t0 (g1 : List (Int) → Int → Int → Int → Option (Bool)) (list0 : List Int) (n1 : Int) : Option Bool :=
  g1 list0 n1 (↑(List.length list0) : Int) 0
theorem w_lHas_ts : Tails c_w_lHas.pts c_w_lHas.round :=
  ⟨fun s => by
    obtain ⟨⟨r0, _⟩, ⟨n1, _, s8, s9, _⟩, ⟨_, _, _⟩⟩ := s
    refine Tail.eq (Y := fun g => w_lHas_t1 (fun r0 n1 s8 s9 => g.1 ((r0, ()), (n1, (), s8, s9, ()), ((), (), ()))) r0 n1 s8 s9) ?_ (fun g => by kernel_rfl)
    simp only [w_lHas_t1]; repeat (first | exact Tail.const _ | exact Tail.here _ | exact Tail.there (Tail.here _) | exact Tail.there (Tail.there (Tail.here _)) | exact Tail.there (Tail.there (Tail.there (Tail.here _))) | exact Tail.there (Tail.there (Tail.there (Tail.there (Tail.here _)))) | exact Tail.there (Tail.there (Tail.there (Tail.there (Tail.there (Tail.here _))))) | apply Tail.cond | (apply Tail.bind; intro _)), trivial⟩
theorem w_lHas_hs : ∀ x, Tail c_w_lHas.pts (fun g => c_w_lHas.start g x) := fun x => by
    obtain ⟨list0, n1, _⟩ := x
    refine Tail.eq (Y := fun g => w_lHas_t0 (fun r0 n1 s8 s9 => g.1 ((r0, ()), (n1, (), s8, s9, ()), ((), (), ()))) list0 n1) ?_ (fun g => by kernel_rfl)
    simp only [w_lHas_t0]; repeat (first | exact Tail.const _ | exact Tail.here _ | exact Tail.there (Tail.here _) | exact Tail.there (Tail.there (Tail.here _)) | exact Tail.there (Tail.there (Tail.there (Tail.here _))) | exact Tail.there (Tail.there (Tail.there (Tail.there (Tail.here _)))) | exact Tail.there (Tail.there (Tail.there (Tail.there (Tail.there (Tail.here _))))) | apply Tail.cond | (apply Tail.bind; intro _))
noncomputable def w_lHas_L1 (r0 : List (Int)) (n1 : Int) (s8 : Int) (s9 : Int) : Option Bool := c_w_lHas.L.1 ((r0, ()), (n1, (), s8, s9, ()), ((), (), ()))
theorem w_lHas_u1 (r0 : List (Int)) (n1 : Int) (s8 : Int) (s9 : Int) : w_lHas_L1 r0 n1 s8 s9 = w_lHas_t1 w_lHas_L1 r0 n1 s8 s9 :=
  (congrArg (fun g => g.1 ((r0, ()), (n1, (), s8, s9, ()), ((), (), ()))) (FnCx.L_eq w_lHas_ts)).trans (by kernel_rfl)
noncomputable def w_lHas (list0 : List Int) (n1 : Int) : Option Bool := w_lHas_t0 w_lHas_L1 list0 n1
theorem w_lHas_e (list0 : List Int) (n1 : Int) : c_w_lHas.start c_w_lHas.L (list0, n1, ()) = w_lHas list0 n1 := by kernel_rfl
noncomputable def F_w_lHas : Ins c_w_lHas.ins → Option Bool := fun x => w_lHas x.1 x.2.1
noncomputable def S_w_lHas : FSpec := mkF c_w_lHas.env.pre c_w_lHas.ins c_w_lHas.out c_w_lHas.inj F_w_lHas
theorem h_w_lHas : Cert Try.prog 79 S_w_lHas := FnCx.certF (c := c_w_lHas) F_w_lHas (tyOk _ _ _) (spOk trivial) (fun _ _ _ _ _ hs => noDr_ok) Try.func79 rfl rfl Try.ntmps79 (by kernel_rfl) rfl rfl (fun _ => rfl) w_lHas_ts w_lHas_hs (fun x t hb ht => by
  obtain ⟨list0, n1, _⟩ := x
  exact (w_lHas_e list0 n1).trans ht)
/-! spec.DrawBallsMeet -/
noncomputable def c_s_DrawBallsMeet : FnCx := { env := env 21 [(200, S_s_l1Cur_jumps), (201, S_s_l1Cur_onStep)] [], body := bodyOf Try.f80, res := [.tmp 2, .tmp 3, .tmp 4], ins := [.ro kSuint8], out := [(kSint, false), (kint, true), (kint, true)], T := List Int × Int × Int, fin := fun r => (r.1.1, r.1.2.1, r.1.2.2.1), inj := fun t => ((t.1, t.2.1, t.2.2, ()), ((), ())), pts := [], fuel := 400, dr := noDr }
noncomputable def s_DrawBallsMeet (code0 : List Int) : Option (List Int × Int × Int) :=
  Option.bind (s_l1Cur_jumps code0 0 0) fun r =>
    Option.bind (s_l1Cur_onStep (Prod.fst (Prod.snd r)) (Prod.fst (Prod.snd (Prod.snd r))) (Prod.snd (Prod.snd (Prod.snd r))) (Prod.fst r)) fun r_1 =>
      Option.bind (s_l1Cur_onStep (Prod.fst (Prod.snd r_1)) (Prod.fst (Prod.snd (Prod.snd r_1))) (Prod.snd (Prod.snd (Prod.snd r_1))) (Prod.fst r)) fun r_2 =>
        some (Prod.fst r, Prod.fst r_1, Prod.fst r_2)
theorem s_DrawBallsMeet_e (code0 : List Int) : c_s_DrawBallsMeet.start c_s_DrawBallsMeet.L (code0, ()) = s_DrawBallsMeet code0 := by kernel_rfl
noncomputable def F_s_DrawBallsMeet : Ins c_s_DrawBallsMeet.ins → Option (List Int × Int × Int) := fun x => s_DrawBallsMeet x.1
noncomputable def S_s_DrawBallsMeet : FSpec := mkF c_s_DrawBallsMeet.env.pre c_s_DrawBallsMeet.ins c_s_DrawBallsMeet.out c_s_DrawBallsMeet.inj F_s_DrawBallsMeet
theorem h_s_DrawBallsMeet : Cert Try.prog 80 S_s_DrawBallsMeet := FnCx.certF (c := c_s_DrawBallsMeet) F_s_DrawBallsMeet (tyOk _ _ _) (spOk ⟨h_s_l1Cur_jumps, fun _ _ _ => trivial, ⟨h_s_l1Cur_onStep, fun _ _ _ => trivial, trivial⟩⟩) (fun _ _ _ _ _ hs => noDr_ok) Try.func80 rfl rfl Try.ntmps80 (by kernel_rfl) rfl rfl (fun _ => rfl) trivial (fun x => .inl ⟨c_s_DrawBallsMeet.start () x, fun _ => rfl⟩) (fun x t hb ht => by
  obtain ⟨code0, _⟩ := x
  exact (s_DrawBallsMeet_e code0).trans ht)
/-! impl.BallsMeet -/
noncomputable def c_i_BallsMeet : FnCx := { env := env 44 [(202, S_i_haveSteps), (214, S_i_next), (204, S_i_isOut)] [], body := bodyOf Try.f81, res := [.tmp 6, .tmp 7, .tmp 8], ins := [.ro kSint, .ro kint, .ro kint], out := [(kint, true), (kint, true), (kbool, true)], T := Int × Int × Bool, fin := fun r => (r.1.1, r.1.2.1, r.1.2.2.1), inj := fun t => ((t.1, t.2.1, t.2.2, ()), ((), (), (), ())), pts := [([.inLoop [1, 1, 0, 1, 0, 0], .inBlock 0, .code [1, 1, 1]], Shape.mk [Bs.row kint 3 false] [(0, Ss.one (Cs.sl 0)), (1, Ss.one (Cs.sc kint)), (2, Ss.one (Cs.sc kint)), (9, Ss.one (Cs.sc kint))] [Ss.one (Cs.any), Ss.one (Cs.any), Ss.one (Cs.any)])], fuel := 400, dr := noDr }
noncomputable def i_BallsMeet_t1 (g1 : List (Int) → Int → Int → Int → Option (Int × Int × Bool)) (r0 : List (Int)) (a1 : Int) (b2 : Int) (t9 : Int) : Option (Int × Int × Bool) :=
  bif decide (t9 ≤ 1800) then
    Option.bind (i_next r0 a1) fun r =>
      Option.bind (i_next r0 b2) fun r_1 =>
        bif i_isOut r0 r then some (0, 0, false)
        else bif i_isOut r0 r_1 then some (0, 0, false) else bif r == r_1 then some (t9, r, true) else g1 r0 r r_1 (IntKind.wrap IntKind.i64 (t9 + 1))
  else some (0, 0, false)
noncomputable def i_BallsMeet_t0 (g1 : List (Int) → Int → Int → Int → Option (Int × Int × Bool)) (jumps0 : List Int) (a1 : Int) (b2 : Int) : Option (Int × Int × Bool) :=
  Option.bind (i_haveSteps jumps0 [a1, b2]) fun r => bif !r then some (0, 0, false) else bif a1 == b2 then some (0, 0, false) else g1 jumps0 a1 b2 1
theorem i_BallsMeet_ts : Tails c_i_BallsMeet.pts c_i_BallsMeet.round :=
  ⟨fun s => by
    obtain ⟨⟨r0, _⟩, ⟨_, a1, b2, t9, _⟩, ⟨_, _, _, _⟩⟩ := s
    refine Tail.eq (Y := fun g => i_BallsMeet_t1 (fun r0 a1 b2 t9 => g.1 ((r0, ()), ((), a1, b2, t9, ()), ((), (), (), ()))) r0 a1 b2 t9) ?_ (fun g => by kernel_rfl)
    simp only [i_BallsMeet_t1]; repeat (first | exact Tail.const _ | exact Tail.here _ | exact Tail.there (Tail.here _) | exact Tail.there (Tail.there (Tail.here _)) | exact Tail.there (Tail.there (Tail.there (Tail.here _))) | exact Tail.there (Tail.there (Tail.there (Tail.there (Tail.here _)))) | exact Tail.there (Tail.there (Tail.there (Tail.there (Tail.there (Tail.here _))))) | apply Tail.cond | (apply Tail.bind; intro _)), trivial⟩
theorem i_BallsMeet_hs : ∀ x, Tail c_i_BallsMeet.pts (fun g => c_i_BallsMeet.start g x) := fun x => by
    obtain ⟨jumps0, a1, b2, _⟩ := x
    refine Tail.eq (Y := fun g => i_BallsMeet_t0 (fun r0 a1 b2 t9 => g.1 ((r0, ()), ((), a1, b2, t9, ()), ((), (), (), ()))) jumps0 a1 b2) ?_ (fun g => by kernel_rfl)
    simp only [i_BallsMeet_t0]; repeat (first | exact Tail.const _ | exact Tail.here _ | exact Tail.there (Tail.here _) | exact Tail.there (Tail.there (Tail.here _)) | exact Tail.there (Tail.there (Tail.there (Tail.here _))) | exact Tail.there (Tail.there (Tail.there (Tail.there (Tail.here _)))) | exact Tail.there (Tail.there (Tail.there (Tail.there (Tail.there (Tail.here _))))) | apply Tail.cond | (apply Tail.bind; intro _))
noncomputable def i_BallsMeet_L1 (r0 : List (Int)) (a1 : Int) (b2 : Int) (t9 : Int) : Option (Int × Int × Bool) := c_i_BallsMeet.L.1 ((r0, ()), ((), a1, b2, t9, ()), ((), (), (), ()))
theorem i_BallsMeet_u1 (r0 : List (Int)) (a1 : Int) (b2 : Int) (t9 : Int) : i_BallsMeet_L1 r0 a1 b2 t9 = i_BallsMeet_t1 i_BallsMeet_L1 r0 a1 b2 t9 :=
  (congrArg (fun g => g.1 ((r0, ()), ((), a1, b2, t9, ()), ((), (), (), ()))) (FnCx.L_eq i_BallsMeet_ts)).trans (by kernel_rfl)
noncomputable def i_BallsMeet (jumps0 : List Int) (a1 : Int) (b2 : Int) : Option (Int × Int × Bool) := i_BallsMeet_t0 i_BallsMeet_L1 jumps0 a1 b2
theorem i_BallsMeet_e (jumps0 : List Int) (a1 : Int) (b2 : Int) : c_i_BallsMeet.start c_i_BallsMeet.L (jumps0, a1, b2, ()) = i_BallsMeet jumps0 a1 b2 := by kernel_rfl
noncomputable def F_i_BallsMeet : Ins c_i_BallsMeet.ins → Option (Int × Int × Bool) := fun x => i_BallsMeet x.1 x.2.1 x.2.2.1
noncomputable def S_i_BallsMeet : FSpec := mkF c_i_BallsMeet.env.pre c_i_BallsMeet.ins c_i_BallsMeet.out c_i_BallsMeet.inj F_i_BallsMeet
theorem h_i_BallsMeet : Cert Try.prog 81 S_i_BallsMeet := FnCx.certF (c := c_i_BallsMeet) F_i_BallsMeet (tyOk _ _ _) (spOk ⟨h_i_haveSteps, fun _ _ _ => trivial, ⟨h_i_next, fun _ _ _ => trivial, ⟨h_i_isOut, fun _ _ _ => trivial, trivial⟩⟩⟩) (fun _ _ _ _ _ hs => noDr_ok) Try.func81 rfl rfl Try.ntmps81 (by kernel_rfl) rfl rfl (fun _ => rfl) i_BallsMeet_ts i_BallsMeet_hs (fun x t hb ht => by
  obtain ⟨jumps0, a1, b2, _⟩ := x
  exact (i_BallsMeet_e jumps0 a1 b2).trans ht)
/-! spec.BallsMeet -/
noncomputable def c_s_BallsMeet : FnCx := { env := env 63 [(206, S_s_baStep), (215, S_s_baNext)] [], body := bodyOf Try.f82, res := [.tmp 6, .tmp 7, .tmp 8], ins := [.ro kSint, .ro kint, .ro kint], out := [(kint, true), (kint, true), (kbool, true)], T := Int × Int × Bool, fin := fun r => (r.1.1, r.1.2.1, r.1.2.2.1), inj := fun t => ((t.1, t.2.1, t.2.2, ()), ((), (), (), ())), pts := [([.inLoop [1, 1, 0, 1, 0, 0], .inBlock 0, .code [1, 1, 1]], Shape.mk [Bs.row kint 3 false] [(0, Ss.one (Cs.sl 0)), (1, Ss.one (Cs.sc kint)), (2, Ss.one (Cs.sc kint)), (9, Ss.one (Cs.sc kint))] [Ss.one (Cs.any), Ss.one (Cs.any), Ss.one (Cs.any)])], fuel := 400, dr := noDr }
noncomputable def s_BallsMeet_t1 (g1 : List (Int) → Int → Int → Int → Option (Int × Int × Bool)) (r0 : List (Int)) (a1 : Int) (b2 : Int) (time9 : Int) : Option (Int × Int × Bool) :=
  bif decide (time9 ≤ IntKind.wrap IntKind.i64 ((↑(List.length r0) : Int) * (↑(List.length r0) : Int))) then
    Option.bind (s_baNext r0 a1) fun r =>
      Option.bind (s_baNext r0 b2) fun r_1 =>
        bif decide (r < 0) then some (0, 0, false)
        else
          bif decide (r_1 < 0) then some (0, 0, false)
          else
            bif decide (r ≥ (↑(List.length r0) : Int)) then some (0, 0, false)
            else
              bif decide (r_1 ≥ (↑(List.length r0) : Int)) then some (0, 0, false)
              else bif r == r_1 then some (time9, r, true) else g1 r0 r r_1 (IntKind.wrap IntKind.i64 (time9 + 1))
  else some (0, 0, false)
noncomputable def s_BallsMeet_t0 (g1 : List (Int) → Int → Int → Int → Option (Int × Int × Bool)) (jumps0 : List Int) (a1 : Int) (b2 : Int) : Option (Int × Int × Bool) :=
  bif !s_baStep jumps0 a1 then some (0, 0, false)
  else bif !s_baStep jumps0 b2 then some (0, 0, false) else bif a1 == b2 then some (0, 0, false) else g1 jumps0 a1 b2 1
theorem s_BallsMeet_ts : Tails c_s_BallsMeet.pts c_s_BallsMeet.round :=
  ⟨fun s => by
    obtain ⟨⟨r0, _⟩, ⟨_, a1, b2, time9, _⟩, ⟨_, _, _, _⟩⟩ := s
    refine Tail.eq (Y := fun g => s_BallsMeet_t1 (fun r0 a1 b2 time9 => g.1 ((r0, ()), ((), a1, b2, time9, ()), ((), (), (), ()))) r0 a1 b2 time9) ?_ (fun g => by kernel_rfl)
    simp only [s_BallsMeet_t1]; repeat (first | exact Tail.const _ | exact Tail.here _ | exact Tail.there (Tail.here _) | exact Tail.there (Tail.there (Tail.here _)) | exact Tail.there (Tail.there (Tail.there (Tail.here _))) | exact Tail.there (Tail.there (Tail.there (Tail.there (Tail.here _)))) | exact Tail.there (Tail.there (Tail.there (Tail.there (Tail.there (Tail.here _))))) | apply Tail.cond | (apply Tail.bind; intro _)), trivial⟩
theorem s_BallsMeet_hs : ∀ x, Tail c_s_BallsMeet.pts (fun g => c_s_BallsMeet.start g x) := fun x => by
    obtain ⟨jumps0, a1, b2, _⟩ := x
    refine Tail.eq (Y := fun g => s_BallsMeet_t0 (fun r0 a1 b2 time9 => g.1 ((r0, ()), ((), a1, b2, time9, ()), ((), (), (), ()))) jumps0 a1 b2) ?_ (fun g => by kernel_rfl)
    simp only [s_BallsMeet_t0]; repeat (first | exact Tail.const _ | exact Tail.here _ | exact Tail.there (Tail.here _) | exact Tail.there (Tail.there (Tail.here _)) | exact Tail.there (Tail.there (Tail.there (Tail.here _))) | exact Tail.there (Tail.there (Tail.there (Tail.there (Tail.here _)))) | exact Tail.there (Tail.there (Tail.there (Tail.there (Tail.there (Tail.here _))))) | apply Tail.cond | (apply Tail.bind; intro _))
noncomputable def s_BallsMeet_L1 (r0 : List (Int)) (a1 : Int) (b2 : Int) (time9 : Int) : Option (Int × Int × Bool) := c_s_BallsMeet.L.1 ((r0, ()), ((), a1, b2, time9, ()), ((), (), (), ()))
theorem s_BallsMeet_u1 (r0 : List (Int)) (a1 : Int) (b2 : Int) (time9 : Int) : s_BallsMeet_L1 r0 a1 b2 time9 = s_BallsMeet_t1 s_BallsMeet_L1 r0 a1 b2 time9 :=
  (congrArg (fun g => g.1 ((r0, ()), ((), a1, b2, time9, ()), ((), (), (), ()))) (FnCx.L_eq s_BallsMeet_ts)).trans (by kernel_rfl)
noncomputable def s_BallsMeet (jumps0 : List Int) (a1 : Int) (b2 : Int) : Option (Int × Int × Bool) := s_BallsMeet_t0 s_BallsMeet_L1 jumps0 a1 b2
theorem s_BallsMeet_e (jumps0 : List Int) (a1 : Int) (b2 : Int) : c_s_BallsMeet.start c_s_BallsMeet.L (jumps0, a1, b2, ()) = s_BallsMeet jumps0 a1 b2 := by kernel_rfl
noncomputable def F_s_BallsMeet : Ins c_s_BallsMeet.ins → Option (Int × Int × Bool) := fun x => s_BallsMeet x.1 x.2.1 x.2.2.1
noncomputable def S_s_BallsMeet : FSpec := mkF c_s_BallsMeet.env.pre c_s_BallsMeet.ins c_s_BallsMeet.out c_s_BallsMeet.inj F_s_BallsMeet
theorem h_s_BallsMeet : Cert Try.prog 82 S_s_BallsMeet := FnCx.certF (c := c_s_BallsMeet) F_s_BallsMeet (tyOk _ _ _) (spOk ⟨h_s_baStep, fun _ _ _ => trivial, ⟨h_s_baNext, fun _ _ _ => trivial, trivial⟩⟩) (fun _ _ _ _ _ hs => noDr_ok) Try.func82 rfl rfl Try.ntmps82 (by kernel_rfl) rfl rfl (fun _ => rfl) s_BallsMeet_ts s_BallsMeet_hs (fun x t hb ht => by
  obtain ⟨jumps0, a1, b2, _⟩ := x
  exact (s_BallsMeet_e jumps0 a1 b2).trans ht)
/-! impl.FirstSame -/
noncomputable def c_i_FirstSame : FnCx := { env := env 43 [(202, S_i_haveSteps), (203, S_i_path), (216, S_slices_Contains_int)] [], body := bodyOf Try.f83, res := [.tmp 6, .tmp 7], ins := [.ro kSint, .ro kint, .ro kint], out := [(kint, true), (kbool, true)], T := Int × Bool, fin := fun r => (r.1.1, r.1.2.1), inj := fun t => ((t.1, t.2, ()), ((), (), (), ())), pts := [([.inLoop [1, 1, 1, 1, 0, 1, 0, 0], .inBlock 0, .code [1, 1, 1, 1, 1]], Shape.mk [Bs.row kint 3 true, Bs.row kint 3 true] [(10, Ss.one (Cs.sl 0)), (32, Ss.one (Cs.sl 1)), (33, Ss.one (Cs.sc kint)), (34, Ss.one (Cs.sc kint))] [Ss.one (Cs.any), Ss.one (Cs.any), Ss.one (Cs.any)])], fuel := 400, dr := noDr }
noncomputable def i_FirstSame_t1 (g1 : List (Int) → List (Int) → Int → Int → Option (Int × Bool)) (r0 : List (Int)) (r1 : List (Int)) (s33 : Int) (s34 : Int) : Option (Int × Bool) :=
  bif decide (s34 < s33) then
    bif decide (0 ≤ s34) then
      bif decide (s34 < (↑(List.length r1) : Int)) then
        bif slices_Contains_int r0 (rdk kint r1 s34) then some (rdk kint r1 s34, true)
        else g1 r0 r1 s33 (IntKind.wrap IntKind.i64 (s34 + 1))
      else none
    else none
  else some (0, false)
noncomputable def i_FirstSame_t0 (g1 : List (Int) → List (Int) → Int → Int → Option (Int × Bool)) (jumps0 : List Int) (a1 : Int) (b2 : Int) : Option (Int × Bool) :=
  Option.bind (i_haveSteps jumps0 [a1, b2]) fun r =>
    bif !r then some (0, false)
    else Option.bind (i_path jumps0 a1) fun r => Option.bind (i_path jumps0 b2) fun r_1 => g1 (Prod.fst r_1) (Prod.fst r) (↑(List.length (Prod.fst r)) : Int) 0
theorem i_FirstSame_ts : Tails c_i_FirstSame.pts c_i_FirstSame.round :=
  ⟨fun s => by
    obtain ⟨⟨r0, r1, _⟩, ⟨_, _, s33, s34, _⟩, ⟨_, _, _, _⟩⟩ := s
    refine Tail.eq (Y := fun g => i_FirstSame_t1 (fun r0 r1 s33 s34 => g.1 ((r0, r1, ()), ((), (), s33, s34, ()), ((), (), (), ()))) r0 r1 s33 s34) ?_ (fun g => by kernel_rfl)
    simp only [i_FirstSame_t1]; repeat (first | exact Tail.const _ | exact Tail.here _ | exact Tail.there (Tail.here _) | exact Tail.there (Tail.there (Tail.here _)) | exact Tail.there (Tail.there (Tail.there (Tail.here _))) | exact Tail.there (Tail.there (Tail.there (Tail.there (Tail.here _)))) | exact Tail.there (Tail.there (Tail.there (Tail.there (Tail.there (Tail.here _))))) | apply Tail.cond | (apply Tail.bind; intro _)), trivial⟩
theorem i_FirstSame_hs : ∀ x, Tail c_i_FirstSame.pts (fun g => c_i_FirstSame.start g x) := fun x => by
    obtain ⟨jumps0, a1, b2, _⟩ := x
    refine Tail.eq (Y := fun g => i_FirstSame_t0 (fun r0 r1 s33 s34 => g.1 ((r0, r1, ()), ((), (), s33, s34, ()), ((), (), (), ()))) jumps0 a1 b2) ?_ (fun g => by kernel_rfl)
    simp only [i_FirstSame_t0]; repeat (first | exact Tail.const _ | exact Tail.here _ | exact Tail.there (Tail.here _) | exact Tail.there (Tail.there (Tail.here _)) | exact Tail.there (Tail.there (Tail.there (Tail.here _))) | exact Tail.there (Tail.there (Tail.there (Tail.there (Tail.here _)))) | exact Tail.there (Tail.there (Tail.there (Tail.there (Tail.there (Tail.here _))))) | apply Tail.cond | (apply Tail.bind; intro _))
noncomputable def i_FirstSame_L1 (r0 : List (Int)) (r1 : List (Int)) (s33 : Int) (s34 : Int) : Option (Int × Bool) := c_i_FirstSame.L.1 ((r0, r1, ()), ((), (), s33, s34, ()), ((), (), (), ()))
theorem i_FirstSame_u1 (r0 : List (Int)) (r1 : List (Int)) (s33 : Int) (s34 : Int) : i_FirstSame_L1 r0 r1 s33 s34 = i_FirstSame_t1 i_FirstSame_L1 r0 r1 s33 s34 :=
  (congrArg (fun g => g.1 ((r0, r1, ()), ((), (), s33, s34, ()), ((), (), (), ()))) (FnCx.L_eq i_FirstSame_ts)).trans (by kernel_rfl)
noncomputable def i_FirstSame (jumps0 : List Int) (a1 : Int) (b2 : Int) : Option (Int × Bool) := i_FirstSame_t0 i_FirstSame_L1 jumps0 a1 b2
theorem i_FirstSame_e (jumps0 : List Int) (a1 : Int) (b2 : Int) : c_i_FirstSame.start c_i_FirstSame.L (jumps0, a1, b2, ()) = i_FirstSame jumps0 a1 b2 := by kernel_rfl
noncomputable def F_i_FirstSame : Ins c_i_FirstSame.ins → Option (Int × Bool) := fun x => i_FirstSame x.1 x.2.1 x.2.2.1
noncomputable def S_i_FirstSame : FSpec := mkF c_i_FirstSame.env.pre c_i_FirstSame.ins c_i_FirstSame.out c_i_FirstSame.inj F_i_FirstSame
theorem h_i_FirstSame : Cert Try.prog 83 S_i_FirstSame := FnCx.certF (c := c_i_FirstSame) F_i_FirstSame (tyOk _ _ _) (spOk ⟨h_i_haveSteps, fun _ _ _ => trivial, ⟨h_i_path, fun _ _ _ => trivial, ⟨h_slices_Contains_int, fun _ _ _ => trivial, trivial⟩⟩⟩) (fun _ _ _ _ _ hs => noDr_ok) Try.func83 rfl rfl Try.ntmps83 (by kernel_rfl) rfl rfl (fun _ => rfl) i_FirstSame_ts i_FirstSame_hs (fun x t hb ht => by
  obtain ⟨jumps0, a1, b2, _⟩ := x
  exact (i_FirstSame_e jumps0 a1 b2).trans ht)
/-! spec.FirstSame -/
noncomputable def c_s_FirstSame : FnCx := { env := env 47 [(206, S_s_baStep), (207, S_s_baPath), (217, S_s_l1Has)] [], body := bodyOf Try.f84, res := [.tmp 6, .tmp 7], ins := [.ro kSint, .ro kint, .ro kint], out := [(kint, true), (kbool, true)], T := Int × Bool, fin := fun r => (r.1.1, r.1.2.1), inj := fun t => ((t.1, t.2, ()), ((), (), (), ())), pts := [([.inLoop [1, 1, 1, 1, 0, 1, 0, 0], .inBlock 0, .code [1, 1, 1, 1, 1]], Shape.mk [Bs.row kint 3 true, Bs.row kint 3 true] [(10, Ss.one (Cs.sl 0)), (36, Ss.one (Cs.sl 1)), (37, Ss.one (Cs.sc kint)), (38, Ss.one (Cs.sc kint))] [Ss.one (Cs.any), Ss.one (Cs.any), Ss.one (Cs.any)])], fuel := 400, dr := noDr }
noncomputable def s_FirstSame_t1 (g1 : List (Int) → List (Int) → Int → Int → Option (Int × Bool)) (r0 : List (Int)) (r1 : List (Int)) (s37 : Int) (s38 : Int) : Option (Int × Bool) :=
  bif decide (s38 < s37) then
    bif decide (0 ≤ s38) then
      bif decide (s38 < (↑(List.length r1) : Int)) then
        bif s_l1Has_n r0 (rdk kint r1 s38) then some (rdk kint r1 s38, true)
        else g1 r0 r1 s37 (IntKind.wrap IntKind.i64 (s38 + 1))
      else none
    else none
  else some (0, false)
noncomputable def s_FirstSame_t0 (g1 : List (Int) → List (Int) → Int → Int → Option (Int × Bool)) (jumps0 : List Int) (a1 : Int) (b2 : Int) : Option (Int × Bool) :=
  bif !s_baStep jumps0 a1 then some (0, false)
  else
    bif !s_baStep jumps0 b2 then some (0, false)
    else
      Option.bind (s_baPath jumps0 a1) fun r => Option.bind (s_baPath jumps0 b2) fun r_1 => g1 (Prod.fst r_1) (Prod.fst r) (↑(List.length (Prod.fst r)) : Int) 0
theorem s_FirstSame_ts : Tails c_s_FirstSame.pts c_s_FirstSame.round :=
  ⟨fun s => by
    obtain ⟨⟨r0, r1, _⟩, ⟨_, _, s37, s38, _⟩, ⟨_, _, _, _⟩⟩ := s
    refine Tail.eq (Y := fun g => s_FirstSame_t1 (fun r0 r1 s37 s38 => g.1 ((r0, r1, ()), ((), (), s37, s38, ()), ((), (), (), ()))) r0 r1 s37 s38) ?_ (fun g => by kernel_rfl)
    simp only [s_FirstSame_t1]; repeat (first | exact Tail.const _ | exact Tail.here _ | exact Tail.there (Tail.here _) | exact Tail.there (Tail.there (Tail.here _)) | exact Tail.there (Tail.there (Tail.there (Tail.here _))) | exact Tail.there (Tail.there (Tail.there (Tail.there (Tail.here _)))) | exact Tail.there (Tail.there (Tail.there (Tail.there (Tail.there (Tail.here _))))) | apply Tail.cond | (apply Tail.bind; intro _)), trivial⟩
theorem s_FirstSame_hs : ∀ x, Tail c_s_FirstSame.pts (fun g => c_s_FirstSame.start g x) := fun x => by
    obtain ⟨jumps0, a1, b2, _⟩ := x
    refine Tail.eq (Y := fun g => s_FirstSame_t0 (fun r0 r1 s37 s38 => g.1 ((r0, r1, ()), ((), (), s37, s38, ()), ((), (), (), ()))) jumps0 a1 b2) ?_ (fun g => by kernel_rfl)
    simp only [s_FirstSame_t0]; repeat (first | exact Tail.const _ | exact Tail.here _ | exact Tail.there (Tail.here _) | exact Tail.there (Tail.there (Tail.here _)) | exact Tail.there (Tail.there (Tail.there (Tail.here _))) | exact Tail.there (Tail.there (Tail.there (Tail.there (Tail.here _)))) | exact Tail.there (Tail.there (Tail.there (Tail.there (Tail.there (Tail.here _))))) | apply Tail.cond | (apply Tail.bind; intro _))
noncomputable def s_FirstSame_L1 (r0 : List (Int)) (r1 : List (Int)) (s37 : Int) (s38 : Int) : Option (Int × Bool) := c_s_FirstSame.L.1 ((r0, r1, ()), ((), (), s37, s38, ()), ((), (), (), ()))
theorem s_FirstSame_u1 (r0 : List (Int)) (r1 : List (Int)) (s37 : Int) (s38 : Int) : s_FirstSame_L1 r0 r1 s37 s38 = s_FirstSame_t1 s_FirstSame_L1 r0 r1 s37 s38 :=
  (congrArg (fun g => g.1 ((r0, r1, ()), ((), (), s37, s38, ()), ((), (), (), ()))) (FnCx.L_eq s_FirstSame_ts)).trans (by kernel_rfl)
noncomputable def s_FirstSame (jumps0 : List Int) (a1 : Int) (b2 : Int) : Option (Int × Bool) := s_FirstSame_t0 s_FirstSame_L1 jumps0 a1 b2
theorem s_FirstSame_e (jumps0 : List Int) (a1 : Int) (b2 : Int) : c_s_FirstSame.start c_s_FirstSame.L (jumps0, a1, b2, ()) = s_FirstSame jumps0 a1 b2 := by kernel_rfl
noncomputable def F_s_FirstSame : Ins c_s_FirstSame.ins → Option (Int × Bool) := fun x => s_FirstSame x.1 x.2.1 x.2.2.1
noncomputable def S_s_FirstSame : FSpec := mkF c_s_FirstSame.env.pre c_s_FirstSame.ins c_s_FirstSame.out c_s_FirstSame.inj F_s_FirstSame
theorem h_s_FirstSame : Cert Try.prog 84 S_s_FirstSame := FnCx.certF (c := c_s_FirstSame) F_s_FirstSame (tyOk _ _ _) (spOk ⟨h_s_baStep, fun _ _ _ => trivial, ⟨h_s_baPath, fun _ _ _ => trivial, ⟨h_s_l1Has, fun _ _ _ => trivial, trivial⟩⟩⟩) (fun _ _ _ _ _ hs => noDr_ok) Try.func84 rfl rfl Try.ntmps84 (by kernel_rfl) rfl rfl (fun _ => rfl) s_FirstSame_ts s_FirstSame_hs (fun x t hb ht => by
  obtain ⟨jumps0, a1, b2, _⟩ := x
  exact (s_FirstSame_e jumps0 a1 b2).trans ht)
/-! laws.FnBallsGo -/
noncomputable def c_w_FnBallsGo : FnCx := { env := env 692 [(34, S_w_big), (65, S_s_DrawPlaceAfter), (66, S_i_PlaceAfter), (67, S_s_PlaceAfter), (68, S_i_PathOfBall), (69, S_s_PathOfBall), (70, S_i_EndOfBall), (71, S_s_EndOfBall), (72, S_i_LoopOfBall), (73, S_s_LoopOfBall), (74, S_i_TimeToLoop), (75, S_s_TimeToLoop), (76, S_i_NextPlace), (77, S_s_NextPlace), (78, S_w_lSame), (79, S_w_lHas), (80, S_s_DrawBallsMeet), (81, S_i_BallsMeet), (82, S_s_BallsMeet), (83, S_i_FirstSame), (84, S_s_FirstSame)] [], body := bodyOf Try.f6, res := [.tmp 4], ins := [.ro kSuint8, .ro kSuint8], out := [(kbool, true)], T := Bool, fin := fun r => r.1.1, inj := fun t => ((t, ()), ((), (), ())), pts := [([.code [1, 1, 1, 1, 1, 1, 1, 1, 1, 1, 1, 1, 1, 1, 1, 1]], Shape.mk [Bs.row kuint8 5 false, Bs.row kint 3 false, Bs.row kint 3 true, Bs.row kint 3 true] [(1, Ss.one (Cs.sl 0)), (5, Ss.one (Cs.sl 1)), (6, Ss.one (Cs.sc kint)), (7, Ss.one (Cs.sc kint)), (8, Ss.one (Cs.sc kint)), (9, Ss.one (Cs.sc kbool)), (12, Ss.one (Cs.sl 2)), (13, Ss.one (Cs.sc kbool)), (16, Ss.one (Cs.sc kstring)), (20, Ss.one (Cs.sl 3)), (21, Ss.one (Cs.sc kbool)), (24, Ss.one (Cs.sc kint)), (28, Ss.one (Cs.sc kint))] [Ss.one (Cs.any), Ss.one (Cs.any)]), ([.code [1, 1, 1, 1, 1, 1, 1, 1, 1, 1, 1, 1, 1, 1, 1, 1, 1]], Shape.mk [Bs.row kuint8 5 false, Bs.row kint 3 false, Bs.row kint 3 false, Bs.row kint 3 true] [(1, Ss.one (Cs.sl 0)), (5, Ss.one (Cs.sl 1)), (6, Ss.one (Cs.sc kint)), (7, Ss.one (Cs.sc kint)), (8, Ss.one (Cs.sc kint)), (9, Ss.one (Cs.sc kbool)), (12, Ss.one (Cs.sl 2)), (16, Ss.one (Cs.sc kstring)), (20, Ss.one (Cs.sl 3)), (21, Ss.one (Cs.sc kbool)), (24, Ss.one (Cs.sc kint))] [Ss.one (Cs.any), Ss.one (Cs.any)]), ([.code [1, 1, 1, 1, 1, 1, 1, 1, 1, 1, 1, 1, 1, 1, 1, 1, 0, 1, 0, 1, 1, 1, 1, 1], .code [1, 1, 1, 1, 1, 1, 1, 1, 1, 1, 1, 1, 1, 1, 1, 1, 1]], Shape.mk [Bs.row kuint8 5 false, Bs.row kint 3 false, Bs.row kint 3 false, Bs.row kint 3 true] [(1, Ss.one (Cs.sl 0)), (5, Ss.one (Cs.sl 1)), (6, Ss.one (Cs.sc kint)), (7, Ss.one (Cs.sc kint)), (8, Ss.one (Cs.sc kint)), (9, Ss.one (Cs.sc kbool)), (12, Ss.one (Cs.sl 2)), (16, Ss.one (Cs.sc kstring)), (20, Ss.one (Cs.sl 3)), (21, Ss.one (Cs.sc kbool)), (24, Ss.one (Cs.sc kint)), (35, Ss.one (Cs.sc kint))] [Ss.one (Cs.any), Ss.one (Cs.any)]), ([.code [1, 1, 1, 1, 1, 1, 1, 1, 1, 1, 1, 1, 1, 1, 1, 1, 1, 1]], Shape.mk [Bs.row kuint8 5 false, Bs.row kint 3 false, Bs.row kint 3 false, Bs.row kint 3 true] [(1, Ss.one (Cs.sl 0)), (5, Ss.one (Cs.sl 1)), (6, Ss.one (Cs.sc kint)), (7, Ss.one (Cs.sc kint)), (8, Ss.one (Cs.sc kint)), (9, Ss.one (Cs.sc kbool)), (12, Ss.one (Cs.sl 2)), (16, Ss.one (Cs.sc kstring)), (20, Ss.one (Cs.sl 3)), (24, Ss.one (Cs.sc kint))] [Ss.one (Cs.any), Ss.one (Cs.any)]), ([.code [1, 1, 1, 1, 1, 1, 1, 1, 1, 1, 1, 1, 1, 1, 1, 1, 1, 1, 1]], Shape.mk [Bs.row kuint8 5 false] [(1, Ss.one (Cs.sl 0))] [Ss.one (Cs.any), Ss.one (Cs.any)]), ([.code [1, 1, 1, 1, 1, 1, 1, 1, 1, 1, 1, 1, 1, 1, 1, 1, 1, 1, 0, 1, 0, 1], .code [1, 1, 1, 1, 1, 1, 1, 1, 1, 1, 1, 1, 1, 1, 1, 1, 1, 1, 1]], Shape.mk [Bs.row kuint8 5 false, Bs.row kint 3 false, Bs.row kint 3 false, Bs.row kint 3 true] [(1, Ss.one (Cs.sl 0)), (5, Ss.one (Cs.sl 1)), (6, Ss.one (Cs.sc kint)), (7, Ss.one (Cs.sc kint)), (8, Ss.one (Cs.sc kint)), (12, Ss.one (Cs.sl 2)), (16, Ss.one (Cs.sc kstring)), (20, Ss.one (Cs.sl 3)), (24, Ss.one (Cs.sc kint))] [Ss.one (Cs.any), Ss.one (Cs.any)]), ([.code [1, 1, 1, 1, 1, 1, 1, 1, 1, 1, 1, 1, 1, 1, 1, 1, 1, 1, 0, 1, 0, 1, 1], .code [1, 1, 1, 1, 1, 1, 1, 1, 1, 1, 1, 1, 1, 1, 1, 1, 1, 1, 1]], Shape.mk [Bs.row kuint8 5 false, Bs.row kint 3 false, Bs.row kint 3 true] [(1, Ss.one (Cs.sl 0)), (5, Ss.one (Cs.sl 1)), (6, Ss.one (Cs.sc kint)), (7, Ss.one (Cs.sc kint)), (8, Ss.one (Cs.sc kint)), (16, Ss.one (Cs.sc kstring)), (20, Ss.one (Cs.sl 2)), (24, Ss.one (Cs.sc kint))] [Ss.one (Cs.any), Ss.one (Cs.any)]), ([.code [1, 1, 1, 1, 1, 1, 1, 1, 1, 1, 1, 1, 1, 1, 1, 1, 1, 1, 1, 1, 1, 1, 1, 1, 1]], Shape.mk [Bs.row kint 3 false] [(40, Ss.one (Cs.sl 0)), (41, Ss.one (Cs.sc kint)), (42, Ss.one (Cs.sc kint)), (43, Ss.one (Cs.sc kint)), (44, Ss.one (Cs.sc kint)), (45, Ss.one (Cs.sc kbool)), (49, Ss.one (Cs.sc kint)), (50, Ss.one (Cs.sc kbool))] [Ss.one (Cs.any), Ss.one (Cs.any)]), ([.code [1, 1, 1, 1, 1, 1, 1, 1, 1, 1, 1, 1, 1, 1, 1, 1, 1, 1, 1, 1, 1, 1, 1, 1, 1, 1]], Shape.mk [Bs.row kint 3 false] [(40, Ss.one (Cs.sl 0)), (41, Ss.one (Cs.sc kint)), (42, Ss.one (Cs.sc kint)), (49, Ss.one (Cs.sc kint)), (50, Ss.one (Cs.sc kbool))] [Ss.one (Cs.any), Ss.one (Cs.any)]), ([.code [1, 1, 1, 1, 1, 1, 1, 1, 1, 1, 1, 1, 1, 1, 1, 1, 1, 1, 1, 1, 1, 1, 1, 1, 1, 1, 1]], Shape.mk [] [] [Ss.one (Cs.any), Ss.one (Cs.any)]), ([.inLoop [1, 1, 1, 1, 1, 1, 1, 1, 1, 1, 1, 1, 1, 1, 1, 1, 0, 1, 0, 1, 0, 1, 0, 0], .inBlock 0, .code [1, 1, 1, 1, 1, 1, 1, 1, 1, 1, 1, 1, 1, 1, 1, 1, 0, 1, 0, 1, 1], .code [1, 1, 1, 1, 1, 1, 1, 1, 1, 1, 1, 1, 1, 1, 1, 1, 1]], Shape.mk [Bs.row kuint8 5 false, Bs.row kint 3 false, Bs.row kint 3 false, Bs.row kint 3 true] [(1, Ss.one (Cs.sl 0)), (5, Ss.one (Cs.sl 1)), (6, Ss.one (Cs.sc kint)), (7, Ss.one (Cs.sc kint)), (8, Ss.one (Cs.sc kint)), (9, Ss.one (Cs.sc kbool)), (12, Ss.one (Cs.sl 2)), (16, Ss.one (Cs.sc kstring)), (20, Ss.one (Cs.sl 3)), (21, Ss.one (Cs.sc kbool)), (24, Ss.one (Cs.sc kint)), (28, Ss.one (Cs.sc kint)), (262, Ss.one (Cs.sl 2)), (263, Ss.one (Cs.sc kint)), (264, Ss.one (Cs.sc kint))] [Ss.one (Cs.any), Ss.one (Cs.any)]), ([.inLoop [1, 1, 1, 1, 1, 1, 1, 1, 1, 1, 1, 1, 1, 1, 1, 1, 1, 0, 1, 0, 1, 0, 0], .inBlock 2, .code [1, 1, 1, 1, 1, 1, 1, 1, 1, 1, 1, 1, 1, 1, 1, 1, 1, 1]], Shape.mk [Bs.row kuint8 5 false, Bs.row kint 3 false, Bs.row kint 3 false, Bs.row kint 3 true] [(1, Ss.one (Cs.sl 0)), (5, Ss.one (Cs.sl 1)), (6, Ss.one (Cs.sc kint)), (7, Ss.one (Cs.sc kint)), (8, Ss.one (Cs.sc kint)), (9, Ss.one (Cs.sc kbool)), (12, Ss.one (Cs.sl 2)), (16, Ss.one (Cs.sc kstring)), (20, Ss.one (Cs.sl 3)), (24, Ss.one (Cs.sc kint)), (395, Ss.one (Cs.sl 3)), (396, Ss.one (Cs.sc kint)), (397, Ss.one (Cs.sc kint))] [Ss.one (Cs.any), Ss.one (Cs.any)]), ([.inLoop [1, 1, 1, 1, 1, 1, 1, 1, 1, 1, 1, 1, 1, 1, 1, 1, 1, 1, 1, 1, 1, 1, 1, 1, 1, 1, 0, 1, 0, 1, 1, 1, 1, 0, 0], .inBlock 4, .code [1, 1, 1, 1, 1, 1, 1, 1, 1, 1, 1, 1, 1, 1, 1, 1, 1, 1, 1, 1, 1, 1, 1, 1, 1, 1, 1]], Shape.mk [Bs.row kint 3 true, Bs.row kint 3 true] [(49, Ss.one (Cs.sc kint)), (66, Ss.one (Cs.sl 0)), (679, Ss.one (Cs.sl 1)), (680, Ss.one (Cs.sc kint)), (681, Ss.one (Cs.sc kint))] [Ss.one (Cs.any), Ss.one (Cs.any)])], fuel := 400, dr := evDr (env 692 [(34, S_w_big), (65, S_s_DrawPlaceAfter), (66, S_i_PlaceAfter), (67, S_s_PlaceAfter), (68, S_i_PathOfBall), (69, S_s_PathOfBall), (70, S_i_EndOfBall), (71, S_s_EndOfBall), (72, S_i_LoopOfBall), (73, S_s_LoopOfBall), (74, S_i_TimeToLoop), (75, S_s_TimeToLoop), (76, S_i_NextPlace), (77, S_s_NextPlace), (78, S_w_lSame), (79, S_w_lHas), (80, S_s_DrawBallsMeet), (81, S_i_BallsMeet), (82, S_s_BallsMeet), (83, S_i_FirstSame), (84, S_s_FirstSame)] []) }
noncomputable def w_FnBallsGo_t1 (g1 : List (Int) → List (Int) → List (Int) → List (Int) → Int → Int → Int → Bool → Bool → ByteArray → Bool → Int → Int → Option (Bool)) (g2 : List (Int) → List (Int) → List (Int) → List (Int) → Int → Int → Int → Bool → ByteArray → Bool → Int → Option (Bool)) (g3 : List (Int) → List (Int) → List (Int) → List (Int) → Int → Int → Int → Bool → ByteArray → Bool → Int → Int → Option (Bool)) (g4 : List (Int) → List (Int) → List (Int) → List (Int) → Int → Int → Int → Bool → ByteArray → Int → Option (Bool)) (g5 : List (Int) → Option (Bool)) (g6 : List (Int) → List (Int) → List (Int) → List (Int) → Int → Int → Int → ByteArray → Int → Option (Bool)) (g7 : List (Int) → List (Int) → List (Int) → Int → Int → Int → ByteArray → Int → Option (Bool)) (g8 : List (Int) → Int → Int → Int → Int → Bool → Int → Bool → Option (Bool)) (g9 : List (Int) → Int → Int → Int → Bool → Option (Bool)) (g10 : Option (Bool)) (g11 : List (Int) → List (Int) → List (Int) → List (Int) → Int → Int → Int → Bool → ByteArray → Bool → Int → Int → Int → Int → Option (Bool)) (g12 : List (Int) → List (Int) → List (Int) → List (Int) → Int → Int → Int → Bool → ByteArray → Int → Int → Int → Option (Bool)) (g13 : List (Int) → List (Int) → Int → Int → Int → Option (Bool)) (r0 : List (Int)) (r1 : List (Int)) (r2 : List (Int)) (r3 : List (Int)) (step6 : Int) (time7 : Int) (place8 : Int) (ok9 : Bool) (one13 : Bool) (end16 : ByteArray) (five21 : Bool) (until24 : Int) (next28 : Int) : Option Bool :=
  bif one13 then
    bif decide ((↑(List.length r2) : Int) < 1) then some false
    else
      bif decide (0 < (↑(List.length r2) : Int)) then
        bif rdk kint r2 0 != step6 then some false
        else
          bif decide ((↑(List.length r2) : Int) > (↑(List.length r1) : Int)) then some false
          else g11 r0 r1 r2 r3 step6 time7 place8 ok9 end16 five21 until24 next28 (↑(List.length r2) : Int) 0
      else none
  else g2 r0 r1 r2 r3 step6 time7 place8 ok9 end16 five21 until24
noncomputable def w_FnBallsGo_t2 (g1 : List (Int) → List (Int) → List (Int) → List (Int) → Int → Int → Int → Bool → Bool → ByteArray → Bool → Int → Int → Option (Bool)) (g2 : List (Int) → List (Int) → List (Int) → List (Int) → Int → Int → Int → Bool → ByteArray → Bool → Int → Option (Bool)) (g3 : List (Int) → List (Int) → List (Int) → List (Int) → Int → Int → Int → Bool → ByteArray → Bool → Int → Int → Option (Bool)) (g4 : List (Int) → List (Int) → List (Int) → List (Int) → Int → Int → Int → Bool → ByteArray → Int → Option (Bool)) (g5 : List (Int) → Option (Bool)) (g6 : List (Int) → List (Int) → List (Int) → List (Int) → Int → Int → Int → ByteArray → Int → Option (Bool)) (g7 : List (Int) → List (Int) → List (Int) → Int → Int → Int → ByteArray → Int → Option (Bool)) (g8 : List (Int) → Int → Int → Int → Int → Bool → Int → Bool → Option (Bool)) (g9 : List (Int) → Int → Int → Int → Bool → Option (Bool)) (g10 : Option (Bool)) (g11 : List (Int) → List (Int) → List (Int) → List (Int) → Int → Int → Int → Bool → ByteArray → Bool → Int → Int → Int → Int → Option (Bool)) (g12 : List (Int) → List (Int) → List (Int) → List (Int) → Int → Int → Int → Bool → ByteArray → Int → Int → Int → Option (Bool)) (g13 : List (Int) → List (Int) → Int → Int → Int → Option (Bool)) (r0 : List (Int)) (r1 : List (Int)) (r2 : List (Int)) (r3 : List (Int)) (step6 : Int) (time7 : Int) (place8 : Int) (ok9 : Bool) (end16 : ByteArray) (five21 : Bool) (until24 : Int) : Option Bool :=
  bif five21 then g12 r0 r1 r2 r3 step6 time7 place8 ok9 end16 until24 (↑(List.length r3) : Int) 0 else g4 r0 r1 r2 r3 step6 time7 place8 ok9 end16 until24
noncomputable def w_FnBallsGo_t3 (g1 : List (Int) → List (Int) → List (Int) → List (Int) → Int → Int → Int → Bool → Bool → ByteArray → Bool → Int → Int → Option (Bool)) (g2 : List (Int) → List (Int) → List (Int) → List (Int) → Int → Int → Int → Bool → ByteArray → Bool → Int → Option (Bool)) (g3 : List (Int) → List (Int) → List (Int) → List (Int) → Int → Int → Int → Bool → ByteArray → Bool → Int → Int → Option (Bool)) (g4 : List (Int) → List (Int) → List (Int) → List (Int) → Int → Int → Int → Bool → ByteArray → Int → Option (Bool)) (g5 : List (Int) → Option (Bool)) (g6 : List (Int) → List (Int) → List (Int) → List (Int) → Int → Int → Int → ByteArray → Int → Option (Bool)) (g7 : List (Int) → List (Int) → List (Int) → Int → Int → Int → ByteArray → Int → Option (Bool)) (g8 : List (Int) → Int → Int → Int → Int → Bool → Int → Bool → Option (Bool)) (g9 : List (Int) → Int → Int → Int → Bool → Option (Bool)) (g10 : Option (Bool)) (g11 : List (Int) → List (Int) → List (Int) → List (Int) → Int → Int → Int → Bool → ByteArray → Bool → Int → Int → Int → Int → Option (Bool)) (g12 : List (Int) → List (Int) → List (Int) → List (Int) → Int → Int → Int → Bool → ByteArray → Int → Int → Int → Option (Bool)) (g13 : List (Int) → List (Int) → Int → Int → Int → Option (Bool)) (r0 : List (Int)) (r1 : List (Int)) (r2 : List (Int)) (r3 : List (Int)) (step6 : Int) (time7 : Int) (place8 : Int) (ok9 : Bool) (end16 : ByteArray) (five21 : Bool) (until24 : Int) (behind35 : Int) : Option Bool :=
  bif five21 then
    bif decide ((↑(List.length r3) : Int) < 1) then some false
    else
      bif decide (until24 < 0) then some false
      else
        bif IntKind.wrap IntKind.i64 (until24 + (↑(List.length r3) : Int)) != (↑(List.length r2) : Int) then some false
        else
          bif decide (0 ≤ until24) then
            bif decide (until24 < (↑(List.length r2) : Int)) then
              bif behind35 != rdk kint r2 until24 then some false
              else Option.bind (w_lHas r3 behind35) fun r => bif !r then some false else g2 r0 r1 r2 r3 step6 time7 place8 ok9 end16 five21 until24
            else none
          else none
  else g2 r0 r1 r2 r3 step6 time7 place8 ok9 end16 five21 until24
noncomputable def w_FnBallsGo_t4 (g1 : List (Int) → List (Int) → List (Int) → List (Int) → Int → Int → Int → Bool → Bool → ByteArray → Bool → Int → Int → Option (Bool)) (g2 : List (Int) → List (Int) → List (Int) → List (Int) → Int → Int → Int → Bool → ByteArray → Bool → Int → Option (Bool)) (g3 : List (Int) → List (Int) → List (Int) → List (Int) → Int → Int → Int → Bool → ByteArray → Bool → Int → Int → Option (Bool)) (g4 : List (Int) → List (Int) → List (Int) → List (Int) → Int → Int → Int → Bool → ByteArray → Int → Option (Bool)) (g5 : List (Int) → Option (Bool)) (g6 : List (Int) → List (Int) → List (Int) → List (Int) → Int → Int → Int → ByteArray → Int → Option (Bool)) (g7 : List (Int) → List (Int) → List (Int) → Int → Int → Int → ByteArray → Int → Option (Bool)) (g8 : List (Int) → Int → Int → Int → Int → Bool → Int → Bool → Option (Bool)) (g9 : List (Int) → Int → Int → Int → Bool → Option (Bool)) (g10 : Option (Bool)) (g11 : List (Int) → List (Int) → List (Int) → List (Int) → Int → Int → Int → Bool → ByteArray → Bool → Int → Int → Int → Int → Option (Bool)) (g12 : List (Int) → List (Int) → List (Int) → List (Int) → Int → Int → Int → Bool → ByteArray → Int → Int → Int → Option (Bool)) (g13 : List (Int) → List (Int) → Int → Int → Int → Option (Bool)) (r0 : List (Int)) (r1 : List (Int)) (r2 : List (Int)) (r3 : List (Int)) (step6 : Int) (time7 : Int) (place8 : Int) (ok9 : Bool) (end16 : ByteArray) (until24 : Int) : Option Bool :=
  bif ok9 then
    bif decide (time7 < (↑(List.length r2) : Int)) then
      bif decide (0 ≤ time7) then
        bif decide (time7 < (↑(List.length r2) : Int)) then
          bif place8 != rdk kint r2 time7 then some false else g6 r0 r1 r2 r3 step6 time7 place8 end16 until24
        else none
      else none
    else g6 r0 r1 r2 r3 step6 time7 place8 end16 until24
  else g5 r0
noncomputable def w_FnBallsGo_t5 (g1 : List (Int) → List (Int) → List (Int) → List (Int) → Int → Int → Int → Bool → Bool → ByteArray → Bool → Int → Int → Option (Bool)) (g2 : List (Int) → List (Int) → List (Int) → List (Int) → Int → Int → Int → Bool → ByteArray → Bool → Int → Option (Bool)) (g3 : List (Int) → List (Int) → List (Int) → List (Int) → Int → Int → Int → Bool → ByteArray → Bool → Int → Int → Option (Bool)) (g4 : List (Int) → List (Int) → List (Int) → List (Int) → Int → Int → Int → Bool → ByteArray → Int → Option (Bool)) (g5 : List (Int) → Option (Bool)) (g6 : List (Int) → List (Int) → List (Int) → List (Int) → Int → Int → Int → ByteArray → Int → Option (Bool)) (g7 : List (Int) → List (Int) → List (Int) → Int → Int → Int → ByteArray → Int → Option (Bool)) (g8 : List (Int) → Int → Int → Int → Int → Bool → Int → Bool → Option (Bool)) (g9 : List (Int) → Int → Int → Int → Bool → Option (Bool)) (g10 : Option (Bool)) (g11 : List (Int) → List (Int) → List (Int) → List (Int) → Int → Int → Int → Bool → ByteArray → Bool → Int → Int → Int → Int → Option (Bool)) (g12 : List (Int) → List (Int) → List (Int) → List (Int) → Int → Int → Int → Bool → ByteArray → Int → Int → Int → Option (Bool)) (g13 : List (Int) → List (Int) → Int → Int → Int → Option (Bool)) (r0 : List (Int)) : Option Bool :=
  Option.bind (s_DrawBallsMeet r0) fun r =>
    Option.bind (i_BallsMeet (Prod.fst r) (Prod.fst (Prod.snd r)) (Prod.snd (Prod.snd r))) fun r_1 =>
      Option.bind (s_BallsMeet (Prod.fst r) (Prod.fst (Prod.snd r)) (Prod.snd (Prod.snd r))) fun r_2 =>
        Option.bind (i_FirstSame (Prod.fst r) (Prod.fst (Prod.snd r)) (Prod.snd (Prod.snd r))) fun r_3 =>
          Option.bind (s_FirstSame (Prod.fst r) (Prod.fst (Prod.snd r)) (Prod.snd (Prod.snd r))) fun r_4 =>
            bif !Prod.snd (Prod.snd r_1) == Prod.snd (Prod.snd r_2) then some false
            else
              bif Prod.fst r_1 != Prod.fst r_2 then some false
              else
                bif Prod.fst (Prod.snd r_1) != Prod.fst (Prod.snd r_2) then some false
                else
                  bif !Prod.snd r_3 == Prod.snd r_4 then some false
                  else
                    bif Prod.fst r_3 != Prod.fst r_4 then some false
                    else
                      bif Prod.snd (Prod.snd r_1) then
                        bif !Prod.snd r_3 then some false
                        else
                          g8 (Prod.fst r) (Prod.fst (Prod.snd r)) (Prod.snd (Prod.snd r)) (Prod.fst r_1) (Prod.fst (Prod.snd r_1)) (Prod.snd (Prod.snd r_1))
                            (Prod.fst r_3) (Prod.snd r_3)
                      else
                        g8 (Prod.fst r) (Prod.fst (Prod.snd r)) (Prod.snd (Prod.snd r)) (Prod.fst r_1) (Prod.fst (Prod.snd r_1)) (Prod.snd (Prod.snd r_1))
                          (Prod.fst r_3) (Prod.snd r_3)
noncomputable def w_FnBallsGo_t6 (g1 : List (Int) → List (Int) → List (Int) → List (Int) → Int → Int → Int → Bool → Bool → ByteArray → Bool → Int → Int → Option (Bool)) (g2 : List (Int) → List (Int) → List (Int) → List (Int) → Int → Int → Int → Bool → ByteArray → Bool → Int → Option (Bool)) (g3 : List (Int) → List (Int) → List (Int) → List (Int) → Int → Int → Int → Bool → ByteArray → Bool → Int → Int → Option (Bool)) (g4 : List (Int) → List (Int) → List (Int) → List (Int) → Int → Int → Int → Bool → ByteArray → Int → Option (Bool)) (g5 : List (Int) → Option (Bool)) (g6 : List (Int) → List (Int) → List (Int) → List (Int) → Int → Int → Int → ByteArray → Int → Option (Bool)) (g7 : List (Int) → List (Int) → List (Int) → Int → Int → Int → ByteArray → Int → Option (Bool)) (g8 : List (Int) → Int → Int → Int → Int → Bool → Int → Bool → Option (Bool)) (g9 : List (Int) → Int → Int → Int → Bool → Option (Bool)) (g10 : Option (Bool)) (g11 : List (Int) → List (Int) → List (Int) → List (Int) → Int → Int → Int → Bool → ByteArray → Bool → Int → Int → Int → Int → Option (Bool)) (g12 : List (Int) → List (Int) → List (Int) → List (Int) → Int → Int → Int → Bool → ByteArray → Int → Int → Int → Option (Bool)) (g13 : List (Int) → List (Int) → Int → Int → Int → Option (Bool)) (r0 : List (Int)) (r1 : List (Int)) (r2 : List (Int)) (r3 : List (Int)) (step6 : Int) (time7 : Int) (place8 : Int) (end16 : ByteArray) (until24 : Int) : Option Bool :=
  bif decide (time7 ≥ (↑(List.length r2) : Int)) then
    bif ByteArray.toList end16 == ByteArray.toList { data := #[97] } then
      bif place8 != -1 then some false
      else
        bif ByteArray.toList end16 == ByteArray.toList { data := #[98] } then
          bif place8 != (↑(List.length r1) : Int) then some false
          else
            bif ByteArray.toList end16 == ByteArray.toList { data := #[108] } then
              Option.bind (w_lHas r3 place8) fun r => bif !r then some false else g7 r0 r1 r3 step6 time7 place8 end16 until24
            else g7 r0 r1 r3 step6 time7 place8 end16 until24
        else
          bif ByteArray.toList end16 == ByteArray.toList { data := #[108] } then
            Option.bind (w_lHas r3 place8) fun r => bif !r then some false else g7 r0 r1 r3 step6 time7 place8 end16 until24
          else g7 r0 r1 r3 step6 time7 place8 end16 until24
    else
      bif ByteArray.toList end16 == ByteArray.toList { data := #[98] } then
        bif place8 != (↑(List.length r1) : Int) then some false
        else
          bif ByteArray.toList end16 == ByteArray.toList { data := #[108] } then
            Option.bind (w_lHas r3 place8) fun r => bif !r then some false else g7 r0 r1 r3 step6 time7 place8 end16 until24
          else g7 r0 r1 r3 step6 time7 place8 end16 until24
      else
        bif ByteArray.toList end16 == ByteArray.toList { data := #[108] } then
          Option.bind (w_lHas r3 place8) fun r => bif !r then some false else g7 r0 r1 r3 step6 time7 place8 end16 until24
        else g7 r0 r1 r3 step6 time7 place8 end16 until24
  else g7 r0 r1 r3 step6 time7 place8 end16 until24
noncomputable def w_FnBallsGo_t7 (g1 : List (Int) → List (Int) → List (Int) → List (Int) → Int → Int → Int → Bool → Bool → ByteArray → Bool → Int → Int → Option (Bool)) (g2 : List (Int) → List (Int) → List (Int) → List (Int) → Int → Int → Int → Bool → ByteArray → Bool → Int → Option (Bool)) (g3 : List (Int) → List (Int) → List (Int) → List (Int) → Int → Int → Int → Bool → ByteArray → Bool → Int → Int → Option (Bool)) (g4 : List (Int) → List (Int) → List (Int) → List (Int) → Int → Int → Int → Bool → ByteArray → Int → Option (Bool)) (g5 : List (Int) → Option (Bool)) (g6 : List (Int) → List (Int) → List (Int) → List (Int) → Int → Int → Int → ByteArray → Int → Option (Bool)) (g7 : List (Int) → List (Int) → List (Int) → Int → Int → Int → ByteArray → Int → Option (Bool)) (g8 : List (Int) → Int → Int → Int → Int → Bool → Int → Bool → Option (Bool)) (g9 : List (Int) → Int → Int → Int → Bool → Option (Bool)) (g10 : Option (Bool)) (g11 : List (Int) → List (Int) → List (Int) → List (Int) → Int → Int → Int → Bool → ByteArray → Bool → Int → Int → Int → Int → Option (Bool)) (g12 : List (Int) → List (Int) → List (Int) → List (Int) → Int → Int → Int → Bool → ByteArray → Int → Int → Int → Option (Bool)) (g13 : List (Int) → List (Int) → Int → Int → Int → Option (Bool)) (r0 : List (Int)) (r1 : List (Int)) (r2 : List (Int)) (step6 : Int) (time7 : Int) (place8 : Int) (end16 : ByteArray) (until24 : Int) : Option Bool :=
  bif ByteArray.toList end16 == ByteArray.toList { data := #[108] } then
    bif decide (time7 ≥ until24) then
      bif decide (IntKind.wrap IntKind.i64 (time7 + (↑(List.length r2) : Int)) ≤ 1000000000000) then
        Option.bind (i_PlaceAfter r1 step6 (IntKind.wrap IntKind.i64 (time7 + (↑(List.length r2) : Int)))) fun r =>
          bif !Prod.snd r then some false else bif Prod.fst r != place8 then some false else g5 r0
      else g5 r0
    else g5 r0
  else g5 r0
noncomputable def w_FnBallsGo_t8 (g1 : List (Int) → List (Int) → List (Int) → List (Int) → Int → Int → Int → Bool → Bool → ByteArray → Bool → Int → Int → Option (Bool)) (g2 : List (Int) → List (Int) → List (Int) → List (Int) → Int → Int → Int → Bool → ByteArray → Bool → Int → Option (Bool)) (g3 : List (Int) → List (Int) → List (Int) → List (Int) → Int → Int → Int → Bool → ByteArray → Bool → Int → Int → Option (Bool)) (g4 : List (Int) → List (Int) → List (Int) → List (Int) → Int → Int → Int → Bool → ByteArray → Int → Option (Bool)) (g5 : List (Int) → Option (Bool)) (g6 : List (Int) → List (Int) → List (Int) → List (Int) → Int → Int → Int → ByteArray → Int → Option (Bool)) (g7 : List (Int) → List (Int) → List (Int) → Int → Int → Int → ByteArray → Int → Option (Bool)) (g8 : List (Int) → Int → Int → Int → Int → Bool → Int → Bool → Option (Bool)) (g9 : List (Int) → Int → Int → Int → Bool → Option (Bool)) (g10 : Option (Bool)) (g11 : List (Int) → List (Int) → List (Int) → List (Int) → Int → Int → Int → Bool → ByteArray → Bool → Int → Int → Int → Int → Option (Bool)) (g12 : List (Int) → List (Int) → List (Int) → List (Int) → Int → Int → Int → Bool → ByteArray → Int → Int → Int → Option (Bool)) (g13 : List (Int) → List (Int) → Int → Int → Int → Option (Bool)) (r0 : List (Int)) (a41 : Int) (b42 : Int) (when43 : Int) (where44 : Int) (eleven45 : Bool) (same49 : Int) (thirteen50 : Bool) : Option Bool :=
  bif eleven45 then
    Option.bind (i_PlaceAfter r0 a41 when43) fun r =>
      Option.bind (i_PlaceAfter r0 b42 when43) fun r_1 =>
        Option.bind (i_PlaceAfter r0 a41 (IntKind.wrap IntKind.i64 (when43 - 1))) fun r_2 =>
          Option.bind (i_PlaceAfter r0 b42 (IntKind.wrap IntKind.i64 (when43 - 1))) fun r_3 =>
            Option.bind (i_BallsMeet r0 b42 a41) fun r_4 =>
              bif decide (when43 < 1) then some false
              else
                bif !Prod.snd r then some false
                else
                  bif !Prod.snd r_1 then some false
                  else
                    bif Prod.fst r != where44 then some false
                    else
                      bif Prod.fst r_1 != where44 then some false
                      else
                        bif !Prod.snd r_2 then some false
                        else
                          bif !Prod.snd r_3 then some false
                          else
                            bif Prod.fst r_2 == Prod.fst r_3 then some false
                            else bif !Prod.snd (Prod.snd r_4) then some false else bif Prod.fst r_4 != when43 then some false else g9 r0 a41 b42 same49 thirteen50
  else g9 r0 a41 b42 same49 thirteen50
noncomputable def w_FnBallsGo_t9 (g1 : List (Int) → List (Int) → List (Int) → List (Int) → Int → Int → Int → Bool → Bool → ByteArray → Bool → Int → Int → Option (Bool)) (g2 : List (Int) → List (Int) → List (Int) → List (Int) → Int → Int → Int → Bool → ByteArray → Bool → Int → Option (Bool)) (g3 : List (Int) → List (Int) → List (Int) → List (Int) → Int → Int → Int → Bool → ByteArray → Bool → Int → Int → Option (Bool)) (g4 : List (Int) → List (Int) → List (Int) → List (Int) → Int → Int → Int → Bool → ByteArray → Int → Option (Bool)) (g5 : List (Int) → Option (Bool)) (g6 : List (Int) → List (Int) → List (Int) → List (Int) → Int → Int → Int → ByteArray → Int → Option (Bool)) (g7 : List (Int) → List (Int) → List (Int) → Int → Int → Int → ByteArray → Int → Option (Bool)) (g8 : List (Int) → Int → Int → Int → Int → Bool → Int → Bool → Option (Bool)) (g9 : List (Int) → Int → Int → Int → Bool → Option (Bool)) (g10 : Option (Bool)) (g11 : List (Int) → List (Int) → List (Int) → List (Int) → Int → Int → Int → Bool → ByteArray → Bool → Int → Int → Int → Int → Option (Bool)) (g12 : List (Int) → List (Int) → List (Int) → List (Int) → Int → Int → Int → Bool → ByteArray → Int → Int → Int → Option (Bool)) (g13 : List (Int) → List (Int) → Int → Int → Int → Option (Bool)) (r0 : List (Int)) (a41 : Int) (b42 : Int) (same49 : Int) (thirteen50 : Bool) : Option Bool :=
  bif thirteen50 then
    Option.bind (i_PathOfBall r0 a41) fun r =>
      Option.bind (i_PathOfBall r0 b42) fun r_1 =>
        bif !Prod.snd r then some false
        else
          bif !Prod.snd r_1 then some false
          else
            Option.bind (w_lHas (Prod.fst r_1) same49) fun r_2 =>
              bif !r_2 then some false else g13 (Prod.fst r_1) (Prod.fst r) same49 (↑(List.length (Prod.fst r)) : Int) 0
  else g10
noncomputable def w_FnBallsGo_t10 (g1 : List (Int) → List (Int) → List (Int) → List (Int) → Int → Int → Int → Bool → Bool → ByteArray → Bool → Int → Int → Option (Bool)) (g2 : List (Int) → List (Int) → List (Int) → List (Int) → Int → Int → Int → Bool → ByteArray → Bool → Int → Option (Bool)) (g3 : List (Int) → List (Int) → List (Int) → List (Int) → Int → Int → Int → Bool → ByteArray → Bool → Int → Int → Option (Bool)) (g4 : List (Int) → List (Int) → List (Int) → List (Int) → Int → Int → Int → Bool → ByteArray → Int → Option (Bool)) (g5 : List (Int) → Option (Bool)) (g6 : List (Int) → List (Int) → List (Int) → List (Int) → Int → Int → Int → ByteArray → Int → Option (Bool)) (g7 : List (Int) → List (Int) → List (Int) → Int → Int → Int → ByteArray → Int → Option (Bool)) (g8 : List (Int) → Int → Int → Int → Int → Bool → Int → Bool → Option (Bool)) (g9 : List (Int) → Int → Int → Int → Bool → Option (Bool)) (g10 : Option (Bool)) (g11 : List (Int) → List (Int) → List (Int) → List (Int) → Int → Int → Int → Bool → ByteArray → Bool → Int → Int → Int → Int → Option (Bool)) (g12 : List (Int) → List (Int) → List (Int) → List (Int) → Int → Int → Int → Bool → ByteArray → Int → Int → Int → Option (Bool)) (g13 : List (Int) → List (Int) → Int → Int → Int → Option (Bool))  : Option Bool :=
  some true
noncomputable def w_FnBallsGo_t11 (g1 : List (Int) → List (Int) → List (Int) → List (Int) → Int → Int → Int → Bool → Bool → ByteArray → Bool → Int → Int → Option (Bool)) (g2 : List (Int) → List (Int) → List (Int) → List (Int) → Int → Int → Int → Bool → ByteArray → Bool → Int → Option (Bool)) (g3 : List (Int) → List (Int) → List (Int) → List (Int) → Int → Int → Int → Bool → ByteArray → Bool → Int → Int → Option (Bool)) (g4 : List (Int) → List (Int) → List (Int) → List (Int) → Int → Int → Int → Bool → ByteArray → Int → Option (Bool)) (g5 : List (Int) → Option (Bool)) (g6 : List (Int) → List (Int) → List (Int) → List (Int) → Int → Int → Int → ByteArray → Int → Option (Bool)) (g7 : List (Int) → List (Int) → List (Int) → Int → Int → Int → ByteArray → Int → Option (Bool)) (g8 : List (Int) → Int → Int → Int → Int → Bool → Int → Bool → Option (Bool)) (g9 : List (Int) → Int → Int → Int → Bool → Option (Bool)) (g10 : Option (Bool)) (g11 : List (Int) → List (Int) → List (Int) → List (Int) → Int → Int → Int → Bool → ByteArray → Bool → Int → Int → Int → Int → Option (Bool)) (g12 : List (Int) → List (Int) → List (Int) → List (Int) → Int → Int → Int → Bool → ByteArray → Int → Int → Int → Option (Bool)) (g13 : List (Int) → List (Int) → Int → Int → Int → Option (Bool)) (r0 : List (Int)) (r1 : List (Int)) (r2 : List (Int)) (r3 : List (Int)) (step6 : Int) (time7 : Int) (place8 : Int) (ok9 : Bool) (end16 : ByteArray) (five21 : Bool) (until24 : Int) (next28 : Int) (s263 : Int) (s264 : Int) : Option Bool :=
  bif decide (s264 < s263) then
    bif decide (0 ≤ s264) then
      bif decide (s264 < (↑(List.length r2) : Int)) then
        bif decide (0 ≤ s264) then
          bif decide (s264 ≤ (↑(List.length r2) : Int)) then
            Option.bind (w_lHas (List.take (Int.toNat s264 - Int.toNat 0) (List.drop (Int.toNat 0) r2)) (rdk kint r2 s264)) fun r =>
              bif r then some false
              else
                bif decide (s264 > 0) then
                  bif decide (0 ≤ IntKind.wrap IntKind.i64 (s264 - 1)) then
                    bif decide (IntKind.wrap IntKind.i64 (s264 - 1) < (↑(List.length r2) : Int)) then
                      bif decide (0 ≤ IntKind.wrap IntKind.i64 (s264 - 1)) then
                        bif decide (IntKind.wrap IntKind.i64 (s264 - 1) < (↑(List.length r2) : Int)) then
                          bif decide (0 ≤ rdk kint r2 (IntKind.wrap IntKind.i64 (s264 - 1))) then
                            bif decide (rdk kint r2 (IntKind.wrap IntKind.i64 (s264 - 1)) < (↑(List.length r1) : Int)) then
                              bif
                                  rdk kint r2 s264 !=
                                    IntKind.wrap IntKind.i64
                                      (rdk kint r2 (IntKind.wrap IntKind.i64 (s264 - 1)) +
                                        rdk kint r1 (rdk kint r2 (IntKind.wrap IntKind.i64 (s264 - 1)))) then
                                some false
                              else g11 r0 r1 r2 r3 step6 time7 place8 ok9 end16 five21 until24 next28 s263 (IntKind.wrap IntKind.i64 (s264 + 1))
                            else none
                          else none
                        else none
                      else none
                    else none
                  else none
                else g11 r0 r1 r2 r3 step6 time7 place8 ok9 end16 five21 until24 next28 s263 (IntKind.wrap IntKind.i64 (s264 + 1))
          else none
        else none
      else none
    else none
  else
    bif decide (0 ≤ IntKind.wrap IntKind.i64 ((↑(List.length r2) : Int) - 1)) then
      bif decide (IntKind.wrap IntKind.i64 ((↑(List.length r2) : Int) - 1) < (↑(List.length r2) : Int)) then
        bif decide (0 ≤ rdk kint r2 (IntKind.wrap IntKind.i64 ((↑(List.length r2) : Int) - 1))) then
          bif decide (rdk kint r2 (IntKind.wrap IntKind.i64 ((↑(List.length r2) : Int) - 1)) < (↑(List.length r1) : Int)) then
            bif
                !(ByteArray.toList end16 == ByteArray.toList { data := #[97] }) ==
                    decide
                      (IntKind.wrap IntKind.i64
                          (rdk kint r2 (IntKind.wrap IntKind.i64 ((↑(List.length r2) : Int) - 1)) +
                            rdk kint r1 (rdk kint r2 (IntKind.wrap IntKind.i64 ((↑(List.length r2) : Int) - 1)))) <
                        0) then
              some false
            else
              bif
                  !(ByteArray.toList end16 == ByteArray.toList { data := #[98] }) ==
                      decide
                        (IntKind.wrap IntKind.i64
                            (rdk kint r2 (IntKind.wrap IntKind.i64 ((↑(List.length r2) : Int) - 1)) +
                              rdk kint r1 (rdk kint r2 (IntKind.wrap IntKind.i64 ((↑(List.length r2) : Int) - 1)))) ≥
                          (↑(List.length r1) : Int)) then
                some false
              else
                bif decide ((↑(List.length r2) : Int) > 1) then
                  bif decide (1 < (↑(List.length r2) : Int)) then
                    bif rdk kint r2 1 != next28 then some false
                    else
                      bif (↑(List.length r2) : Int) == 1 then
                        bif ByteArray.toList end16 == ByteArray.toList { data := #[108] } then
                          bif next28 != step6 then some false
                          else
                            bif !ByteArray.toList end16 == ByteArray.toList { data := #[97] } then
                              bif !ByteArray.toList end16 == ByteArray.toList { data := #[98] } then
                                bif !ByteArray.toList end16 == ByteArray.toList { data := #[108] } then some false
                                else
                                  g3 r0 r1 r2 r3 step6 time7 place8 ok9 end16 five21 until24
                                    (IntKind.wrap IntKind.i64
                                      (rdk kint r2 (IntKind.wrap IntKind.i64 ((↑(List.length r2) : Int) - 1)) +
                                        rdk kint r1 (rdk kint r2 (IntKind.wrap IntKind.i64 ((↑(List.length r2) : Int) - 1)))))
                              else
                                g3 r0 r1 r2 r3 step6 time7 place8 ok9 end16 five21 until24
                                  (IntKind.wrap IntKind.i64
                                    (rdk kint r2 (IntKind.wrap IntKind.i64 ((↑(List.length r2) : Int) - 1)) +
                                      rdk kint r1 (rdk kint r2 (IntKind.wrap IntKind.i64 ((↑(List.length r2) : Int) - 1)))))
                            else
                              g3 r0 r1 r2 r3 step6 time7 place8 ok9 end16 five21 until24
                                (IntKind.wrap IntKind.i64
                                  (rdk kint r2 (IntKind.wrap IntKind.i64 ((↑(List.length r2) : Int) - 1)) +
                                    rdk kint r1 (rdk kint r2 (IntKind.wrap IntKind.i64 ((↑(List.length r2) : Int) - 1)))))
                        else
                          bif !ByteArray.toList end16 == ByteArray.toList { data := #[97] } then
                            bif !ByteArray.toList end16 == ByteArray.toList { data := #[98] } then
                              bif !ByteArray.toList end16 == ByteArray.toList { data := #[108] } then some false
                              else
                                g3 r0 r1 r2 r3 step6 time7 place8 ok9 end16 five21 until24
                                  (IntKind.wrap IntKind.i64
                                    (rdk kint r2 (IntKind.wrap IntKind.i64 ((↑(List.length r2) : Int) - 1)) +
                                      rdk kint r1 (rdk kint r2 (IntKind.wrap IntKind.i64 ((↑(List.length r2) : Int) - 1)))))
                            else
                              g3 r0 r1 r2 r3 step6 time7 place8 ok9 end16 five21 until24
                                (IntKind.wrap IntKind.i64
                                  (rdk kint r2 (IntKind.wrap IntKind.i64 ((↑(List.length r2) : Int) - 1)) +
                                    rdk kint r1 (rdk kint r2 (IntKind.wrap IntKind.i64 ((↑(List.length r2) : Int) - 1)))))
                          else
                            g3 r0 r1 r2 r3 step6 time7 place8 ok9 end16 five21 until24
                              (IntKind.wrap IntKind.i64
                                (rdk kint r2 (IntKind.wrap IntKind.i64 ((↑(List.length r2) : Int) - 1)) +
                                  rdk kint r1 (rdk kint r2 (IntKind.wrap IntKind.i64 ((↑(List.length r2) : Int) - 1)))))
                      else
                        bif !ByteArray.toList end16 == ByteArray.toList { data := #[97] } then
                          bif !ByteArray.toList end16 == ByteArray.toList { data := #[98] } then
                            bif !ByteArray.toList end16 == ByteArray.toList { data := #[108] } then some false
                            else
                              g3 r0 r1 r2 r3 step6 time7 place8 ok9 end16 five21 until24
                                (IntKind.wrap IntKind.i64
                                  (rdk kint r2 (IntKind.wrap IntKind.i64 ((↑(List.length r2) : Int) - 1)) +
                                    rdk kint r1 (rdk kint r2 (IntKind.wrap IntKind.i64 ((↑(List.length r2) : Int) - 1)))))
                          else
                            g3 r0 r1 r2 r3 step6 time7 place8 ok9 end16 five21 until24
                              (IntKind.wrap IntKind.i64
                                (rdk kint r2 (IntKind.wrap IntKind.i64 ((↑(List.length r2) : Int) - 1)) +
                                  rdk kint r1 (rdk kint r2 (IntKind.wrap IntKind.i64 ((↑(List.length r2) : Int) - 1)))))
                        else
                          g3 r0 r1 r2 r3 step6 time7 place8 ok9 end16 five21 until24
                            (IntKind.wrap IntKind.i64
                              (rdk kint r2 (IntKind.wrap IntKind.i64 ((↑(List.length r2) : Int) - 1)) +
                                rdk kint r1 (rdk kint r2 (IntKind.wrap IntKind.i64 ((↑(List.length r2) : Int) - 1)))))
                  else none
                else
                  bif (↑(List.length r2) : Int) == 1 then
                    bif ByteArray.toList end16 == ByteArray.toList { data := #[108] } then
                      bif next28 != step6 then some false
                      else
                        bif !ByteArray.toList end16 == ByteArray.toList { data := #[97] } then
                          bif !ByteArray.toList end16 == ByteArray.toList { data := #[98] } then
                            bif !ByteArray.toList end16 == ByteArray.toList { data := #[108] } then some false
                            else
                              g3 r0 r1 r2 r3 step6 time7 place8 ok9 end16 five21 until24
                                (IntKind.wrap IntKind.i64
                                  (rdk kint r2 (IntKind.wrap IntKind.i64 ((↑(List.length r2) : Int) - 1)) +
                                    rdk kint r1 (rdk kint r2 (IntKind.wrap IntKind.i64 ((↑(List.length r2) : Int) - 1)))))
                          else
                            g3 r0 r1 r2 r3 step6 time7 place8 ok9 end16 five21 until24
                              (IntKind.wrap IntKind.i64
                                (rdk kint r2 (IntKind.wrap IntKind.i64 ((↑(List.length r2) : Int) - 1)) +
                                  rdk kint r1 (rdk kint r2 (IntKind.wrap IntKind.i64 ((↑(List.length r2) : Int) - 1)))))
                        else
                          g3 r0 r1 r2 r3 step6 time7 place8 ok9 end16 five21 until24
                            (IntKind.wrap IntKind.i64
                              (rdk kint r2 (IntKind.wrap IntKind.i64 ((↑(List.length r2) : Int) - 1)) +
                                rdk kint r1 (rdk kint r2 (IntKind.wrap IntKind.i64 ((↑(List.length r2) : Int) - 1)))))
                    else
                      bif !ByteArray.toList end16 == ByteArray.toList { data := #[97] } then
                        bif !ByteArray.toList end16 == ByteArray.toList { data := #[98] } then
                          bif !ByteArray.toList end16 == ByteArray.toList { data := #[108] } then some false
                          else
                            g3 r0 r1 r2 r3 step6 time7 place8 ok9 end16 five21 until24
                              (IntKind.wrap IntKind.i64
                                (rdk kint r2 (IntKind.wrap IntKind.i64 ((↑(List.length r2) : Int) - 1)) +
                                  rdk kint r1 (rdk kint r2 (IntKind.wrap IntKind.i64 ((↑(List.length r2) : Int) - 1)))))
                        else
                          g3 r0 r1 r2 r3 step6 time7 place8 ok9 end16 five21 until24
                            (IntKind.wrap IntKind.i64
                              (rdk kint r2 (IntKind.wrap IntKind.i64 ((↑(List.length r2) : Int) - 1)) +
                                rdk kint r1 (rdk kint r2 (IntKind.wrap IntKind.i64 ((↑(List.length r2) : Int) - 1)))))
                      else
                        g3 r0 r1 r2 r3 step6 time7 place8 ok9 end16 five21 until24
                          (IntKind.wrap IntKind.i64
                            (rdk kint r2 (IntKind.wrap IntKind.i64 ((↑(List.length r2) : Int) - 1)) +
                              rdk kint r1 (rdk kint r2 (IntKind.wrap IntKind.i64 ((↑(List.length r2) : Int) - 1)))))
                  else
                    bif !ByteArray.toList end16 == ByteArray.toList { data := #[97] } then
                      bif !ByteArray.toList end16 == ByteArray.toList { data := #[98] } then
                        bif !ByteArray.toList end16 == ByteArray.toList { data := #[108] } then some false
                        else
                          g3 r0 r1 r2 r3 step6 time7 place8 ok9 end16 five21 until24
                            (IntKind.wrap IntKind.i64
                              (rdk kint r2 (IntKind.wrap IntKind.i64 ((↑(List.length r2) : Int) - 1)) +
                                rdk kint r1 (rdk kint r2 (IntKind.wrap IntKind.i64 ((↑(List.length r2) : Int) - 1)))))
                      else
                        g3 r0 r1 r2 r3 step6 time7 place8 ok9 end16 five21 until24
                          (IntKind.wrap IntKind.i64
                            (rdk kint r2 (IntKind.wrap IntKind.i64 ((↑(List.length r2) : Int) - 1)) +
                              rdk kint r1 (rdk kint r2 (IntKind.wrap IntKind.i64 ((↑(List.length r2) : Int) - 1)))))
                    else
                      g3 r0 r1 r2 r3 step6 time7 place8 ok9 end16 five21 until24
                        (IntKind.wrap IntKind.i64
                          (rdk kint r2 (IntKind.wrap IntKind.i64 ((↑(List.length r2) : Int) - 1)) +
                            rdk kint r1 (rdk kint r2 (IntKind.wrap IntKind.i64 ((↑(List.length r2) : Int) - 1)))))
          else none
        else none
      else none
    else none
noncomputable def w_FnBallsGo_t12 (g1 : List (Int) → List (Int) → List (Int) → List (Int) → Int → Int → Int → Bool → Bool → ByteArray → Bool → Int → Int → Option (Bool)) (g2 : List (Int) → List (Int) → List (Int) → List (Int) → Int → Int → Int → Bool → ByteArray → Bool → Int → Option (Bool)) (g3 : List (Int) → List (Int) → List (Int) → List (Int) → Int → Int → Int → Bool → ByteArray → Bool → Int → Int → Option (Bool)) (g4 : List (Int) → List (Int) → List (Int) → List (Int) → Int → Int → Int → Bool → ByteArray → Int → Option (Bool)) (g5 : List (Int) → Option (Bool)) (g6 : List (Int) → List (Int) → List (Int) → List (Int) → Int → Int → Int → ByteArray → Int → Option (Bool)) (g7 : List (Int) → List (Int) → List (Int) → Int → Int → Int → ByteArray → Int → Option (Bool)) (g8 : List (Int) → Int → Int → Int → Int → Bool → Int → Bool → Option (Bool)) (g9 : List (Int) → Int → Int → Int → Bool → Option (Bool)) (g10 : Option (Bool)) (g11 : List (Int) → List (Int) → List (Int) → List (Int) → Int → Int → Int → Bool → ByteArray → Bool → Int → Int → Int → Int → Option (Bool)) (g12 : List (Int) → List (Int) → List (Int) → List (Int) → Int → Int → Int → Bool → ByteArray → Int → Int → Int → Option (Bool)) (g13 : List (Int) → List (Int) → Int → Int → Int → Option (Bool)) (r0 : List (Int)) (r1 : List (Int)) (r2 : List (Int)) (r3 : List (Int)) (step6 : Int) (time7 : Int) (place8 : Int) (ok9 : Bool) (end16 : ByteArray) (until24 : Int) (s396 : Int) (s397 : Int) : Option Bool :=
  bif decide (s397 < s396) then
    bif decide (0 ≤ s397) then
      bif decide (s397 < (↑(List.length r3) : Int)) then
        bif decide (0 < (↑(List.length r3) : Int)) then
          bif decide (rdk kint r3 s397 < rdk kint r3 0) then some false
          else
            bif (↑(List.length r3) : Int) == 0 then none
            else
              bif decide (0 ≤ Int.tmod (IntKind.wrap IntKind.i64 (s397 + 1)) (↑(List.length r3) : Int)) then
                bif decide (Int.tmod (IntKind.wrap IntKind.i64 (s397 + 1)) (↑(List.length r3) : Int) < (↑(List.length r3) : Int)) then
                  bif decide (0 ≤ rdk kint r3 s397) then
                    bif decide (rdk kint r3 s397 < (↑(List.length r1) : Int)) then
                      bif
                          rdk kint r3 (Int.tmod (IntKind.wrap IntKind.i64 (s397 + 1)) (↑(List.length r3) : Int)) !=
                            IntKind.wrap IntKind.i64 (rdk kint r3 s397 + rdk kint r1 (rdk kint r3 s397)) then
                        some false
                      else
                        Option.bind (w_lHas r2 (rdk kint r3 s397)) fun r =>
                          bif !r then some false else g12 r0 r1 r2 r3 step6 time7 place8 ok9 end16 until24 s396 (IntKind.wrap IntKind.i64 (s397 + 1))
                    else none
                  else none
                else none
              else none
        else none
      else none
    else none
  else g4 r0 r1 r2 r3 step6 time7 place8 ok9 end16 until24
noncomputable def w_FnBallsGo_t13 (g1 : List (Int) → List (Int) → List (Int) → List (Int) → Int → Int → Int → Bool → Bool → ByteArray → Bool → Int → Int → Option (Bool)) (g2 : List (Int) → List (Int) → List (Int) → List (Int) → Int → Int → Int → Bool → ByteArray → Bool → Int → Option (Bool)) (g3 : List (Int) → List (Int) → List (Int) → List (Int) → Int → Int → Int → Bool → ByteArray → Bool → Int → Int → Option (Bool)) (g4 : List (Int) → List (Int) → List (Int) → List (Int) → Int → Int → Int → Bool → ByteArray → Int → Option (Bool)) (g5 : List (Int) → Option (Bool)) (g6 : List (Int) → List (Int) → List (Int) → List (Int) → Int → Int → Int → ByteArray → Int → Option (Bool)) (g7 : List (Int) → List (Int) → List (Int) → Int → Int → Int → ByteArray → Int → Option (Bool)) (g8 : List (Int) → Int → Int → Int → Int → Bool → Int → Bool → Option (Bool)) (g9 : List (Int) → Int → Int → Int → Bool → Option (Bool)) (g10 : Option (Bool)) (g11 : List (Int) → List (Int) → List (Int) → List (Int) → Int → Int → Int → Bool → ByteArray → Bool → Int → Int → Int → Int → Option (Bool)) (g12 : List (Int) → List (Int) → List (Int) → List (Int) → Int → Int → Int → Bool → ByteArray → Int → Int → Int → Option (Bool)) (g13 : List (Int) → List (Int) → Int → Int → Int → Option (Bool)) (r0 : List (Int)) (r1 : List (Int)) (same49 : Int) (s680 : Int) (s681 : Int) : Option Bool :=
  bif decide (s681 < s680) then
    bif decide (0 ≤ s681) then
      bif decide (s681 < (↑(List.length r1) : Int)) then
        bif rdk kint r1 s681 == same49 then g10
        else
          Option.bind (w_lHas r0 (rdk kint r1 s681)) fun r =>
            bif r then some false else g13 r0 r1 same49 s680 (IntKind.wrap IntKind.i64 (s681 + 1))
      else none
    else none
  else g10
noncomputable def w_FnBallsGo_t0 (g1 : List (Int) → List (Int) → List (Int) → List (Int) → Int → Int → Int → Bool → Bool → ByteArray → Bool → Int → Int → Option (Bool)) (g2 : List (Int) → List (Int) → List (Int) → List (Int) → Int → Int → Int → Bool → ByteArray → Bool → Int → Option (Bool)) (g3 : List (Int) → List (Int) → List (Int) → List (Int) → Int → Int → Int → Bool → ByteArray → Bool → Int → Int → Option (Bool)) (g4 : List (Int) → List (Int) → List (Int) → List (Int) → Int → Int → Int → Bool → ByteArray → Int → Option (Bool)) (g5 : List (Int) → Option (Bool)) (g6 : List (Int) → List (Int) → List (Int) → List (Int) → Int → Int → Int → ByteArray → Int → Option (Bool)) (g7 : List (Int) → List (Int) → List (Int) → Int → Int → Int → ByteArray → Int → Option (Bool)) (g8 : List (Int) → Int → Int → Int → Int → Bool → Int → Bool → Option (Bool)) (g9 : List (Int) → Int → Int → Int → Bool → Option (Bool)) (g10 : Option (Bool)) (g11 : List (Int) → List (Int) → List (Int) → List (Int) → Int → Int → Int → Bool → ByteArray → Bool → Int → Int → Int → Int → Option (Bool)) (g12 : List (Int) → List (Int) → List (Int) → List (Int) → Int → Int → Int → Bool → ByteArray → Int → Int → Int → Option (Bool)) (g13 : List (Int) → List (Int) → Int → Int → Int → Option (Bool)) (code0 : List Int) (more1 : List Int) : Option Bool :=
  bif w_big code0 more1 then some true
  else
    Option.bind (s_DrawPlaceAfter code0) fun r =>
      Option.bind (i_PlaceAfter (Prod.fst r) (Prod.fst (Prod.snd r)) (Prod.snd (Prod.snd r))) fun r_1 =>
        Option.bind (s_PlaceAfter (Prod.fst r) (Prod.fst (Prod.snd r)) (Prod.snd (Prod.snd r))) fun r_2 =>
          Option.bind (i_PathOfBall (Prod.fst r) (Prod.fst (Prod.snd r))) fun r_3 =>
            Option.bind (s_PathOfBall (Prod.fst r) (Prod.fst (Prod.snd r))) fun r_4 =>
              Option.bind (i_EndOfBall (Prod.fst r) (Prod.fst (Prod.snd r))) fun r_5 =>
                Option.bind (s_EndOfBall (Prod.fst r) (Prod.fst (Prod.snd r))) fun r_6 =>
                  Option.bind (i_LoopOfBall (Prod.fst r) (Prod.fst (Prod.snd r))) fun r_7 =>
                    Option.bind (s_LoopOfBall (Prod.fst r) (Prod.fst (Prod.snd r))) fun r_8 =>
                      Option.bind (i_TimeToLoop (Prod.fst r) (Prod.fst (Prod.snd r))) fun r_9 =>
                        Option.bind (s_TimeToLoop (Prod.fst r) (Prod.fst (Prod.snd r))) fun r_10 =>
                          Option.bind (i_NextPlace (Prod.fst r) (Prod.fst (Prod.snd r))) fun r_11 =>
                            Option.bind (s_NextPlace (Prod.fst r) (Prod.fst (Prod.snd r))) fun r_12 =>
                              bif !Prod.snd r_1 == Prod.snd r_2 then some false
                              else
                                bif Prod.fst r_1 != Prod.fst r_2 then some false
                                else
                                  bif !Prod.snd r_3 == Prod.snd r_4 then some false
                                  else
                                    Option.bind (w_lSame (Prod.fst r_3) (Prod.fst r_4)) fun r_13 =>
                                      bif !r_13 then some false
                                      else
                                        bif !Prod.snd r_5 == Prod.snd r_6 then some false
                                        else
                                          bif !ByteArray.toList (Prod.fst r_5) == ByteArray.toList (Prod.fst r_6) then some false
                                          else
                                            bif !Prod.snd r_7 == Prod.snd r_8 then some false
                                            else
                                              Option.bind (w_lSame (Prod.fst r_7) (Prod.fst r_8)) fun r_14 =>
                                                bif !r_14 then some false
                                                else
                                                  bif !Prod.snd r_9 == Prod.snd r_10 then some false
                                                  else
                                                    bif Prod.fst r_9 != Prod.fst r_10 then some false
                                                    else
                                                      bif !Prod.snd r_11 == Prod.snd r_12 then some false
                                                      else
                                                        bif Prod.fst r_11 != Prod.fst r_12 then some false
                                                        else
                                                          bif !Prod.snd r_5 == Prod.snd r_3 then some false
                                                          else
                                                            bif !Prod.snd r_11 == Prod.snd r_3 then some false
                                                            else
                                                              bif Prod.snd r_1 then
                                                                bif !Prod.snd r_3 then some false
                                                                else
                                                                  bif Prod.snd r_3 then
                                                                    bif
                                                                        !Prod.snd r_7 ==
                                                                            (ByteArray.toList (Prod.fst r_5) == ByteArray.toList { data := #[108] }) then
                                                                      some false
                                                                    else
                                                                      bif !Prod.snd r_9 == Prod.snd r_7 then some false
                                                                      else
                                                                        g1 more1 (Prod.fst r) (Prod.fst r_3) (Prod.fst r_7) (Prod.fst (Prod.snd r))
                                                                          (Prod.snd (Prod.snd r)) (Prod.fst r_1) (Prod.snd r_1) (Prod.snd r_3) (Prod.fst r_5)
                                                                          (Prod.snd r_7) (Prod.fst r_9) (Prod.fst r_11)
                                                                  else
                                                                    bif !Prod.snd r_7 == false then some false
                                                                    else
                                                                      bif !Prod.snd r_9 == Prod.snd r_7 then some false
                                                                      else
                                                                        g1 more1 (Prod.fst r) (Prod.fst r_3) (Prod.fst r_7) (Prod.fst (Prod.snd r))
                                                                          (Prod.snd (Prod.snd r)) (Prod.fst r_1) (Prod.snd r_1) (Prod.snd r_3) (Prod.fst r_5)
                                                                          (Prod.snd r_7) (Prod.fst r_9) (Prod.fst r_11)
                                                              else
                                                                bif Prod.snd r_3 then
                                                                  bif
                                                                      !Prod.snd r_7 ==
                                                                          (ByteArray.toList (Prod.fst r_5) == ByteArray.toList { data := #[108] }) then
                                                                    some false
                                                                  else
                                                                    bif !Prod.snd r_9 == Prod.snd r_7 then some false
                                                                    else
                                                                      g1 more1 (Prod.fst r) (Prod.fst r_3) (Prod.fst r_7) (Prod.fst (Prod.snd r))
                                                                        (Prod.snd (Prod.snd r)) (Prod.fst r_1) (Prod.snd r_1) (Prod.snd r_3) (Prod.fst r_5)
                                                                        (Prod.snd r_7) (Prod.fst r_9) (Prod.fst r_11)
                                                                else
                                                                  bif !Prod.snd r_7 == false then some false
                                                                  else
                                                                    bif !Prod.snd r_9 == Prod.snd r_7 then some false
                                                                    else
                                                                      g1 more1 (Prod.fst r) (Prod.fst r_3) (Prod.fst r_7) (Prod.fst (Prod.snd r))
                                                                        (Prod.snd (Prod.snd r)) (Prod.fst r_1) (Prod.snd r_1) (Prod.snd r_3) (Prod.fst r_5)
                                                                        (Prod.snd r_7) (Prod.fst r_9) (Prod.fst r_11)
theorem w_FnBallsGo_ts : Tails c_w_FnBallsGo.pts c_w_FnBallsGo.round :=
  ⟨fun s => by
    obtain ⟨⟨r0, r1, r2, r3, _⟩, ⟨_, _, step6, time7, place8, ok9, _, one13, end16, _, five21, until24, next28, _⟩, ⟨_, _, _⟩⟩ := s
    refine Tail.eq (Y := fun g => w_FnBallsGo_t1 (fun r0 r1 r2 r3 step6 time7 place8 ok9 one13 end16 five21 until24 next28 => g.1 ((r0, r1, r2, r3, ()), ((), (), step6, time7, place8, ok9, (), one13, end16, (), five21, until24, next28, ()), ((), (), ()))) (fun r0 r1 r2 r3 step6 time7 place8 ok9 end16 five21 until24 => g.2.1 ((r0, r1, r2, r3, ()), ((), (), step6, time7, place8, ok9, (), end16, (), five21, until24, ()), ((), (), ()))) (fun r0 r1 r2 r3 step6 time7 place8 ok9 end16 five21 until24 behind35 => g.2.2.1 ((r0, r1, r2, r3, ()), ((), (), step6, time7, place8, ok9, (), end16, (), five21, until24, behind35, ()), ((), (), ()))) (fun r0 r1 r2 r3 step6 time7 place8 ok9 end16 until24 => g.2.2.2.1 ((r0, r1, r2, r3, ()), ((), (), step6, time7, place8, ok9, (), end16, (), until24, ()), ((), (), ()))) (fun r0 => g.2.2.2.2.1 ((r0, ()), ((), ()), ((), (), ()))) (fun r0 r1 r2 r3 step6 time7 place8 end16 until24 => g.2.2.2.2.2.1 ((r0, r1, r2, r3, ()), ((), (), step6, time7, place8, (), end16, (), until24, ()), ((), (), ()))) (fun r0 r1 r2 step6 time7 place8 end16 until24 => g.2.2.2.2.2.2.1 ((r0, r1, r2, ()), ((), (), step6, time7, place8, end16, (), until24, ()), ((), (), ()))) (fun r0 a41 b42 when43 where44 eleven45 same49 thirteen50 => g.2.2.2.2.2.2.2.1 ((r0, ()), ((), a41, b42, when43, where44, eleven45, same49, thirteen50, ()), ((), (), ()))) (fun r0 a41 b42 same49 thirteen50 => g.2.2.2.2.2.2.2.2.1 ((r0, ()), ((), a41, b42, same49, thirteen50, ()), ((), (), ()))) (g.2.2.2.2.2.2.2.2.2.1 ((), (), ((), (), ()))) (fun r0 r1 r2 r3 step6 time7 place8 ok9 end16 five21 until24 next28 s263 s264 => g.2.2.2.2.2.2.2.2.2.2.1 ((r0, r1, r2, r3, ()), ((), (), step6, time7, place8, ok9, (), end16, (), five21, until24, next28, (), s263, s264, ()), ((), (), ()))) (fun r0 r1 r2 r3 step6 time7 place8 ok9 end16 until24 s396 s397 => g.2.2.2.2.2.2.2.2.2.2.2.1 ((r0, r1, r2, r3, ()), ((), (), step6, time7, place8, ok9, (), end16, (), until24, (), s396, s397, ()), ((), (), ()))) (fun r0 r1 same49 s680 s681 => g.2.2.2.2.2.2.2.2.2.2.2.2.1 ((r0, r1, ()), (same49, (), (), s680, s681, ()), ((), (), ()))) r0 r1 r2 r3 step6 time7 place8 ok9 one13 end16 five21 until24 next28) ?_ (fun g => by kernel_rfl)
    simp only [w_FnBallsGo_t1]; repeat (first | apply Tail.cond | (apply Tail.bind; intro _) | exact Tail.here _ | exact Tail.there (Tail.here _) | exact Tail.there (Tail.there (Tail.here _)) | exact Tail.there (Tail.there (Tail.there (Tail.here _))) | exact Tail.there (Tail.there (Tail.there (Tail.there (Tail.here _)))) | exact Tail.there (Tail.there (Tail.there (Tail.there (Tail.there (Tail.here _))))) | exact Tail.there (Tail.there (Tail.there (Tail.there (Tail.there (Tail.there (Tail.here _)))))) | exact Tail.there (Tail.there (Tail.there (Tail.there (Tail.there (Tail.there (Tail.there (Tail.here _))))))) | exact Tail.there (Tail.there (Tail.there (Tail.there (Tail.there (Tail.there (Tail.there (Tail.there (Tail.here _)))))))) | exact Tail.there (Tail.there (Tail.there (Tail.there (Tail.there (Tail.there (Tail.there (Tail.there (Tail.there (Tail.here _))))))))) | exact Tail.there (Tail.there (Tail.there (Tail.there (Tail.there (Tail.there (Tail.there (Tail.there (Tail.there (Tail.there (Tail.here _)))))))))) | exact Tail.there (Tail.there (Tail.there (Tail.there (Tail.there (Tail.there (Tail.there (Tail.there (Tail.there (Tail.there (Tail.there (Tail.here _))))))))))) | exact Tail.there (Tail.there (Tail.there (Tail.there (Tail.there (Tail.there (Tail.there (Tail.there (Tail.there (Tail.there (Tail.there (Tail.there (Tail.here _)))))))))))) | exact Tail.const _),
  fun s => by
    obtain ⟨⟨r0, r1, r2, r3, _⟩, ⟨_, _, step6, time7, place8, ok9, _, end16, _, five21, until24, _⟩, ⟨_, _, _⟩⟩ := s
    refine Tail.eq (Y := fun g => w_FnBallsGo_t2 (fun r0 r1 r2 r3 step6 time7 place8 ok9 one13 end16 five21 until24 next28 => g.1 ((r0, r1, r2, r3, ()), ((), (), step6, time7, place8, ok9, (), one13, end16, (), five21, until24, next28, ()), ((), (), ()))) (fun r0 r1 r2 r3 step6 time7 place8 ok9 end16 five21 until24 => g.2.1 ((r0, r1, r2, r3, ()), ((), (), step6, time7, place8, ok9, (), end16, (), five21, until24, ()), ((), (), ()))) (fun r0 r1 r2 r3 step6 time7 place8 ok9 end16 five21 until24 behind35 => g.2.2.1 ((r0, r1, r2, r3, ()), ((), (), step6, time7, place8, ok9, (), end16, (), five21, until24, behind35, ()), ((), (), ()))) (fun r0 r1 r2 r3 step6 time7 place8 ok9 end16 until24 => g.2.2.2.1 ((r0, r1, r2, r3, ()), ((), (), step6, time7, place8, ok9, (), end16, (), until24, ()), ((), (), ()))) (fun r0 => g.2.2.2.2.1 ((r0, ()), ((), ()), ((), (), ()))) (fun r0 r1 r2 r3 step6 time7 place8 end16 until24 => g.2.2.2.2.2.1 ((r0, r1, r2, r3, ()), ((), (), step6, time7, place8, (), end16, (), until24, ()), ((), (), ()))) (fun r0 r1 r2 step6 time7 place8 end16 until24 => g.2.2.2.2.2.2.1 ((r0, r1, r2, ()), ((), (), step6, time7, place8, end16, (), until24, ()), ((), (), ()))) (fun r0 a41 b42 when43 where44 eleven45 same49 thirteen50 => g.2.2.2.2.2.2.2.1 ((r0, ()), ((), a41, b42, when43, where44, eleven45, same49, thirteen50, ()), ((), (), ()))) (fun r0 a41 b42 same49 thirteen50 => g.2.2.2.2.2.2.2.2.1 ((r0, ()), ((), a41, b42, same49, thirteen50, ()), ((), (), ()))) (g.2.2.2.2.2.2.2.2.2.1 ((), (), ((), (), ()))) (fun r0 r1 r2 r3 step6 time7 place8 ok9 end16 five21 until24 next28 s263 s264 => g.2.2.2.2.2.2.2.2.2.2.1 ((r0, r1, r2, r3, ()), ((), (), step6, time7, place8, ok9, (), end16, (), five21, until24, next28, (), s263, s264, ()), ((), (), ()))) (fun r0 r1 r2 r3 step6 time7 place8 ok9 end16 until24 s396 s397 => g.2.2.2.2.2.2.2.2.2.2.2.1 ((r0, r1, r2, r3, ()), ((), (), step6, time7, place8, ok9, (), end16, (), until24, (), s396, s397, ()), ((), (), ()))) (fun r0 r1 same49 s680 s681 => g.2.2.2.2.2.2.2.2.2.2.2.2.1 ((r0, r1, ()), (same49, (), (), s680, s681, ()), ((), (), ()))) r0 r1 r2 r3 step6 time7 place8 ok9 end16 five21 until24) ?_ (fun g => by kernel_rfl)
    simp only [w_FnBallsGo_t2]; repeat (first | apply Tail.cond | (apply Tail.bind; intro _) | exact Tail.here _ | exact Tail.there (Tail.here _) | exact Tail.there (Tail.there (Tail.here _)) | exact Tail.there (Tail.there (Tail.there (Tail.here _))) | exact Tail.there (Tail.there (Tail.there (Tail.there (Tail.here _)))) | exact Tail.there (Tail.there (Tail.there (Tail.there (Tail.there (Tail.here _))))) | exact Tail.there (Tail.there (Tail.there (Tail.there (Tail.there (Tail.there (Tail.here _)))))) | exact Tail.there (Tail.there (Tail.there (Tail.there (Tail.there (Tail.there (Tail.there (Tail.here _))))))) | exact Tail.there (Tail.there (Tail.there (Tail.there (Tail.there (Tail.there (Tail.there (Tail.there (Tail.here _)))))))) | exact Tail.there (Tail.there (Tail.there (Tail.there (Tail.there (Tail.there (Tail.there (Tail.there (Tail.there (Tail.here _))))))))) | exact Tail.there (Tail.there (Tail.there (Tail.there (Tail.there (Tail.there (Tail.there (Tail.there (Tail.there (Tail.there (Tail.here _)))))))))) | exact Tail.there (Tail.there (Tail.there (Tail.there (Tail.there (Tail.there (Tail.there (Tail.there (Tail.there (Tail.there (Tail.there (Tail.here _))))))))))) | exact Tail.there (Tail.there (Tail.there (Tail.there (Tail.there (Tail.there (Tail.there (Tail.there (Tail.there (Tail.there (Tail.there (Tail.there (Tail.here _)))))))))))) | exact Tail.const _),
  fun s => by
    obtain ⟨⟨r0, r1, r2, r3, _⟩, ⟨_, _, step6, time7, place8, ok9, _, end16, _, five21, until24, behind35, _⟩, ⟨_, _, _⟩⟩ := s
    refine Tail.eq (Y := fun g => w_FnBallsGo_t3 (fun r0 r1 r2 r3 step6 time7 place8 ok9 one13 end16 five21 until24 next28 => g.1 ((r0, r1, r2, r3, ()), ((), (), step6, time7, place8, ok9, (), one13, end16, (), five21, until24, next28, ()), ((), (), ()))) (fun r0 r1 r2 r3 step6 time7 place8 ok9 end16 five21 until24 => g.2.1 ((r0, r1, r2, r3, ()), ((), (), step6, time7, place8, ok9, (), end16, (), five21, until24, ()), ((), (), ()))) (fun r0 r1 r2 r3 step6 time7 place8 ok9 end16 five21 until24 behind35 => g.2.2.1 ((r0, r1, r2, r3, ()), ((), (), step6, time7, place8, ok9, (), end16, (), five21, until24, behind35, ()), ((), (), ()))) (fun r0 r1 r2 r3 step6 time7 place8 ok9 end16 until24 => g.2.2.2.1 ((r0, r1, r2, r3, ()), ((), (), step6, time7, place8, ok9, (), end16, (), until24, ()), ((), (), ()))) (fun r0 => g.2.2.2.2.1 ((r0, ()), ((), ()), ((), (), ()))) (fun r0 r1 r2 r3 step6 time7 place8 end16 until24 => g.2.2.2.2.2.1 ((r0, r1, r2, r3, ()), ((), (), step6, time7, place8, (), end16, (), until24, ()), ((), (), ()))) (fun r0 r1 r2 step6 time7 place8 end16 until24 => g.2.2.2.2.2.2.1 ((r0, r1, r2, ()), ((), (), step6, time7, place8, end16, (), until24, ()), ((), (), ()))) (fun r0 a41 b42 when43 where44 eleven45 same49 thirteen50 => g.2.2.2.2.2.2.2.1 ((r0, ()), ((), a41, b42, when43, where44, eleven45, same49, thirteen50, ()), ((), (), ()))) (fun r0 a41 b42 same49 thirteen50 => g.2.2.2.2.2.2.2.2.1 ((r0, ()), ((), a41, b42, same49, thirteen50, ()), ((), (), ()))) (g.2.2.2.2.2.2.2.2.2.1 ((), (), ((), (), ()))) (fun r0 r1 r2 r3 step6 time7 place8 ok9 end16 five21 until24 next28 s263 s264 => g.2.2.2.2.2.2.2.2.2.2.1 ((r0, r1, r2, r3, ()), ((), (), step6, time7, place8, ok9, (), end16, (), five21, until24, next28, (), s263, s264, ()), ((), (), ()))) (fun r0 r1 r2 r3 step6 time7 place8 ok9 end16 until24 s396 s397 => g.2.2.2.2.2.2.2.2.2.2.2.1 ((r0, r1, r2, r3, ()), ((), (), step6, time7, place8, ok9, (), end16, (), until24, (), s396, s397, ()), ((), (), ()))) (fun r0 r1 same49 s680 s681 => g.2.2.2.2.2.2.2.2.2.2.2.2.1 ((r0, r1, ()), (same49, (), (), s680, s681, ()), ((), (), ()))) r0 r1 r2 r3 step6 time7 place8 ok9 end16 five21 until24 behind35) ?_ (fun g => by kernel_rfl)
    simp only [w_FnBallsGo_t3]; repeat (first | apply Tail.cond | (apply Tail.bind; intro _) | exact Tail.here _ | exact Tail.there (Tail.here _) | exact Tail.there (Tail.there (Tail.here _)) | exact Tail.there (Tail.there (Tail.there (Tail.here _))) | exact Tail.there (Tail.there (Tail.there (Tail.there (Tail.here _)))) | exact Tail.there (Tail.there (Tail.there (Tail.there (Tail.there (Tail.here _))))) | exact Tail.there (Tail.there (Tail.there (Tail.there (Tail.there (Tail.there (Tail.here _)))))) | exact Tail.there (Tail.there (Tail.there (Tail.there (Tail.there (Tail.there (Tail.there (Tail.here _))))))) | exact Tail.there (Tail.there (Tail.there (Tail.there (Tail.there (Tail.there (Tail.there (Tail.there (Tail.here _)))))))) | exact Tail.there (Tail.there (Tail.there (Tail.there (Tail.there (Tail.there (Tail.there (Tail.there (Tail.there (Tail.here _))))))))) | exact Tail.there (Tail.there (Tail.there (Tail.there (Tail.there (Tail.there (Tail.there (Tail.there (Tail.there (Tail.there (Tail.here _)))))))))) | exact Tail.there (Tail.there (Tail.there (Tail.there (Tail.there (Tail.there (Tail.there (Tail.there (Tail.there (Tail.there (Tail.there (Tail.here _))))))))))) | exact Tail.there (Tail.there (Tail.there (Tail.there (Tail.there (Tail.there (Tail.there (Tail.there (Tail.there (Tail.there (Tail.there (Tail.there (Tail.here _)))))))))))) | exact Tail.const _),
  fun s => by
    obtain ⟨⟨r0, r1, r2, r3, _⟩, ⟨_, _, step6, time7, place8, ok9, _, end16, _, until24, _⟩, ⟨_, _, _⟩⟩ := s
    refine Tail.eq (Y := fun g => w_FnBallsGo_t4 (fun r0 r1 r2 r3 step6 time7 place8 ok9 one13 end16 five21 until24 next28 => g.1 ((r0, r1, r2, r3, ()), ((), (), step6, time7, place8, ok9, (), one13, end16, (), five21, until24, next28, ()), ((), (), ()))) (fun r0 r1 r2 r3 step6 time7 place8 ok9 end16 five21 until24 => g.2.1 ((r0, r1, r2, r3, ()), ((), (), step6, time7, place8, ok9, (), end16, (), five21, until24, ()), ((), (), ()))) (fun r0 r1 r2 r3 step6 time7 place8 ok9 end16 five21 until24 behind35 => g.2.2.1 ((r0, r1, r2, r3, ()), ((), (), step6, time7, place8, ok9, (), end16, (), five21, until24, behind35, ()), ((), (), ()))) (fun r0 r1 r2 r3 step6 time7 place8 ok9 end16 until24 => g.2.2.2.1 ((r0, r1, r2, r3, ()), ((), (), step6, time7, place8, ok9, (), end16, (), until24, ()), ((), (), ()))) (fun r0 => g.2.2.2.2.1 ((r0, ()), ((), ()), ((), (), ()))) (fun r0 r1 r2 r3 step6 time7 place8 end16 until24 => g.2.2.2.2.2.1 ((r0, r1, r2, r3, ()), ((), (), step6, time7, place8, (), end16, (), until24, ()), ((), (), ()))) (fun r0 r1 r2 step6 time7 place8 end16 until24 => g.2.2.2.2.2.2.1 ((r0, r1, r2, ()), ((), (), step6, time7, place8, end16, (), until24, ()), ((), (), ()))) (fun r0 a41 b42 when43 where44 eleven45 same49 thirteen50 => g.2.2.2.2.2.2.2.1 ((r0, ()), ((), a41, b42, when43, where44, eleven45, same49, thirteen50, ()), ((), (), ()))) (fun r0 a41 b42 same49 thirteen50 => g.2.2.2.2.2.2.2.2.1 ((r0, ()), ((), a41, b42, same49, thirteen50, ()), ((), (), ()))) (g.2.2.2.2.2.2.2.2.2.1 ((), (), ((), (), ()))) (fun r0 r1 r2 r3 step6 time7 place8 ok9 end16 five21 until24 next28 s263 s264 => g.2.2.2.2.2.2.2.2.2.2.1 ((r0, r1, r2, r3, ()), ((), (), step6, time7, place8, ok9, (), end16, (), five21, until24, next28, (), s263, s264, ()), ((), (), ()))) (fun r0 r1 r2 r3 step6 time7 place8 ok9 end16 until24 s396 s397 => g.2.2.2.2.2.2.2.2.2.2.2.1 ((r0, r1, r2, r3, ()), ((), (), step6, time7, place8, ok9, (), end16, (), until24, (), s396, s397, ()), ((), (), ()))) (fun r0 r1 same49 s680 s681 => g.2.2.2.2.2.2.2.2.2.2.2.2.1 ((r0, r1, ()), (same49, (), (), s680, s681, ()), ((), (), ()))) r0 r1 r2 r3 step6 time7 place8 ok9 end16 until24) ?_ (fun g => by kernel_rfl)
    simp only [w_FnBallsGo_t4]; repeat (first | apply Tail.cond | (apply Tail.bind; intro _) | exact Tail.here _ | exact Tail.there (Tail.here _) | exact Tail.there (Tail.there (Tail.here _)) | exact Tail.there (Tail.there (Tail.there (Tail.here _))) | exact Tail.there (Tail.there (Tail.there (Tail.there (Tail.here _)))) | exact Tail.there (Tail.there (Tail.there (Tail.there (Tail.there (Tail.here _))))) | exact Tail.there (Tail.there (Tail.there (Tail.there (Tail.there (Tail.there (Tail.here _)))))) | exact Tail.there (Tail.there (Tail.there (Tail.there (Tail.there (Tail.there (Tail.there (Tail.here _))))))) | exact Tail.there (Tail.there (Tail.there (Tail.there (Tail.there (Tail.there (Tail.there (Tail.there (Tail.here _)))))))) | exact Tail.there (Tail.there (Tail.there (Tail.there (Tail.there (Tail.there (Tail.there (Tail.there (Tail.there (Tail.here _))))))))) | exact Tail.there (Tail.there (Tail.there (Tail.there (Tail.there (Tail.there (Tail.there (Tail.there (Tail.there (Tail.there (Tail.here _)))))))))) | exact Tail.there (Tail.there (Tail.there (Tail.there (Tail.there (Tail.there (Tail.there (Tail.there (Tail.there (Tail.there (Tail.there (Tail.here _))))))))))) | exact Tail.there (Tail.there (Tail.there (Tail.there (Tail.there (Tail.there (Tail.there (Tail.there (Tail.there (Tail.there (Tail.there (Tail.there (Tail.here _)))))))))))) | exact Tail.const _),
  fun s => by
    obtain ⟨⟨r0, _⟩, ⟨_, _⟩, ⟨_, _, _⟩⟩ := s
    refine Tail.eq (Y := fun g => w_FnBallsGo_t5 (fun r0 r1 r2 r3 step6 time7 place8 ok9 one13 end16 five21 until24 next28 => g.1 ((r0, r1, r2, r3, ()), ((), (), step6, time7, place8, ok9, (), one13, end16, (), five21, until24, next28, ()), ((), (), ()))) (fun r0 r1 r2 r3 step6 time7 place8 ok9 end16 five21 until24 => g.2.1 ((r0, r1, r2, r3, ()), ((), (), step6, time7, place8, ok9, (), end16, (), five21, until24, ()), ((), (), ()))) (fun r0 r1 r2 r3 step6 time7 place8 ok9 end16 five21 until24 behind35 => g.2.2.1 ((r0, r1, r2, r3, ()), ((), (), step6, time7, place8, ok9, (), end16, (), five21, until24, behind35, ()), ((), (), ()))) (fun r0 r1 r2 r3 step6 time7 place8 ok9 end16 until24 => g.2.2.2.1 ((r0, r1, r2, r3, ()), ((), (), step6, time7, place8, ok9, (), end16, (), until24, ()), ((), (), ()))) (fun r0 => g.2.2.2.2.1 ((r0, ()), ((), ()), ((), (), ()))) (fun r0 r1 r2 r3 step6 time7 place8 end16 until24 => g.2.2.2.2.2.1 ((r0, r1, r2, r3, ()), ((), (), step6, time7, place8, (), end16, (), until24, ()), ((), (), ()))) (fun r0 r1 r2 step6 time7 place8 end16 until24 => g.2.2.2.2.2.2.1 ((r0, r1, r2, ()), ((), (), step6, time7, place8, end16, (), until24, ()), ((), (), ()))) (fun r0 a41 b42 when43 where44 eleven45 same49 thirteen50 => g.2.2.2.2.2.2.2.1 ((r0, ()), ((), a41, b42, when43, where44, eleven45, same49, thirteen50, ()), ((), (), ()))) (fun r0 a41 b42 same49 thirteen50 => g.2.2.2.2.2.2.2.2.1 ((r0, ()), ((), a41, b42, same49, thirteen50, ()), ((), (), ()))) (g.2.2.2.2.2.2.2.2.2.1 ((), (), ((), (), ()))) (fun r0 r1 r2 r3 step6 time7 place8 ok9 end16 five21 until24 next28 s263 s264 => g.2.2.2.2.2.2.2.2.2.2.1 ((r0, r1, r2, r3, ()), ((), (), step6, time7, place8, ok9, (), end16, (), five21, until24, next28, (), s263, s264, ()), ((), (), ()))) (fun r0 r1 r2 r3 step6 time7 place8 ok9 end16 until24 s396 s397 => g.2.2.2.2.2.2.2.2.2.2.2.1 ((r0, r1, r2, r3, ()), ((), (), step6, time7, place8, ok9, (), end16, (), until24, (), s396, s397, ()), ((), (), ()))) (fun r0 r1 same49 s680 s681 => g.2.2.2.2.2.2.2.2.2.2.2.2.1 ((r0, r1, ()), (same49, (), (), s680, s681, ()), ((), (), ()))) r0) ?_ (fun g => by kernel_rfl)
    simp only [w_FnBallsGo_t5]; repeat (first | apply Tail.cond | (apply Tail.bind; intro _) | exact Tail.here _ | exact Tail.there (Tail.here _) | exact Tail.there (Tail.there (Tail.here _)) | exact Tail.there (Tail.there (Tail.there (Tail.here _))) | exact Tail.there (Tail.there (Tail.there (Tail.there (Tail.here _)))) | exact Tail.there (Tail.there (Tail.there (Tail.there (Tail.there (Tail.here _))))) | exact Tail.there (Tail.there (Tail.there (Tail.there (Tail.there (Tail.there (Tail.here _)))))) | exact Tail.there (Tail.there (Tail.there (Tail.there (Tail.there (Tail.there (Tail.there (Tail.here _))))))) | exact Tail.there (Tail.there (Tail.there (Tail.there (Tail.there (Tail.there (Tail.there (Tail.there (Tail.here _)))))))) | exact Tail.there (Tail.there (Tail.there (Tail.there (Tail.there (Tail.there (Tail.there (Tail.there (Tail.there (Tail.here _))))))))) | exact Tail.there (Tail.there (Tail.there (Tail.there (Tail.there (Tail.there (Tail.there (Tail.there (Tail.there (Tail.there (Tail.here _)))))))))) | exact Tail.there (Tail.there (Tail.there (Tail.there (Tail.there (Tail.there (Tail.there (Tail.there (Tail.there (Tail.there (Tail.there (Tail.here _))))))))))) | exact Tail.there (Tail.there (Tail.there (Tail.there (Tail.there (Tail.there (Tail.there (Tail.there (Tail.there (Tail.there (Tail.there (Tail.there (Tail.here _)))))))))))) | exact Tail.const _),
  fun s => by
    obtain ⟨⟨r0, r1, r2, r3, _⟩, ⟨_, _, step6, time7, place8, _, end16, _, until24, _⟩, ⟨_, _, _⟩⟩ := s
    refine Tail.eq (Y := fun g => w_FnBallsGo_t6 (fun r0 r1 r2 r3 step6 time7 place8 ok9 one13 end16 five21 until24 next28 => g.1 ((r0, r1, r2, r3, ()), ((), (), step6, time7, place8, ok9, (), one13, end16, (), five21, until24, next28, ()), ((), (), ()))) (fun r0 r1 r2 r3 step6 time7 place8 ok9 end16 five21 until24 => g.2.1 ((r0, r1, r2, r3, ()), ((), (), step6, time7, place8, ok9, (), end16, (), five21, until24, ()), ((), (), ()))) (fun r0 r1 r2 r3 step6 time7 place8 ok9 end16 five21 until24 behind35 => g.2.2.1 ((r0, r1, r2, r3, ()), ((), (), step6, time7, place8, ok9, (), end16, (), five21, until24, behind35, ()), ((), (), ()))) (fun r0 r1 r2 r3 step6 time7 place8 ok9 end16 until24 => g.2.2.2.1 ((r0, r1, r2, r3, ()), ((), (), step6, time7, place8, ok9, (), end16, (), until24, ()), ((), (), ()))) (fun r0 => g.2.2.2.2.1 ((r0, ()), ((), ()), ((), (), ()))) (fun r0 r1 r2 r3 step6 time7 place8 end16 until24 => g.2.2.2.2.2.1 ((r0, r1, r2, r3, ()), ((), (), step6, time7, place8, (), end16, (), until24, ()), ((), (), ()))) (fun r0 r1 r2 step6 time7 place8 end16 until24 => g.2.2.2.2.2.2.1 ((r0, r1, r2, ()), ((), (), step6, time7, place8, end16, (), until24, ()), ((), (), ()))) (fun r0 a41 b42 when43 where44 eleven45 same49 thirteen50 => g.2.2.2.2.2.2.2.1 ((r0, ()), ((), a41, b42, when43, where44, eleven45, same49, thirteen50, ()), ((), (), ()))) (fun r0 a41 b42 same49 thirteen50 => g.2.2.2.2.2.2.2.2.1 ((r0, ()), ((), a41, b42, same49, thirteen50, ()), ((), (), ()))) (g.2.2.2.2.2.2.2.2.2.1 ((), (), ((), (), ()))) (fun r0 r1 r2 r3 step6 time7 place8 ok9 end16 five21 until24 next28 s263 s264 => g.2.2.2.2.2.2.2.2.2.2.1 ((r0, r1, r2, r3, ()), ((), (), step6, time7, place8, ok9, (), end16, (), five21, until24, next28, (), s263, s264, ()), ((), (), ()))) (fun r0 r1 r2 r3 step6 time7 place8 ok9 end16 until24 s396 s397 => g.2.2.2.2.2.2.2.2.2.2.2.1 ((r0, r1, r2, r3, ()), ((), (), step6, time7, place8, ok9, (), end16, (), until24, (), s396, s397, ()), ((), (), ()))) (fun r0 r1 same49 s680 s681 => g.2.2.2.2.2.2.2.2.2.2.2.2.1 ((r0, r1, ()), (same49, (), (), s680, s681, ()), ((), (), ()))) r0 r1 r2 r3 step6 time7 place8 end16 until24) ?_ (fun g => by kernel_rfl)
    simp only [w_FnBallsGo_t6]; repeat (first | apply Tail.cond | (apply Tail.bind; intro _) | exact Tail.here _ | exact Tail.there (Tail.here _) | exact Tail.there (Tail.there (Tail.here _)) | exact Tail.there (Tail.there (Tail.there (Tail.here _))) | exact Tail.there (Tail.there (Tail.there (Tail.there (Tail.here _)))) | exact Tail.there (Tail.there (Tail.there (Tail.there (Tail.there (Tail.here _))))) | exact Tail.there (Tail.there (Tail.there (Tail.there (Tail.there (Tail.there (Tail.here _)))))) | exact Tail.there (Tail.there (Tail.there (Tail.there (Tail.there (Tail.there (Tail.there (Tail.here _))))))) | exact Tail.there (Tail.there (Tail.there (Tail.there (Tail.there (Tail.there (Tail.there (Tail.there (Tail.here _)))))))) | exact Tail.there (Tail.there (Tail.there (Tail.there (Tail.there (Tail.there (Tail.there (Tail.there (Tail.there (Tail.here _))))))))) | exact Tail.there (Tail.there (Tail.there (Tail.there (Tail.there (Tail.there (Tail.there (Tail.there (Tail.there (Tail.there (Tail.here _)))))))))) | exact Tail.there (Tail.there (Tail.there (Tail.there (Tail.there (Tail.there (Tail.there (Tail.there (Tail.there (Tail.there (Tail.there (Tail.here _))))))))))) | exact Tail.there (Tail.there (Tail.there (Tail.there (Tail.there (Tail.there (Tail.there (Tail.there (Tail.there (Tail.there (Tail.there (Tail.there (Tail.here _)))))))))))) | exact Tail.const _),
  fun s => by
    obtain ⟨⟨r0, r1, r2, _⟩, ⟨_, _, step6, time7, place8, end16, _, until24, _⟩, ⟨_, _, _⟩⟩ := s
    refine Tail.eq (Y := fun g => w_FnBallsGo_t7 (fun r0 r1 r2 r3 step6 time7 place8 ok9 one13 end16 five21 until24 next28 => g.1 ((r0, r1, r2, r3, ()), ((), (), step6, time7, place8, ok9, (), one13, end16, (), five21, until24, next28, ()), ((), (), ()))) (fun r0 r1 r2 r3 step6 time7 place8 ok9 end16 five21 until24 => g.2.1 ((r0, r1, r2, r3, ()), ((), (), step6, time7, place8, ok9, (), end16, (), five21, until24, ()), ((), (), ()))) (fun r0 r1 r2 r3 step6 time7 place8 ok9 end16 five21 until24 behind35 => g.2.2.1 ((r0, r1, r2, r3, ()), ((), (), step6, time7, place8, ok9, (), end16, (), five21, until24, behind35, ()), ((), (), ()))) (fun r0 r1 r2 r3 step6 time7 place8 ok9 end16 until24 => g.2.2.2.1 ((r0, r1, r2, r3, ()), ((), (), step6, time7, place8, ok9, (), end16, (), until24, ()), ((), (), ()))) (fun r0 => g.2.2.2.2.1 ((r0, ()), ((), ()), ((), (), ()))) (fun r0 r1 r2 r3 step6 time7 place8 end16 until24 => g.2.2.2.2.2.1 ((r0, r1, r2, r3, ()), ((), (), step6, time7, place8, (), end16, (), until24, ()), ((), (), ()))) (fun r0 r1 r2 step6 time7 place8 end16 until24 => g.2.2.2.2.2.2.1 ((r0, r1, r2, ()), ((), (), step6, time7, place8, end16, (), until24, ()), ((), (), ()))) (fun r0 a41 b42 when43 where44 eleven45 same49 thirteen50 => g.2.2.2.2.2.2.2.1 ((r0, ()), ((), a41, b42, when43, where44, eleven45, same49, thirteen50, ()), ((), (), ()))) (fun r0 a41 b42 same49 thirteen50 => g.2.2.2.2.2.2.2.2.1 ((r0, ()), ((), a41, b42, same49, thirteen50, ()), ((), (), ()))) (g.2.2.2.2.2.2.2.2.2.1 ((), (), ((), (), ()))) (fun r0 r1 r2 r3 step6 time7 place8 ok9 end16 five21 until24 next28 s263 s264 => g.2.2.2.2.2.2.2.2.2.2.1 ((r0, r1, r2, r3, ()), ((), (), step6, time7, place8, ok9, (), end16, (), five21, until24, next28, (), s263, s264, ()), ((), (), ()))) (fun r0 r1 r2 r3 step6 time7 place8 ok9 end16 until24 s396 s397 => g.2.2.2.2.2.2.2.2.2.2.2.1 ((r0, r1, r2, r3, ()), ((), (), step6, time7, place8, ok9, (), end16, (), until24, (), s396, s397, ()), ((), (), ()))) (fun r0 r1 same49 s680 s681 => g.2.2.2.2.2.2.2.2.2.2.2.2.1 ((r0, r1, ()), (same49, (), (), s680, s681, ()), ((), (), ()))) r0 r1 r2 step6 time7 place8 end16 until24) ?_ (fun g => by kernel_rfl)
    simp only [w_FnBallsGo_t7]; repeat (first | apply Tail.cond | (apply Tail.bind; intro _) | exact Tail.here _ | exact Tail.there (Tail.here _) | exact Tail.there (Tail.there (Tail.here _)) | exact Tail.there (Tail.there (Tail.there (Tail.here _))) | exact Tail.there (Tail.there (Tail.there (Tail.there (Tail.here _)))) | exact Tail.there (Tail.there (Tail.there (Tail.there (Tail.there (Tail.here _))))) | exact Tail.there (Tail.there (Tail.there (Tail.there (Tail.there (Tail.there (Tail.here _)))))) | exact Tail.there (Tail.there (Tail.there (Tail.there (Tail.there (Tail.there (Tail.there (Tail.here _))))))) | exact Tail.there (Tail.there (Tail.there (Tail.there (Tail.there (Tail.there (Tail.there (Tail.there (Tail.here _)))))))) | exact Tail.there (Tail.there (Tail.there (Tail.there (Tail.there (Tail.there (Tail.there (Tail.there (Tail.there (Tail.here _))))))))) | exact Tail.there (Tail.there (Tail.there (Tail.there (Tail.there (Tail.there (Tail.there (Tail.there (Tail.there (Tail.there (Tail.here _)))))))))) | exact Tail.there (Tail.there (Tail.there (Tail.there (Tail.there (Tail.there (Tail.there (Tail.there (Tail.there (Tail.there (Tail.there (Tail.here _))))))))))) | exact Tail.there (Tail.there (Tail.there (Tail.there (Tail.there (Tail.there (Tail.there (Tail.there (Tail.there (Tail.there (Tail.there (Tail.there (Tail.here _)))))))))))) | exact Tail.const _),
  fun s => by
    obtain ⟨⟨r0, _⟩, ⟨_, a41, b42, when43, where44, eleven45, same49, thirteen50, _⟩, ⟨_, _, _⟩⟩ := s
    refine Tail.eq (Y := fun g => w_FnBallsGo_t8 (fun r0 r1 r2 r3 step6 time7 place8 ok9 one13 end16 five21 until24 next28 => g.1 ((r0, r1, r2, r3, ()), ((), (), step6, time7, place8, ok9, (), one13, end16, (), five21, until24, next28, ()), ((), (), ()))) (fun r0 r1 r2 r3 step6 time7 place8 ok9 end16 five21 until24 => g.2.1 ((r0, r1, r2, r3, ()), ((), (), step6, time7, place8, ok9, (), end16, (), five21, until24, ()), ((), (), ()))) (fun r0 r1 r2 r3 step6 time7 place8 ok9 end16 five21 until24 behind35 => g.2.2.1 ((r0, r1, r2, r3, ()), ((), (), step6, time7, place8, ok9, (), end16, (), five21, until24, behind35, ()), ((), (), ()))) (fun r0 r1 r2 r3 step6 time7 place8 ok9 end16 until24 => g.2.2.2.1 ((r0, r1, r2, r3, ()), ((), (), step6, time7, place8, ok9, (), end16, (), until24, ()), ((), (), ()))) (fun r0 => g.2.2.2.2.1 ((r0, ()), ((), ()), ((), (), ()))) (fun r0 r1 r2 r3 step6 time7 place8 end16 until24 => g.2.2.2.2.2.1 ((r0, r1, r2, r3, ()), ((), (), step6, time7, place8, (), end16, (), until24, ()), ((), (), ()))) (fun r0 r1 r2 step6 time7 place8 end16 until24 => g.2.2.2.2.2.2.1 ((r0, r1, r2, ()), ((), (), step6, time7, place8, end16, (), until24, ()), ((), (), ()))) (fun r0 a41 b42 when43 where44 eleven45 same49 thirteen50 => g.2.2.2.2.2.2.2.1 ((r0, ()), ((), a41, b42, when43, where44, eleven45, same49, thirteen50, ()), ((), (), ()))) (fun r0 a41 b42 same49 thirteen50 => g.2.2.2.2.2.2.2.2.1 ((r0, ()), ((), a41, b42, same49, thirteen50, ()), ((), (), ()))) (g.2.2.2.2.2.2.2.2.2.1 ((), (), ((), (), ()))) (fun r0 r1 r2 r3 step6 time7 place8 ok9 end16 five21 until24 next28 s263 s264 => g.2.2.2.2.2.2.2.2.2.2.1 ((r0, r1, r2, r3, ()), ((), (), step6, time7, place8, ok9, (), end16, (), five21, until24, next28, (), s263, s264, ()), ((), (), ()))) (fun r0 r1 r2 r3 step6 time7 place8 ok9 end16 until24 s396 s397 => g.2.2.2.2.2.2.2.2.2.2.2.1 ((r0, r1, r2, r3, ()), ((), (), step6, time7, place8, ok9, (), end16, (), until24, (), s396, s397, ()), ((), (), ()))) (fun r0 r1 same49 s680 s681 => g.2.2.2.2.2.2.2.2.2.2.2.2.1 ((r0, r1, ()), (same49, (), (), s680, s681, ()), ((), (), ()))) r0 a41 b42 when43 where44 eleven45 same49 thirteen50) ?_ (fun g => by kernel_rfl)
    simp only [w_FnBallsGo_t8]; repeat (first | apply Tail.cond | (apply Tail.bind; intro _) | exact Tail.here _ | exact Tail.there (Tail.here _) | exact Tail.there (Tail.there (Tail.here _)) | exact Tail.there (Tail.there (Tail.there (Tail.here _))) | exact Tail.there (Tail.there (Tail.there (Tail.there (Tail.here _)))) | exact Tail.there (Tail.there (Tail.there (Tail.there (Tail.there (Tail.here _))))) | exact Tail.there (Tail.there (Tail.there (Tail.there (Tail.there (Tail.there (Tail.here _)))))) | exact Tail.there (Tail.there (Tail.there (Tail.there (Tail.there (Tail.there (Tail.there (Tail.here _))))))) | exact Tail.there (Tail.there (Tail.there (Tail.there (Tail.there (Tail.there (Tail.there (Tail.there (Tail.here _)))))))) | exact Tail.there (Tail.there (Tail.there (Tail.there (Tail.there (Tail.there (Tail.there (Tail.there (Tail.there (Tail.here _))))))))) | exact Tail.there (Tail.there (Tail.there (Tail.there (Tail.there (Tail.there (Tail.there (Tail.there (Tail.there (Tail.there (Tail.here _)))))))))) | exact Tail.there (Tail.there (Tail.there (Tail.there (Tail.there (Tail.there (Tail.there (Tail.there (Tail.there (Tail.there (Tail.there (Tail.here _))))))))))) | exact Tail.there (Tail.there (Tail.there (Tail.there (Tail.there (Tail.there (Tail.there (Tail.there (Tail.there (Tail.there (Tail.there (Tail.there (Tail.here _)))))))))))) | exact Tail.const _),
  fun s => by
    obtain ⟨⟨r0, _⟩, ⟨_, a41, b42, same49, thirteen50, _⟩, ⟨_, _, _⟩⟩ := s
    refine Tail.eq (Y := fun g => w_FnBallsGo_t9 (fun r0 r1 r2 r3 step6 time7 place8 ok9 one13 end16 five21 until24 next28 => g.1 ((r0, r1, r2, r3, ()), ((), (), step6, time7, place8, ok9, (), one13, end16, (), five21, until24, next28, ()), ((), (), ()))) (fun r0 r1 r2 r3 step6 time7 place8 ok9 end16 five21 until24 => g.2.1 ((r0, r1, r2, r3, ()), ((), (), step6, time7, place8, ok9, (), end16, (), five21, until24, ()), ((), (), ()))) (fun r0 r1 r2 r3 step6 time7 place8 ok9 end16 five21 until24 behind35 => g.2.2.1 ((r0, r1, r2, r3, ()), ((), (), step6, time7, place8, ok9, (), end16, (), five21, until24, behind35, ()), ((), (), ()))) (fun r0 r1 r2 r3 step6 time7 place8 ok9 end16 until24 => g.2.2.2.1 ((r0, r1, r2, r3, ()), ((), (), step6, time7, place8, ok9, (), end16, (), until24, ()), ((), (), ()))) (fun r0 => g.2.2.2.2.1 ((r0, ()), ((), ()), ((), (), ()))) (fun r0 r1 r2 r3 step6 time7 place8 end16 until24 => g.2.2.2.2.2.1 ((r0, r1, r2, r3, ()), ((), (), step6, time7, place8, (), end16, (), until24, ()), ((), (), ()))) (fun r0 r1 r2 step6 time7 place8 end16 until24 => g.2.2.2.2.2.2.1 ((r0, r1, r2, ()), ((), (), step6, time7, place8, end16, (), until24, ()), ((), (), ()))) (fun r0 a41 b42 when43 where44 eleven45 same49 thirteen50 => g.2.2.2.2.2.2.2.1 ((r0, ()), ((), a41, b42, when43, where44, eleven45, same49, thirteen50, ()), ((), (), ()))) (fun r0 a41 b42 same49 thirteen50 => g.2.2.2.2.2.2.2.2.1 ((r0, ()), ((), a41, b42, same49, thirteen50, ()), ((), (), ()))) (g.2.2.2.2.2.2.2.2.2.1 ((), (), ((), (), ()))) (fun r0 r1 r2 r3 step6 time7 place8 ok9 end16 five21 until24 next28 s263 s264 => g.2.2.2.2.2.2.2.2.2.2.1 ((r0, r1, r2, r3, ()), ((), (), step6, time7, place8, ok9, (), end16, (), five21, until24, next28, (), s263, s264, ()), ((), (), ()))) (fun r0 r1 r2 r3 step6 time7 place8 ok9 end16 until24 s396 s397 => g.2.2.2.2.2.2.2.2.2.2.2.1 ((r0, r1, r2, r3, ()), ((), (), step6, time7, place8, ok9, (), end16, (), until24, (), s396, s397, ()), ((), (), ()))) (fun r0 r1 same49 s680 s681 => g.2.2.2.2.2.2.2.2.2.2.2.2.1 ((r0, r1, ()), (same49, (), (), s680, s681, ()), ((), (), ()))) r0 a41 b42 same49 thirteen50) ?_ (fun g => by kernel_rfl)
    simp only [w_FnBallsGo_t9]; repeat (first | apply Tail.cond | (apply Tail.bind; intro _) | exact Tail.here _ | exact Tail.there (Tail.here _) | exact Tail.there (Tail.there (Tail.here _)) | exact Tail.there (Tail.there (Tail.there (Tail.here _))) | exact Tail.there (Tail.there (Tail.there (Tail.there (Tail.here _)))) | exact Tail.there (Tail.there (Tail.there (Tail.there (Tail.there (Tail.here _))))) | exact Tail.there (Tail.there (Tail.there (Tail.there (Tail.there (Tail.there (Tail.here _)))))) | exact Tail.there (Tail.there (Tail.there (Tail.there (Tail.there (Tail.there (Tail.there (Tail.here _))))))) | exact Tail.there (Tail.there (Tail.there (Tail.there (Tail.there (Tail.there (Tail.there (Tail.there (Tail.here _)))))))) | exact Tail.there (Tail.there (Tail.there (Tail.there (Tail.there (Tail.there (Tail.there (Tail.there (Tail.there (Tail.here _))))))))) | exact Tail.there (Tail.there (Tail.there (Tail.there (Tail.there (Tail.there (Tail.there (Tail.there (Tail.there (Tail.there (Tail.here _)))))))))) | exact Tail.there (Tail.there (Tail.there (Tail.there (Tail.there (Tail.there (Tail.there (Tail.there (Tail.there (Tail.there (Tail.there (Tail.here _))))))))))) | exact Tail.there (Tail.there (Tail.there (Tail.there (Tail.there (Tail.there (Tail.there (Tail.there (Tail.there (Tail.there (Tail.there (Tail.there (Tail.here _)))))))))))) | exact Tail.const _),
  fun s => by
    obtain ⟨_, _, ⟨_, _, _⟩⟩ := s
    refine Tail.eq (Y := fun g => w_FnBallsGo_t10 (fun r0 r1 r2 r3 step6 time7 place8 ok9 one13 end16 five21 until24 next28 => g.1 ((r0, r1, r2, r3, ()), ((), (), step6, time7, place8, ok9, (), one13, end16, (), five21, until24, next28, ()), ((), (), ()))) (fun r0 r1 r2 r3 step6 time7 place8 ok9 end16 five21 until24 => g.2.1 ((r0, r1, r2, r3, ()), ((), (), step6, time7, place8, ok9, (), end16, (), five21, until24, ()), ((), (), ()))) (fun r0 r1 r2 r3 step6 time7 place8 ok9 end16 five21 until24 behind35 => g.2.2.1 ((r0, r1, r2, r3, ()), ((), (), step6, time7, place8, ok9, (), end16, (), five21, until24, behind35, ()), ((), (), ()))) (fun r0 r1 r2 r3 step6 time7 place8 ok9 end16 until24 => g.2.2.2.1 ((r0, r1, r2, r3, ()), ((), (), step6, time7, place8, ok9, (), end16, (), until24, ()), ((), (), ()))) (fun r0 => g.2.2.2.2.1 ((r0, ()), ((), ()), ((), (), ()))) (fun r0 r1 r2 r3 step6 time7 place8 end16 until24 => g.2.2.2.2.2.1 ((r0, r1, r2, r3, ()), ((), (), step6, time7, place8, (), end16, (), until24, ()), ((), (), ()))) (fun r0 r1 r2 step6 time7 place8 end16 until24 => g.2.2.2.2.2.2.1 ((r0, r1, r2, ()), ((), (), step6, time7, place8, end16, (), until24, ()), ((), (), ()))) (fun r0 a41 b42 when43 where44 eleven45 same49 thirteen50 => g.2.2.2.2.2.2.2.1 ((r0, ()), ((), a41, b42, when43, where44, eleven45, same49, thirteen50, ()), ((), (), ()))) (fun r0 a41 b42 same49 thirteen50 => g.2.2.2.2.2.2.2.2.1 ((r0, ()), ((), a41, b42, same49, thirteen50, ()), ((), (), ()))) (g.2.2.2.2.2.2.2.2.2.1 ((), (), ((), (), ()))) (fun r0 r1 r2 r3 step6 time7 place8 ok9 end16 five21 until24 next28 s263 s264 => g.2.2.2.2.2.2.2.2.2.2.1 ((r0, r1, r2, r3, ()), ((), (), step6, time7, place8, ok9, (), end16, (), five21, until24, next28, (), s263, s264, ()), ((), (), ()))) (fun r0 r1 r2 r3 step6 time7 place8 ok9 end16 until24 s396 s397 => g.2.2.2.2.2.2.2.2.2.2.2.1 ((r0, r1, r2, r3, ()), ((), (), step6, time7, place8, ok9, (), end16, (), until24, (), s396, s397, ()), ((), (), ()))) (fun r0 r1 same49 s680 s681 => g.2.2.2.2.2.2.2.2.2.2.2.2.1 ((r0, r1, ()), (same49, (), (), s680, s681, ()), ((), (), ()))) ) ?_ (fun g => by kernel_rfl)
    simp only [w_FnBallsGo_t10]; repeat (first | apply Tail.cond | (apply Tail.bind; intro _) | exact Tail.here _ | exact Tail.there (Tail.here _) | exact Tail.there (Tail.there (Tail.here _)) | exact Tail.there (Tail.there (Tail.there (Tail.here _))) | exact Tail.there (Tail.there (Tail.there (Tail.there (Tail.here _)))) | exact Tail.there (Tail.there (Tail.there (Tail.there (Tail.there (Tail.here _))))) | exact Tail.there (Tail.there (Tail.there (Tail.there (Tail.there (Tail.there (Tail.here _)))))) | exact Tail.there (Tail.there (Tail.there (Tail.there (Tail.there (Tail.there (Tail.there (Tail.here _))))))) | exact Tail.there (Tail.there (Tail.there (Tail.there (Tail.there (Tail.there (Tail.there (Tail.there (Tail.here _)))))))) | exact Tail.there (Tail.there (Tail.there (Tail.there (Tail.there (Tail.there (Tail.there (Tail.there (Tail.there (Tail.here _))))))))) | exact Tail.there (Tail.there (Tail.there (Tail.there (Tail.there (Tail.there (Tail.there (Tail.there (Tail.there (Tail.there (Tail.here _)))))))))) | exact Tail.there (Tail.there (Tail.there (Tail.there (Tail.there (Tail.there (Tail.there (Tail.there (Tail.there (Tail.there (Tail.there (Tail.here _))))))))))) | exact Tail.there (Tail.there (Tail.there (Tail.there (Tail.there (Tail.there (Tail.there (Tail.there (Tail.there (Tail.there (Tail.there (Tail.there (Tail.here _)))))))))))) | exact Tail.const _),
  fun s => by
    obtain ⟨⟨r0, r1, r2, r3, _⟩, ⟨_, _, step6, time7, place8, ok9, _, end16, _, five21, until24, next28, _, s263, s264, _⟩, ⟨_, _, _⟩⟩ := s
    refine Tail.eq (Y := fun g => w_FnBallsGo_t11 (fun r0 r1 r2 r3 step6 time7 place8 ok9 one13 end16 five21 until24 next28 => g.1 ((r0, r1, r2, r3, ()), ((), (), step6, time7, place8, ok9, (), one13, end16, (), five21, until24, next28, ()), ((), (), ()))) (fun r0 r1 r2 r3 step6 time7 place8 ok9 end16 five21 until24 => g.2.1 ((r0, r1, r2, r3, ()), ((), (), step6, time7, place8, ok9, (), end16, (), five21, until24, ()), ((), (), ()))) (fun r0 r1 r2 r3 step6 time7 place8 ok9 end16 five21 until24 behind35 => g.2.2.1 ((r0, r1, r2, r3, ()), ((), (), step6, time7, place8, ok9, (), end16, (), five21, until24, behind35, ()), ((), (), ()))) (fun r0 r1 r2 r3 step6 time7 place8 ok9 end16 until24 => g.2.2.2.1 ((r0, r1, r2, r3, ()), ((), (), step6, time7, place8, ok9, (), end16, (), until24, ()), ((), (), ()))) (fun r0 => g.2.2.2.2.1 ((r0, ()), ((), ()), ((), (), ()))) (fun r0 r1 r2 r3 step6 time7 place8 end16 until24 => g.2.2.2.2.2.1 ((r0, r1, r2, r3, ()), ((), (), step6, time7, place8, (), end16, (), until24, ()), ((), (), ()))) (fun r0 r1 r2 step6 time7 place8 end16 until24 => g.2.2.2.2.2.2.1 ((r0, r1, r2, ()), ((), (), step6, time7, place8, end16, (), until24, ()), ((), (), ()))) (fun r0 a41 b42 when43 where44 eleven45 same49 thirteen50 => g.2.2.2.2.2.2.2.1 ((r0, ()), ((), a41, b42, when43, where44, eleven45, same49, thirteen50, ()), ((), (), ()))) (fun r0 a41 b42 same49 thirteen50 => g.2.2.2.2.2.2.2.2.1 ((r0, ()), ((), a41, b42, same49, thirteen50, ()), ((), (), ()))) (g.2.2.2.2.2.2.2.2.2.1 ((), (), ((), (), ()))) (fun r0 r1 r2 r3 step6 time7 place8 ok9 end16 five21 until24 next28 s263 s264 => g.2.2.2.2.2.2.2.2.2.2.1 ((r0, r1, r2, r3, ()), ((), (), step6, time7, place8, ok9, (), end16, (), five21, until24, next28, (), s263, s264, ()), ((), (), ()))) (fun r0 r1 r2 r3 step6 time7 place8 ok9 end16 until24 s396 s397 => g.2.2.2.2.2.2.2.2.2.2.2.1 ((r0, r1, r2, r3, ()), ((), (), step6, time7, place8, ok9, (), end16, (), until24, (), s396, s397, ()), ((), (), ()))) (fun r0 r1 same49 s680 s681 => g.2.2.2.2.2.2.2.2.2.2.2.2.1 ((r0, r1, ()), (same49, (), (), s680, s681, ()), ((), (), ()))) r0 r1 r2 r3 step6 time7 place8 ok9 end16 five21 until24 next28 s263 s264) ?_ (fun g => by kernel_rfl)
    simp only [w_FnBallsGo_t11]; repeat (first | apply Tail.cond | (apply Tail.bind; intro _) | exact Tail.here _ | exact Tail.there (Tail.here _) | exact Tail.there (Tail.there (Tail.here _)) | exact Tail.there (Tail.there (Tail.there (Tail.here _))) | exact Tail.there (Tail.there (Tail.there (Tail.there (Tail.here _)))) | exact Tail.there (Tail.there (Tail.there (Tail.there (Tail.there (Tail.here _))))) | exact Tail.there (Tail.there (Tail.there (Tail.there (Tail.there (Tail.there (Tail.here _)))))) | exact Tail.there (Tail.there (Tail.there (Tail.there (Tail.there (Tail.there (Tail.there (Tail.here _))))))) | exact Tail.there (Tail.there (Tail.there (Tail.there (Tail.there (Tail.there (Tail.there (Tail.there (Tail.here _)))))))) | exact Tail.there (Tail.there (Tail.there (Tail.there (Tail.there (Tail.there (Tail.there (Tail.there (Tail.there (Tail.here _))))))))) | exact Tail.there (Tail.there (Tail.there (Tail.there (Tail.there (Tail.there (Tail.there (Tail.there (Tail.there (Tail.there (Tail.here _)))))))))) | exact Tail.there (Tail.there (Tail.there (Tail.there (Tail.there (Tail.there (Tail.there (Tail.there (Tail.there (Tail.there (Tail.there (Tail.here _))))))))))) | exact Tail.there (Tail.there (Tail.there (Tail.there (Tail.there (Tail.there (Tail.there (Tail.there (Tail.there (Tail.there (Tail.there (Tail.there (Tail.here _)))))))))))) | exact Tail.const _),
  fun s => by
    obtain ⟨⟨r0, r1, r2, r3, _⟩, ⟨_, _, step6, time7, place8, ok9, _, end16, _, until24, _, s396, s397, _⟩, ⟨_, _, _⟩⟩ := s
    refine Tail.eq (Y := fun g => w_FnBallsGo_t12 (fun r0 r1 r2 r3 step6 time7 place8 ok9 one13 end16 five21 until24 next28 => g.1 ((r0, r1, r2, r3, ()), ((), (), step6, time7, place8, ok9, (), one13, end16, (), five21, until24, next28, ()), ((), (), ()))) (fun r0 r1 r2 r3 step6 time7 place8 ok9 end16 five21 until24 => g.2.1 ((r0, r1, r2, r3, ()), ((), (), step6, time7, place8, ok9, (), end16, (), five21, until24, ()), ((), (), ()))) (fun r0 r1 r2 r3 step6 time7 place8 ok9 end16 five21 until24 behind35 => g.2.2.1 ((r0, r1, r2, r3, ()), ((), (), step6, time7, place8, ok9, (), end16, (), five21, until24, behind35, ()), ((), (), ()))) (fun r0 r1 r2 r3 step6 time7 place8 ok9 end16 until24 => g.2.2.2.1 ((r0, r1, r2, r3, ()), ((), (), step6, time7, place8, ok9, (), end16, (), until24, ()), ((), (), ()))) (fun r0 => g.2.2.2.2.1 ((r0, ()), ((), ()), ((), (), ()))) (fun r0 r1 r2 r3 step6 time7 place8 end16 until24 => g.2.2.2.2.2.1 ((r0, r1, r2, r3, ()), ((), (), step6, time7, place8, (), end16, (), until24, ()), ((), (), ()))) (fun r0 r1 r2 step6 time7 place8 end16 until24 => g.2.2.2.2.2.2.1 ((r0, r1, r2, ()), ((), (), step6, time7, place8, end16, (), until24, ()), ((), (), ()))) (fun r0 a41 b42 when43 where44 eleven45 same49 thirteen50 => g.2.2.2.2.2.2.2.1 ((r0, ()), ((), a41, b42, when43, where44, eleven45, same49, thirteen50, ()), ((), (), ()))) (fun r0 a41 b42 same49 thirteen50 => g.2.2.2.2.2.2.2.2.1 ((r0, ()), ((), a41, b42, same49, thirteen50, ()), ((), (), ()))) (g.2.2.2.2.2.2.2.2.2.1 ((), (), ((), (), ()))) (fun r0 r1 r2 r3 step6 time7 place8 ok9 end16 five21 until24 next28 s263 s264 => g.2.2.2.2.2.2.2.2.2.2.1 ((r0, r1, r2, r3, ()), ((), (), step6, time7, place8, ok9, (), end16, (), five21, until24, next28, (), s263, s264, ()), ((), (), ()))) (fun r0 r1 r2 r3 step6 time7 place8 ok9 end16 until24 s396 s397 => g.2.2.2.2.2.2.2.2.2.2.2.1 ((r0, r1, r2, r3, ()), ((), (), step6, time7, place8, ok9, (), end16, (), until24, (), s396, s397, ()), ((), (), ()))) (fun r0 r1 same49 s680 s681 => g.2.2.2.2.2.2.2.2.2.2.2.2.1 ((r0, r1, ()), (same49, (), (), s680, s681, ()), ((), (), ()))) r0 r1 r2 r3 step6 time7 place8 ok9 end16 until24 s396 s397) ?_ (fun g => by kernel_rfl)
    simp only [w_FnBallsGo_t12]; repeat (first | apply Tail.cond | (apply Tail.bind; intro _) | exact Tail.here _ | exact Tail.there (Tail.here _) | exact Tail.there (Tail.there (Tail.here _)) | exact Tail.there (Tail.there (Tail.there (Tail.here _))) | exact Tail.there (Tail.there (Tail.there (Tail.there (Tail.here _)))) | exact Tail.there (Tail.there (Tail.there (Tail.there (Tail.there (Tail.here _))))) | exact Tail.there (Tail.there (Tail.there (Tail.there (Tail.there (Tail.there (Tail.here _)))))) | exact Tail.there (Tail.there (Tail.there (Tail.there (Tail.there (Tail.there (Tail.there (Tail.here _))))))) | exact Tail.there (Tail.there (Tail.there (Tail.there (Tail.there (Tail.there (Tail.there (Tail.there (Tail.here _)))))))) | exact Tail.there (Tail.there (Tail.there (Tail.there (Tail.there (Tail.there (Tail.there (Tail.there (Tail.there (Tail.here _))))))))) | exact Tail.there (Tail.there (Tail.there (Tail.there (Tail.there (Tail.there (Tail.there (Tail.there (Tail.there (Tail.there (Tail.here _)))))))))) | exact Tail.there (Tail.there (Tail.there (Tail.there (Tail.there (Tail.there (Tail.there (Tail.there (Tail.there (Tail.there (Tail.there (Tail.here _))))))))))) | exact Tail.there (Tail.there (Tail.there (Tail.there (Tail.there (Tail.there (Tail.there (Tail.there (Tail.there (Tail.there (Tail.there (Tail.there (Tail.here _)))))))))))) | exact Tail.const _),
  fun s => by
    obtain ⟨⟨r0, r1, _⟩, ⟨same49, _, _, s680, s681, _⟩, ⟨_, _, _⟩⟩ := s
    refine Tail.eq (Y := fun g => w_FnBallsGo_t13 (fun r0 r1 r2 r3 step6 time7 place8 ok9 one13 end16 five21 until24 next28 => g.1 ((r0, r1, r2, r3, ()), ((), (), step6, time7, place8, ok9, (), one13, end16, (), five21, until24, next28, ()), ((), (), ()))) (fun r0 r1 r2 r3 step6 time7 place8 ok9 end16 five21 until24 => g.2.1 ((r0, r1, r2, r3, ()), ((), (), step6, time7, place8, ok9, (), end16, (), five21, until24, ()), ((), (), ()))) (fun r0 r1 r2 r3 step6 time7 place8 ok9 end16 five21 until24 behind35 => g.2.2.1 ((r0, r1, r2, r3, ()), ((), (), step6, time7, place8, ok9, (), end16, (), five21, until24, behind35, ()), ((), (), ()))) (fun r0 r1 r2 r3 step6 time7 place8 ok9 end16 until24 => g.2.2.2.1 ((r0, r1, r2, r3, ()), ((), (), step6, time7, place8, ok9, (), end16, (), until24, ()), ((), (), ()))) (fun r0 => g.2.2.2.2.1 ((r0, ()), ((), ()), ((), (), ()))) (fun r0 r1 r2 r3 step6 time7 place8 end16 until24 => g.2.2.2.2.2.1 ((r0, r1, r2, r3, ()), ((), (), step6, time7, place8, (), end16, (), until24, ()), ((), (), ()))) (fun r0 r1 r2 step6 time7 place8 end16 until24 => g.2.2.2.2.2.2.1 ((r0, r1, r2, ()), ((), (), step6, time7, place8, end16, (), until24, ()), ((), (), ()))) (fun r0 a41 b42 when43 where44 eleven45 same49 thirteen50 => g.2.2.2.2.2.2.2.1 ((r0, ()), ((), a41, b42, when43, where44, eleven45, same49, thirteen50, ()), ((), (), ()))) (fun r0 a41 b42 same49 thirteen50 => g.2.2.2.2.2.2.2.2.1 ((r0, ()), ((), a41, b42, same49, thirteen50, ()), ((), (), ()))) (g.2.2.2.2.2.2.2.2.2.1 ((), (), ((), (), ()))) (fun r0 r1 r2 r3 step6 time7 place8 ok9 end16 five21 until24 next28 s263 s264 => g.2.2.2.2.2.2.2.2.2.2.1 ((r0, r1, r2, r3, ()), ((), (), step6, time7, place8, ok9, (), end16, (), five21, until24, next28, (), s263, s264, ()), ((), (), ()))) (fun r0 r1 r2 r3 step6 time7 place8 ok9 end16 until24 s396 s397 => g.2.2.2.2.2.2.2.2.2.2.2.1 ((r0, r1, r2, r3, ()), ((), (), step6, time7, place8, ok9, (), end16, (), until24, (), s396, s397, ()), ((), (), ()))) (fun r0 r1 same49 s680 s681 => g.2.2.2.2.2.2.2.2.2.2.2.2.1 ((r0, r1, ()), (same49, (), (), s680, s681, ()), ((), (), ()))) r0 r1 same49 s680 s681) ?_ (fun g => by kernel_rfl)
    simp only [w_FnBallsGo_t13]; repeat (first | apply Tail.cond | (apply Tail.bind; intro _) | exact Tail.here _ | exact Tail.there (Tail.here _) | exact Tail.there (Tail.there (Tail.here _)) | exact Tail.there (Tail.there (Tail.there (Tail.here _))) | exact Tail.there (Tail.there (Tail.there (Tail.there (Tail.here _)))) | exact Tail.there (Tail.there (Tail.there (Tail.there (Tail.there (Tail.here _))))) | exact Tail.there (Tail.there (Tail.there (Tail.there (Tail.there (Tail.there (Tail.here _)))))) | exact Tail.there (Tail.there (Tail.there (Tail.there (Tail.there (Tail.there (Tail.there (Tail.here _))))))) | exact Tail.there (Tail.there (Tail.there (Tail.there (Tail.there (Tail.there (Tail.there (Tail.there (Tail.here _)))))))) | exact Tail.there (Tail.there (Tail.there (Tail.there (Tail.there (Tail.there (Tail.there (Tail.there (Tail.there (Tail.here _))))))))) | exact Tail.there (Tail.there (Tail.there (Tail.there (Tail.there (Tail.there (Tail.there (Tail.there (Tail.there (Tail.there (Tail.here _)))))))))) | exact Tail.there (Tail.there (Tail.there (Tail.there (Tail.there (Tail.there (Tail.there (Tail.there (Tail.there (Tail.there (Tail.there (Tail.here _))))))))))) | exact Tail.there (Tail.there (Tail.there (Tail.there (Tail.there (Tail.there (Tail.there (Tail.there (Tail.there (Tail.there (Tail.there (Tail.there (Tail.here _)))))))))))) | exact Tail.const _), trivial⟩
theorem w_FnBallsGo_hs : ∀ x, Tail c_w_FnBallsGo.pts (fun g => c_w_FnBallsGo.start g x) := fun x => by
    obtain ⟨code0, more1, _⟩ := x
    refine Tail.eq (Y := fun g => w_FnBallsGo_t0 (fun r0 r1 r2 r3 step6 time7 place8 ok9 one13 end16 five21 until24 next28 => g.1 ((r0, r1, r2, r3, ()), ((), (), step6, time7, place8, ok9, (), one13, end16, (), five21, until24, next28, ()), ((), (), ()))) (fun r0 r1 r2 r3 step6 time7 place8 ok9 end16 five21 until24 => g.2.1 ((r0, r1, r2, r3, ()), ((), (), step6, time7, place8, ok9, (), end16, (), five21, until24, ()), ((), (), ()))) (fun r0 r1 r2 r3 step6 time7 place8 ok9 end16 five21 until24 behind35 => g.2.2.1 ((r0, r1, r2, r3, ()), ((), (), step6, time7, place8, ok9, (), end16, (), five21, until24, behind35, ()), ((), (), ()))) (fun r0 r1 r2 r3 step6 time7 place8 ok9 end16 until24 => g.2.2.2.1 ((r0, r1, r2, r3, ()), ((), (), step6, time7, place8, ok9, (), end16, (), until24, ()), ((), (), ()))) (fun r0 => g.2.2.2.2.1 ((r0, ()), ((), ()), ((), (), ()))) (fun r0 r1 r2 r3 step6 time7 place8 end16 until24 => g.2.2.2.2.2.1 ((r0, r1, r2, r3, ()), ((), (), step6, time7, place8, (), end16, (), until24, ()), ((), (), ()))) (fun r0 r1 r2 step6 time7 place8 end16 until24 => g.2.2.2.2.2.2.1 ((r0, r1, r2, ()), ((), (), step6, time7, place8, end16, (), until24, ()), ((), (), ()))) (fun r0 a41 b42 when43 where44 eleven45 same49 thirteen50 => g.2.2.2.2.2.2.2.1 ((r0, ()), ((), a41, b42, when43, where44, eleven45, same49, thirteen50, ()), ((), (), ()))) (fun r0 a41 b42 same49 thirteen50 => g.2.2.2.2.2.2.2.2.1 ((r0, ()), ((), a41, b42, same49, thirteen50, ()), ((), (), ()))) (g.2.2.2.2.2.2.2.2.2.1 ((), (), ((), (), ()))) (fun r0 r1 r2 r3 step6 time7 place8 ok9 end16 five21 until24 next28 s263 s264 => g.2.2.2.2.2.2.2.2.2.2.1 ((r0, r1, r2, r3, ()), ((), (), step6, time7, place8, ok9, (), end16, (), five21, until24, next28, (), s263, s264, ()), ((), (), ()))) (fun r0 r1 r2 r3 step6 time7 place8 ok9 end16 until24 s396 s397 => g.2.2.2.2.2.2.2.2.2.2.2.1 ((r0, r1, r2, r3, ()), ((), (), step6, time7, place8, ok9, (), end16, (), until24, (), s396, s397, ()), ((), (), ()))) (fun r0 r1 same49 s680 s681 => g.2.2.2.2.2.2.2.2.2.2.2.2.1 ((r0, r1, ()), (same49, (), (), s680, s681, ()), ((), (), ()))) code0 more1) ?_ (fun g => by kernel_rfl)
    simp only [w_FnBallsGo_t0]; repeat (first | apply Tail.cond | (apply Tail.bind; intro _) | exact Tail.here _ | exact Tail.there (Tail.here _) | exact Tail.there (Tail.there (Tail.here _)) | exact Tail.there (Tail.there (Tail.there (Tail.here _))) | exact Tail.there (Tail.there (Tail.there (Tail.there (Tail.here _)))) | exact Tail.there (Tail.there (Tail.there (Tail.there (Tail.there (Tail.here _))))) | exact Tail.there (Tail.there (Tail.there (Tail.there (Tail.there (Tail.there (Tail.here _)))))) | exact Tail.there (Tail.there (Tail.there (Tail.there (Tail.there (Tail.there (Tail.there (Tail.here _))))))) | exact Tail.there (Tail.there (Tail.there (Tail.there (Tail.there (Tail.there (Tail.there (Tail.there (Tail.here _)))))))) | exact Tail.there (Tail.there (Tail.there (Tail.there (Tail.there (Tail.there (Tail.there (Tail.there (Tail.there (Tail.here _))))))))) | exact Tail.there (Tail.there (Tail.there (Tail.there (Tail.there (Tail.there (Tail.there (Tail.there (Tail.there (Tail.there (Tail.here _)))))))))) | exact Tail.there (Tail.there (Tail.there (Tail.there (Tail.there (Tail.there (Tail.there (Tail.there (Tail.there (Tail.there (Tail.there (Tail.here _))))))))))) | exact Tail.there (Tail.there (Tail.there (Tail.there (Tail.there (Tail.there (Tail.there (Tail.there (Tail.there (Tail.there (Tail.there (Tail.there (Tail.here _)))))))))))) | exact Tail.const _)
noncomputable def w_FnBallsGo_L1 (r0 : List (Int)) (r1 : List (Int)) (r2 : List (Int)) (r3 : List (Int)) (step6 : Int) (time7 : Int) (place8 : Int) (ok9 : Bool) (one13 : Bool) (end16 : ByteArray) (five21 : Bool) (until24 : Int) (next28 : Int) : Option Bool := c_w_FnBallsGo.L.1 ((r0, r1, r2, r3, ()), ((), (), step6, time7, place8, ok9, (), one13, end16, (), five21, until24, next28, ()), ((), (), ()))
noncomputable def w_FnBallsGo_L2 (r0 : List (Int)) (r1 : List (Int)) (r2 : List (Int)) (r3 : List (Int)) (step6 : Int) (time7 : Int) (place8 : Int) (ok9 : Bool) (end16 : ByteArray) (five21 : Bool) (until24 : Int) : Option Bool := c_w_FnBallsGo.L.2.1 ((r0, r1, r2, r3, ()), ((), (), step6, time7, place8, ok9, (), end16, (), five21, until24, ()), ((), (), ()))
noncomputable def w_FnBallsGo_L3 (r0 : List (Int)) (r1 : List (Int)) (r2 : List (Int)) (r3 : List (Int)) (step6 : Int) (time7 : Int) (place8 : Int) (ok9 : Bool) (end16 : ByteArray) (five21 : Bool) (until24 : Int) (behind35 : Int) : Option Bool := c_w_FnBallsGo.L.2.2.1 ((r0, r1, r2, r3, ()), ((), (), step6, time7, place8, ok9, (), end16, (), five21, until24, behind35, ()), ((), (), ()))
noncomputable def w_FnBallsGo_L4 (r0 : List (Int)) (r1 : List (Int)) (r2 : List (Int)) (r3 : List (Int)) (step6 : Int) (time7 : Int) (place8 : Int) (ok9 : Bool) (end16 : ByteArray) (until24 : Int) : Option Bool := c_w_FnBallsGo.L.2.2.2.1 ((r0, r1, r2, r3, ()), ((), (), step6, time7, place8, ok9, (), end16, (), until24, ()), ((), (), ()))
noncomputable def w_FnBallsGo_L5 (r0 : List (Int)) : Option Bool := c_w_FnBallsGo.L.2.2.2.2.1 ((r0, ()), ((), ()), ((), (), ()))
noncomputable def w_FnBallsGo_L6 (r0 : List (Int)) (r1 : List (Int)) (r2 : List (Int)) (r3 : List (Int)) (step6 : Int) (time7 : Int) (place8 : Int) (end16 : ByteArray) (until24 : Int) : Option Bool := c_w_FnBallsGo.L.2.2.2.2.2.1 ((r0, r1, r2, r3, ()), ((), (), step6, time7, place8, (), end16, (), until24, ()), ((), (), ()))
noncomputable def w_FnBallsGo_L7 (r0 : List (Int)) (r1 : List (Int)) (r2 : List (Int)) (step6 : Int) (time7 : Int) (place8 : Int) (end16 : ByteArray) (until24 : Int) : Option Bool := c_w_FnBallsGo.L.2.2.2.2.2.2.1 ((r0, r1, r2, ()), ((), (), step6, time7, place8, end16, (), until24, ()), ((), (), ()))
noncomputable def w_FnBallsGo_L8 (r0 : List (Int)) (a41 : Int) (b42 : Int) (when43 : Int) (where44 : Int) (eleven45 : Bool) (same49 : Int) (thirteen50 : Bool) : Option Bool := c_w_FnBallsGo.L.2.2.2.2.2.2.2.1 ((r0, ()), ((), a41, b42, when43, where44, eleven45, same49, thirteen50, ()), ((), (), ()))
noncomputable def w_FnBallsGo_L9 (r0 : List (Int)) (a41 : Int) (b42 : Int) (same49 : Int) (thirteen50 : Bool) : Option Bool := c_w_FnBallsGo.L.2.2.2.2.2.2.2.2.1 ((r0, ()), ((), a41, b42, same49, thirteen50, ()), ((), (), ()))
noncomputable def w_FnBallsGo_L10  : Option Bool := c_w_FnBallsGo.L.2.2.2.2.2.2.2.2.2.1 ((), (), ((), (), ()))
noncomputable def w_FnBallsGo_L11 (r0 : List (Int)) (r1 : List (Int)) (r2 : List (Int)) (r3 : List (Int)) (step6 : Int) (time7 : Int) (place8 : Int) (ok9 : Bool) (end16 : ByteArray) (five21 : Bool) (until24 : Int) (next28 : Int) (s263 : Int) (s264 : Int) : Option Bool := c_w_FnBallsGo.L.2.2.2.2.2.2.2.2.2.2.1 ((r0, r1, r2, r3, ()), ((), (), step6, time7, place8, ok9, (), end16, (), five21, until24, next28, (), s263, s264, ()), ((), (), ()))
noncomputable def w_FnBallsGo_L12 (r0 : List (Int)) (r1 : List (Int)) (r2 : List (Int)) (r3 : List (Int)) (step6 : Int) (time7 : Int) (place8 : Int) (ok9 : Bool) (end16 : ByteArray) (until24 : Int) (s396 : Int) (s397 : Int) : Option Bool := c_w_FnBallsGo.L.2.2.2.2.2.2.2.2.2.2.2.1 ((r0, r1, r2, r3, ()), ((), (), step6, time7, place8, ok9, (), end16, (), until24, (), s396, s397, ()), ((), (), ()))
noncomputable def w_FnBallsGo_L13 (r0 : List (Int)) (r1 : List (Int)) (same49 : Int) (s680 : Int) (s681 : Int) : Option Bool := c_w_FnBallsGo.L.2.2.2.2.2.2.2.2.2.2.2.2.1 ((r0, r1, ()), (same49, (), (), s680, s681, ()), ((), (), ()))
theorem w_FnBallsGo_u1 (r0 : List (Int)) (r1 : List (Int)) (r2 : List (Int)) (r3 : List (Int)) (step6 : Int) (time7 : Int) (place8 : Int) (ok9 : Bool) (one13 : Bool) (end16 : ByteArray) (five21 : Bool) (until24 : Int) (next28 : Int) : w_FnBallsGo_L1 r0 r1 r2 r3 step6 time7 place8 ok9 one13 end16 five21 until24 next28 = w_FnBallsGo_t1 w_FnBallsGo_L1 w_FnBallsGo_L2 w_FnBallsGo_L3 w_FnBallsGo_L4 w_FnBallsGo_L5 w_FnBallsGo_L6 w_FnBallsGo_L7 w_FnBallsGo_L8 w_FnBallsGo_L9 w_FnBallsGo_L10 w_FnBallsGo_L11 w_FnBallsGo_L12 w_FnBallsGo_L13 r0 r1 r2 r3 step6 time7 place8 ok9 one13 end16 five21 until24 next28 :=
  (congrArg (fun g => g.1 ((r0, r1, r2, r3, ()), ((), (), step6, time7, place8, ok9, (), one13, end16, (), five21, until24, next28, ()), ((), (), ()))) (FnCx.L_eq w_FnBallsGo_ts)).trans (by kernel_rfl)
theorem w_FnBallsGo_u2 (r0 : List (Int)) (r1 : List (Int)) (r2 : List (Int)) (r3 : List (Int)) (step6 : Int) (time7 : Int) (place8 : Int) (ok9 : Bool) (end16 : ByteArray) (five21 : Bool) (until24 : Int) : w_FnBallsGo_L2 r0 r1 r2 r3 step6 time7 place8 ok9 end16 five21 until24 = w_FnBallsGo_t2 w_FnBallsGo_L1 w_FnBallsGo_L2 w_FnBallsGo_L3 w_FnBallsGo_L4 w_FnBallsGo_L5 w_FnBallsGo_L6 w_FnBallsGo_L7 w_FnBallsGo_L8 w_FnBallsGo_L9 w_FnBallsGo_L10 w_FnBallsGo_L11 w_FnBallsGo_L12 w_FnBallsGo_L13 r0 r1 r2 r3 step6 time7 place8 ok9 end16 five21 until24 :=
  (congrArg (fun g => g.2.1 ((r0, r1, r2, r3, ()), ((), (), step6, time7, place8, ok9, (), end16, (), five21, until24, ()), ((), (), ()))) (FnCx.L_eq w_FnBallsGo_ts)).trans (by kernel_rfl)
theorem w_FnBallsGo_u3 (r0 : List (Int)) (r1 : List (Int)) (r2 : List (Int)) (r3 : List (Int)) (step6 : Int) (time7 : Int) (place8 : Int) (ok9 : Bool) (end16 : ByteArray) (five21 : Bool) (until24 : Int) (behind35 : Int) : w_FnBallsGo_L3 r0 r1 r2 r3 step6 time7 place8 ok9 end16 five21 until24 behind35 = w_FnBallsGo_t3 w_FnBallsGo_L1 w_FnBallsGo_L2 w_FnBallsGo_L3 w_FnBallsGo_L4 w_FnBallsGo_L5 w_FnBallsGo_L6 w_FnBallsGo_L7 w_FnBallsGo_L8 w_FnBallsGo_L9 w_FnBallsGo_L10 w_FnBallsGo_L11 w_FnBallsGo_L12 w_FnBallsGo_L13 r0 r1 r2 r3 step6 time7 place8 ok9 end16 five21 until24 behind35 :=
  (congrArg (fun g => g.2.2.1 ((r0, r1, r2, r3, ()), ((), (), step6, time7, place8, ok9, (), end16, (), five21, until24, behind35, ()), ((), (), ()))) (FnCx.L_eq w_FnBallsGo_ts)).trans (by kernel_rfl)
theorem w_FnBallsGo_u4 (r0 : List (Int)) (r1 : List (Int)) (r2 : List (Int)) (r3 : List (Int)) (step6 : Int) (time7 : Int) (place8 : Int) (ok9 : Bool) (end16 : ByteArray) (until24 : Int) : w_FnBallsGo_L4 r0 r1 r2 r3 step6 time7 place8 ok9 end16 until24 = w_FnBallsGo_t4 w_FnBallsGo_L1 w_FnBallsGo_L2 w_FnBallsGo_L3 w_FnBallsGo_L4 w_FnBallsGo_L5 w_FnBallsGo_L6 w_FnBallsGo_L7 w_FnBallsGo_L8 w_FnBallsGo_L9 w_FnBallsGo_L10 w_FnBallsGo_L11 w_FnBallsGo_L12 w_FnBallsGo_L13 r0 r1 r2 r3 step6 time7 place8 ok9 end16 until24 :=
  (congrArg (fun g => g.2.2.2.1 ((r0, r1, r2, r3, ()), ((), (), step6, time7, place8, ok9, (), end16, (), until24, ()), ((), (), ()))) (FnCx.L_eq w_FnBallsGo_ts)).trans (by kernel_rfl)
theorem w_FnBallsGo_u5 (r0 : List (Int)) : w_FnBallsGo_L5 r0 = w_FnBallsGo_t5 w_FnBallsGo_L1 w_FnBallsGo_L2 w_FnBallsGo_L3 w_FnBallsGo_L4 w_FnBallsGo_L5 w_FnBallsGo_L6 w_FnBallsGo_L7 w_FnBallsGo_L8 w_FnBallsGo_L9 w_FnBallsGo_L10 w_FnBallsGo_L11 w_FnBallsGo_L12 w_FnBallsGo_L13 r0 :=
  (congrArg (fun g => g.2.2.2.2.1 ((r0, ()), ((), ()), ((), (), ()))) (FnCx.L_eq w_FnBallsGo_ts)).trans (by kernel_rfl)
theorem w_FnBallsGo_u6 (r0 : List (Int)) (r1 : List (Int)) (r2 : List (Int)) (r3 : List (Int)) (step6 : Int) (time7 : Int) (place8 : Int) (end16 : ByteArray) (until24 : Int) : w_FnBallsGo_L6 r0 r1 r2 r3 step6 time7 place8 end16 until24 = w_FnBallsGo_t6 w_FnBallsGo_L1 w_FnBallsGo_L2 w_FnBallsGo_L3 w_FnBallsGo_L4 w_FnBallsGo_L5 w_FnBallsGo_L6 w_FnBallsGo_L7 w_FnBallsGo_L8 w_FnBallsGo_L9 w_FnBallsGo_L10 w_FnBallsGo_L11 w_FnBallsGo_L12 w_FnBallsGo_L13 r0 r1 r2 r3 step6 time7 place8 end16 until24 :=
  (congrArg (fun g => g.2.2.2.2.2.1 ((r0, r1, r2, r3, ()), ((), (), step6, time7, place8, (), end16, (), until24, ()), ((), (), ()))) (FnCx.L_eq w_FnBallsGo_ts)).trans (by kernel_rfl)
theorem w_FnBallsGo_u7 (r0 : List (Int)) (r1 : List (Int)) (r2 : List (Int)) (step6 : Int) (time7 : Int) (place8 : Int) (end16 : ByteArray) (until24 : Int) : w_FnBallsGo_L7 r0 r1 r2 step6 time7 place8 end16 until24 = w_FnBallsGo_t7 w_FnBallsGo_L1 w_FnBallsGo_L2 w_FnBallsGo_L3 w_FnBallsGo_L4 w_FnBallsGo_L5 w_FnBallsGo_L6 w_FnBallsGo_L7 w_FnBallsGo_L8 w_FnBallsGo_L9 w_FnBallsGo_L10 w_FnBallsGo_L11 w_FnBallsGo_L12 w_FnBallsGo_L13 r0 r1 r2 step6 time7 place8 end16 until24 :=
  (congrArg (fun g => g.2.2.2.2.2.2.1 ((r0, r1, r2, ()), ((), (), step6, time7, place8, end16, (), until24, ()), ((), (), ()))) (FnCx.L_eq w_FnBallsGo_ts)).trans (by kernel_rfl)
theorem w_FnBallsGo_u8 (r0 : List (Int)) (a41 : Int) (b42 : Int) (when43 : Int) (where44 : Int) (eleven45 : Bool) (same49 : Int) (thirteen50 : Bool) : w_FnBallsGo_L8 r0 a41 b42 when43 where44 eleven45 same49 thirteen50 = w_FnBallsGo_t8 w_FnBallsGo_L1 w_FnBallsGo_L2 w_FnBallsGo_L3 w_FnBallsGo_L4 w_FnBallsGo_L5 w_FnBallsGo_L6 w_FnBallsGo_L7 w_FnBallsGo_L8 w_FnBallsGo_L9 w_FnBallsGo_L10 w_FnBallsGo_L11 w_FnBallsGo_L12 w_FnBallsGo_L13 r0 a41 b42 when43 where44 eleven45 same49 thirteen50 :=
  (congrArg (fun g => g.2.2.2.2.2.2.2.1 ((r0, ()), ((), a41, b42, when43, where44, eleven45, same49, thirteen50, ()), ((), (), ()))) (FnCx.L_eq w_FnBallsGo_ts)).trans (by kernel_rfl)
theorem w_FnBallsGo_u9 (r0 : List (Int)) (a41 : Int) (b42 : Int) (same49 : Int) (thirteen50 : Bool) : w_FnBallsGo_L9 r0 a41 b42 same49 thirteen50 = w_FnBallsGo_t9 w_FnBallsGo_L1 w_FnBallsGo_L2 w_FnBallsGo_L3 w_FnBallsGo_L4 w_FnBallsGo_L5 w_FnBallsGo_L6 w_FnBallsGo_L7 w_FnBallsGo_L8 w_FnBallsGo_L9 w_FnBallsGo_L10 w_FnBallsGo_L11 w_FnBallsGo_L12 w_FnBallsGo_L13 r0 a41 b42 same49 thirteen50 :=
  (congrArg (fun g => g.2.2.2.2.2.2.2.2.1 ((r0, ()), ((), a41, b42, same49, thirteen50, ()), ((), (), ()))) (FnCx.L_eq w_FnBallsGo_ts)).trans (by kernel_rfl)
theorem w_FnBallsGo_u10  : w_FnBallsGo_L10  = w_FnBallsGo_t10 w_FnBallsGo_L1 w_FnBallsGo_L2 w_FnBallsGo_L3 w_FnBallsGo_L4 w_FnBallsGo_L5 w_FnBallsGo_L6 w_FnBallsGo_L7 w_FnBallsGo_L8 w_FnBallsGo_L9 w_FnBallsGo_L10 w_FnBallsGo_L11 w_FnBallsGo_L12 w_FnBallsGo_L13  :=
  (congrArg (fun g => g.2.2.2.2.2.2.2.2.2.1 ((), (), ((), (), ()))) (FnCx.L_eq w_FnBallsGo_ts)).trans (by kernel_rfl)
theorem w_FnBallsGo_u11 (r0 : List (Int)) (r1 : List (Int)) (r2 : List (Int)) (r3 : List (Int)) (step6 : Int) (time7 : Int) (place8 : Int) (ok9 : Bool) (end16 : ByteArray) (five21 : Bool) (until24 : Int) (next28 : Int) (s263 : Int) (s264 : Int) : w_FnBallsGo_L11 r0 r1 r2 r3 step6 time7 place8 ok9 end16 five21 until24 next28 s263 s264 = w_FnBallsGo_t11 w_FnBallsGo_L1 w_FnBallsGo_L2 w_FnBallsGo_L3 w_FnBallsGo_L4 w_FnBallsGo_L5 w_FnBallsGo_L6 w_FnBallsGo_L7 w_FnBallsGo_L8 w_FnBallsGo_L9 w_FnBallsGo_L10 w_FnBallsGo_L11 w_FnBallsGo_L12 w_FnBallsGo_L13 r0 r1 r2 r3 step6 time7 place8 ok9 end16 five21 until24 next28 s263 s264 :=
  (congrArg (fun g => g.2.2.2.2.2.2.2.2.2.2.1 ((r0, r1, r2, r3, ()), ((), (), step6, time7, place8, ok9, (), end16, (), five21, until24, next28, (), s263, s264, ()), ((), (), ()))) (FnCx.L_eq w_FnBallsGo_ts)).trans (by kernel_rfl)
theorem w_FnBallsGo_u12 (r0 : List (Int)) (r1 : List (Int)) (r2 : List (Int)) (r3 : List (Int)) (step6 : Int) (time7 : Int) (place8 : Int) (ok9 : Bool) (end16 : ByteArray) (until24 : Int) (s396 : Int) (s397 : Int) : w_FnBallsGo_L12 r0 r1 r2 r3 step6 time7 place8 ok9 end16 until24 s396 s397 = w_FnBallsGo_t12 w_FnBallsGo_L1 w_FnBallsGo_L2 w_FnBallsGo_L3 w_FnBallsGo_L4 w_FnBallsGo_L5 w_FnBallsGo_L6 w_FnBallsGo_L7 w_FnBallsGo_L8 w_FnBallsGo_L9 w_FnBallsGo_L10 w_FnBallsGo_L11 w_FnBallsGo_L12 w_FnBallsGo_L13 r0 r1 r2 r3 step6 time7 place8 ok9 end16 until24 s396 s397 :=
  (congrArg (fun g => g.2.2.2.2.2.2.2.2.2.2.2.1 ((r0, r1, r2, r3, ()), ((), (), step6, time7, place8, ok9, (), end16, (), until24, (), s396, s397, ()), ((), (), ()))) (FnCx.L_eq w_FnBallsGo_ts)).trans (by kernel_rfl)
theorem w_FnBallsGo_u13 (r0 : List (Int)) (r1 : List (Int)) (same49 : Int) (s680 : Int) (s681 : Int) : w_FnBallsGo_L13 r0 r1 same49 s680 s681 = w_FnBallsGo_t13 w_FnBallsGo_L1 w_FnBallsGo_L2 w_FnBallsGo_L3 w_FnBallsGo_L4 w_FnBallsGo_L5 w_FnBallsGo_L6 w_FnBallsGo_L7 w_FnBallsGo_L8 w_FnBallsGo_L9 w_FnBallsGo_L10 w_FnBallsGo_L11 w_FnBallsGo_L12 w_FnBallsGo_L13 r0 r1 same49 s680 s681 :=
  (congrArg (fun g => g.2.2.2.2.2.2.2.2.2.2.2.2.1 ((r0, r1, ()), (same49, (), (), s680, s681, ()), ((), (), ()))) (FnCx.L_eq w_FnBallsGo_ts)).trans (by kernel_rfl)
noncomputable def w_FnBallsGo (code0 : List Int) (more1 : List Int) : Option Bool := w_FnBallsGo_t0 w_FnBallsGo_L1 w_FnBallsGo_L2 w_FnBallsGo_L3 w_FnBallsGo_L4 w_FnBallsGo_L5 w_FnBallsGo_L6 w_FnBallsGo_L7 w_FnBallsGo_L8 w_FnBallsGo_L9 w_FnBallsGo_L10 w_FnBallsGo_L11 w_FnBallsGo_L12 w_FnBallsGo_L13 code0 more1
theorem w_FnBallsGo_e (code0 : List Int) (more1 : List Int) : c_w_FnBallsGo.start c_w_FnBallsGo.L (code0, more1, ()) = w_FnBallsGo code0 more1 := by kernel_rfl
noncomputable def F_w_FnBallsGo : Ins c_w_FnBallsGo.ins → Option Bool := fun x => w_FnBallsGo x.1 x.2.1
noncomputable def S_w_FnBallsGo : FSpec := mkF c_w_FnBallsGo.env.pre c_w_FnBallsGo.ins c_w_FnBallsGo.out c_w_FnBallsGo.inj F_w_FnBallsGo
theorem h_w_FnBallsGo : Cert Try.prog 6 S_w_FnBallsGo := FnCx.certF (c := c_w_FnBallsGo) F_w_FnBallsGo (tyOk _ _ _) (spOk ⟨h_w_big, fun _ _ _ => trivial, ⟨h_s_DrawPlaceAfter, fun _ _ _ => trivial, ⟨h_i_PlaceAfter, fun _ _ _ => trivial, ⟨h_s_PlaceAfter, fun _ _ _ => trivial, ⟨h_i_PathOfBall, fun _ _ _ => trivial, ⟨h_s_PathOfBall, fun _ _ _ => trivial, ⟨h_i_EndOfBall, fun _ _ _ => trivial, ⟨h_s_EndOfBall, fun _ _ _ => trivial, ⟨h_i_LoopOfBall, fun _ _ _ => trivial, ⟨h_s_LoopOfBall, fun _ _ _ => trivial, ⟨h_i_TimeToLoop, fun _ _ _ => trivial, ⟨h_s_TimeToLoop, fun _ _ _ => trivial, ⟨h_i_NextPlace, fun _ _ _ => trivial, ⟨h_s_NextPlace, fun _ _ _ => trivial, ⟨h_w_lSame, fun _ _ _ => trivial, ⟨h_w_lHas, fun _ _ _ => trivial, ⟨h_s_DrawBallsMeet, fun _ _ _ => trivial, ⟨h_i_BallsMeet, fun _ _ _ => trivial, ⟨h_s_BallsMeet, fun _ _ _ => trivial, ⟨h_i_FirstSame, fun _ _ _ => trivial, ⟨h_s_FirstSame, fun _ _ _ => trivial, trivial⟩⟩⟩⟩⟩⟩⟩⟩⟩⟩⟩⟩⟩⟩⟩⟩⟩⟩⟩⟩⟩) (fun _ _ _ _ _ hs => evDr_ok (tyOk _ _ _) hs follows) Try.func6 rfl rfl Try.ntmps6 (by kernel_rfl) rfl rfl (fun _ => rfl) w_FnBallsGo_ts w_FnBallsGo_hs (fun x t hb ht => by
  obtain ⟨code0, more1, _⟩ := x
  exact (w_FnBallsGo_e code0 more1).trans ht)
end Go.Proofs.Ythenlapjhlljnaa.V
