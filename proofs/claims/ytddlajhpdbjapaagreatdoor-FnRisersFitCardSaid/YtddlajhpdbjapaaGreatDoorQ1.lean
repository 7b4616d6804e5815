/- Functions of the program, as plain functions. No condition. -/
import Derived.Test.YtddlajhpdbjapaaGreatDoorTyQ
set_option linter.unusedVariables false
set_option linter.unusedSimpArgs false
set_option maxRecDepth 100000
namespace Go.Proofs.YtddlajhpdbjapaaGreatDoor.V
open Go Go.Ev Go.Proofs
/-! impl.within -/
noncomputable def c_i_within : FnCx := { env := env 15 [] [], body := bodyOf Tryz.f75, res := [.tmp 6], ins := [.ro kint, .ro kint, .ro kint], out := [(kbool, true)], T := Bool, fin := fun r => r.1.1, inj := fun t => ((t, ()), ((), (), (), ())), pts := [], fuel := 400, dr := noDr }
noncomputable def i_within (n0 : Int) (low1 : Int) (high2 : Int) : Bool :=
  bif decide (low1 ≤ n0) then decide (n0 ≤ high2) else false
theorem i_within_e (n0 : Int) (low1 : Int) (high2 : Int) : c_i_within.start c_i_within.L (n0, low1, high2, ()) = some (i_within n0 low1 high2) := by
  refine Eq.trans (b := (bif decide (low1 ≤ n0) then some (decide (n0 ≤ high2)) else some false : Option Bool)) (by kernel_rfl) ?_
  unfold i_within
  repeat (first | rfl | apply condS)
noncomputable def F_i_within : Ins c_i_within.ins → Bool := fun x => i_within x.1 x.2.1 x.2.2.1
noncomputable def S_i_within : FSpec := mkT c_i_within.env.pre c_i_within.ins c_i_within.out c_i_within.inj F_i_within
theorem h_i_within : Cert Tryz.prog 75 S_i_within := FnCx.certT (c := c_i_within) F_i_within (tyOk _ _ _) (spOk trivial) (fun _ _ _ _ _ hs => noDr_ok) Tryz.func75 rfl rfl Tryz.ntmps75 (by kernel_rfl) rfl rfl (fun _ => rfl) trivial (fun x => .inl ⟨c_i_within.start () x, fun _ => rfl⟩) (fun x hb => by
  obtain ⟨n0, low1, high2, _⟩ := x
  exact i_within_e n0 low1 high2)
/-! impl.IsFlight -/
noncomputable def c_i_IsFlight : FnCx := { env := env 16 [(75, S_i_within)] [], body := bodyOf Tryz.f49, res := [.tmp 2], ins := [.ro kFlight], out := [(kbool, true)], T := Bool, fin := fun r => r.1.1, inj := fun t => ((t, ()), ((), ())), pts := [], fuel := 400, dr := noDr }
noncomputable def i_IsFlight (f0_Risers : Int) (f0_Rise : Int) (f0_Tread : Int) : Bool :=
  bif i_within f0_Risers 1 100 then bif i_within f0_Rise 1 250 then i_within f0_Tread 1 500 else false else false
theorem i_IsFlight_e (f0_Risers : Int) (f0_Rise : Int) (f0_Tread : Int) : c_i_IsFlight.start c_i_IsFlight.L ((f0_Risers, f0_Rise, f0_Tread), ()) = some (i_IsFlight f0_Risers f0_Rise f0_Tread) := by
  refine Eq.trans (b := (bif i_within f0_Risers 1 100 then bif i_within f0_Rise 1 250 then some (i_within f0_Tread 1 500) else some false else some false : Option Bool)) (by kernel_rfl) ?_
  unfold i_IsFlight
  repeat (first | rfl | apply condS)
noncomputable def F_i_IsFlight : Ins c_i_IsFlight.ins → Bool := fun x => i_IsFlight x.1.1 x.1.2.1 x.1.2.2
noncomputable def S_i_IsFlight : FSpec := mkT c_i_IsFlight.env.pre c_i_IsFlight.ins c_i_IsFlight.out c_i_IsFlight.inj F_i_IsFlight
theorem h_i_IsFlight : Cert Tryz.prog 49 S_i_IsFlight := FnCx.certT (c := c_i_IsFlight) F_i_IsFlight (tyOk _ _ _) (spOk ⟨h_i_within, fun _ _ h => h, trivial⟩) (fun _ _ _ _ _ hs => noDr_ok) Tryz.func49 rfl rfl Tryz.ntmps49 (by kernel_rfl) rfl rfl (fun _ => rfl) trivial (fun x => .inl ⟨c_i_IsFlight.start () x, fun _ => rfl⟩) (fun x hb => by
  obtain ⟨⟨f0_Risers, f0_Rise, f0_Tread⟩, _⟩ := x
  exact i_IsFlight_e f0_Risers f0_Rise f0_Tread)
/-! (impl.Flight).high -/
noncomputable def c_i_Flight_high : FnCx := { env := env 8 [] [], body := bodyOf Tryz.f103, res := [.tmp 2], ins := [.ro kFlight], out := [(kint, true)], T := Int, fin := fun r => r.1.1, inj := fun t => ((t, ()), ((), ())), pts := [], fuel := 400, dr := noDr }
noncomputable def i_Flight_high (f0_Risers : Int) (f0_Rise : Int) (f0_Tread : Int) : Int :=
  IntKind.wrap IntKind.i64 (f0_Risers * f0_Rise)
theorem i_Flight_high_e (f0_Risers : Int) (f0_Rise : Int) (f0_Tread : Int) : c_i_Flight_high.start c_i_Flight_high.L ((f0_Risers, f0_Rise, f0_Tread), ()) = some (i_Flight_high f0_Risers f0_Rise f0_Tread) := by kernel_rfl
noncomputable def F_i_Flight_high : Ins c_i_Flight_high.ins → Int := fun x => i_Flight_high x.1.1 x.1.2.1 x.1.2.2
noncomputable def S_i_Flight_high : FSpec := mkT c_i_Flight_high.env.pre c_i_Flight_high.ins c_i_Flight_high.out c_i_Flight_high.inj F_i_Flight_high
theorem h_i_Flight_high : Cert Tryz.prog 103 S_i_Flight_high := FnCx.certT (c := c_i_Flight_high) F_i_Flight_high (tyOk _ _ _) (spOk trivial) (fun _ _ _ _ _ hs => noDr_ok) Tryz.func103 rfl rfl Tryz.ntmps103 (by kernel_rfl) rfl rfl (fun _ => rfl) trivial (fun x => .inl ⟨c_i_Flight_high.start () x, fun _ => rfl⟩) (fun x hb => by
  obtain ⟨⟨f0_Risers, f0_Rise, f0_Tread⟩, _⟩ := x
  exact i_Flight_high_e f0_Risers f0_Rise f0_Tread)
/-! (impl.Flight).run -/
noncomputable def c_i_Flight_run : FnCx := { env := env 9 [] [], body := bodyOf Tryz.f104, res := [.tmp 2], ins := [.ro kFlight], out := [(kint, true)], T := Int, fin := fun r => r.1.1, inj := fun t => ((t, ()), ((), ())), pts := [], fuel := 400, dr := noDr }
noncomputable def i_Flight_run (f0_Risers : Int) (f0_Rise : Int) (f0_Tread : Int) : Int :=
  IntKind.wrap IntKind.i64 (IntKind.wrap IntKind.i64 (f0_Risers - 1) * f0_Tread)
theorem i_Flight_run_e (f0_Risers : Int) (f0_Rise : Int) (f0_Tread : Int) : c_i_Flight_run.start c_i_Flight_run.L ((f0_Risers, f0_Rise, f0_Tread), ()) = some (i_Flight_run f0_Risers f0_Rise f0_Tread) := by kernel_rfl
noncomputable def F_i_Flight_run : Ins c_i_Flight_run.ins → Int := fun x => i_Flight_run x.1.1 x.1.2.1 x.1.2.2
noncomputable def S_i_Flight_run : FSpec := mkT c_i_Flight_run.env.pre c_i_Flight_run.ins c_i_Flight_run.out c_i_Flight_run.inj F_i_Flight_run
theorem h_i_Flight_run : Cert Tryz.prog 104 S_i_Flight_run := FnCx.certT (c := c_i_Flight_run) F_i_Flight_run (tyOk _ _ _) (spOk trivial) (fun _ _ _ _ _ hs => noDr_ok) Tryz.func104 rfl rfl Tryz.ntmps104 (by kernel_rfl) rfl rfl (fun _ => rfl) trivial (fun x => .inl ⟨c_i_Flight_run.start () x, fun _ => rfl⟩) (fun x hb => by
  obtain ⟨⟨f0_Risers, f0_Rise, f0_Tread⟩, _⟩ := x
  exact i_Flight_run_e f0_Risers f0_Rise f0_Tread)
/-! impl.LineSquare -/
noncomputable def c_i_LineSquare : FnCx := { env := env 18 [(49, S_i_IsFlight), (103, S_i_Flight_high), (104, S_i_Flight_run)] [], body := bodyOf Tryz.f45, res := [.tmp 2, .tmp 3], ins := [.ro kFlight], out := [(kint, true), (kbool, true)], T := Int × Bool, fin := fun r => (r.1.1, r.1.2.1), inj := fun t => ((t.1, t.2, ()), ((), ())), pts := [], fuel := 400, dr := evDr (env 18 [(49, S_i_IsFlight), (103, S_i_Flight_high), (104, S_i_Flight_run)] []) }
noncomputable def i_LineSquare (f0_Risers : Int) (f0_Rise : Int) (f0_Tread : Int) : (Int × Bool) :=
  bif !i_IsFlight f0_Risers f0_Rise f0_Tread then (0, false)
  else
    (IntKind.wrap IntKind.i64
        (IntKind.wrap IntKind.i64 (i_Flight_high f0_Risers f0_Rise f0_Tread * i_Flight_high f0_Risers f0_Rise f0_Tread) +
          IntKind.wrap IntKind.i64 (i_Flight_run f0_Risers f0_Rise f0_Tread * i_Flight_run f0_Risers f0_Rise f0_Tread)),
      true)
theorem i_LineSquare_e (f0_Risers : Int) (f0_Rise : Int) (f0_Tread : Int) : c_i_LineSquare.start c_i_LineSquare.L ((f0_Risers, f0_Rise, f0_Tread), ()) = some (i_LineSquare f0_Risers f0_Rise f0_Tread) := by
  refine Eq.trans (b := (bif !i_IsFlight f0_Risers f0_Rise f0_Tread then some (0, false) else some (IntKind.wrap IntKind.i64 (IntKind.wrap IntKind.i64 (i_Flight_high f0_Risers f0_Rise f0_Tread * i_Flight_high f0_Risers f0_Rise f0_Tread) + IntKind.wrap IntKind.i64 (i_Flight_run f0_Risers f0_Rise f0_Tread * i_Flight_run f0_Risers f0_Rise f0_Tread)), true) : Option (Int × Bool))) (by kernel_rfl) ?_
  unfold i_LineSquare
  repeat (first | rfl | apply condS)
noncomputable def F_i_LineSquare : Ins c_i_LineSquare.ins → (Int × Bool) := fun x => i_LineSquare x.1.1 x.1.2.1 x.1.2.2
noncomputable def S_i_LineSquare : FSpec := mkT c_i_LineSquare.env.pre c_i_LineSquare.ins c_i_LineSquare.out c_i_LineSquare.inj F_i_LineSquare
theorem h_i_LineSquare : Cert Tryz.prog 45 S_i_LineSquare := FnCx.certT (c := c_i_LineSquare) F_i_LineSquare (tyOk _ _ _) (spOk ⟨h_i_IsFlight, fun _ _ h => h, ⟨h_i_Flight_high, fun _ _ h => h, ⟨h_i_Flight_run, fun _ _ h => h, trivial⟩⟩⟩) (fun _ _ _ _ _ hs => evDr_ok (tyOk _ _ _) hs follows) Tryz.func45 rfl rfl Tryz.ntmps45 (by kernel_rfl) rfl rfl (fun _ => rfl) trivial (fun x => .inl ⟨c_i_LineSquare.start () x, fun _ => rfl⟩) (fun x hb => by
  obtain ⟨⟨f0_Risers, f0_Rise, f0_Tread⟩, _⟩ := x
  exact i_LineSquare_e f0_Risers f0_Rise f0_Tread)
/-! impl.WholeLine -/
noncomputable def c_i_WholeLine : FnCx := { env := env 37 [(45, S_i_LineSquare)] [], body := bodyOf Tryz.f35, res := [.tmp 2, .tmp 3], ins := [.ro kFlight], out := [(kint, true), (kbool, true)], T := Int × Bool, fin := fun r => (r.1.1, r.1.2.1), inj := fun t => ((t.1, t.2, ()), ((), ())), pts := [([.inLoop [1, 1, 1, 1, 0, 0, 0], .inBlock 0, .code [1, 1, 1, 1, 1]], Shape.mk [] [(4, Ss.one (Cs.sc kint)), (6, Ss.one (Cs.sc kint)), (7, Ss.one (Cs.sc kint))] [Ss.one (Cs.any)])], fuel := 400, dr := noDr }
noncomputable def i_WholeLine_t1 (g1 : Int → Int → Int → Option (Int × Bool)) (n4 : Int) (low6 : Int) (top7 : Int) : Option (Int × Bool) :=
  bif decide (low6 < top7) then
    bif
        decide
          (IntKind.wrap IntKind.i64
              (IntKind.wrap IntKind.i64 (Int.tdiv (IntKind.wrap IntKind.i64 (low6 + top7)) 2) *
                IntKind.wrap IntKind.i64 (Int.tdiv (IntKind.wrap IntKind.i64 (low6 + top7)) 2)) <
            n4) then
      g1 n4 (IntKind.wrap IntKind.i64 (IntKind.wrap IntKind.i64 (Int.tdiv (IntKind.wrap IntKind.i64 (low6 + top7)) 2) + 1)) top7
    else g1 n4 low6 (IntKind.wrap IntKind.i64 (Int.tdiv (IntKind.wrap IntKind.i64 (low6 + top7)) 2))
  else bif IntKind.wrap IntKind.i64 (low6 * low6) != n4 then some (0, false) else some (low6, true)
noncomputable def i_WholeLine_t0 (g1 : Int → Int → Int → Option (Int × Bool)) (f0_Risers : Int) (f0_Rise : Int) (f0_Tread : Int) : Option (Int × Bool) :=
  bif !Prod.snd (i_LineSquare f0_Risers f0_Rise f0_Tread) then some (0, false) else g1 (Prod.fst (i_LineSquare f0_Risers f0_Rise f0_Tread)) 0 100000
theorem i_WholeLine_ts : Tails c_i_WholeLine.pts c_i_WholeLine.round :=
  ⟨fun s => by
    obtain ⟨_, ⟨n4, low6, top7, _⟩, ⟨_, _⟩⟩ := s
    refine Tail.eq (Y := fun g => i_WholeLine_t1 (fun n4 low6 top7 => g.1 ((), (n4, low6, top7, ()), ((), ()))) n4 low6 top7) ?_ (fun g => by kernel_rfl)
    simp only [i_WholeLine_t1]; repeat (first | exact Tail.const _ | exact Tail.here _ | exact Tail.there (Tail.here _) | exact Tail.there (Tail.there (Tail.here _)) | exact Tail.there (Tail.there (Tail.there (Tail.here _))) | exact Tail.there (Tail.there (Tail.there (Tail.there (Tail.here _)))) | exact Tail.there (Tail.there (Tail.there (Tail.there (Tail.there (Tail.here _))))) | apply Tail.cond | (apply Tail.bind; intro _)), trivial⟩
theorem i_WholeLine_hs : ∀ x, Tail c_i_WholeLine.pts (fun g => c_i_WholeLine.start g x) := fun x => by
    obtain ⟨⟨f0_Risers, f0_Rise, f0_Tread⟩, _⟩ := x
    refine Tail.eq (Y := fun g => i_WholeLine_t0 (fun n4 low6 top7 => g.1 ((), (n4, low6, top7, ()), ((), ()))) f0_Risers f0_Rise f0_Tread) ?_ (fun g => by kernel_rfl)
    simp only [i_WholeLine_t0]; repeat (first | exact Tail.const _ | exact Tail.here _ | exact Tail.there (Tail.here _) | exact Tail.there (Tail.there (Tail.here _)) | exact Tail.there (Tail.there (Tail.there (Tail.here _))) | exact Tail.there (Tail.there (Tail.there (Tail.there (Tail.here _)))) | exact Tail.there (Tail.there (Tail.there (Tail.there (Tail.there (Tail.here _))))) | apply Tail.cond | (apply Tail.bind; intro _))
noncomputable def i_WholeLine_L1 (n4 : Int) (low6 : Int) (top7 : Int) : Option (Int × Bool) := c_i_WholeLine.L.1 ((), (n4, low6, top7, ()), ((), ()))
theorem i_WholeLine_u1 (n4 : Int) (low6 : Int) (top7 : Int) : i_WholeLine_L1 n4 low6 top7 = i_WholeLine_t1 i_WholeLine_L1 n4 low6 top7 :=
  (congrArg (fun g => g.1 ((), (n4, low6, top7, ()), ((), ()))) (FnCx.L_eq i_WholeLine_ts)).trans (by kernel_rfl)
noncomputable def i_WholeLine (f0_Risers : Int) (f0_Rise : Int) (f0_Tread : Int) : Option (Int × Bool) := i_WholeLine_t0 i_WholeLine_L1 f0_Risers f0_Rise f0_Tread
theorem i_WholeLine_e (f0_Risers : Int) (f0_Rise : Int) (f0_Tread : Int) : c_i_WholeLine.start c_i_WholeLine.L ((f0_Risers, f0_Rise, f0_Tread), ()) = i_WholeLine f0_Risers f0_Rise f0_Tread := by kernel_rfl
noncomputable def F_i_WholeLine : Ins c_i_WholeLine.ins → Option (Int × Bool) := fun x => i_WholeLine x.1.1 x.1.2.1 x.1.2.2
noncomputable def S_i_WholeLine : FSpec := mkF c_i_WholeLine.env.pre c_i_WholeLine.ins c_i_WholeLine.out c_i_WholeLine.inj F_i_WholeLine
theorem h_i_WholeLine : Cert Tryz.prog 35 S_i_WholeLine := FnCx.certF (c := c_i_WholeLine) F_i_WholeLine (tyOk _ _ _) (spOk ⟨h_i_LineSquare, fun _ _ h => h, trivial⟩) (fun _ _ _ _ _ hs => noDr_ok) Tryz.func35 rfl rfl Tryz.ntmps35 (by kernel_rfl) rfl rfl (fun _ => rfl) i_WholeLine_ts i_WholeLine_hs (fun x t hb ht => by
  obtain ⟨⟨f0_Risers, f0_Rise, f0_Tread⟩, _⟩ := x
  exact (i_WholeLine_e f0_Risers f0_Rise f0_Tread).trans ht)
/-! spec.l1In -/
noncomputable def c_s_l1In : FnCx := { env := env 15 [] [], body := bodyOf Tryz.f79, res := [.tmp 6], ins := [.ro kint, .ro kint, .ro kint], out := [(kbool, true)], T := Bool, fin := fun r => r.1.1, inj := fun t => ((t, ()), ((), (), (), ())), pts := [], fuel := 400, dr := noDr }
noncomputable def s_l1In (n0 : Int) (lo1 : Int) (hi2 : Int) : Bool :=
  bif decide (n0 ≥ lo1) then decide (n0 ≤ hi2) else false
theorem s_l1In_e (n0 : Int) (lo1 : Int) (hi2 : Int) : c_s_l1In.start c_s_l1In.L (n0, lo1, hi2, ()) = some (s_l1In n0 lo1 hi2) := by
  refine Eq.trans (b := (bif decide (n0 ≥ lo1) then some (decide (n0 ≤ hi2)) else some false : Option Bool)) (by kernel_rfl) ?_
  unfold s_l1In
  repeat (first | rfl | apply condS)
noncomputable def F_s_l1In : Ins c_s_l1In.ins → Bool := fun x => s_l1In x.1 x.2.1 x.2.2.1
noncomputable def S_s_l1In : FSpec := mkT c_s_l1In.env.pre c_s_l1In.ins c_s_l1In.out c_s_l1In.inj F_s_l1In
theorem h_s_l1In : Cert Tryz.prog 79 S_s_l1In := FnCx.certT (c := c_s_l1In) F_s_l1In (tyOk _ _ _) (spOk trivial) (fun _ _ _ _ _ hs => noDr_ok) Tryz.func79 rfl rfl Tryz.ntmps79 (by kernel_rfl) rfl rfl (fun _ => rfl) trivial (fun x => .inl ⟨c_s_l1In.start () x, fun _ => rfl⟩) (fun x hb => by
  obtain ⟨n0, lo1, hi2, _⟩ := x
  exact s_l1In_e n0 lo1 hi2)
/-! spec.riGood -/
noncomputable def c_s_riGood : FnCx := { env := env 16 [(79, S_s_l1In)] [], body := bodyOf Tryz.f101, res := [.tmp 2], ins := [.ro kFlight], out := [(kbool, true)], T := Bool, fin := fun r => r.1.1, inj := fun t => ((t, ()), ((), ())), pts := [], fuel := 400, dr := noDr }
noncomputable def s_riGood (f0_Risers : Int) (f0_Rise : Int) (f0_Tread : Int) : Bool :=
  bif s_l1In f0_Risers 1 100 then bif s_l1In f0_Rise 1 250 then s_l1In f0_Tread 1 500 else false else false
theorem s_riGood_e (f0_Risers : Int) (f0_Rise : Int) (f0_Tread : Int) : c_s_riGood.start c_s_riGood.L ((f0_Risers, f0_Rise, f0_Tread), ()) = some (s_riGood f0_Risers f0_Rise f0_Tread) := by
  refine Eq.trans (b := (bif s_l1In f0_Risers 1 100 then bif s_l1In f0_Rise 1 250 then some (s_l1In f0_Tread 1 500) else some false else some false : Option Bool)) (by kernel_rfl) ?_
  unfold s_riGood
  repeat (first | rfl | apply condS)
noncomputable def F_s_riGood : Ins c_s_riGood.ins → Bool := fun x => s_riGood x.1.1 x.1.2.1 x.1.2.2
noncomputable def S_s_riGood : FSpec := mkT c_s_riGood.env.pre c_s_riGood.ins c_s_riGood.out c_s_riGood.inj F_s_riGood
theorem h_s_riGood : Cert Tryz.prog 101 S_s_riGood := FnCx.certT (c := c_s_riGood) F_s_riGood (tyOk _ _ _) (spOk ⟨h_s_l1In, fun _ _ h => h, trivial⟩) (fun _ _ _ _ _ hs => noDr_ok) Tryz.func101 rfl rfl Tryz.ntmps101 (by kernel_rfl) rfl rfl (fun _ => rfl) trivial (fun x => .inl ⟨c_s_riGood.start () x, fun _ => rfl⟩) (fun x hb => by
  obtain ⟨⟨f0_Risers, f0_Rise, f0_Tread⟩, _⟩ := x
  exact s_riGood_e f0_Risers f0_Rise f0_Tread)
/-! spec.riSquare -/
noncomputable def c_s_riSquare : FnCx := { env := env 23 [] [], body := bodyOf Tryz.f102, res := [.tmp 2], ins := [.ro kFlight], out := [(kint, true)], T := Int, fin := fun r => r.1.1, inj := fun t => ((t, ()), ((), ())), pts := [], fuel := 400, dr := evDr (env 23 [] []) }
noncomputable def s_riSquare (f0_Risers : Int) (f0_Rise : Int) (f0_Tread : Int) : Int :=
  IntKind.wrap IntKind.i64
    (IntKind.wrap IntKind.i64 (IntKind.wrap IntKind.i64 (f0_Risers * f0_Rise) * IntKind.wrap IntKind.i64 (f0_Risers * f0_Rise)) +
      IntKind.wrap IntKind.i64
        (IntKind.wrap IntKind.i64 (IntKind.wrap IntKind.i64 (f0_Risers - 1) * f0_Tread) *
          IntKind.wrap IntKind.i64 (IntKind.wrap IntKind.i64 (f0_Risers - 1) * f0_Tread)))
theorem s_riSquare_e (f0_Risers : Int) (f0_Rise : Int) (f0_Tread : Int) : c_s_riSquare.start c_s_riSquare.L ((f0_Risers, f0_Rise, f0_Tread), ()) = some (s_riSquare f0_Risers f0_Rise f0_Tread) := by kernel_rfl
noncomputable def F_s_riSquare : Ins c_s_riSquare.ins → Int := fun x => s_riSquare x.1.1 x.1.2.1 x.1.2.2
noncomputable def S_s_riSquare : FSpec := mkT c_s_riSquare.env.pre c_s_riSquare.ins c_s_riSquare.out c_s_riSquare.inj F_s_riSquare
theorem h_s_riSquare : Cert Tryz.prog 102 S_s_riSquare := FnCx.certT (c := c_s_riSquare) F_s_riSquare (tyOk _ _ _) (spOk trivial) (fun _ _ _ _ _ hs => evDr_ok (tyOk _ _ _) hs follows) Tryz.func102 rfl rfl Tryz.ntmps102 (by kernel_rfl) rfl rfl (fun _ => rfl) trivial (fun x => .inl ⟨c_s_riSquare.start () x, fun _ => rfl⟩) (fun x hb => by
  obtain ⟨⟨f0_Risers, f0_Rise, f0_Tread⟩, _⟩ := x
  exact s_riSquare_e f0_Risers f0_Rise f0_Tread)
/-! spec.WholeLine -/
noncomputable def c_s_WholeLine : FnCx := { env := env 35 [(101, S_s_riGood), (102, S_s_riSquare)] [], body := bodyOf Tryz.f36, res := [.tmp 2, .tmp 3], ins := [.ro kFlight], out := [(kint, true), (kbool, true)], T := Int × Bool, fin := fun r => (r.1.1, r.1.2.1), inj := fun t => ((t.1, t.2, ()), ((), ())), pts := [([.inLoop [1, 1, 1, 1, 0, 0, 0], .inBlock 0, .code [1, 1, 1, 1, 1]], Shape.mk [] [(4, Ss.one (Cs.sc kint)), (5, Ss.one (Cs.sc kint)), (6, Ss.one (Cs.sc kint))] [Ss.one (Cs.any)])], fuel := 400, dr := noDr }
noncomputable def s_WholeLine_t1 (g1 : Int → Int → Int → Option (Int × Bool)) (square4 : Int) (low5 : Int) (high6 : Int) : Option (Int × Bool) :=
  bif decide (low5 < high6) then
    bif
        decide
          (IntKind.wrap IntKind.i64
              (IntKind.wrap IntKind.i64 (Int.tdiv (IntKind.wrap IntKind.i64 (IntKind.wrap IntKind.i64 (low5 + high6) + 1)) 2) *
                IntKind.wrap IntKind.i64 (Int.tdiv (IntKind.wrap IntKind.i64 (IntKind.wrap IntKind.i64 (low5 + high6) + 1)) 2)) ≤
            square4) then
      g1 square4 (IntKind.wrap IntKind.i64 (Int.tdiv (IntKind.wrap IntKind.i64 (IntKind.wrap IntKind.i64 (low5 + high6) + 1)) 2)) high6
    else
      g1 square4 low5
        (IntKind.wrap IntKind.i64 (IntKind.wrap IntKind.i64 (Int.tdiv (IntKind.wrap IntKind.i64 (IntKind.wrap IntKind.i64 (low5 + high6) + 1)) 2) - 1))
  else bif IntKind.wrap IntKind.i64 (low5 * low5) != square4 then some (0, false) else some (low5, true)
noncomputable def s_WholeLine_t0 (g1 : Int → Int → Int → Option (Int × Bool)) (f0_Risers : Int) (f0_Rise : Int) (f0_Tread : Int) : Option (Int × Bool) :=
  bif !s_riGood f0_Risers f0_Rise f0_Tread then some (0, false) else g1 (s_riSquare f0_Risers f0_Rise f0_Tread) 0 100000
theorem s_WholeLine_ts : Tails c_s_WholeLine.pts c_s_WholeLine.round :=
  ⟨fun s => by
    obtain ⟨_, ⟨square4, low5, high6, _⟩, ⟨_, _⟩⟩ := s
    refine Tail.eq (Y := fun g => s_WholeLine_t1 (fun square4 low5 high6 => g.1 ((), (square4, low5, high6, ()), ((), ()))) square4 low5 high6) ?_ (fun g => by kernel_rfl)
    simp only [s_WholeLine_t1]; repeat (first | exact Tail.const _ | exact Tail.here _ | exact Tail.there (Tail.here _) | exact Tail.there (Tail.there (Tail.here _)) | exact Tail.there (Tail.there (Tail.there (Tail.here _))) | exact Tail.there (Tail.there (Tail.there (Tail.there (Tail.here _)))) | exact Tail.there (Tail.there (Tail.there (Tail.there (Tail.there (Tail.here _))))) | apply Tail.cond | (apply Tail.bind; intro _)), trivial⟩
theorem s_WholeLine_hs : ∀ x, Tail c_s_WholeLine.pts (fun g => c_s_WholeLine.start g x) := fun x => by
    obtain ⟨⟨f0_Risers, f0_Rise, f0_Tread⟩, _⟩ := x
    refine Tail.eq (Y := fun g => s_WholeLine_t0 (fun square4 low5 high6 => g.1 ((), (square4, low5, high6, ()), ((), ()))) f0_Risers f0_Rise f0_Tread) ?_ (fun g => by kernel_rfl)
    simp only [s_WholeLine_t0]; repeat (first | exact Tail.const _ | exact Tail.here _ | exact Tail.there (Tail.here _) | exact Tail.there (Tail.there (Tail.here _)) | exact Tail.there (Tail.there (Tail.there (Tail.here _))) | exact Tail.there (Tail.there (Tail.there (Tail.there (Tail.here _)))) | exact Tail.there (Tail.there (Tail.there (Tail.there (Tail.there (Tail.here _))))) | apply Tail.cond | (apply Tail.bind; intro _))
noncomputable def s_WholeLine_L1 (square4 : Int) (low5 : Int) (high6 : Int) : Option (Int × Bool) := c_s_WholeLine.L.1 ((), (square4, low5, high6, ()), ((), ()))
theorem s_WholeLine_u1 (square4 : Int) (low5 : Int) (high6 : Int) : s_WholeLine_L1 square4 low5 high6 = s_WholeLine_t1 s_WholeLine_L1 square4 low5 high6 :=
  (congrArg (fun g => g.1 ((), (square4, low5, high6, ()), ((), ()))) (FnCx.L_eq s_WholeLine_ts)).trans (by kernel_rfl)
noncomputable def s_WholeLine (f0_Risers : Int) (f0_Rise : Int) (f0_Tread : Int) : Option (Int × Bool) := s_WholeLine_t0 s_WholeLine_L1 f0_Risers f0_Rise f0_Tread
theorem s_WholeLine_e (f0_Risers : Int) (f0_Rise : Int) (f0_Tread : Int) : c_s_WholeLine.start c_s_WholeLine.L ((f0_Risers, f0_Rise, f0_Tread), ()) = s_WholeLine f0_Risers f0_Rise f0_Tread := by kernel_rfl
noncomputable def F_s_WholeLine : Ins c_s_WholeLine.ins → Option (Int × Bool) := fun x => s_WholeLine x.1.1 x.1.2.1 x.1.2.2
noncomputable def S_s_WholeLine : FSpec := mkF c_s_WholeLine.env.pre c_s_WholeLine.ins c_s_WholeLine.out c_s_WholeLine.inj F_s_WholeLine
theorem h_s_WholeLine : Cert Tryz.prog 36 S_s_WholeLine := FnCx.certF (c := c_s_WholeLine) F_s_WholeLine (tyOk _ _ _) (spOk ⟨h_s_riGood, fun _ _ h => h, ⟨h_s_riSquare, fun _ _ h => h, trivial⟩⟩) (fun _ _ _ _ _ hs => noDr_ok) Tryz.func36 rfl rfl Tryz.ntmps36 (by kernel_rfl) rfl rfl (fun _ => rfl) s_WholeLine_ts s_WholeLine_hs (fun x t hb ht => by
  obtain ⟨⟨f0_Risers, f0_Rise, f0_Tread⟩, _⟩ := x
  exact (s_WholeLine_e f0_Risers f0_Rise f0_Tread).trans ht)
/-! impl.HeightOf -/
noncomputable def c_i_HeightOf : FnCx := { env := env 9 [(49, S_i_IsFlight), (103, S_i_Flight_high)] [], body := bodyOf Tryz.f37, res := [.tmp 2, .tmp 3], ins := [.ro kFlight], out := [(kint, true), (kbool, true)], T := Int × Bool, fin := fun r => (r.1.1, r.1.2.1), inj := fun t => ((t.1, t.2, ()), ((), ())), pts := [], fuel := 400, dr := noDr }
noncomputable def i_HeightOf (f0_Risers : Int) (f0_Rise : Int) (f0_Tread : Int) : (Int × Bool) :=
  bif !i_IsFlight f0_Risers f0_Rise f0_Tread then (0, false) else (i_Flight_high f0_Risers f0_Rise f0_Tread, true)
theorem i_HeightOf_e (f0_Risers : Int) (f0_Rise : Int) (f0_Tread : Int) : c_i_HeightOf.start c_i_HeightOf.L ((f0_Risers, f0_Rise, f0_Tread), ()) = some (i_HeightOf f0_Risers f0_Rise f0_Tread) := by
  refine Eq.trans (b := (bif !i_IsFlight f0_Risers f0_Rise f0_Tread then some (0, false) else some (i_Flight_high f0_Risers f0_Rise f0_Tread, true) : Option (Int × Bool))) (by kernel_rfl) ?_
  unfold i_HeightOf
  repeat (first | rfl | apply condS)
noncomputable def F_i_HeightOf : Ins c_i_HeightOf.ins → (Int × Bool) := fun x => i_HeightOf x.1.1 x.1.2.1 x.1.2.2
noncomputable def S_i_HeightOf : FSpec := mkT c_i_HeightOf.env.pre c_i_HeightOf.ins c_i_HeightOf.out c_i_HeightOf.inj F_i_HeightOf
theorem h_i_HeightOf : Cert Tryz.prog 37 S_i_HeightOf := FnCx.certT (c := c_i_HeightOf) F_i_HeightOf (tyOk _ _ _) (spOk ⟨h_i_IsFlight, fun _ _ h => h, ⟨h_i_Flight_high, fun _ _ h => h, trivial⟩⟩) (fun _ _ _ _ _ hs => noDr_ok) Tryz.func37 rfl rfl Tryz.ntmps37 (by kernel_rfl) rfl rfl (fun _ => rfl) trivial (fun x => .inl ⟨c_i_HeightOf.start () x, fun _ => rfl⟩) (fun x hb => by
  obtain ⟨⟨f0_Risers, f0_Rise, f0_Tread⟩, _⟩ := x
  exact i_HeightOf_e f0_Risers f0_Rise f0_Tread)
/-! spec.HeightOf -/
noncomputable def c_s_HeightOf : FnCx := { env := env 12 [(101, S_s_riGood)] [], body := bodyOf Tryz.f38, res := [.tmp 2, .tmp 3], ins := [.ro kFlight], out := [(kint, true), (kbool, true)], T := Int × Bool, fin := fun r => (r.1.1, r.1.2.1), inj := fun t => ((t.1, t.2, ()), ((), ())), pts := [], fuel := 400, dr := noDr }
noncomputable def s_HeightOf (f0_Risers : Int) (f0_Rise : Int) (f0_Tread : Int) : (Int × Bool) :=
  bif !s_riGood f0_Risers f0_Rise f0_Tread then (0, false) else (IntKind.wrap IntKind.i64 (f0_Risers * f0_Rise), true)
theorem s_HeightOf_e (f0_Risers : Int) (f0_Rise : Int) (f0_Tread : Int) : c_s_HeightOf.start c_s_HeightOf.L ((f0_Risers, f0_Rise, f0_Tread), ()) = some (s_HeightOf f0_Risers f0_Rise f0_Tread) := by
  refine Eq.trans (b := (bif !s_riGood f0_Risers f0_Rise f0_Tread then some (0, false) else some (IntKind.wrap IntKind.i64 (f0_Risers * f0_Rise), true) : Option (Int × Bool))) (by kernel_rfl) ?_
  unfold s_HeightOf
  repeat (first | rfl | apply condS)
noncomputable def F_s_HeightOf : Ins c_s_HeightOf.ins → (Int × Bool) := fun x => s_HeightOf x.1.1 x.1.2.1 x.1.2.2
noncomputable def S_s_HeightOf : FSpec := mkT c_s_HeightOf.env.pre c_s_HeightOf.ins c_s_HeightOf.out c_s_HeightOf.inj F_s_HeightOf
theorem h_s_HeightOf : Cert Tryz.prog 38 S_s_HeightOf := FnCx.certT (c := c_s_HeightOf) F_s_HeightOf (tyOk _ _ _) (spOk ⟨h_s_riGood, fun _ _ h => h, trivial⟩) (fun _ _ _ _ _ hs => noDr_ok) Tryz.func38 rfl rfl Tryz.ntmps38 (by kernel_rfl) rfl rfl (fun _ => rfl) trivial (fun x => .inl ⟨c_s_HeightOf.start () x, fun _ => rfl⟩) (fun x hb => by
  obtain ⟨⟨f0_Risers, f0_Rise, f0_Tread⟩, _⟩ := x
  exact s_HeightOf_e f0_Risers f0_Rise f0_Tread)
/-! impl.RunOf -/
noncomputable def c_i_RunOf : FnCx := { env := env 9 [(49, S_i_IsFlight), (104, S_i_Flight_run)] [], body := bodyOf Tryz.f39, res := [.tmp 2, .tmp 3], ins := [.ro kFlight], out := [(kint, true), (kbool, true)], T := Int × Bool, fin := fun r => (r.1.1, r.1.2.1), inj := fun t => ((t.1, t.2, ()), ((), ())), pts := [], fuel := 400, dr := noDr }
noncomputable def i_RunOf (f0_Risers : Int) (f0_Rise : Int) (f0_Tread : Int) : (Int × Bool) :=
  bif !i_IsFlight f0_Risers f0_Rise f0_Tread then (0, false) else (i_Flight_run f0_Risers f0_Rise f0_Tread, true)
theorem i_RunOf_e (f0_Risers : Int) (f0_Rise : Int) (f0_Tread : Int) : c_i_RunOf.start c_i_RunOf.L ((f0_Risers, f0_Rise, f0_Tread), ()) = some (i_RunOf f0_Risers f0_Rise f0_Tread) := by
  refine Eq.trans (b := (bif !i_IsFlight f0_Risers f0_Rise f0_Tread then some (0, false) else some (i_Flight_run f0_Risers f0_Rise f0_Tread, true) : Option (Int × Bool))) (by kernel_rfl) ?_
  unfold i_RunOf
  repeat (first | rfl | apply condS)
noncomputable def F_i_RunOf : Ins c_i_RunOf.ins → (Int × Bool) := fun x => i_RunOf x.1.1 x.1.2.1 x.1.2.2
noncomputable def S_i_RunOf : FSpec := mkT c_i_RunOf.env.pre c_i_RunOf.ins c_i_RunOf.out c_i_RunOf.inj F_i_RunOf
theorem h_i_RunOf : Cert Tryz.prog 39 S_i_RunOf := FnCx.certT (c := c_i_RunOf) F_i_RunOf (tyOk _ _ _) (spOk ⟨h_i_IsFlight, fun _ _ h => h, ⟨h_i_Flight_run, fun _ _ h => h, trivial⟩⟩) (fun _ _ _ _ _ hs => noDr_ok) Tryz.func39 rfl rfl Tryz.ntmps39 (by kernel_rfl) rfl rfl (fun _ => rfl) trivial (fun x => .inl ⟨c_i_RunOf.start () x, fun _ => rfl⟩) (fun x hb => by
  obtain ⟨⟨f0_Risers, f0_Rise, f0_Tread⟩, _⟩ := x
  exact i_RunOf_e f0_Risers f0_Rise f0_Tread)
/-! spec.RunOf -/
noncomputable def c_s_RunOf : FnCx := { env := env 13 [(101, S_s_riGood)] [], body := bodyOf Tryz.f40, res := [.tmp 2, .tmp 3], ins := [.ro kFlight], out := [(kint, true), (kbool, true)], T := Int × Bool, fin := fun r => (r.1.1, r.1.2.1), inj := fun t => ((t.1, t.2, ()), ((), ())), pts := [], fuel := 400, dr := noDr }
noncomputable def s_RunOf (f0_Risers : Int) (f0_Rise : Int) (f0_Tread : Int) : (Int × Bool) :=
  bif !s_riGood f0_Risers f0_Rise f0_Tread then (0, false) else (IntKind.wrap IntKind.i64 (IntKind.wrap IntKind.i64 (f0_Risers - 1) * f0_Tread), true)
theorem s_RunOf_e (f0_Risers : Int) (f0_Rise : Int) (f0_Tread : Int) : c_s_RunOf.start c_s_RunOf.L ((f0_Risers, f0_Rise, f0_Tread), ()) = some (s_RunOf f0_Risers f0_Rise f0_Tread) := by
  refine Eq.trans (b := (bif !s_riGood f0_Risers f0_Rise f0_Tread then some (0, false) else some (IntKind.wrap IntKind.i64 (IntKind.wrap IntKind.i64 (f0_Risers - 1) * f0_Tread), true) : Option (Int × Bool))) (by kernel_rfl) ?_
  unfold s_RunOf
  repeat (first | rfl | apply condS)
noncomputable def F_s_RunOf : Ins c_s_RunOf.ins → (Int × Bool) := fun x => s_RunOf x.1.1 x.1.2.1 x.1.2.2
noncomputable def S_s_RunOf : FSpec := mkT c_s_RunOf.env.pre c_s_RunOf.ins c_s_RunOf.out c_s_RunOf.inj F_s_RunOf
theorem h_s_RunOf : Cert Tryz.prog 40 S_s_RunOf := FnCx.certT (c := c_s_RunOf) F_s_RunOf (tyOk _ _ _) (spOk ⟨h_s_riGood, fun _ _ h => h, trivial⟩) (fun _ _ _ _ _ hs => noDr_ok) Tryz.func40 rfl rfl Tryz.ntmps40 (by kernel_rfl) rfl rfl (fun _ => rfl) trivial (fun x => .inl ⟨c_s_RunOf.start () x, fun _ => rfl⟩) (fun x hb => by
  obtain ⟨⟨f0_Risers, f0_Rise, f0_Tread⟩, _⟩ := x
  exact s_RunOf_e f0_Risers f0_Rise f0_Tread)
/-! impl.gcd -/
noncomputable def c_i_gcd : FnCx := { env := env 12 [] [], body := bodyOf Tryz.f83, res := [.tmp 4], ins := [.ro kint, .ro kint], out := [(kint, true)], T := Int, fin := fun r => r.1.1, inj := fun t => ((t, ()), ((), (), ())), pts := [([.inLoop [1, 0, 0, 0], .inBlock 0, .code [1, 1]], Shape.mk [] [(0, Ss.one (Cs.sc kint)), (1, Ss.one (Cs.sc kint))] [Ss.one (Cs.any), Ss.one (Cs.any)])], fuel := 400, dr := evDr (env 12 [] []) }
noncomputable def i_gcd_t1 (g1 : Int → Int → Option (Int)) (a0 : Int) (b1 : Int) : Option Int :=
  bif b1 != 0 then bif b1 == 0 then none else g1 b1 (Int.tmod a0 b1) else some a0
noncomputable def i_gcd_t0 (g1 : Int → Int → Option (Int)) (a0 : Int) (b1 : Int) : Option Int :=
  g1 a0 b1
theorem i_gcd_ts : Tails c_i_gcd.pts c_i_gcd.round :=
  ⟨fun s => by
    obtain ⟨_, ⟨a0, b1, _⟩, ⟨_, _, _⟩⟩ := s
    refine Tail.eq (Y := fun g => i_gcd_t1 (fun a0 b1 => g.1 ((), (a0, b1, ()), ((), (), ()))) a0 b1) ?_ (fun g => by kernel_rfl)
    simp only [i_gcd_t1]; repeat (first | exact Tail.const _ | exact Tail.here _ | exact Tail.there (Tail.here _) | exact Tail.there (Tail.there (Tail.here _)) | exact Tail.there (Tail.there (Tail.there (Tail.here _))) | exact Tail.there (Tail.there (Tail.there (Tail.there (Tail.here _)))) | exact Tail.there (Tail.there (Tail.there (Tail.there (Tail.there (Tail.here _))))) | apply Tail.cond | (apply Tail.bind; intro _)), trivial⟩
theorem i_gcd_hs : ∀ x, Tail c_i_gcd.pts (fun g => c_i_gcd.start g x) := fun x => by
    obtain ⟨a0, b1, _⟩ := x
    refine Tail.eq (Y := fun g => i_gcd_t0 (fun a0 b1 => g.1 ((), (a0, b1, ()), ((), (), ()))) a0 b1) ?_ (fun g => by kernel_rfl)
    simp only [i_gcd_t0]; repeat (first | exact Tail.const _ | exact Tail.here _ | exact Tail.there (Tail.here _) | exact Tail.there (Tail.there (Tail.here _)) | exact Tail.there (Tail.there (Tail.there (Tail.here _))) | exact Tail.there (Tail.there (Tail.there (Tail.there (Tail.here _)))) | exact Tail.there (Tail.there (Tail.there (Tail.there (Tail.there (Tail.here _))))) | apply Tail.cond | (apply Tail.bind; intro _))
noncomputable def i_gcd_L1 (a0 : Int) (b1 : Int) : Option Int := c_i_gcd.L.1 ((), (a0, b1, ()), ((), (), ()))
theorem i_gcd_u1 (a0 : Int) (b1 : Int) : i_gcd_L1 a0 b1 = i_gcd_t1 i_gcd_L1 a0 b1 :=
  (congrArg (fun g => g.1 ((), (a0, b1, ()), ((), (), ()))) (FnCx.L_eq i_gcd_ts)).trans (by kernel_rfl)
noncomputable def i_gcd (a0 : Int) (b1 : Int) : Option Int := i_gcd_t0 i_gcd_L1 a0 b1
theorem i_gcd_e (a0 : Int) (b1 : Int) : c_i_gcd.start c_i_gcd.L (a0, b1, ()) = i_gcd a0 b1 := by kernel_rfl
noncomputable def F_i_gcd : Ins c_i_gcd.ins → Option Int := fun x => i_gcd x.1 x.2.1
noncomputable def S_i_gcd : FSpec := mkF c_i_gcd.env.pre c_i_gcd.ins c_i_gcd.out c_i_gcd.inj F_i_gcd
theorem h_i_gcd : Cert Tryz.prog 83 S_i_gcd := FnCx.certF (c := c_i_gcd) F_i_gcd (tyOk _ _ _) (spOk trivial) (fun _ _ _ _ _ hs => evDr_ok (tyOk _ _ _) hs follows) Tryz.func83 rfl rfl Tryz.ntmps83 (by kernel_rfl) rfl rfl (fun _ => rfl) i_gcd_ts i_gcd_hs (fun x t hb ht => by
  obtain ⟨a0, b1, _⟩ := x
  exact (i_gcd_e a0 b1).trans ht)
/-! impl.part -/
noncomputable def c_i_part : FnCx := { env := env 19 [(83, S_i_gcd)] [], body := bodyOf Tryz.f98, res := [.tmp 4, .tmp 5, .tmp 6], ins := [.ro kint, .ro kint], out := [(kint, true), (kint, true), (kbool, true)], T := Int × Int × Bool, fin := fun r => (r.1.1, r.1.2.1, r.1.2.2.1), inj := fun t => ((t.1, t.2.1, t.2.2, ()), ((), (), ())), pts := [], fuel := 400, dr := evDr (env 19 [(83, S_i_gcd)] []) }
noncomputable def i_part (n0 : Int) (d1 : Int) : Option (Int × Int × Bool) :=
  bif decide (d1 ≤ 0) then some (0, 0, false)
  else
    Option.bind (i_gcd n0 d1) fun r =>
      bif r == 0 then none else bif r == 0 then none else some (IntKind.wrap IntKind.i64 (Int.tdiv n0 r), IntKind.wrap IntKind.i64 (Int.tdiv d1 r), true)
theorem i_part_e (n0 : Int) (d1 : Int) : c_i_part.start c_i_part.L (n0, d1, ()) = i_part n0 d1 := by kernel_rfl
noncomputable def F_i_part : Ins c_i_part.ins → Option (Int × Int × Bool) := fun x => i_part x.1 x.2.1
noncomputable def S_i_part : FSpec := mkF c_i_part.env.pre c_i_part.ins c_i_part.out c_i_part.inj F_i_part
theorem h_i_part : Cert Tryz.prog 98 S_i_part := FnCx.certF (c := c_i_part) F_i_part (tyOk _ _ _) (spOk ⟨h_i_gcd, fun _ _ h => h, trivial⟩) (fun _ _ _ _ _ hs => evDr_ok (tyOk _ _ _) hs follows) Tryz.func98 rfl rfl Tryz.ntmps98 (by kernel_rfl) rfl rfl (fun _ => rfl) trivial (fun x => .inl ⟨c_i_part.start () x, fun _ => rfl⟩) (fun x t hb ht => by
  obtain ⟨n0, d1, _⟩ := x
  exact (i_part_e n0 d1).trans ht)
/-! impl.SlopeOf -/
noncomputable def c_i_SlopeOf : FnCx := { env := env 16 [(49, S_i_IsFlight), (98, S_i_part)] [], body := bodyOf Tryz.f41, res := [.tmp 2, .tmp 3, .tmp 4], ins := [.ro kFlight], out := [(kint, true), (kint, true), (kbool, true)], T := Int × Int × Bool, fin := fun r => (r.1.1, r.1.2.1, r.1.2.2.1), inj := fun t => ((t.1, t.2.1, t.2.2, ()), ((), ())), pts := [], fuel := 400, dr := noDr }
noncomputable def i_SlopeOf (f0_Risers : Int) (f0_Rise : Int) (f0_Tread : Int) : Option (Int × Int × Bool) :=
  bif !i_IsFlight f0_Risers f0_Rise f0_Tread then some (0, 0, false)
  else Option.bind (i_part f0_Rise f0_Tread) fun r => some (Prod.fst r, Prod.fst (Prod.snd r), Prod.snd (Prod.snd r))
theorem i_SlopeOf_e (f0_Risers : Int) (f0_Rise : Int) (f0_Tread : Int) : c_i_SlopeOf.start c_i_SlopeOf.L ((f0_Risers, f0_Rise, f0_Tread), ()) = i_SlopeOf f0_Risers f0_Rise f0_Tread := by kernel_rfl
noncomputable def F_i_SlopeOf : Ins c_i_SlopeOf.ins → Option (Int × Int × Bool) := fun x => i_SlopeOf x.1.1 x.1.2.1 x.1.2.2
noncomputable def S_i_SlopeOf : FSpec := mkF c_i_SlopeOf.env.pre c_i_SlopeOf.ins c_i_SlopeOf.out c_i_SlopeOf.inj F_i_SlopeOf
theorem h_i_SlopeOf : Cert Tryz.prog 41 S_i_SlopeOf := FnCx.certF (c := c_i_SlopeOf) F_i_SlopeOf (tyOk _ _ _) (spOk ⟨h_i_IsFlight, fun _ _ h => h, ⟨h_i_part, fun _ _ h => h, trivial⟩⟩) (fun _ _ _ _ _ hs => noDr_ok) Tryz.func41 rfl rfl Tryz.ntmps41 (by kernel_rfl) rfl rfl (fun _ => rfl) trivial (fun x => .inl ⟨c_i_SlopeOf.start () x, fun _ => rfl⟩) (fun x t hb ht => by
  obtain ⟨⟨f0_Risers, f0_Rise, f0_Tread⟩, _⟩ := x
  exact (i_SlopeOf_e f0_Risers f0_Rise f0_Tread).trans ht)
/-! spec.moLow -/
noncomputable def c_s_moLow : FnCx := { env := env 22 [] [], body := bodyOf Tryz.f105, res := [.tmp 4, .tmp 5], ins := [.ro kint, .ro kint], out := [(kint, true), (kint, true)], T := Int × Int, fin := fun r => (r.1.1, r.1.2.1), inj := fun t => ((t.1, t.2, ()), ((), (), ())), pts := [([.inLoop [1, 1, 0, 0, 0], .inBlock 0, .code [1, 1, 1]], Shape.mk [] [(0, Ss.one (Cs.sc kint)), (1, Ss.one (Cs.sc kint)), (6, Ss.one (Cs.sc kint)), (7, Ss.one (Cs.sc kint))] [Ss.one (Cs.any), Ss.one (Cs.any)])], fuel := 400, dr := evDr (env 22 [] []) }
noncomputable def s_moLow_t1 (g1 : Int → Int → Int → Int → Option (Int × Int)) (num0 : Int) (den1 : Int) (a6 : Int) (b7 : Int) : Option (Int × Int) :=
  bif decide (b7 > 0) then bif b7 == 0 then none else g1 num0 den1 b7 (Int.tmod a6 b7)
  else bif a6 == 0 then none else bif a6 == 0 then none else some (IntKind.wrap IntKind.i64 (Int.tdiv num0 a6), IntKind.wrap IntKind.i64 (Int.tdiv den1 a6))
noncomputable def s_moLow_t0 (g1 : Int → Int → Int → Int → Option (Int × Int)) (num0 : Int) (den1 : Int) : Option (Int × Int) :=
  g1 num0 den1 num0 den1
theorem s_moLow_ts : Tails c_s_moLow.pts c_s_moLow.round :=
  ⟨fun s => by
    obtain ⟨_, ⟨num0, den1, a6, b7, _⟩, ⟨_, _, _⟩⟩ := s
    refine Tail.eq (Y := fun g => s_moLow_t1 (fun num0 den1 a6 b7 => g.1 ((), (num0, den1, a6, b7, ()), ((), (), ()))) num0 den1 a6 b7) ?_ (fun g => by kernel_rfl)
    simp only [s_moLow_t1]; repeat (first | exact Tail.const _ | exact Tail.here _ | exact Tail.there (Tail.here _) | exact Tail.there (Tail.there (Tail.here _)) | exact Tail.there (Tail.there (Tail.there (Tail.here _))) | exact Tail.there (Tail.there (Tail.there (Tail.there (Tail.here _)))) | exact Tail.there (Tail.there (Tail.there (Tail.there (Tail.there (Tail.here _))))) | apply Tail.cond | (apply Tail.bind; intro _)), trivial⟩
theorem s_moLow_hs : ∀ x, Tail c_s_moLow.pts (fun g => c_s_moLow.start g x) := fun x => by
    obtain ⟨num0, den1, _⟩ := x
    refine Tail.eq (Y := fun g => s_moLow_t0 (fun num0 den1 a6 b7 => g.1 ((), (num0, den1, a6, b7, ()), ((), (), ()))) num0 den1) ?_ (fun g => by kernel_rfl)
    simp only [s_moLow_t0]; repeat (first | exact Tail.const _ | exact Tail.here _ | exact Tail.there (Tail.here _) | exact Tail.there (Tail.there (Tail.here _)) | exact Tail.there (Tail.there (Tail.there (Tail.here _))) | exact Tail.there (Tail.there (Tail.there (Tail.there (Tail.here _)))) | exact Tail.there (Tail.there (Tail.there (Tail.there (Tail.there (Tail.here _))))) | apply Tail.cond | (apply Tail.bind; intro _))
noncomputable def s_moLow_L1 (num0 : Int) (den1 : Int) (a6 : Int) (b7 : Int) : Option (Int × Int) := c_s_moLow.L.1 ((), (num0, den1, a6, b7, ()), ((), (), ()))
theorem s_moLow_u1 (num0 : Int) (den1 : Int) (a6 : Int) (b7 : Int) : s_moLow_L1 num0 den1 a6 b7 = s_moLow_t1 s_moLow_L1 num0 den1 a6 b7 :=
  (congrArg (fun g => g.1 ((), (num0, den1, a6, b7, ()), ((), (), ()))) (FnCx.L_eq s_moLow_ts)).trans (by kernel_rfl)
noncomputable def s_moLow (num0 : Int) (den1 : Int) : Option (Int × Int) := s_moLow_t0 s_moLow_L1 num0 den1
theorem s_moLow_e (num0 : Int) (den1 : Int) : c_s_moLow.start c_s_moLow.L (num0, den1, ()) = s_moLow num0 den1 := by kernel_rfl
noncomputable def F_s_moLow : Ins c_s_moLow.ins → Option (Int × Int) := fun x => s_moLow x.1 x.2.1
noncomputable def S_s_moLow : FSpec := mkF c_s_moLow.env.pre c_s_moLow.ins c_s_moLow.out c_s_moLow.inj F_s_moLow
theorem h_s_moLow : Cert Tryz.prog 105 S_s_moLow := FnCx.certF (c := c_s_moLow) F_s_moLow (tyOk _ _ _) (spOk trivial) (fun _ _ _ _ _ hs => evDr_ok (tyOk _ _ _) hs follows) Tryz.func105 rfl rfl Tryz.ntmps105 (by kernel_rfl) rfl rfl (fun _ => rfl) s_moLow_ts s_moLow_hs (fun x t hb ht => by
  obtain ⟨num0, den1, _⟩ := x
  exact (s_moLow_e num0 den1).trans ht)
/-! spec.SlopeOf -/
noncomputable def c_s_SlopeOf : FnCx := { env := env 20 [(101, S_s_riGood), (105, S_s_moLow)] [], body := bodyOf Tryz.f42, res := [.tmp 2, .tmp 3, .tmp 4], ins := [.ro kFlight], out := [(kint, true), (kint, true), (kbool, true)], T := Int × Int × Bool, fin := fun r => (r.1.1, r.1.2.1, r.1.2.2.1), inj := fun t => ((t.1, t.2.1, t.2.2, ()), ((), ())), pts := [], fuel := 400, dr := noDr }
noncomputable def s_SlopeOf (f0_Risers : Int) (f0_Rise : Int) (f0_Tread : Int) : Option (Int × Int × Bool) :=
  bif !s_riGood f0_Risers f0_Rise f0_Tread then some (0, 0, false) else Option.bind (s_moLow f0_Rise f0_Tread) fun r => some (Prod.fst r, Prod.snd r, true)
theorem s_SlopeOf_e (f0_Risers : Int) (f0_Rise : Int) (f0_Tread : Int) : c_s_SlopeOf.start c_s_SlopeOf.L ((f0_Risers, f0_Rise, f0_Tread), ()) = s_SlopeOf f0_Risers f0_Rise f0_Tread := by kernel_rfl
noncomputable def F_s_SlopeOf : Ins c_s_SlopeOf.ins → Option (Int × Int × Bool) := fun x => s_SlopeOf x.1.1 x.1.2.1 x.1.2.2
noncomputable def S_s_SlopeOf : FSpec := mkF c_s_SlopeOf.env.pre c_s_SlopeOf.ins c_s_SlopeOf.out c_s_SlopeOf.inj F_s_SlopeOf
theorem h_s_SlopeOf : Cert Tryz.prog 42 S_s_SlopeOf := FnCx.certF (c := c_s_SlopeOf) F_s_SlopeOf (tyOk _ _ _) (spOk ⟨h_s_riGood, fun _ _ h => h, ⟨h_s_moLow, fun _ _ h => h, trivial⟩⟩) (fun _ _ _ _ _ hs => noDr_ok) Tryz.func42 rfl rfl Tryz.ntmps42 (by kernel_rfl) rfl rfl (fun _ => rfl) trivial (fun x => .inl ⟨c_s_SlopeOf.start () x, fun _ => rfl⟩) (fun x t hb ht => by
  obtain ⟨⟨f0_Risers, f0_Rise, f0_Tread⟩, _⟩ := x
  exact (s_SlopeOf_e f0_Risers f0_Rise f0_Tread).trans ht)
/-! impl.PaceSum -/
noncomputable def c_i_PaceSum : FnCx := { env := env 13 [(49, S_i_IsFlight)] [], body := bodyOf Tryz.f43, res := [.tmp 2, .tmp 3], ins := [.ro kFlight], out := [(kint, true), (kbool, true)], T := Int × Bool, fin := fun r => (r.1.1, r.1.2.1), inj := fun t => ((t.1, t.2, ()), ((), ())), pts := [], fuel := 400, dr := noDr }
noncomputable def i_PaceSum (f0_Risers : Int) (f0_Rise : Int) (f0_Tread : Int) : (Int × Bool) :=
  bif !i_IsFlight f0_Risers f0_Rise f0_Tread then (0, false) else (IntKind.wrap IntKind.i64 (IntKind.wrap IntKind.i64 (2 * f0_Rise) + f0_Tread), true)
theorem i_PaceSum_e (f0_Risers : Int) (f0_Rise : Int) (f0_Tread : Int) : c_i_PaceSum.start c_i_PaceSum.L ((f0_Risers, f0_Rise, f0_Tread), ()) = some (i_PaceSum f0_Risers f0_Rise f0_Tread) := by
  refine Eq.trans (b := (bif !i_IsFlight f0_Risers f0_Rise f0_Tread then some (0, false) else some (IntKind.wrap IntKind.i64 (IntKind.wrap IntKind.i64 (2 * f0_Rise) + f0_Tread), true) : Option (Int × Bool))) (by kernel_rfl) ?_
  unfold i_PaceSum
  repeat (first | rfl | apply condS)
noncomputable def F_i_PaceSum : Ins c_i_PaceSum.ins → (Int × Bool) := fun x => i_PaceSum x.1.1 x.1.2.1 x.1.2.2
noncomputable def S_i_PaceSum : FSpec := mkT c_i_PaceSum.env.pre c_i_PaceSum.ins c_i_PaceSum.out c_i_PaceSum.inj F_i_PaceSum
theorem h_i_PaceSum : Cert Tryz.prog 43 S_i_PaceSum := FnCx.certT (c := c_i_PaceSum) F_i_PaceSum (tyOk _ _ _) (spOk ⟨h_i_IsFlight, fun _ _ h => h, trivial⟩) (fun _ _ _ _ _ hs => noDr_ok) Tryz.func43 rfl rfl Tryz.ntmps43 (by kernel_rfl) rfl rfl (fun _ => rfl) trivial (fun x => .inl ⟨c_i_PaceSum.start () x, fun _ => rfl⟩) (fun x hb => by
  obtain ⟨⟨f0_Risers, f0_Rise, f0_Tread⟩, _⟩ := x
  exact i_PaceSum_e f0_Risers f0_Rise f0_Tread)
/-! spec.PaceSum -/
noncomputable def c_s_PaceSum : FnCx := { env := env 13 [(101, S_s_riGood)] [], body := bodyOf Tryz.f44, res := [.tmp 2, .tmp 3], ins := [.ro kFlight], out := [(kint, true), (kbool, true)], T := Int × Bool, fin := fun r => (r.1.1, r.1.2.1), inj := fun t => ((t.1, t.2, ()), ((), ())), pts := [], fuel := 400, dr := noDr }
noncomputable def s_PaceSum (f0_Risers : Int) (f0_Rise : Int) (f0_Tread : Int) : (Int × Bool) :=
  bif !s_riGood f0_Risers f0_Rise f0_Tread then (0, false) else (IntKind.wrap IntKind.i64 (IntKind.wrap IntKind.i64 (2 * f0_Rise) + f0_Tread), true)
theorem s_PaceSum_e (f0_Risers : Int) (f0_Rise : Int) (f0_Tread : Int) : c_s_PaceSum.start c_s_PaceSum.L ((f0_Risers, f0_Rise, f0_Tread), ()) = some (s_PaceSum f0_Risers f0_Rise f0_Tread) := by
  refine Eq.trans (b := (bif !s_riGood f0_Risers f0_Rise f0_Tread then some (0, false) else some (IntKind.wrap IntKind.i64 (IntKind.wrap IntKind.i64 (2 * f0_Rise) + f0_Tread), true) : Option (Int × Bool))) (by kernel_rfl) ?_
  unfold s_PaceSum
  repeat (first | rfl | apply condS)
noncomputable def F_s_PaceSum : Ins c_s_PaceSum.ins → (Int × Bool) := fun x => s_PaceSum x.1.1 x.1.2.1 x.1.2.2
noncomputable def S_s_PaceSum : FSpec := mkT c_s_PaceSum.env.pre c_s_PaceSum.ins c_s_PaceSum.out c_s_PaceSum.inj F_s_PaceSum
theorem h_s_PaceSum : Cert Tryz.prog 44 S_s_PaceSum := FnCx.certT (c := c_s_PaceSum) F_s_PaceSum (tyOk _ _ _) (spOk ⟨h_s_riGood, fun _ _ h => h, trivial⟩) (fun _ _ _ _ _ hs => noDr_ok) Tryz.func44 rfl rfl Tryz.ntmps44 (by kernel_rfl) rfl rfl (fun _ => rfl) trivial (fun x => .inl ⟨c_s_PaceSum.start () x, fun _ => rfl⟩) (fun x hb => by
  obtain ⟨⟨f0_Risers, f0_Rise, f0_Tread⟩, _⟩ := x
  exact s_PaceSum_e f0_Risers f0_Rise f0_Tread)
/-! spec.LineSquare -/
noncomputable def c_s_LineSquare : FnCx := { env := env 9 [(101, S_s_riGood), (102, S_s_riSquare)] [], body := bodyOf Tryz.f46, res := [.tmp 2, .tmp 3], ins := [.ro kFlight], out := [(kint, true), (kbool, true)], T := Int × Bool, fin := fun r => (r.1.1, r.1.2.1), inj := fun t => ((t.1, t.2, ()), ((), ())), pts := [], fuel := 400, dr := noDr }
noncomputable def s_LineSquare (f0_Risers : Int) (f0_Rise : Int) (f0_Tread : Int) : (Int × Bool) :=
  bif !s_riGood f0_Risers f0_Rise f0_Tread then (0, false) else (s_riSquare f0_Risers f0_Rise f0_Tread, true)
theorem s_LineSquare_e (f0_Risers : Int) (f0_Rise : Int) (f0_Tread : Int) : c_s_LineSquare.start c_s_LineSquare.L ((f0_Risers, f0_Rise, f0_Tread), ()) = some (s_LineSquare f0_Risers f0_Rise f0_Tread) := by
  refine Eq.trans (b := (bif !s_riGood f0_Risers f0_Rise f0_Tread then some (0, false) else some (s_riSquare f0_Risers f0_Rise f0_Tread, true) : Option (Int × Bool))) (by kernel_rfl) ?_
  unfold s_LineSquare
  repeat (first | rfl | apply condS)
noncomputable def F_s_LineSquare : Ins c_s_LineSquare.ins → (Int × Bool) := fun x => s_LineSquare x.1.1 x.1.2.1 x.1.2.2
noncomputable def S_s_LineSquare : FSpec := mkT c_s_LineSquare.env.pre c_s_LineSquare.ins c_s_LineSquare.out c_s_LineSquare.inj F_s_LineSquare
theorem h_s_LineSquare : Cert Tryz.prog 46 S_s_LineSquare := FnCx.certT (c := c_s_LineSquare) F_s_LineSquare (tyOk _ _ _) (spOk ⟨h_s_riGood, fun _ _ h => h, ⟨h_s_riSquare, fun _ _ h => h, trivial⟩⟩) (fun _ _ _ _ _ hs => noDr_ok) Tryz.func46 rfl rfl Tryz.ntmps46 (by kernel_rfl) rfl rfl (fun _ => rfl) trivial (fun x => .inl ⟨c_s_LineSquare.start () x, fun _ => rfl⟩) (fun x hb => by
  obtain ⟨⟨f0_Risers, f0_Rise, f0_Tread⟩, _⟩ := x
  exact s_LineSquare_e f0_Risers f0_Rise f0_Tread)
/-! strconv.Itoa -/
noncomputable def strconv_Itoa (n : Int) : Option ByteArray := itoaF n
noncomputable def F_strconv_Itoa : Ins [.ro kint] → Option ByteArray := fun x => strconv_Itoa x.1
noncomputable def S_strconv_Itoa : FSpec := mkF (T := ByteArray) textPre [.ro kint] [(.str, true)] (fun t => ((t, ()), ((), ()))) F_strconv_Itoa
theorem h_strconv_Itoa : Cert Tryz.prog 91 S_strconv_Itoa := itoa_cert litoa rfl ⟨_, Tryz.func91, rfl, by kernel_rfl⟩ (by simp [textL])
/-! impl.FlightText -/
noncomputable def c_i_FlightText : FnCx := { env := env 20 [(49, S_i_IsFlight), (91, S_strconv_Itoa)] [], body := bodyOf Tryz.f47, res := [.tmp 2, .tmp 3], ins := [.ro kFlight], out := [(kstring, true), (kbool, true)], T := ByteArray × Bool, fin := fun r => (r.1.1, r.1.2.1), inj := fun t => ((t.1, t.2, ()), ((), ())), pts := [], fuel := 400, dr := evDr (env 20 [(49, S_i_IsFlight), (91, S_strconv_Itoa)] []) }
noncomputable def i_FlightText (f0_Risers : Int) (f0_Rise : Int) (f0_Tread : Int) : Option (ByteArray × Bool) :=
  bif !i_IsFlight f0_Risers f0_Rise f0_Tread then some ({ data := #[] }, false)
  else
    Option.bind (strconv_Itoa f0_Risers) fun r =>
      bif Nat.ble (ByteArray.size r + ByteArray.size { data := #[114] }) 9223372036854775807 then
        Option.bind (strconv_Itoa f0_Rise) fun r_1 =>
          bif Nat.ble (ByteArray.size (r ++ { data := #[114] }) + ByteArray.size r_1) 9223372036854775807 then
            bif Nat.ble (ByteArray.size (r ++ { data := #[114] } ++ r_1) + ByteArray.size { data := #[116] }) 9223372036854775807 then
              Option.bind (strconv_Itoa f0_Tread) fun r_2 =>
                bif Nat.ble (ByteArray.size (r ++ { data := #[114] } ++ r_1 ++ { data := #[116] }) + ByteArray.size r_2) 9223372036854775807 then
                  some (r ++ { data := #[114] } ++ r_1 ++ { data := #[116] } ++ r_2, true)
                else none
            else none
          else none
      else none
theorem i_FlightText_e (f0_Risers : Int) (f0_Rise : Int) (f0_Tread : Int) : c_i_FlightText.start c_i_FlightText.L ((f0_Risers, f0_Rise, f0_Tread), ()) = i_FlightText f0_Risers f0_Rise f0_Tread := by kernel_rfl
noncomputable def F_i_FlightText : Ins c_i_FlightText.ins → Option (ByteArray × Bool) := fun x => i_FlightText x.1.1 x.1.2.1 x.1.2.2
noncomputable def S_i_FlightText : FSpec := mkF c_i_FlightText.env.pre c_i_FlightText.ins c_i_FlightText.out c_i_FlightText.inj F_i_FlightText
theorem h_i_FlightText : Cert Tryz.prog 47 S_i_FlightText := FnCx.certF (c := c_i_FlightText) F_i_FlightText (tyOk _ _ _) (spOk ⟨h_i_IsFlight, fun _ _ h => h, ⟨h_strconv_Itoa, fun _ _ h => h, trivial⟩⟩) (fun _ _ _ _ _ hs => evDr_ok (tyOk _ _ _) hs follows) Tryz.func47 rfl rfl Tryz.ntmps47 (by kernel_rfl) rfl rfl (fun _ => rfl) trivial (fun x => .inl ⟨c_i_FlightText.start () x, fun _ => rfl⟩) (fun x t hb ht => by
  obtain ⟨⟨f0_Risers, f0_Rise, f0_Tread⟩, _⟩ := x
  exact (i_FlightText_e f0_Risers f0_Rise f0_Tread).trans ht)
/-! spec.l1Num -/
noncomputable def SR_s_l1Num (RR : Int → Option (ByteArray)) : FSpec := mkF (T := ByteArray) textPre [.ro kint] [(kstring, true)] (fun t => ((t, ()), ((), ()))) (fun x => RR x.1)
noncomputable def c_s_l1Num (RR : Int → Option (ByteArray)) : FnCx := { env := env 20 [(117, SR_s_l1Num RR)] [], body := bodyOf Tryz.f117, res := [.tmp 2], ins := [.ro kint], out := [(kstring, true)], T := ByteArray, fin := fun r => r.1.1, inj := fun t => ((t, ()), ((), ())), pts := [], fuel := 400, dr := evDr (env 20 [(117, SR_s_l1Num RR)] []) }
noncomputable def s_l1Num (RR : Int → Option (ByteArray)) (n0 : Int) : Option ByteArray :=
  bif decide (n0 < 10) then
    some (List.foldl (fun r n => ByteArray.push r (UInt8.ofNat (Int.toNat n))) ByteArray.empty [IntKind.wrap IntKind.u8 (IntKind.wrap IntKind.i64 (48 + n0))])
  else
    Option.bind (RR (IntKind.wrap IntKind.i64 (Int.tdiv n0 10))) fun r =>
      bif
          Nat.ble
            (ByteArray.size r +
              ByteArray.size
                (List.foldl (fun r n => ByteArray.push r (UInt8.ofNat (Int.toNat n))) ByteArray.empty
                  [IntKind.wrap IntKind.u8 (IntKind.wrap IntKind.i64 (48 + Int.tmod n0 10))]))
            9223372036854775807 then
        some
          (r ++
            List.foldl (fun r n => ByteArray.push r (UInt8.ofNat (Int.toNat n))) ByteArray.empty
              [IntKind.wrap IntKind.u8 (IntKind.wrap IntKind.i64 (48 + Int.tmod n0 10))])
      else none
theorem s_l1Num_e (RR : Int → Option (ByteArray)) (n0 : Int) : (c_s_l1Num RR).start (c_s_l1Num RR).L (n0, ()) = (s_l1Num RR) n0 := by kernel_rfl
noncomputable def s_l1Num_it : Nat → Int → Option (ByteArray) := fun n => Nat.rec (fun _ => none) (fun _ RR => s_l1Num RR) n
theorem s_l1Num_is (n : Nat) (n0 : Int) : s_l1Num_it (n + 1) n0 = s_l1Num (s_l1Num_it n) n0 := rfl
theorem hh_s_l1Num : ∀ n, Cert Tryz.prog 117 (SR_s_l1Num (s_l1Num_it n))
  | 0 => cert_none Tryz.func117 rfl (by kernel_rfl) rfl rfl
  | n + 1 => FnCx.certF (c := c_s_l1Num (s_l1Num_it n)) (fun x => s_l1Num_it (n + 1) x.1) (tyOk _ _ _) (spOk ⟨hh_s_l1Num n, fun _ _ h => h, trivial⟩) (fun _ _ _ _ _ hs => evDr_ok (tyOk _ _ _) hs follows) Tryz.func117 rfl rfl Tryz.ntmps117 (by kernel_rfl) rfl rfl (fun _ => rfl) trivial (fun x => .inl ⟨(c_s_l1Num (s_l1Num_it n)).start () x, fun _ => rfl⟩) (fun x t hb ht => by
    obtain ⟨n0, _⟩ := x
    exact (s_l1Num_e (s_l1Num_it n) n0).trans ht)
-- NICE rec
theorem wrapU8 {n : Int} (h1 : 0 ≤ n) (h2 : n ≤ 255) : IntKind.wrap .u8 n = n := by
  unfold IntKind.wrap
  simp [IntKind.signed, IntKind.bits]
  omega
theorem bytes_app (a b : List UInt8) : (⟨a.toArray⟩ : ByteArray) ++ ⟨b.toArray⟩ = ⟨(a ++ b).toArray⟩ := ByteArray.ext (by rw [ByteArray.data_append]; simp)
theorem dec_len : ∀ u : Nat, (Lib.decDigits u).length ≤ u + 1 := by
  intro u
  induction u using Nat.strongRecOn with
  | ind u ih =>
    rw [Lib.decDigits]
    by_cases h : u < 10
    · rw [dif_pos h]; simp
    · rw [dif_neg h]
      have := ih (u / 10) (by omega)
      rw [List.length_append, List.length_singleton]; omega
theorem itoa_nat (n : Nat) : Lib.itoa (n : Int) = Lib.decDigits n := by
  unfold Lib.itoa
  rw [if_neg (by omega), Int.toNat_natCast]
theorem digit_eq {m : Nat} (h : m < 10) : List.foldl (fun r n => ByteArray.push r (UInt8.ofNat (Int.toNat n))) ByteArray.empty [IntKind.wrap .u8 (IntKind.wrap .i64 (48 + (m : Int)))] = ⟨([UInt8.ofNat (48 + m)] : List UInt8).toArray⟩ := by
  rw [wrapI (n := 48 + (m : Int)) (by omega) (by omega), wrapU8 (by omega) (by omega), show (48 + (m : Int)) = ((48 + m : Nat) : Int) by omega]
  simp only [List.foldl_cons, List.foldl_nil, Int.toNat_natCast]
  rfl
theorem num_it : ∀ (k n : Nat), n < k → n ≤ 4000000000000000000 → s_l1Num_it k (n : Int) = some ⟨(Lib.decDigits n).toArray⟩
  | 0, n, h, _ => by omega
  | k + 1, n, h, hn => by
    rw [s_l1Num_is, s_l1Num]
    by_cases h10 : n < 10
    · rw [decide_eq_true (show (n : Int) < 10 by omega), cond_true, digit_eq h10, Lib.decDigits, dif_pos h10]
    · have hm : Int.tmod (n : Int) 10 = ((n % 10 : Nat) : Int) := by rw [Int.tmod_eq_emod_of_nonneg (by omega)]; rfl
      have hd : Int.tdiv (n : Int) 10 = ((n / 10 : Nat) : Int) := by rw [Int.tdiv_eq_ediv_of_nonneg (by omega)]; rfl
      have ih := num_it k (n / 10) (by omega) (by omega)
      have hl := dec_len (n / 10)
      rw [decide_eq_false (show ¬ (n : Int) < 10 by omega), cond_false, hd, hm, wrapI (n := ((n / 10 : Nat) : Int)) (by omega) (by omega), ih, Option.bind_some, digit_eq (Nat.mod_lt n (by omega)), ble_dec, decide_eq_true, cond_true, bytes_app, Lib.decDigits.eq_def n, dif_neg h10]
      show (Lib.decDigits (n / 10)).toArray.size + 1 ≤ _
      simp; omega
noncomputable def s_l1Num_n (n : Int) : Option ByteArray := bif decide (0 ≤ n) && decide (n ≤ 4000000000000000000) then some ⟨(Lib.itoa n).toArray⟩ else none
theorem s_l1Num_ok (n : Int) (t : ByteArray) (h : s_l1Num_n n = some t) : ∃ k, s_l1Num_it k n = some t := by
  unfold s_l1Num_n at h
  cases hc : decide (0 ≤ n) && decide (n ≤ 4000000000000000000)
  · rw [hc] at h; cases h
  · rw [hc, cond_true] at h
    cases h
    rw [Bool.and_eq_true, decide_eq_true_eq, decide_eq_true_eq] at hc
    obtain ⟨m, rfl⟩ := Int.eq_ofNat_of_zero_le hc.1
    exact ⟨m + 1, by rw [num_it (m + 1) m (by omega) (by omega), itoa_nat]⟩
noncomputable def F_s_l1Num : Ins [.ro kint] → Option ByteArray := fun x => s_l1Num_n x.1
noncomputable def S_s_l1Num : FSpec := mkF (T := ByteArray) textPre [.ro kint] [(kstring, true)] (fun t => ((t, ()), ((), ()))) F_s_l1Num
theorem h_s_l1Num : Cert Tryz.prog 117 S_s_l1Num := cert_lim hh_s_l1Num (fun x t hb ht => by
  obtain ⟨n0, _⟩ := x
  exact s_l1Num_ok n0 t ht)
/-! spec.riText -/
noncomputable def c_s_riText : FnCx := { env := env 16 [(117, S_s_l1Num)] [], body := bodyOf Tryz.f106, res := [.tmp 2], ins := [.ro kFlight], out := [(kstring, true)], T := ByteArray, fin := fun r => r.1.1, inj := fun t => ((t, ()), ((), ())), pts := [], fuel := 400, dr := evDr (env 16 [(117, S_s_l1Num)] []) }
noncomputable def s_riText (f0_Risers : Int) (f0_Rise : Int) (f0_Tread : Int) : Option ByteArray :=
  Option.bind (s_l1Num_n f0_Risers) fun r =>
    bif Nat.ble (ByteArray.size r + ByteArray.size { data := #[114] }) 9223372036854775807 then
      Option.bind (s_l1Num_n f0_Rise) fun r_1 =>
        bif Nat.ble (ByteArray.size (r ++ { data := #[114] }) + ByteArray.size r_1) 9223372036854775807 then
          bif Nat.ble (ByteArray.size (r ++ { data := #[114] } ++ r_1) + ByteArray.size { data := #[116] }) 9223372036854775807 then
            Option.bind (s_l1Num_n f0_Tread) fun r_2 =>
              bif Nat.ble (ByteArray.size (r ++ { data := #[114] } ++ r_1 ++ { data := #[116] }) + ByteArray.size r_2) 9223372036854775807 then
                some (r ++ { data := #[114] } ++ r_1 ++ { data := #[116] } ++ r_2)
              else none
          else none
        else none
    else none
theorem s_riText_e (f0_Risers : Int) (f0_Rise : Int) (f0_Tread : Int) : c_s_riText.start c_s_riText.L ((f0_Risers, f0_Rise, f0_Tread), ()) = s_riText f0_Risers f0_Rise f0_Tread := by kernel_rfl
noncomputable def F_s_riText : Ins c_s_riText.ins → Option ByteArray := fun x => s_riText x.1.1 x.1.2.1 x.1.2.2
noncomputable def S_s_riText : FSpec := mkF c_s_riText.env.pre c_s_riText.ins c_s_riText.out c_s_riText.inj F_s_riText
theorem h_s_riText : Cert Tryz.prog 106 S_s_riText := FnCx.certF (c := c_s_riText) F_s_riText (tyOk _ _ _) (spOk ⟨h_s_l1Num, fun _ _ h => h, trivial⟩) (fun _ _ _ _ _ hs => evDr_ok (tyOk _ _ _) hs follows) Tryz.func106 rfl rfl Tryz.ntmps106 (by kernel_rfl) rfl rfl (fun _ => rfl) trivial (fun x => .inl ⟨c_s_riText.start () x, fun _ => rfl⟩) (fun x t hb ht => by
  obtain ⟨⟨f0_Risers, f0_Rise, f0_Tread⟩, _⟩ := x
  exact (s_riText_e f0_Risers f0_Rise f0_Tread).trans ht)
/-! spec.FlightText -/
noncomputable def c_s_FlightText : FnCx := { env := env 9 [(101, S_s_riGood), (106, S_s_riText)] [], body := bodyOf Tryz.f48, res := [.tmp 2, .tmp 3], ins := [.ro kFlight], out := [(kstring, true), (kbool, true)], T := ByteArray × Bool, fin := fun r => (r.1.1, r.1.2.1), inj := fun t => ((t.1, t.2, ()), ((), ())), pts := [], fuel := 400, dr := noDr }
noncomputable def s_FlightText (f0_Risers : Int) (f0_Rise : Int) (f0_Tread : Int) : Option (ByteArray × Bool) :=
  bif !s_riGood f0_Risers f0_Rise f0_Tread then some ({ data := #[] }, false) else Option.bind (s_riText f0_Risers f0_Rise f0_Tread) fun r => some (r, true)
theorem s_FlightText_e (f0_Risers : Int) (f0_Rise : Int) (f0_Tread : Int) : c_s_FlightText.start c_s_FlightText.L ((f0_Risers, f0_Rise, f0_Tread), ()) = s_FlightText f0_Risers f0_Rise f0_Tread := by kernel_rfl
noncomputable def F_s_FlightText : Ins c_s_FlightText.ins → Option (ByteArray × Bool) := fun x => s_FlightText x.1.1 x.1.2.1 x.1.2.2
noncomputable def S_s_FlightText : FSpec := mkF c_s_FlightText.env.pre c_s_FlightText.ins c_s_FlightText.out c_s_FlightText.inj F_s_FlightText
theorem h_s_FlightText : Cert Tryz.prog 48 S_s_FlightText := FnCx.certF (c := c_s_FlightText) F_s_FlightText (tyOk _ _ _) (spOk ⟨h_s_riGood, fun _ _ h => h, ⟨h_s_riText, fun _ _ h => h, trivial⟩⟩) (fun _ _ _ _ _ hs => noDr_ok) Tryz.func48 rfl rfl Tryz.ntmps48 (by kernel_rfl) rfl rfl (fun _ => rfl) trivial (fun x => .inl ⟨c_s_FlightText.start () x, fun _ => rfl⟩) (fun x t hb ht => by
  obtain ⟨⟨f0_Risers, f0_Rise, f0_Tread⟩, _⟩ := x
  exact (s_FlightText_e f0_Risers f0_Rise f0_Tread).trans ht)
/-! strings.Cut -/
noncomputable def strings_Cut (s sep : ByteArray) : Option (ByteArray × ByteArray × Bool) := cutF s sep
noncomputable def F_strings_Cut : Ins [.ro kstring, .ro kstring] → Option (ByteArray × ByteArray × Bool) := fun x => strings_Cut x.1 x.2.1
noncomputable def S_strings_Cut : FSpec := mkF (T := ByteArray × ByteArray × Bool) textPre [.ro kstring, .ro kstring] [(.str, true), (.str, true), (.bool, true)] (fun t => ((t.1, t.2.1, t.2.2, ()), ((), (), ()))) F_strings_Cut
theorem h_strings_Cut : Cert Tryz.prog 95 S_strings_Cut := cut_cert (show Lays.n145 Tryz.prog lcut_ren from { lcut with }) rfl ⟨_, Tryz.func95, rfl, by kernel_rfl⟩ (by simp [textL]) (by kernel_rfl)
/-! strconv.Atoi -/
noncomputable def strconv_Atoi (s : ByteArray) : Option (Int × Bool) := atoiF s
noncomputable def F_strconv_Atoi : Ins [.ro kstring] → Option (Int × Bool) := fun x => strconv_Atoi x.1
noncomputable def S_strconv_Atoi : FSpec := mkF (T := Int × Bool) textPre [.ro kstring] [(.int .i64, true), (.err, true)] (fun t => ((t.1, t.2, ()), ((), ()))) F_strconv_Atoi
theorem h_strconv_Atoi : Cert Tryz.prog 119 S_strconv_Atoi := atoi_cert rfl latoi rfl ⟨_, Tryz.func119, rfl, by kernel_rfl⟩ (by simp [textL]) (by kernel_rfl) (by simp [textL]) (by kernel_rfl)
/-! impl.num -/
noncomputable def c_i_num : FnCx := { env := env 27 [(119, S_strconv_Atoi), (91, S_strconv_Itoa)] [], body := bodyOf Tryz.f96, res := [.tmp 2], ins := [.ro kstring], out := [(kint, true)], T := Int, fin := fun r => r.1.1, inj := fun t => ((t, ()), ((), ())), pts := [], fuel := 400, dr := noDr }
noncomputable def i_num (s0 : ByteArray) : Option Int :=
  Option.bind (strconv_Atoi s0) fun r =>
    bif !Prod.snd r then some (-1)
    else
      bif decide (Prod.fst r < 0) then some (-1)
      else
        bif decide (Prod.fst r > 999999) then some (-1)
        else Option.bind (strconv_Itoa (Prod.fst r)) fun r_1 => bif !ByteArray.toList r_1 == ByteArray.toList s0 then some (-1) else some (Prod.fst r)
theorem i_num_e (s0 : ByteArray) : c_i_num.start c_i_num.L (s0, ()) = i_num s0 := by kernel_rfl
noncomputable def F_i_num : Ins c_i_num.ins → Option Int := fun x => i_num x.1
noncomputable def S_i_num : FSpec := mkF c_i_num.env.pre c_i_num.ins c_i_num.out c_i_num.inj F_i_num
theorem h_i_num : Cert Tryz.prog 96 S_i_num := FnCx.certF (c := c_i_num) F_i_num (tyOk _ _ _) (spOk ⟨h_strconv_Atoi, fun _ _ h => h, ⟨h_strconv_Itoa, fun _ _ h => h, trivial⟩⟩) (fun _ _ _ _ _ hs => noDr_ok) Tryz.func96 rfl rfl Tryz.ntmps96 (by kernel_rfl) rfl rfl (fun _ => rfl) trivial (fun x => .inl ⟨c_i_num.start () x, fun _ => rfl⟩) (fun x t hb ht => by
  obtain ⟨s0, _⟩ := x
  exact (i_num_e s0).trans ht)
/-! impl.ParseFlight -/
noncomputable def c_i_ParseFlight : FnCx := { env := env 35 [(95, S_strings_Cut), (96, S_i_num), (49, S_i_IsFlight)] [], body := bodyOf Tryz.f51, res := [.cell 2 52, .tmp 3], ins := [.ro kstring], out := [(kFlight, true), (kbool, true)], T := (Int × Int × Int) × Bool, fin := fun r => (r.1.1, r.1.2.1), inj := fun t => ((t.1, t.2, ()), ((), ())), pts := [], fuel := 400, dr := noDr }
noncomputable def i_ParseFlight (s0 : ByteArray) : Option ((Int × Int × Int) × Bool) :=
  Option.bind (strings_Cut s0 { data := #[114] }) fun r =>
    Option.bind (strings_Cut (Prod.fst (Prod.snd r)) { data := #[116] }) fun r_1 =>
      Option.bind (i_num (Prod.fst r)) fun r =>
        Option.bind (i_num (Prod.fst r_1)) fun r_2 =>
          Option.bind (i_num (Prod.fst (Prod.snd r_1))) fun r_3 => bif !i_IsFlight r r_2 r_3 then some ((0, 0, 0), false) else some ((r, r_2, r_3), true)
theorem i_ParseFlight_e (s0 : ByteArray) : c_i_ParseFlight.start c_i_ParseFlight.L (s0, ()) = i_ParseFlight s0 := by kernel_rfl
noncomputable def F_i_ParseFlight : Ins c_i_ParseFlight.ins → Option ((Int × Int × Int) × Bool) := fun x => i_ParseFlight x.1
noncomputable def S_i_ParseFlight : FSpec := mkF c_i_ParseFlight.env.pre c_i_ParseFlight.ins c_i_ParseFlight.out c_i_ParseFlight.inj F_i_ParseFlight
theorem h_i_ParseFlight : Cert Tryz.prog 51 S_i_ParseFlight := FnCx.certF (c := c_i_ParseFlight) F_i_ParseFlight (tyOk _ _ _) (spOk ⟨h_strings_Cut, fun _ _ h => h, ⟨h_i_num, fun _ _ h => h, ⟨h_i_IsFlight, fun _ _ h => h, trivial⟩⟩⟩) (fun _ _ _ _ _ hs => noDr_ok) Tryz.func51 rfl rfl Tryz.ntmps51 (by kernel_rfl) rfl rfl (fun _ => rfl) trivial (fun x => .inl ⟨c_i_ParseFlight.start () x, fun _ => rfl⟩) (fun x t hb ht => by
  obtain ⟨s0, _⟩ := x
  exact (i_ParseFlight_e s0).trans ht)
/-! spec.l1Split -/
noncomputable def c_s_l1Split : FnCx := { env := env 34 [] [], body := bodyOf Tryz.f120, res := [.tmp 4], ins := [.ro kstring, .ro kuint8], out := [(kSstring, true)], T := List ByteArray, fin := fun r => r.1.1, inj := fun t => ((t, ()), ((), (), ())), pts := [([.inLoop [1, 1, 1, 0, 1, 0, 0], .inBlock 0, .code [1, 1, 1, 1]], Shape.mk [Bs.row kstring 9 true] [(0, Ss.one (Cs.sc kstring)), (1, Ss.one (Cs.sc kuint8)), (5, Ss.one (Cs.sl 0)), (6, Ss.one (Cs.sc kint)), (7, Ss.one (Cs.sc kint))] [Ss.one (Cs.any), Ss.one (Cs.any)])], fuel := 400, dr := noDr }
noncomputable def s_l1Split_t1 (g1 : List (ByteArray) → ByteArray → Int → Int → Int → Option (List ByteArray)) (r0 : List (ByteArray)) (s0 : ByteArray) (b1 : Int) (from6 : Int) (i7 : Int) : Option (List ByteArray) :=
  bif decide (i7 < (↑(ByteArray.size s0) : Int)) then
    bif decide (0 ≤ i7) then
      bif decide (i7 < (↑(ByteArray.size s0) : Int)) then
        bif bt s0 i7 == b1 then
          bif decide (0 ≤ i7) then
            bif decide (i7 ≤ (↑(ByteArray.size s0) : Int)) then
              bif decide (0 ≤ from6) then
                bif decide (from6 ≤ i7) then
                  bif Nat.ble (List.length r0 + 1) 4294967296 then
                    g1 (r0 ++ [ByteArray.extract s0 (Int.toNat from6) (Int.toNat i7)]) s0 b1 (IntKind.wrap IntKind.i64 (i7 + 1))
                      (IntKind.wrap IntKind.i64 (i7 + 1))
                  else none
                else none
              else none
            else none
          else none
        else g1 r0 s0 b1 from6 (IntKind.wrap IntKind.i64 (i7 + 1))
      else none
    else none
  else
    bif decide (0 ≤ from6) then
      bif decide (from6 ≤ (↑(ByteArray.size s0) : Int)) then
        bif Nat.ble (List.length r0 + 1) 4294967296 then some (r0 ++ [ByteArray.extract s0 (Int.toNat from6) (Int.toNat (↑(ByteArray.size s0) : Int))]) else none
      else none
    else none
noncomputable def s_l1Split_t0 (g1 : List (ByteArray) → ByteArray → Int → Int → Int → Option (List ByteArray)) (s0 : ByteArray) (b1 : Int) : Option (List ByteArray) :=
  g1 [] s0 b1 0 0
theorem s_l1Split_ts : Tails c_s_l1Split.pts c_s_l1Split.round :=
  ⟨fun s => by
    obtain ⟨⟨r0, _⟩, ⟨s0, b1, _, from6, i7, _⟩, ⟨_, _, _⟩⟩ := s
    refine Tail.eq (Y := fun g => s_l1Split_t1 (fun r0 s0 b1 from6 i7 => g.1 ((r0, ()), (s0, b1, (), from6, i7, ()), ((), (), ()))) r0 s0 b1 from6 i7) ?_ (fun g => by kernel_rfl)
    simp only [s_l1Split_t1]; repeat (first | apply Tail.cond | (apply Tail.bind; intro _) | exact Tail.here _ | exact Tail.there (Tail.here _) | exact Tail.there (Tail.there (Tail.here _)) | exact Tail.there (Tail.there (Tail.there (Tail.here _))) | exact Tail.there (Tail.there (Tail.there (Tail.there (Tail.here _)))) | exact Tail.there (Tail.there (Tail.there (Tail.there (Tail.there (Tail.here _))))) | exact Tail.const _), trivial⟩
theorem s_l1Split_hs : ∀ x, Tail c_s_l1Split.pts (fun g => c_s_l1Split.start g x) := fun x => by
    obtain ⟨s0, b1, _⟩ := x
    refine Tail.eq (Y := fun g => s_l1Split_t0 (fun r0 s0 b1 from6 i7 => g.1 ((r0, ()), (s0, b1, (), from6, i7, ()), ((), (), ()))) s0 b1) ?_ (fun g => by kernel_rfl)
    simp only [s_l1Split_t0]; repeat (first | apply Tail.cond | (apply Tail.bind; intro _) | exact Tail.here _ | exact Tail.there (Tail.here _) | exact Tail.there (Tail.there (Tail.here _)) | exact Tail.there (Tail.there (Tail.there (Tail.here _))) | exact Tail.there (Tail.there (Tail.there (Tail.there (Tail.here _)))) | exact Tail.there (Tail.there (Tail.there (Tail.there (Tail.there (Tail.here _))))) | exact Tail.const _)
noncomputable def s_l1Split_L1 (r0 : List (ByteArray)) (s0 : ByteArray) (b1 : Int) (from6 : Int) (i7 : Int) : Option (List ByteArray) := c_s_l1Split.L.1 ((r0, ()), (s0, b1, (), from6, i7, ()), ((), (), ()))
theorem s_l1Split_u1 (r0 : List (ByteArray)) (s0 : ByteArray) (b1 : Int) (from6 : Int) (i7 : Int) : s_l1Split_L1 r0 s0 b1 from6 i7 = s_l1Split_t1 s_l1Split_L1 r0 s0 b1 from6 i7 :=
  (congrArg (fun g => g.1 ((r0, ()), (s0, b1, (), from6, i7, ()), ((), (), ()))) (FnCx.L_eq s_l1Split_ts)).trans (by kernel_rfl)
noncomputable def s_l1Split (s0 : ByteArray) (b1 : Int) : Option (List ByteArray) := s_l1Split_t0 s_l1Split_L1 s0 b1
theorem s_l1Split_e (s0 : ByteArray) (b1 : Int) : c_s_l1Split.start c_s_l1Split.L (s0, b1, ()) = s_l1Split s0 b1 := by kernel_rfl
noncomputable def F_s_l1Split : Ins c_s_l1Split.ins → Option (List ByteArray) := fun x => s_l1Split x.1 x.2.1
noncomputable def S_s_l1Split : FSpec := mkF c_s_l1Split.env.pre c_s_l1Split.ins c_s_l1Split.out c_s_l1Split.inj F_s_l1Split
theorem h_s_l1Split : Cert Tryz.prog 120 S_s_l1Split := FnCx.certF (c := c_s_l1Split) F_s_l1Split (tyOk _ _ _) (spOk trivial) (fun _ _ _ _ _ hs => noDr_ok) Tryz.func120 rfl rfl Tryz.ntmps120 (by kernel_rfl) rfl rfl (fun _ => rfl) s_l1Split_ts s_l1Split_hs (fun x t hb ht => by
  obtain ⟨s0, b1, _⟩ := x
  exact (s_l1Split_e s0 b1).trans ht)
/-! spec.l1Read -/
noncomputable def c_s_l1Read : FnCx := { env := env 44 [(79, S_s_l1In)] [], body := bodyOf Tryz.f121, res := [.tmp 2], ins := [.ro kstring], out := [(kint, true)], T := Int, fin := fun r => r.1.1, inj := fun t => ((t, ()), ((), ())), pts := [([.inLoop [1, 1, 1, 0, 1, 0, 0], .inBlock 0, .code [1, 1, 1, 1]], Shape.mk [] [(0, Ss.one (Cs.sc kstring)), (3, Ss.one (Cs.sc kint)), (4, Ss.one (Cs.sc kint))] [Ss.one (Cs.any)])], fuel := 400, dr := noDr }
noncomputable def s_l1Read_t1 (g1 : ByteArray → Int → Int → Option (Int)) (s0 : ByteArray) (n3 : Int) (i4 : Int) : Option Int :=
  bif decide (i4 < (↑(ByteArray.size s0) : Int)) then
    bif decide (0 ≤ i4) then
      bif decide (i4 < (↑(ByteArray.size s0) : Int)) then
        bif decide (bt s0 i4 < 48) then some (-1)
        else
          bif decide (0 ≤ i4) then
            bif decide (i4 < (↑(ByteArray.size s0) : Int)) then
              bif decide (bt s0 i4 > 57) then some (-1)
              else
                bif decide (0 ≤ i4) then
                  bif decide (i4 < (↑(ByteArray.size s0) : Int)) then
                    g1 s0 (IntKind.wrap IntKind.i64 (IntKind.wrap IntKind.i64 (10 * n3) + IntKind.wrap IntKind.i64 (IntKind.wrap IntKind.u8 (bt s0 i4 - 48))))
                      (IntKind.wrap IntKind.i64 (i4 + 1))
                  else none
                else none
            else none
          else none
      else none
    else none
  else some n3
noncomputable def s_l1Read_t0 (g1 : ByteArray → Int → Int → Option (Int)) (s0 : ByteArray) : Option Int :=
  bif !s_l1In (↑(ByteArray.size s0) : Int) 1 6 then some (-1)
  else
    bif decide (0 < (↑(ByteArray.size s0) : Int)) then
      bif bt s0 0 == 48 then bif decide ((↑(ByteArray.size s0) : Int) > 1) then some (-1) else g1 s0 0 0 else g1 s0 0 0
    else none
theorem s_l1Read_ts : Tails c_s_l1Read.pts c_s_l1Read.round :=
  ⟨fun s => by
    obtain ⟨_, ⟨s0, n3, i4, _⟩, ⟨_, _⟩⟩ := s
    refine Tail.eq (Y := fun g => s_l1Read_t1 (fun s0 n3 i4 => g.1 ((), (s0, n3, i4, ()), ((), ()))) s0 n3 i4) ?_ (fun g => by kernel_rfl)
    simp only [s_l1Read_t1]; repeat (first | apply Tail.cond | (apply Tail.bind; intro _) | exact Tail.here _ | exact Tail.there (Tail.here _) | exact Tail.there (Tail.there (Tail.here _)) | exact Tail.there (Tail.there (Tail.there (Tail.here _))) | exact Tail.there (Tail.there (Tail.there (Tail.there (Tail.here _)))) | exact Tail.there (Tail.there (Tail.there (Tail.there (Tail.there (Tail.here _))))) | exact Tail.const _), trivial⟩
theorem s_l1Read_hs : ∀ x, Tail c_s_l1Read.pts (fun g => c_s_l1Read.start g x) := fun x => by
    obtain ⟨s0, _⟩ := x
    refine Tail.eq (Y := fun g => s_l1Read_t0 (fun s0 n3 i4 => g.1 ((), (s0, n3, i4, ()), ((), ()))) s0) ?_ (fun g => by kernel_rfl)
    simp only [s_l1Read_t0]; repeat (first | apply Tail.cond | (apply Tail.bind; intro _) | exact Tail.here _ | exact Tail.there (Tail.here _) | exact Tail.there (Tail.there (Tail.here _)) | exact Tail.there (Tail.there (Tail.there (Tail.here _))) | exact Tail.there (Tail.there (Tail.there (Tail.there (Tail.here _)))) | exact Tail.there (Tail.there (Tail.there (Tail.there (Tail.there (Tail.here _))))) | exact Tail.const _)
noncomputable def s_l1Read_L1 (s0 : ByteArray) (n3 : Int) (i4 : Int) : Option Int := c_s_l1Read.L.1 ((), (s0, n3, i4, ()), ((), ()))
theorem s_l1Read_u1 (s0 : ByteArray) (n3 : Int) (i4 : Int) : s_l1Read_L1 s0 n3 i4 = s_l1Read_t1 s_l1Read_L1 s0 n3 i4 :=
  (congrArg (fun g => g.1 ((), (s0, n3, i4, ()), ((), ()))) (FnCx.L_eq s_l1Read_ts)).trans (by kernel_rfl)
noncomputable def s_l1Read (s0 : ByteArray) : Option Int := s_l1Read_t0 s_l1Read_L1 s0
theorem s_l1Read_e (s0 : ByteArray) : c_s_l1Read.start c_s_l1Read.L (s0, ()) = s_l1Read s0 := by kernel_rfl
noncomputable def F_s_l1Read : Ins c_s_l1Read.ins → Option Int := fun x => s_l1Read x.1
noncomputable def S_s_l1Read : FSpec := mkF c_s_l1Read.env.pre c_s_l1Read.ins c_s_l1Read.out c_s_l1Read.inj F_s_l1Read
theorem h_s_l1Read : Cert Tryz.prog 121 S_s_l1Read := FnCx.certF (c := c_s_l1Read) F_s_l1Read (tyOk _ _ _) (spOk ⟨h_s_l1In, fun _ _ h => h, trivial⟩) (fun _ _ _ _ _ hs => noDr_ok) Tryz.func121 rfl rfl Tryz.ntmps121 (by kernel_rfl) rfl rfl (fun _ => rfl) s_l1Read_ts s_l1Read_hs (fun x t hb ht => by
  obtain ⟨s0, _⟩ := x
  exact (s_l1Read_e s0).trans ht)
/-! spec.riParse -/
noncomputable def c_s_riParse : FnCx := { env := env 44 [(120, S_s_l1Split), (121, S_s_l1Read), (101, S_s_riGood)] [], body := bodyOf Tryz.f114, res := [.cell 2 52, .tmp 3], ins := [.ro kstring], out := [(kFlight, true), (kbool, true)], T := (Int × Int × Int) × Bool, fin := fun r => (r.1.1, r.1.2.1), inj := fun t => ((t.1, t.2, ()), ((), ())), pts := [], fuel := 400, dr := evDr (env 44 [(120, S_s_l1Split), (121, S_s_l1Read), (101, S_s_riGood)] []) }
noncomputable def s_riParse (s0 : ByteArray) : Option ((Int × Int × Int) × Bool) :=
  Option.bind (s_l1Split s0 114) fun r =>
    bif decide ((↑(ByteArray.size s0) : Int) > 12) then some ((0, 0, 0), false)
    else
      bif (↑(List.length r) : Int) != 2 then some ((0, 0, 0), false)
      else
        bif decide (1 < (↑(List.length r) : Int)) then
          Option.bind (s_l1Split (rdk kstring r 1) 116) fun r_1 =>
            bif (↑(List.length r_1) : Int) != 2 then some ((0, 0, 0), false)
            else
              bif decide (0 < (↑(List.length r) : Int)) then
                Option.bind (s_l1Read (rdk kstring r 0)) fun r =>
                  bif decide (0 < (↑(List.length r_1) : Int)) then
                    Option.bind (s_l1Read (rdk kstring r_1 0)) fun r_2 =>
                      bif decide (1 < (↑(List.length r_1) : Int)) then
                        Option.bind (s_l1Read (rdk kstring r_1 1)) fun r_3 => bif !s_riGood r r_2 r_3 then some ((0, 0, 0), false) else some ((r, r_2, r_3), true)
                      else none
                  else none
              else none
        else none
theorem s_riParse_e (s0 : ByteArray) : c_s_riParse.start c_s_riParse.L (s0, ()) = s_riParse s0 := by kernel_rfl
noncomputable def F_s_riParse : Ins c_s_riParse.ins → Option ((Int × Int × Int) × Bool) := fun x => s_riParse x.1
noncomputable def S_s_riParse : FSpec := mkF c_s_riParse.env.pre c_s_riParse.ins c_s_riParse.out c_s_riParse.inj F_s_riParse
theorem h_s_riParse : Cert Tryz.prog 114 S_s_riParse := FnCx.certF (c := c_s_riParse) F_s_riParse (tyOk _ _ _) (spOk ⟨h_s_l1Split, fun _ _ h => h, ⟨h_s_l1Read, fun _ _ h => h, ⟨h_s_riGood, fun _ _ h => h, trivial⟩⟩⟩) (fun _ _ _ _ _ hs => evDr_ok (tyOk _ _ _) hs follows) Tryz.func114 rfl rfl Tryz.ntmps114 (by kernel_rfl) rfl rfl (fun _ => rfl) trivial (fun x => .inl ⟨c_s_riParse.start () x, fun _ => rfl⟩) (fun x t hb ht => by
  obtain ⟨s0, _⟩ := x
  exact (s_riParse_e s0).trans ht)
/-! spec.ParseFlight -/
noncomputable def c_s_ParseFlight : FnCx := { env := env 8 [(114, S_s_riParse)] [], body := bodyOf Tryz.f65, res := [.cell 2 52, .tmp 3], ins := [.ro kstring], out := [(kFlight, true), (kbool, true)], T := (Int × Int × Int) × Bool, fin := fun r => (r.1.1, r.1.2.1), inj := fun t => ((t.1, t.2, ()), ((), ())), pts := [], fuel := 400, dr := noDr }
noncomputable def s_ParseFlight (s0 : ByteArray) : Option ((Int × Int × Int) × Bool) :=
  Option.bind (s_riParse s0) fun r => some ((Prod.fst (Prod.fst r), Prod.fst (Prod.snd (Prod.fst r)), Prod.snd (Prod.snd (Prod.fst r))), Prod.snd r)
theorem s_ParseFlight_e (s0 : ByteArray) : c_s_ParseFlight.start c_s_ParseFlight.L (s0, ()) = s_ParseFlight s0 := by kernel_rfl
noncomputable def F_s_ParseFlight : Ins c_s_ParseFlight.ins → Option ((Int × Int × Int) × Bool) := fun x => s_ParseFlight x.1
noncomputable def S_s_ParseFlight : FSpec := mkF c_s_ParseFlight.env.pre c_s_ParseFlight.ins c_s_ParseFlight.out c_s_ParseFlight.inj F_s_ParseFlight
theorem h_s_ParseFlight : Cert Tryz.prog 65 S_s_ParseFlight := FnCx.certF (c := c_s_ParseFlight) F_s_ParseFlight (tyOk _ _ _) (spOk ⟨h_s_riParse, fun _ _ h => h, trivial⟩) (fun _ _ _ _ _ hs => noDr_ok) Tryz.func65 rfl rfl Tryz.ntmps65 (by kernel_rfl) rfl rfl (fun _ => rfl) trivial (fun x => .inl ⟨c_s_ParseFlight.start () x, fun _ => rfl⟩) (fun x t hb ht => by
  obtain ⟨s0, _⟩ := x
  exact (s_ParseFlight_e s0).trans ht)
/-! spec.IsFlight -/
noncomputable def c_s_IsFlight : FnCx := { env := env 5 [(101, S_s_riGood)] [], body := bodyOf Tryz.f50, res := [.tmp 2], ins := [.ro kFlight], out := [(kbool, true)], T := Bool, fin := fun r => r.1.1, inj := fun t => ((t, ()), ((), ())), pts := [], fuel := 400, dr := noDr }
noncomputable def s_IsFlight (f0_Risers : Int) (f0_Rise : Int) (f0_Tread : Int) : Bool :=
  s_riGood f0_Risers f0_Rise f0_Tread
theorem s_IsFlight_e (f0_Risers : Int) (f0_Rise : Int) (f0_Tread : Int) : c_s_IsFlight.start c_s_IsFlight.L ((f0_Risers, f0_Rise, f0_Tread), ()) = some (s_IsFlight f0_Risers f0_Rise f0_Tread) := by kernel_rfl
noncomputable def F_s_IsFlight : Ins c_s_IsFlight.ins → Bool := fun x => s_IsFlight x.1.1 x.1.2.1 x.1.2.2
noncomputable def S_s_IsFlight : FSpec := mkT c_s_IsFlight.env.pre c_s_IsFlight.ins c_s_IsFlight.out c_s_IsFlight.inj F_s_IsFlight
theorem h_s_IsFlight : Cert Tryz.prog 50 S_s_IsFlight := FnCx.certT (c := c_s_IsFlight) F_s_IsFlight (tyOk _ _ _) (spOk ⟨h_s_riGood, fun _ _ h => h, trivial⟩) (fun _ _ _ _ _ hs => noDr_ok) Tryz.func50 rfl rfl Tryz.ntmps50 (by kernel_rfl) rfl rfl (fun _ => rfl) trivial (fun x => .inl ⟨c_s_IsFlight.start () x, fun _ => rfl⟩) (fun x hb => by
  obtain ⟨⟨f0_Risers, f0_Rise, f0_Tread⟩, _⟩ := x
  exact s_IsFlight_e f0_Risers f0_Rise f0_Tread)
/-! impl.isSum -/
noncomputable def c_i_isSum : FnCx := { env := env 5 [(75, S_i_within)] [], body := bodyOf Tryz.f108, res := [.tmp 2], ins := [.ro kint], out := [(kbool, true)], T := Bool, fin := fun r => r.1.1, inj := fun t => ((t, ()), ((), ())), pts := [], fuel := 400, dr := noDr }
noncomputable def i_isSum (n0 : Int) : Bool :=
  i_within n0 1 2000
theorem i_isSum_e (n0 : Int) : c_i_isSum.start c_i_isSum.L (n0, ()) = some (i_isSum n0) := by kernel_rfl
noncomputable def F_i_isSum : Ins c_i_isSum.ins → Bool := fun x => i_isSum x.1
noncomputable def S_i_isSum : FSpec := mkT c_i_isSum.env.pre c_i_isSum.ins c_i_isSum.out c_i_isSum.inj F_i_isSum
theorem h_i_isSum : Cert Tryz.prog 108 S_i_isSum := FnCx.certT (c := c_i_isSum) F_i_isSum (tyOk _ _ _) (spOk ⟨h_i_within, fun _ _ h => h, trivial⟩) (fun _ _ _ _ _ hs => noDr_ok) Tryz.func108 rfl rfl Tryz.ntmps108 (by kernel_rfl) rfl rfl (fun _ => rfl) trivial (fun x => .inl ⟨c_i_isSum.start () x, fun _ => rfl⟩) (fun x hb => by
  obtain ⟨n0, _⟩ := x
  exact i_isSum_e n0)
/-! impl.TreadFor -/
noncomputable def c_i_TreadFor : FnCx := { env := env 26 [(75, S_i_within), (108, S_i_isSum)] [], body := bodyOf Tryz.f53, res := [.tmp 4, .tmp 5], ins := [.ro kint, .ro kint], out := [(kint, true), (kbool, true)], T := Int × Bool, fin := fun r => (r.1.1, r.1.2.1), inj := fun t => ((t.1, t.2, ()), ((), (), ())), pts := [], fuel := 400, dr := noDr }
noncomputable def i_TreadFor (rise0 : Int) (sum1 : Int) : (Int × Bool) :=
  bif !i_within rise0 1 250 then (0, false)
  else
    bif !i_isSum sum1 then (0, false)
    else
      bif !i_within (IntKind.wrap IntKind.i64 (sum1 - IntKind.wrap IntKind.i64 (2 * rise0))) 1 500 then (0, false)
      else (IntKind.wrap IntKind.i64 (sum1 - IntKind.wrap IntKind.i64 (2 * rise0)), true)
theorem i_TreadFor_e (rise0 : Int) (sum1 : Int) : c_i_TreadFor.start c_i_TreadFor.L (rise0, sum1, ()) = some (i_TreadFor rise0 sum1) := by
  refine Eq.trans (b := (bif !i_within rise0 1 250 then some (0, false) else bif !i_isSum sum1 then some (0, false) else bif !i_within (IntKind.wrap IntKind.i64 (sum1 - IntKind.wrap IntKind.i64 (2 * rise0))) 1 500 then some (0, false) else some (IntKind.wrap IntKind.i64 (sum1 - IntKind.wrap IntKind.i64 (2 * rise0)), true) : Option (Int × Bool))) (by kernel_rfl) ?_
  unfold i_TreadFor
  repeat (first | rfl | apply condS)
noncomputable def F_i_TreadFor : Ins c_i_TreadFor.ins → (Int × Bool) := fun x => i_TreadFor x.1 x.2.1
noncomputable def S_i_TreadFor : FSpec := mkT c_i_TreadFor.env.pre c_i_TreadFor.ins c_i_TreadFor.out c_i_TreadFor.inj F_i_TreadFor
theorem h_i_TreadFor : Cert Tryz.prog 53 S_i_TreadFor := FnCx.certT (c := c_i_TreadFor) F_i_TreadFor (tyOk _ _ _) (spOk ⟨h_i_within, fun _ _ h => h, ⟨h_i_isSum, fun _ _ h => h, trivial⟩⟩) (fun _ _ _ _ _ hs => noDr_ok) Tryz.func53 rfl rfl Tryz.ntmps53 (by kernel_rfl) rfl rfl (fun _ => rfl) trivial (fun x => .inl ⟨c_i_TreadFor.start () x, fun _ => rfl⟩) (fun x hb => by
  obtain ⟨rise0, sum1, _⟩ := x
  exact i_TreadFor_e rise0 sum1)
/-! impl.HeightAtRun -/
noncomputable def c_i_HeightAtRun : FnCx := { env := env 30 [(49, S_i_IsFlight), (104, S_i_Flight_run), (75, S_i_within)] [], body := bodyOf Tryz.f54, res := [.tmp 4, .tmp 5], ins := [.ro kFlight, .ro kint], out := [(kint, true), (kbool, true)], T := Int × Bool, fin := fun r => (r.1.1, r.1.2.1), inj := fun t => ((t.1, t.2, ()), ((), (), ())), pts := [], fuel := 400, dr := evDr (env 30 [(49, S_i_IsFlight), (104, S_i_Flight_run), (75, S_i_within)] []) }
noncomputable def i_HeightAtRun (f0_Risers : Int) (f0_Rise : Int) (f0_Tread : Int) (place1 : Int) : Option (Int × Bool) :=
  bif !i_IsFlight f0_Risers f0_Rise f0_Tread then some (0, false)
  else
    bif !i_within place1 (-1000) (IntKind.wrap IntKind.i64 (i_Flight_run f0_Risers f0_Rise f0_Tread + 1000)) then some (0, false)
    else
      bif decide (place1 < 0) then some (0, true)
      else
        bif f0_Tread == 0 then none
        else
          some
            (IntKind.wrap IntKind.i64
                ((bif decide (IntKind.wrap IntKind.i64 (IntKind.wrap IntKind.i64 (Int.tdiv place1 f0_Tread) + 1) < f0_Risers) then
                    IntKind.wrap IntKind.i64 (IntKind.wrap IntKind.i64 (Int.tdiv place1 f0_Tread) + 1)
                  else f0_Risers) *
                  f0_Rise),
              true)
theorem i_HeightAtRun_e (f0_Risers : Int) (f0_Rise : Int) (f0_Tread : Int) (place1 : Int) : c_i_HeightAtRun.start c_i_HeightAtRun.L ((f0_Risers, f0_Rise, f0_Tread), place1, ()) = i_HeightAtRun f0_Risers f0_Rise f0_Tread place1 := by kernel_rfl
noncomputable def F_i_HeightAtRun : Ins c_i_HeightAtRun.ins → Option (Int × Bool) := fun x => i_HeightAtRun x.1.1 x.1.2.1 x.1.2.2 x.2.1
noncomputable def S_i_HeightAtRun : FSpec := mkF c_i_HeightAtRun.env.pre c_i_HeightAtRun.ins c_i_HeightAtRun.out c_i_HeightAtRun.inj F_i_HeightAtRun
theorem h_i_HeightAtRun : Cert Tryz.prog 54 S_i_HeightAtRun := FnCx.certF (c := c_i_HeightAtRun) F_i_HeightAtRun (tyOk _ _ _) (spOk ⟨h_i_IsFlight, fun _ _ h => h, ⟨h_i_Flight_run, fun _ _ h => h, ⟨h_i_within, fun _ _ h => h, trivial⟩⟩⟩) (fun _ _ _ _ _ hs => evDr_ok (tyOk _ _ _) hs follows) Tryz.func54 rfl rfl Tryz.ntmps54 (by kernel_rfl) rfl rfl (fun _ => rfl) trivial (fun x => .inl ⟨c_i_HeightAtRun.start () x, fun _ => rfl⟩) (fun x t hb ht => by
  obtain ⟨⟨f0_Risers, f0_Rise, f0_Tread⟩, place1, _⟩ := x
  exact (i_HeightAtRun_e f0_Risers f0_Rise f0_Tread place1).trans ht)
/-! impl.isHigh -/
noncomputable def c_i_isHigh : FnCx := { env := env 5 [(75, S_i_within)] [], body := bodyOf Tryz.f110, res := [.tmp 2], ins := [.ro kint], out := [(kbool, true)], T := Bool, fin := fun r => r.1.1, inj := fun t => ((t, ()), ((), ())), pts := [], fuel := 400, dr := noDr }
noncomputable def i_isHigh (n0 : Int) : Bool :=
  i_within n0 1 6000
theorem i_isHigh_e (n0 : Int) : c_i_isHigh.start c_i_isHigh.L (n0, ()) = some (i_isHigh n0) := by kernel_rfl
noncomputable def F_i_isHigh : Ins c_i_isHigh.ins → Bool := fun x => i_isHigh x.1
noncomputable def S_i_isHigh : FSpec := mkT c_i_isHigh.env.pre c_i_isHigh.ins c_i_isHigh.out c_i_isHigh.inj F_i_isHigh
theorem h_i_isHigh : Cert Tryz.prog 110 S_i_isHigh := FnCx.certT (c := c_i_isHigh) F_i_isHigh (tyOk _ _ _) (spOk ⟨h_i_within, fun _ _ h => h, trivial⟩) (fun _ _ _ _ _ hs => noDr_ok) Tryz.func110 rfl rfl Tryz.ntmps110 (by kernel_rfl) rfl rfl (fun _ => rfl) trivial (fun x => .inl ⟨c_i_isHigh.start () x, fun _ => rfl⟩) (fun x hb => by
  obtain ⟨n0, _⟩ := x
  exact i_isHigh_e n0)
/-! impl.EvenRisers -/
noncomputable def c_i_EvenRisers : FnCx := { env := env 40 [(110, S_i_isHigh), (75, S_i_within)] [], body := bodyOf Tryz.f56, res := [.tmp 4, .tmp 5], ins := [.ro kint, .ro kint], out := [(kSint, true), (kbool, true)], T := List Int × Bool, fin := fun r => (r.1.1, r.1.2.1), inj := fun t => ((t.1, t.2, ()), ((), (), ())), pts := [([.inLoop [1, 1, 1, 0, 1, 0, 0], .inBlock 0, .code [1, 1, 1, 1]], Shape.mk [Bs.row kint 3 true] [(0, Ss.one (Cs.sc kint)), (1, Ss.one (Cs.sc kint)), (6, Ss.one (Cs.sl 0)), (19, Ss.one (Cs.sc kint)), (20, Ss.one (Cs.sc kint))] [Ss.one (Cs.any), Ss.one (Cs.any)])], fuel := 400, dr := evDr (env 40 [(110, S_i_isHigh), (75, S_i_within)] []) }
noncomputable def i_EvenRisers_t1 (g1 : List (Int) → Int → Int → Int → Int → Option (List Int × Bool)) (r0 : List (Int)) (high0 : Int) (risers1 : Int) (s19 : Int) (s20 : Int) : Option (List Int × Bool) :=
  bif decide (s20 < s19) then
    bif risers1 == 0 then none
    else
      bif risers1 == 0 then none
      else
        bif Nat.ble (List.length r0 + 1) 4294967296 then
          g1
            (r0 ++
              [IntKind.wrap IntKind.i64
                  (IntKind.wrap IntKind.i64 (Int.tdiv (IntKind.wrap IntKind.i64 (IntKind.wrap IntKind.i64 (s20 + 1) * high0)) risers1) -
                    IntKind.wrap IntKind.i64 (Int.tdiv (IntKind.wrap IntKind.i64 (s20 * high0)) risers1))])
            high0 risers1 s19 (IntKind.wrap IntKind.i64 (s20 + 1))
        else none
  else some (r0, true)
noncomputable def i_EvenRisers_t0 (g1 : List (Int) → Int → Int → Int → Int → Option (List Int × Bool)) (high0 : Int) (risers1 : Int) : Option (List Int × Bool) :=
  bif !i_isHigh high0 then some ([], false)
  else bif !i_within risers1 1 (bif decide (high0 < 100) then high0 else 100) then some ([], false) else g1 [] high0 risers1 risers1 0
theorem i_EvenRisers_ts : Tails c_i_EvenRisers.pts c_i_EvenRisers.round :=
  ⟨fun s => by
    obtain ⟨⟨r0, _⟩, ⟨high0, risers1, _, s19, s20, _⟩, ⟨_, _, _⟩⟩ := s
    refine Tail.eq (Y := fun g => i_EvenRisers_t1 (fun r0 high0 risers1 s19 s20 => g.1 ((r0, ()), (high0, risers1, (), s19, s20, ()), ((), (), ()))) r0 high0 risers1 s19 s20) ?_ (fun g => by kernel_rfl)
    simp only [i_EvenRisers_t1]; repeat (first | exact Tail.const _ | exact Tail.here _ | exact Tail.there (Tail.here _) | exact Tail.there (Tail.there (Tail.here _)) | exact Tail.there (Tail.there (Tail.there (Tail.here _))) | exact Tail.there (Tail.there (Tail.there (Tail.there (Tail.here _)))) | exact Tail.there (Tail.there (Tail.there (Tail.there (Tail.there (Tail.here _))))) | apply Tail.cond | (apply Tail.bind; intro _)), trivial⟩
theorem i_EvenRisers_hs : ∀ x, Tail c_i_EvenRisers.pts (fun g => c_i_EvenRisers.start g x) := fun x => by
    obtain ⟨high0, risers1, _⟩ := x
    refine Tail.eq (Y := fun g => i_EvenRisers_t0 (fun r0 high0 risers1 s19 s20 => g.1 ((r0, ()), (high0, risers1, (), s19, s20, ()), ((), (), ()))) high0 risers1) ?_ (fun g => by kernel_rfl)
    simp only [i_EvenRisers_t0]; repeat (first | exact Tail.const _ | exact Tail.here _ | exact Tail.there (Tail.here _) | exact Tail.there (Tail.there (Tail.here _)) | exact Tail.there (Tail.there (Tail.there (Tail.here _))) | exact Tail.there (Tail.there (Tail.there (Tail.there (Tail.here _)))) | exact Tail.there (Tail.there (Tail.there (Tail.there (Tail.there (Tail.here _))))) | apply Tail.cond | (apply Tail.bind; intro _))
noncomputable def i_EvenRisers_L1 (r0 : List (Int)) (high0 : Int) (risers1 : Int) (s19 : Int) (s20 : Int) : Option (List Int × Bool) := c_i_EvenRisers.L.1 ((r0, ()), (high0, risers1, (), s19, s20, ()), ((), (), ()))
theorem i_EvenRisers_u1 (r0 : List (Int)) (high0 : Int) (risers1 : Int) (s19 : Int) (s20 : Int) : i_EvenRisers_L1 r0 high0 risers1 s19 s20 = i_EvenRisers_t1 i_EvenRisers_L1 r0 high0 risers1 s19 s20 :=
  (congrArg (fun g => g.1 ((r0, ()), (high0, risers1, (), s19, s20, ()), ((), (), ()))) (FnCx.L_eq i_EvenRisers_ts)).trans (by kernel_rfl)
noncomputable def i_EvenRisers (high0 : Int) (risers1 : Int) : Option (List Int × Bool) := i_EvenRisers_t0 i_EvenRisers_L1 high0 risers1
theorem i_EvenRisers_e (high0 : Int) (risers1 : Int) : c_i_EvenRisers.start c_i_EvenRisers.L (high0, risers1, ()) = i_EvenRisers high0 risers1 := by kernel_rfl
noncomputable def F_i_EvenRisers : Ins c_i_EvenRisers.ins → Option (List Int × Bool) := fun x => i_EvenRisers x.1 x.2.1
noncomputable def S_i_EvenRisers : FSpec := mkF c_i_EvenRisers.env.pre c_i_EvenRisers.ins c_i_EvenRisers.out c_i_EvenRisers.inj F_i_EvenRisers
theorem h_i_EvenRisers : Cert Tryz.prog 56 S_i_EvenRisers := FnCx.certF (c := c_i_EvenRisers) F_i_EvenRisers (tyOk _ _ _) (spOk ⟨h_i_isHigh, fun _ _ h => h, ⟨h_i_within, fun _ _ h => h, trivial⟩⟩) (fun _ _ _ _ _ hs => evDr_ok (tyOk _ _ _) hs follows) Tryz.func56 rfl rfl Tryz.ntmps56 (by kernel_rfl) rfl rfl (fun _ => rfl) i_EvenRisers_ts i_EvenRisers_hs (fun x t hb ht => by
  obtain ⟨high0, risers1, _⟩ := x
  exact (i_EvenRisers_e high0 risers1).trans ht)
/-! spec.riHigh -/
noncomputable def c_s_riHigh : FnCx := { env := env 5 [(79, S_s_l1In)] [], body := bodyOf Tryz.f111, res := [.tmp 2], ins := [.ro kint], out := [(kbool, true)], T := Bool, fin := fun r => r.1.1, inj := fun t => ((t, ()), ((), ())), pts := [], fuel := 400, dr := noDr }
noncomputable def s_riHigh (high0 : Int) : Bool :=
  s_l1In high0 1 6000
theorem s_riHigh_e (high0 : Int) : c_s_riHigh.start c_s_riHigh.L (high0, ()) = some (s_riHigh high0) := by kernel_rfl
noncomputable def F_s_riHigh : Ins c_s_riHigh.ins → Bool := fun x => s_riHigh x.1
noncomputable def S_s_riHigh : FSpec := mkT c_s_riHigh.env.pre c_s_riHigh.ins c_s_riHigh.out c_s_riHigh.inj F_s_riHigh
theorem h_s_riHigh : Cert Tryz.prog 111 S_s_riHigh := FnCx.certT (c := c_s_riHigh) F_s_riHigh (tyOk _ _ _) (spOk ⟨h_s_l1In, fun _ _ h => h, trivial⟩) (fun _ _ _ _ _ hs => noDr_ok) Tryz.func111 rfl rfl Tryz.ntmps111 (by kernel_rfl) rfl rfl (fun _ => rfl) trivial (fun x => .inl ⟨c_s_riHigh.start () x, fun _ => rfl⟩) (fun x hb => by
  obtain ⟨high0, _⟩ := x
  exact s_riHigh_e high0)
/-! spec.l1Least -/
noncomputable def c_s_l1Least : FnCx := { env := env 10 [] [], body := bodyOf Tryz.f112, res := [.tmp 4], ins := [.ro kint, .ro kint], out := [(kint, true)], T := Int, fin := fun r => r.1.1, inj := fun t => ((t, ()), ((), (), ())), pts := [], fuel := 400, dr := noDr }
noncomputable def s_l1Least (a0 : Int) (b1 : Int) : Int :=
  bif decide (a0 < b1) then a0 else b1
theorem s_l1Least_e (a0 : Int) (b1 : Int) : c_s_l1Least.start c_s_l1Least.L (a0, b1, ()) = some (s_l1Least a0 b1) := by
  refine Eq.trans (b := (bif decide (a0 < b1) then some a0 else some b1 : Option Int)) (by kernel_rfl) ?_
  unfold s_l1Least
  repeat (first | rfl | apply condS)
noncomputable def F_s_l1Least : Ins c_s_l1Least.ins → Int := fun x => s_l1Least x.1 x.2.1
noncomputable def S_s_l1Least : FSpec := mkT c_s_l1Least.env.pre c_s_l1Least.ins c_s_l1Least.out c_s_l1Least.inj F_s_l1Least
theorem h_s_l1Least : Cert Tryz.prog 112 S_s_l1Least := FnCx.certT (c := c_s_l1Least) F_s_l1Least (tyOk _ _ _) (spOk trivial) (fun _ _ _ _ _ hs => noDr_ok) Tryz.func112 rfl rfl Tryz.ntmps112 (by kernel_rfl) rfl rfl (fun _ => rfl) trivial (fun x => .inl ⟨c_s_l1Least.start () x, fun _ => rfl⟩) (fun x hb => by
  obtain ⟨a0, b1, _⟩ := x
  exact s_l1Least_e a0 b1)
/-! spec.EvenRisers -/
noncomputable def c_s_EvenRisers : FnCx := { env := env 39 [(111, S_s_riHigh), (112, S_s_l1Least), (79, S_s_l1In)] [], body := bodyOf Tryz.f57, res := [.tmp 4, .tmp 5], ins := [.ro kint, .ro kint], out := [(kSint, true), (kbool, true)], T := List Int × Bool, fin := fun r => (r.1.1, r.1.2.1), inj := fun t => ((t.1, t.2, ()), ((), (), ())), pts := [([.inLoop [1, 1, 1, 0, 1, 0, 0], .inBlock 0, .code [1, 1, 1, 1]], Shape.mk [Bs.row kint 3 true] [(0, Ss.one (Cs.sc kint)), (1, Ss.one (Cs.sc kint)), (6, Ss.one (Cs.sl 0)), (7, Ss.one (Cs.sc kint))] [Ss.one (Cs.any), Ss.one (Cs.any)])], fuel := 400, dr := evDr (env 39 [(111, S_s_riHigh), (112, S_s_l1Least), (79, S_s_l1In)] []) }
noncomputable def s_EvenRisers_t1 (g1 : List (Int) → Int → Int → Int → Option (List Int × Bool)) (r0 : List (Int)) (high0 : Int) (risers1 : Int) (k7 : Int) : Option (List Int × Bool) :=
  bif decide (k7 ≤ risers1) then
    bif risers1 == 0 then none
    else
      bif risers1 == 0 then none
      else
        bif Nat.ble (List.length r0 + 1) 4294967296 then
          g1
            (r0 ++
              [IntKind.wrap IntKind.i64
                  (IntKind.wrap IntKind.i64 (Int.tdiv (IntKind.wrap IntKind.i64 (k7 * high0)) risers1) -
                    IntKind.wrap IntKind.i64 (Int.tdiv (IntKind.wrap IntKind.i64 (IntKind.wrap IntKind.i64 (k7 - 1) * high0)) risers1))])
            high0 risers1 (IntKind.wrap IntKind.i64 (k7 + 1))
        else none
  else some (r0, true)
noncomputable def s_EvenRisers_t0 (g1 : List (Int) → Int → Int → Int → Option (List Int × Bool)) (high0 : Int) (risers1 : Int) : Option (List Int × Bool) :=
  bif !s_riHigh high0 then some ([], false) else bif !s_l1In risers1 1 (s_l1Least 100 high0) then some ([], false) else g1 [] high0 risers1 1
theorem s_EvenRisers_ts : Tails c_s_EvenRisers.pts c_s_EvenRisers.round :=
  ⟨fun s => by
    obtain ⟨⟨r0, _⟩, ⟨high0, risers1, _, k7, _⟩, ⟨_, _, _⟩⟩ := s
    refine Tail.eq (Y := fun g => s_EvenRisers_t1 (fun r0 high0 risers1 k7 => g.1 ((r0, ()), (high0, risers1, (), k7, ()), ((), (), ()))) r0 high0 risers1 k7) ?_ (fun g => by kernel_rfl)
    simp only [s_EvenRisers_t1]; repeat (first | exact Tail.const _ | exact Tail.here _ | exact Tail.there (Tail.here _) | exact Tail.there (Tail.there (Tail.here _)) | exact Tail.there (Tail.there (Tail.there (Tail.here _))) | exact Tail.there (Tail.there (Tail.there (Tail.there (Tail.here _)))) | exact Tail.there (Tail.there (Tail.there (Tail.there (Tail.there (Tail.here _))))) | apply Tail.cond | (apply Tail.bind; intro _)), trivial⟩
theorem s_EvenRisers_hs : ∀ x, Tail c_s_EvenRisers.pts (fun g => c_s_EvenRisers.start g x) := fun x => by
    obtain ⟨high0, risers1, _⟩ := x
    refine Tail.eq (Y := fun g => s_EvenRisers_t0 (fun r0 high0 risers1 k7 => g.1 ((r0, ()), (high0, risers1, (), k7, ()), ((), (), ()))) high0 risers1) ?_ (fun g => by kernel_rfl)
    simp only [s_EvenRisers_t0]; repeat (first | exact Tail.const _ | exact Tail.here _ | exact Tail.there (Tail.here _) | exact Tail.there (Tail.there (Tail.here _)) | exact Tail.there (Tail.there (Tail.there (Tail.here _))) | exact Tail.there (Tail.there (Tail.there (Tail.there (Tail.here _)))) | exact Tail.there (Tail.there (Tail.there (Tail.there (Tail.there (Tail.here _))))) | apply Tail.cond | (apply Tail.bind; intro _))
noncomputable def s_EvenRisers_L1 (r0 : List (Int)) (high0 : Int) (risers1 : Int) (k7 : Int) : Option (List Int × Bool) := c_s_EvenRisers.L.1 ((r0, ()), (high0, risers1, (), k7, ()), ((), (), ()))
theorem s_EvenRisers_u1 (r0 : List (Int)) (high0 : Int) (risers1 : Int) (k7 : Int) : s_EvenRisers_L1 r0 high0 risers1 k7 = s_EvenRisers_t1 s_EvenRisers_L1 r0 high0 risers1 k7 :=
  (congrArg (fun g => g.1 ((r0, ()), (high0, risers1, (), k7, ()), ((), (), ()))) (FnCx.L_eq s_EvenRisers_ts)).trans (by kernel_rfl)
noncomputable def s_EvenRisers (high0 : Int) (risers1 : Int) : Option (List Int × Bool) := s_EvenRisers_t0 s_EvenRisers_L1 high0 risers1
theorem s_EvenRisers_e (high0 : Int) (risers1 : Int) : c_s_EvenRisers.start c_s_EvenRisers.L (high0, risers1, ()) = s_EvenRisers high0 risers1 := by kernel_rfl
noncomputable def F_s_EvenRisers : Ins c_s_EvenRisers.ins → Option (List Int × Bool) := fun x => s_EvenRisers x.1 x.2.1
noncomputable def S_s_EvenRisers : FSpec := mkF c_s_EvenRisers.env.pre c_s_EvenRisers.ins c_s_EvenRisers.out c_s_EvenRisers.inj F_s_EvenRisers
theorem h_s_EvenRisers : Cert Tryz.prog 57 S_s_EvenRisers := FnCx.certF (c := c_s_EvenRisers) F_s_EvenRisers (tyOk _ _ _) (spOk ⟨h_s_riHigh, fun _ _ h => h, ⟨h_s_l1Least, fun _ _ h => h, ⟨h_s_l1In, fun _ _ h => h, trivial⟩⟩⟩) (fun _ _ _ _ _ hs => evDr_ok (tyOk _ _ _) hs follows) Tryz.func57 rfl rfl Tryz.ntmps57 (by kernel_rfl) rfl rfl (fun _ => rfl) s_EvenRisers_ts s_EvenRisers_hs (fun x t hb ht => by
  obtain ⟨high0, risers1, _⟩ := x
  exact (s_EvenRisers_e high0 risers1).trans ht)
/-! impl.WholeRisers -/
noncomputable def c_i_WholeRisers : FnCx := { env := env 45 [(110, S_i_isHigh), (75, S_i_within)] [], body := bodyOf Tryz.f62, res := [.tmp 6, .tmp 7], ins := [.ro kint, .ro kint, .ro kint], out := [(kSint, true), (kbool, true)], T := List Int × Bool, fin := fun r => (r.1.1, r.1.2.1), inj := fun t => ((t.1, t.2, ()), ((), (), (), ())), pts := [([.inLoop [1, 1, 1, 0, 1, 0, 0], .inBlock 0, .code [1, 1, 1, 1]], Shape.mk [Bs.row kint 3 true] [(0, Ss.one (Cs.sc kint)), (1, Ss.one (Cs.sc kint)), (2, Ss.one (Cs.sc kint)), (8, Ss.one (Cs.sl 0)), (9, Ss.one (Cs.sc kint))] [Ss.one (Cs.any), Ss.one (Cs.any), Ss.one (Cs.any)])], fuel := 400, dr := noDr }
noncomputable def i_WholeRisers_t1 (g1 : List (Int) → Int → Int → Int → Int → Option (List Int × Bool)) (r0 : List (Int)) (high0 : Int) (low1 : Int) (most2 : Int) (n9 : Int) : Option (List Int × Bool) :=
  bif decide (n9 ≤ 100) then
    bif n9 == 0 then none
    else
      bif Int.tmod high0 n9 == 0 then
        bif n9 == 0 then none
        else
          bif i_within (IntKind.wrap IntKind.i64 (Int.tdiv high0 n9)) low1 most2 then
            bif Nat.ble (List.length r0 + 1) 4294967296 then g1 (r0 ++ [n9]) high0 low1 most2 (IntKind.wrap IntKind.i64 (n9 + 1)) else none
          else g1 r0 high0 low1 most2 (IntKind.wrap IntKind.i64 (n9 + 1))
      else g1 r0 high0 low1 most2 (IntKind.wrap IntKind.i64 (n9 + 1))
  else some (r0, true)
noncomputable def i_WholeRisers_t0 (g1 : List (Int) → Int → Int → Int → Int → Option (List Int × Bool)) (high0 : Int) (low1 : Int) (most2 : Int) : Option (List Int × Bool) :=
  bif !i_isHigh high0 then some ([], false)
  else bif !i_within low1 1 250 then some ([], false) else bif !i_within most2 1 250 then some ([], false) else g1 [] high0 low1 most2 1
theorem i_WholeRisers_ts : Tails c_i_WholeRisers.pts c_i_WholeRisers.round :=
  ⟨fun s => by
    obtain ⟨⟨r0, _⟩, ⟨high0, low1, most2, _, n9, _⟩, ⟨_, _, _, _⟩⟩ := s
    refine Tail.eq (Y := fun g => i_WholeRisers_t1 (fun r0 high0 low1 most2 n9 => g.1 ((r0, ()), (high0, low1, most2, (), n9, ()), ((), (), (), ()))) r0 high0 low1 most2 n9) ?_ (fun g => by kernel_rfl)
    simp only [i_WholeRisers_t1]; repeat (first | exact Tail.const _ | exact Tail.here _ | exact Tail.there (Tail.here _) | exact Tail.there (Tail.there (Tail.here _)) | exact Tail.there (Tail.there (Tail.there (Tail.here _))) | exact Tail.there (Tail.there (Tail.there (Tail.there (Tail.here _)))) | exact Tail.there (Tail.there (Tail.there (Tail.there (Tail.there (Tail.here _))))) | apply Tail.cond | (apply Tail.bind; intro _)), trivial⟩
theorem i_WholeRisers_hs : ∀ x, Tail c_i_WholeRisers.pts (fun g => c_i_WholeRisers.start g x) := fun x => by
    obtain ⟨high0, low1, most2, _⟩ := x
    refine Tail.eq (Y := fun g => i_WholeRisers_t0 (fun r0 high0 low1 most2 n9 => g.1 ((r0, ()), (high0, low1, most2, (), n9, ()), ((), (), (), ()))) high0 low1 most2) ?_ (fun g => by kernel_rfl)
    simp only [i_WholeRisers_t0]; repeat (first | exact Tail.const _ | exact Tail.here _ | exact Tail.there (Tail.here _) | exact Tail.there (Tail.there (Tail.here _)) | exact Tail.there (Tail.there (Tail.there (Tail.here _))) | exact Tail.there (Tail.there (Tail.there (Tail.there (Tail.here _)))) | exact Tail.there (Tail.there (Tail.there (Tail.there (Tail.there (Tail.here _))))) | apply Tail.cond | (apply Tail.bind; intro _))
noncomputable def i_WholeRisers_L1 (r0 : List (Int)) (high0 : Int) (low1 : Int) (most2 : Int) (n9 : Int) : Option (List Int × Bool) := c_i_WholeRisers.L.1 ((r0, ()), (high0, low1, most2, (), n9, ()), ((), (), (), ()))
theorem i_WholeRisers_u1 (r0 : List (Int)) (high0 : Int) (low1 : Int) (most2 : Int) (n9 : Int) : i_WholeRisers_L1 r0 high0 low1 most2 n9 = i_WholeRisers_t1 i_WholeRisers_L1 r0 high0 low1 most2 n9 :=
  (congrArg (fun g => g.1 ((r0, ()), (high0, low1, most2, (), n9, ()), ((), (), (), ()))) (FnCx.L_eq i_WholeRisers_ts)).trans (by kernel_rfl)
noncomputable def i_WholeRisers (high0 : Int) (low1 : Int) (most2 : Int) : Option (List Int × Bool) := i_WholeRisers_t0 i_WholeRisers_L1 high0 low1 most2
theorem i_WholeRisers_e (high0 : Int) (low1 : Int) (most2 : Int) : c_i_WholeRisers.start c_i_WholeRisers.L (high0, low1, most2, ()) = i_WholeRisers high0 low1 most2 := by kernel_rfl
noncomputable def F_i_WholeRisers : Ins c_i_WholeRisers.ins → Option (List Int × Bool) := fun x => i_WholeRisers x.1 x.2.1 x.2.2.1
noncomputable def S_i_WholeRisers : FSpec := mkF c_i_WholeRisers.env.pre c_i_WholeRisers.ins c_i_WholeRisers.out c_i_WholeRisers.inj F_i_WholeRisers
theorem h_i_WholeRisers : Cert Tryz.prog 62 S_i_WholeRisers := FnCx.certF (c := c_i_WholeRisers) F_i_WholeRisers (tyOk _ _ _) (spOk ⟨h_i_isHigh, fun _ _ h => h, ⟨h_i_within, fun _ _ h => h, trivial⟩⟩) (fun _ _ _ _ _ hs => noDr_ok) Tryz.func62 rfl rfl Tryz.ntmps62 (by kernel_rfl) rfl rfl (fun _ => rfl) i_WholeRisers_ts i_WholeRisers_hs (fun x t hb ht => by
  obtain ⟨high0, low1, most2, _⟩ := x
  exact (i_WholeRisers_e high0 low1 most2).trans ht)
/-! impl.FlightsFor -/
noncomputable def c_i_FlightsFor : FnCx := { env := env 63 [(62, S_i_WholeRisers), (75, S_i_within), (108, S_i_isSum), (49, S_i_IsFlight), (104, S_i_Flight_run)] [], body := bodyOf Tryz.f59, res := [.tmp 6, .tmp 7], ins := [.ro kint, .ro kint, .ro kint], out := [(kSFlight, true), (kbool, true)], T := List (Int × Int × Int) × Bool, fin := fun r => (r.1.1, r.1.2.1), inj := fun t => ((t.1, t.2, ()), ((), (), (), ())), pts := [([.inLoop [1, 1, 1, 1, 0, 1, 0, 0], .inBlock 0, .code [1, 1, 1, 1, 1]], Shape.mk [Bs.row kFlight 52 true, Bs.row kint 3 true] [(0, Ss.one (Cs.sc kint)), (1, Ss.one (Cs.sc kint)), (2, Ss.one (Cs.sc kint)), (10, Ss.one (Cs.sl 0)), (32, Ss.one (Cs.sl 1)), (33, Ss.one (Cs.sc kint)), (34, Ss.one (Cs.sc kint))] [Ss.one (Cs.any), Ss.one (Cs.any), Ss.one (Cs.any)])], fuel := 400, dr := evDr (env 63 [(62, S_i_WholeRisers), (75, S_i_within), (108, S_i_isSum), (49, S_i_IsFlight), (104, S_i_Flight_run)] []) }
noncomputable def i_FlightsFor_t1 (g1 : List (Int × (Int × Int)) → List (Int) → Int → Int → Int → Int → Int → Option (List (Int × Int × Int) × Bool)) (r0 : List (Int × (Int × Int))) (r1 : List (Int)) (high0 : Int) (run1 : Int) (sum2 : Int) (s33 : Int) (s34 : Int) : Option (List (Int × Int × Int) × Bool) :=
  bif decide (s34 < s33) then
    bif decide (0 ≤ s34) then
      bif decide (s34 < (↑(List.length r1) : Int)) then
        bif rdk kint r1 s34 == 0 then none
        else
          bif rdk kint r1 s34 == 0 then none
          else
            bif
                i_IsFlight (rdk kint r1 s34) (IntKind.wrap IntKind.i64 (Int.tdiv high0 (rdk kint r1 s34)))
                  (IntKind.wrap IntKind.i64
                    (sum2 - IntKind.wrap IntKind.i64 (2 * IntKind.wrap IntKind.i64 (Int.tdiv high0 (rdk kint r1 s34))))) then
              bif
                  decide
                    (i_Flight_run (rdk kint r1 s34) (IntKind.wrap IntKind.i64 (Int.tdiv high0 (rdk kint r1 s34)))
                        (IntKind.wrap IntKind.i64
                          (sum2 - IntKind.wrap IntKind.i64 (2 * IntKind.wrap IntKind.i64 (Int.tdiv high0 (rdk kint r1 s34))))) ≤
                      run1) then
                bif Nat.ble (List.length r0 + 1) 4294967296 then
                  g1
                    (r0 ++
                      [(rdk kint r1 s34, IntKind.wrap IntKind.i64 (Int.tdiv high0 (rdk kint r1 s34)),
                          IntKind.wrap IntKind.i64
                            (sum2 - IntKind.wrap IntKind.i64 (2 * IntKind.wrap IntKind.i64 (Int.tdiv high0 (rdk kint r1 s34)))))])
                    r1 high0 run1 sum2 s33 (IntKind.wrap IntKind.i64 (s34 + 1))
                else none
              else g1 r0 r1 high0 run1 sum2 s33 (IntKind.wrap IntKind.i64 (s34 + 1))
            else g1 r0 r1 high0 run1 sum2 s33 (IntKind.wrap IntKind.i64 (s34 + 1))
      else none
    else none
  else some (r0, true)
noncomputable def i_FlightsFor_t0 (g1 : List (Int × (Int × Int)) → List (Int) → Int → Int → Int → Int → Int → Option (List (Int × Int × Int) × Bool)) (high0 : Int) (run1 : Int) (sum2 : Int) : Option (List (Int × Int × Int) × Bool) :=
  Option.bind (i_WholeRisers high0 1 250) fun r =>
    bif !Prod.snd r then some ([], false)
    else
      bif !i_within run1 0 50000 then some ([], false)
      else bif !i_isSum sum2 then some ([], false) else g1 [] (Prod.fst r) high0 run1 sum2 (↑(List.length (Prod.fst r)) : Int) 0
theorem i_FlightsFor_ts : Tails c_i_FlightsFor.pts c_i_FlightsFor.round :=
  ⟨fun s => by
    obtain ⟨⟨r0, r1, _⟩, ⟨high0, run1, sum2, _, _, s33, s34, _⟩, ⟨_, _, _, _⟩⟩ := s
    refine Tail.eq (Y := fun g => i_FlightsFor_t1 (fun r0 r1 high0 run1 sum2 s33 s34 => g.1 ((r0, r1, ()), (high0, run1, sum2, (), (), s33, s34, ()), ((), (), (), ()))) r0 r1 high0 run1 sum2 s33 s34) ?_ (fun g => by kernel_rfl)
    simp only [i_FlightsFor_t1]; repeat (first | exact Tail.const _ | exact Tail.here _ | exact Tail.there (Tail.here _) | exact Tail.there (Tail.there (Tail.here _)) | exact Tail.there (Tail.there (Tail.there (Tail.here _))) | exact Tail.there (Tail.there (Tail.there (Tail.there (Tail.here _)))) | exact Tail.there (Tail.there (Tail.there (Tail.there (Tail.there (Tail.here _))))) | apply Tail.cond | (apply Tail.bind; intro _)), trivial⟩
theorem i_FlightsFor_hs : ∀ x, Tail c_i_FlightsFor.pts (fun g => c_i_FlightsFor.start g x) := fun x => by
    obtain ⟨high0, run1, sum2, _⟩ := x
    refine Tail.eq (Y := fun g => i_FlightsFor_t0 (fun r0 r1 high0 run1 sum2 s33 s34 => g.1 ((r0, r1, ()), (high0, run1, sum2, (), (), s33, s34, ()), ((), (), (), ()))) high0 run1 sum2) ?_ (fun g => by kernel_rfl)
    simp only [i_FlightsFor_t0]; repeat (first | exact Tail.const _ | exact Tail.here _ | exact Tail.there (Tail.here _) | exact Tail.there (Tail.there (Tail.here _)) | exact Tail.there (Tail.there (Tail.there (Tail.here _))) | exact Tail.there (Tail.there (Tail.there (Tail.there (Tail.here _)))) | exact Tail.there (Tail.there (Tail.there (Tail.there (Tail.there (Tail.here _))))) | apply Tail.cond | (apply Tail.bind; intro _))
noncomputable def i_FlightsFor_L1 (r0 : List (Int × (Int × Int))) (r1 : List (Int)) (high0 : Int) (run1 : Int) (sum2 : Int) (s33 : Int) (s34 : Int) : Option (List (Int × Int × Int) × Bool) := c_i_FlightsFor.L.1 ((r0, r1, ()), (high0, run1, sum2, (), (), s33, s34, ()), ((), (), (), ()))
theorem i_FlightsFor_u1 (r0 : List (Int × (Int × Int))) (r1 : List (Int)) (high0 : Int) (run1 : Int) (sum2 : Int) (s33 : Int) (s34 : Int) : i_FlightsFor_L1 r0 r1 high0 run1 sum2 s33 s34 = i_FlightsFor_t1 i_FlightsFor_L1 r0 r1 high0 run1 sum2 s33 s34 :=
  (congrArg (fun g => g.1 ((r0, r1, ()), (high0, run1, sum2, (), (), s33, s34, ()), ((), (), (), ()))) (FnCx.L_eq i_FlightsFor_ts)).trans (by kernel_rfl)
noncomputable def i_FlightsFor (high0 : Int) (run1 : Int) (sum2 : Int) : Option (List (Int × Int × Int) × Bool) := i_FlightsFor_t0 i_FlightsFor_L1 high0 run1 sum2
theorem i_FlightsFor_e (high0 : Int) (run1 : Int) (sum2 : Int) : c_i_FlightsFor.start c_i_FlightsFor.L (high0, run1, sum2, ()) = i_FlightsFor high0 run1 sum2 := by kernel_rfl
noncomputable def F_i_FlightsFor : Ins c_i_FlightsFor.ins → Option (List (Int × Int × Int) × Bool) := fun x => i_FlightsFor x.1 x.2.1 x.2.2.1
noncomputable def S_i_FlightsFor : FSpec := mkF c_i_FlightsFor.env.pre c_i_FlightsFor.ins c_i_FlightsFor.out c_i_FlightsFor.inj F_i_FlightsFor
theorem h_i_FlightsFor : Cert Tryz.prog 59 S_i_FlightsFor := FnCx.certF (c := c_i_FlightsFor) F_i_FlightsFor (tyOk _ _ _) (spOk ⟨h_i_WholeRisers, fun _ _ h => h, ⟨h_i_within, fun _ _ h => h, ⟨h_i_isSum, fun _ _ h => h, ⟨h_i_IsFlight, fun _ _ h => h, ⟨h_i_Flight_run, fun _ _ h => h, trivial⟩⟩⟩⟩⟩) (fun _ _ _ _ _ hs => evDr_ok (tyOk _ _ _) hs follows) Tryz.func59 rfl rfl Tryz.ntmps59 (by kernel_rfl) rfl rfl (fun _ => rfl) i_FlightsFor_ts i_FlightsFor_hs (fun x t hb ht => by
  obtain ⟨high0, run1, sum2, _⟩ := x
  exact (i_FlightsFor_e high0 run1 sum2).trans ht)
/-! spec.FlightsFor -/
noncomputable def c_s_FlightsFor : FnCx := { env := env 61 [(111, S_s_riHigh), (79, S_s_l1In), (101, S_s_riGood)] [], body := bodyOf Tryz.f60, res := [.tmp 6, .tmp 7], ins := [.ro kint, .ro kint, .ro kint], out := [(kSFlight, true), (kbool, true)], T := List (Int × Int × Int) × Bool, fin := fun r => (r.1.1, r.1.2.1), inj := fun t => ((t.1, t.2, ()), ((), (), (), ())), pts := [([.inLoop [1, 1, 1, 0, 1, 0, 0], .inBlock 0, .code [1, 1, 1, 1]], Shape.mk [Bs.row kFlight 52 true] [(0, Ss.one (Cs.sc kint)), (1, Ss.one (Cs.sc kint)), (2, Ss.one (Cs.sc kint)), (8, Ss.one (Cs.sl 0)), (9, Ss.one (Cs.sc kint))] [Ss.one (Cs.any), Ss.one (Cs.any), Ss.one (Cs.any)])], fuel := 400, dr := evDr (env 61 [(111, S_s_riHigh), (79, S_s_l1In), (101, S_s_riGood)] []) }
noncomputable def s_FlightsFor_t1 (g1 : List (Int × (Int × Int)) → Int → Int → Int → Int → Option (List (Int × Int × Int) × Bool)) (r0 : List (Int × (Int × Int))) (high0 : Int) (run1 : Int) (sum2 : Int) (n9 : Int) : Option (List (Int × Int × Int) × Bool) :=
  bif decide (n9 ≤ 100) then
    bif n9 == 0 then none
    else
      bif n9 == 0 then none
      else
        bif n9 == 0 then none
        else
          bif Int.tmod high0 n9 == 0 then
            bif
                s_riGood n9 (IntKind.wrap IntKind.i64 (Int.tdiv high0 n9))
                  (IntKind.wrap IntKind.i64 (sum2 - IntKind.wrap IntKind.i64 (2 * IntKind.wrap IntKind.i64 (Int.tdiv high0 n9)))) then
              bif
                  decide
                    (IntKind.wrap IntKind.i64
                        (IntKind.wrap IntKind.i64 (n9 - 1) *
                          IntKind.wrap IntKind.i64 (sum2 - IntKind.wrap IntKind.i64 (2 * IntKind.wrap IntKind.i64 (Int.tdiv high0 n9)))) ≤
                      run1) then
                bif Nat.ble (List.length r0 + 1) 4294967296 then
                  g1
                    (r0 ++
                      [(n9, IntKind.wrap IntKind.i64 (Int.tdiv high0 n9),
                          IntKind.wrap IntKind.i64 (sum2 - IntKind.wrap IntKind.i64 (2 * IntKind.wrap IntKind.i64 (Int.tdiv high0 n9))))])
                    high0 run1 sum2 (IntKind.wrap IntKind.i64 (n9 + 1))
                else none
              else g1 r0 high0 run1 sum2 (IntKind.wrap IntKind.i64 (n9 + 1))
            else g1 r0 high0 run1 sum2 (IntKind.wrap IntKind.i64 (n9 + 1))
          else g1 r0 high0 run1 sum2 (IntKind.wrap IntKind.i64 (n9 + 1))
  else some (r0, true)
noncomputable def s_FlightsFor_t0 (g1 : List (Int × (Int × Int)) → Int → Int → Int → Int → Option (List (Int × Int × Int) × Bool)) (high0 : Int) (run1 : Int) (sum2 : Int) : Option (List (Int × Int × Int) × Bool) :=
  bif !s_riHigh high0 then some ([], false)
  else bif !s_l1In run1 0 50000 then some ([], false) else bif !s_l1In sum2 1 2000 then some ([], false) else g1 [] high0 run1 sum2 1
theorem s_FlightsFor_ts : Tails c_s_FlightsFor.pts c_s_FlightsFor.round :=
  ⟨fun s => by
    obtain ⟨⟨r0, _⟩, ⟨high0, run1, sum2, _, n9, _⟩, ⟨_, _, _, _⟩⟩ := s
    refine Tail.eq (Y := fun g => s_FlightsFor_t1 (fun r0 high0 run1 sum2 n9 => g.1 ((r0, ()), (high0, run1, sum2, (), n9, ()), ((), (), (), ()))) r0 high0 run1 sum2 n9) ?_ (fun g => by kernel_rfl)
    simp only [s_FlightsFor_t1]; repeat (first | exact Tail.const _ | exact Tail.here _ | exact Tail.there (Tail.here _) | exact Tail.there (Tail.there (Tail.here _)) | exact Tail.there (Tail.there (Tail.there (Tail.here _))) | exact Tail.there (Tail.there (Tail.there (Tail.there (Tail.here _)))) | exact Tail.there (Tail.there (Tail.there (Tail.there (Tail.there (Tail.here _))))) | apply Tail.cond | (apply Tail.bind; intro _)), trivial⟩
theorem s_FlightsFor_hs : ∀ x, Tail c_s_FlightsFor.pts (fun g => c_s_FlightsFor.start g x) := fun x => by
    obtain ⟨high0, run1, sum2, _⟩ := x
    refine Tail.eq (Y := fun g => s_FlightsFor_t0 (fun r0 high0 run1 sum2 n9 => g.1 ((r0, ()), (high0, run1, sum2, (), n9, ()), ((), (), (), ()))) high0 run1 sum2) ?_ (fun g => by kernel_rfl)
    simp only [s_FlightsFor_t0]; repeat (first | exact Tail.const _ | exact Tail.here _ | exact Tail.there (Tail.here _) | exact Tail.there (Tail.there (Tail.here _)) | exact Tail.there (Tail.there (Tail.there (Tail.here _))) | exact Tail.there (Tail.there (Tail.there (Tail.there (Tail.here _)))) | exact Tail.there (Tail.there (Tail.there (Tail.there (Tail.there (Tail.here _))))) | apply Tail.cond | (apply Tail.bind; intro _))
noncomputable def s_FlightsFor_L1 (r0 : List (Int × (Int × Int))) (high0 : Int) (run1 : Int) (sum2 : Int) (n9 : Int) : Option (List (Int × Int × Int) × Bool) := c_s_FlightsFor.L.1 ((r0, ()), (high0, run1, sum2, (), n9, ()), ((), (), (), ()))
theorem s_FlightsFor_u1 (r0 : List (Int × (Int × Int))) (high0 : Int) (run1 : Int) (sum2 : Int) (n9 : Int) : s_FlightsFor_L1 r0 high0 run1 sum2 n9 = s_FlightsFor_t1 s_FlightsFor_L1 r0 high0 run1 sum2 n9 :=
  (congrArg (fun g => g.1 ((r0, ()), (high0, run1, sum2, (), n9, ()), ((), (), (), ()))) (FnCx.L_eq s_FlightsFor_ts)).trans (by kernel_rfl)
noncomputable def s_FlightsFor (high0 : Int) (run1 : Int) (sum2 : Int) : Option (List (Int × Int × Int) × Bool) := s_FlightsFor_t0 s_FlightsFor_L1 high0 run1 sum2
theorem s_FlightsFor_e (high0 : Int) (run1 : Int) (sum2 : Int) : c_s_FlightsFor.start c_s_FlightsFor.L (high0, run1, sum2, ()) = s_FlightsFor high0 run1 sum2 := by kernel_rfl
noncomputable def F_s_FlightsFor : Ins c_s_FlightsFor.ins → Option (List (Int × Int × Int) × Bool) := fun x => s_FlightsFor x.1 x.2.1 x.2.2.1
noncomputable def S_s_FlightsFor : FSpec := mkF c_s_FlightsFor.env.pre c_s_FlightsFor.ins c_s_FlightsFor.out c_s_FlightsFor.inj F_s_FlightsFor
theorem h_s_FlightsFor : Cert Tryz.prog 60 S_s_FlightsFor := FnCx.certF (c := c_s_FlightsFor) F_s_FlightsFor (tyOk _ _ _) (spOk ⟨h_s_riHigh, fun _ _ h => h, ⟨h_s_l1In, fun _ _ h => h, ⟨h_s_riGood, fun _ _ h => h, trivial⟩⟩⟩) (fun _ _ _ _ _ hs => evDr_ok (tyOk _ _ _) hs follows) Tryz.func60 rfl rfl Tryz.ntmps60 (by kernel_rfl) rfl rfl (fun _ => rfl) s_FlightsFor_ts s_FlightsFor_hs (fun x t hb ht => by
  obtain ⟨high0, run1, sum2, _⟩ := x
  exact (s_FlightsFor_e high0 run1 sum2).trans ht)
/-! spec.WholeRisers -/
noncomputable def c_s_WholeRisers : FnCx := { env := env 44 [(111, S_s_riHigh), (79, S_s_l1In)] [], body := bodyOf Tryz.f63, res := [.tmp 6, .tmp 7], ins := [.ro kint, .ro kint, .ro kint], out := [(kSint, true), (kbool, true)], T := List Int × Bool, fin := fun r => (r.1.1, r.1.2.1), inj := fun t => ((t.1, t.2, ()), ((), (), (), ())), pts := [([.inLoop [1, 1, 1, 0, 1, 0, 0], .inBlock 0, .code [1, 1, 1, 1]], Shape.mk [Bs.row kint 3 true] [(0, Ss.one (Cs.sc kint)), (1, Ss.one (Cs.sc kint)), (2, Ss.one (Cs.sc kint)), (8, Ss.one (Cs.sl 0)), (9, Ss.one (Cs.sc kint))] [Ss.one (Cs.any), Ss.one (Cs.any), Ss.one (Cs.any)])], fuel := 400, dr := noDr }
noncomputable def s_WholeRisers_t1 (g1 : List (Int) → Int → Int → Int → Int → Option (List Int × Bool)) (r0 : List (Int)) (high0 : Int) (low1 : Int) (most2 : Int) (n9 : Int) : Option (List Int × Bool) :=
  bif decide (n9 ≤ 100) then
    bif n9 == 0 then none
    else
      bif Int.tmod high0 n9 == 0 then
        bif n9 == 0 then none
        else
          bif s_l1In (IntKind.wrap IntKind.i64 (Int.tdiv high0 n9)) low1 most2 then
            bif Nat.ble (List.length r0 + 1) 4294967296 then g1 (r0 ++ [n9]) high0 low1 most2 (IntKind.wrap IntKind.i64 (n9 + 1)) else none
          else g1 r0 high0 low1 most2 (IntKind.wrap IntKind.i64 (n9 + 1))
      else g1 r0 high0 low1 most2 (IntKind.wrap IntKind.i64 (n9 + 1))
  else some (r0, true)
noncomputable def s_WholeRisers_t0 (g1 : List (Int) → Int → Int → Int → Int → Option (List Int × Bool)) (high0 : Int) (low1 : Int) (most2 : Int) : Option (List Int × Bool) :=
  bif !s_riHigh high0 then some ([], false)
  else bif !s_l1In low1 1 250 then some ([], false) else bif !s_l1In most2 1 250 then some ([], false) else g1 [] high0 low1 most2 1
theorem s_WholeRisers_ts : Tails c_s_WholeRisers.pts c_s_WholeRisers.round :=
  ⟨fun s => by
    obtain ⟨⟨r0, _⟩, ⟨high0, low1, most2, _, n9, _⟩, ⟨_, _, _, _⟩⟩ := s
    refine Tail.eq (Y := fun g => s_WholeRisers_t1 (fun r0 high0 low1 most2 n9 => g.1 ((r0, ()), (high0, low1, most2, (), n9, ()), ((), (), (), ()))) r0 high0 low1 most2 n9) ?_ (fun g => by kernel_rfl)
    simp only [s_WholeRisers_t1]; repeat (first | exact Tail.const _ | exact Tail.here _ | exact Tail.there (Tail.here _) | exact Tail.there (Tail.there (Tail.here _)) | exact Tail.there (Tail.there (Tail.there (Tail.here _))) | exact Tail.there (Tail.there (Tail.there (Tail.there (Tail.here _)))) | exact Tail.there (Tail.there (Tail.there (Tail.there (Tail.there (Tail.here _))))) | apply Tail.cond | (apply Tail.bind; intro _)), trivial⟩
theorem s_WholeRisers_hs : ∀ x, Tail c_s_WholeRisers.pts (fun g => c_s_WholeRisers.start g x) := fun x => by
    obtain ⟨high0, low1, most2, _⟩ := x
    refine Tail.eq (Y := fun g => s_WholeRisers_t0 (fun r0 high0 low1 most2 n9 => g.1 ((r0, ()), (high0, low1, most2, (), n9, ()), ((), (), (), ()))) high0 low1 most2) ?_ (fun g => by kernel_rfl)
    simp only [s_WholeRisers_t0]; repeat (first | exact Tail.const _ | exact Tail.here _ | exact Tail.there (Tail.here _) | exact Tail.there (Tail.there (Tail.here _)) | exact Tail.there (Tail.there (Tail.there (Tail.here _))) | exact Tail.there (Tail.there (Tail.there (Tail.there (Tail.here _)))) | exact Tail.there (Tail.there (Tail.there (Tail.there (Tail.there (Tail.here _))))) | apply Tail.cond | (apply Tail.bind; intro _))
noncomputable def s_WholeRisers_L1 (r0 : List (Int)) (high0 : Int) (low1 : Int) (most2 : Int) (n9 : Int) : Option (List Int × Bool) := c_s_WholeRisers.L.1 ((r0, ()), (high0, low1, most2, (), n9, ()), ((), (), (), ()))
theorem s_WholeRisers_u1 (r0 : List (Int)) (high0 : Int) (low1 : Int) (most2 : Int) (n9 : Int) : s_WholeRisers_L1 r0 high0 low1 most2 n9 = s_WholeRisers_t1 s_WholeRisers_L1 r0 high0 low1 most2 n9 :=
  (congrArg (fun g => g.1 ((r0, ()), (high0, low1, most2, (), n9, ()), ((), (), (), ()))) (FnCx.L_eq s_WholeRisers_ts)).trans (by kernel_rfl)
noncomputable def s_WholeRisers (high0 : Int) (low1 : Int) (most2 : Int) : Option (List Int × Bool) := s_WholeRisers_t0 s_WholeRisers_L1 high0 low1 most2
theorem s_WholeRisers_e (high0 : Int) (low1 : Int) (most2 : Int) : c_s_WholeRisers.start c_s_WholeRisers.L (high0, low1, most2, ()) = s_WholeRisers high0 low1 most2 := by kernel_rfl
noncomputable def F_s_WholeRisers : Ins c_s_WholeRisers.ins → Option (List Int × Bool) := fun x => s_WholeRisers x.1 x.2.1 x.2.2.1
noncomputable def S_s_WholeRisers : FSpec := mkF c_s_WholeRisers.env.pre c_s_WholeRisers.ins c_s_WholeRisers.out c_s_WholeRisers.inj F_s_WholeRisers
theorem h_s_WholeRisers : Cert Tryz.prog 63 S_s_WholeRisers := FnCx.certF (c := c_s_WholeRisers) F_s_WholeRisers (tyOk _ _ _) (spOk ⟨h_s_riHigh, fun _ _ h => h, ⟨h_s_l1In, fun _ _ h => h, trivial⟩⟩) (fun _ _ _ _ _ hs => noDr_ok) Tryz.func63 rfl rfl Tryz.ntmps63 (by kernel_rfl) rfl rfl (fun _ => rfl) s_WholeRisers_ts s_WholeRisers_hs (fun x t hb ht => by
  obtain ⟨high0, low1, most2, _⟩ := x
  exact (s_WholeRisers_e high0 low1 most2).trans ht)
/-! laws.lLow -/
noncomputable def c_w_lLow : FnCx := { env := env 23 [] [], body := bodyOf Tryz.f107, res := [.tmp 4], ins := [.ro kint, .ro kint], out := [(kbool, true)], T := Bool, fin := fun r => r.1.1, inj := fun t => ((t, ()), ((), (), ())), pts := [([.inLoop [1, 1, 1, 0, 0, 0], .inBlock 0, .code [1, 1, 1, 1]], Shape.mk [] [(5, Ss.one (Cs.sc kint)), (6, Ss.one (Cs.sc kint))] [Ss.one (Cs.any), Ss.one (Cs.any)])], fuel := 400, dr := evDr (env 23 [] []) }
noncomputable def w_lLow_t1 (g1 : Int → Int → Option (Bool)) (a5 : Int) (b6 : Int) : Option Bool :=
  bif decide (b6 > 0) then bif b6 == 0 then none else g1 b6 (Int.tmod a5 b6) else some (a5 == 1)
noncomputable def w_lLow_t0 (g1 : Int → Int → Option (Bool)) (num0 : Int) (den1 : Int) : Option Bool :=
  bif decide (num0 < 0) then some false else bif decide (den1 < 1) then some false else g1 num0 den1
theorem w_lLow_ts : Tails c_w_lLow.pts c_w_lLow.round :=
  ⟨fun s => by
    obtain ⟨_, ⟨a5, b6, _⟩, ⟨_, _, _⟩⟩ := s
    refine Tail.eq (Y := fun g => w_lLow_t1 (fun a5 b6 => g.1 ((), (a5, b6, ()), ((), (), ()))) a5 b6) ?_ (fun g => by kernel_rfl)
    simp only [w_lLow_t1]; repeat (first | exact Tail.const _ | exact Tail.here _ | exact Tail.there (Tail.here _) | exact Tail.there (Tail.there (Tail.here _)) | exact Tail.there (Tail.there (Tail.there (Tail.here _))) | exact Tail.there (Tail.there (Tail.there (Tail.there (Tail.here _)))) | exact Tail.there (Tail.there (Tail.there (Tail.there (Tail.there (Tail.here _))))) | apply Tail.cond | (apply Tail.bind; intro _)), trivial⟩
theorem w_lLow_hs : ∀ x, Tail c_w_lLow.pts (fun g => c_w_lLow.start g x) := fun x => by
    obtain ⟨num0, den1, _⟩ := x
    refine Tail.eq (Y := fun g => w_lLow_t0 (fun a5 b6 => g.1 ((), (a5, b6, ()), ((), (), ()))) num0 den1) ?_ (fun g => by kernel_rfl)
    simp only [w_lLow_t0]; repeat (first | exact Tail.const _ | exact Tail.here _ | exact Tail.there (Tail.here _) | exact Tail.there (Tail.there (Tail.here _)) | exact Tail.there (Tail.there (Tail.there (Tail.here _))) | exact Tail.there (Tail.there (Tail.there (Tail.there (Tail.here _)))) | exact Tail.there (Tail.there (Tail.there (Tail.there (Tail.there (Tail.here _))))) | apply Tail.cond | (apply Tail.bind; intro _))
noncomputable def w_lLow_L1 (a5 : Int) (b6 : Int) : Option Bool := c_w_lLow.L.1 ((), (a5, b6, ()), ((), (), ()))
theorem w_lLow_u1 (a5 : Int) (b6 : Int) : w_lLow_L1 a5 b6 = w_lLow_t1 w_lLow_L1 a5 b6 :=
  (congrArg (fun g => g.1 ((), (a5, b6, ()), ((), (), ()))) (FnCx.L_eq w_lLow_ts)).trans (by kernel_rfl)
noncomputable def w_lLow (num0 : Int) (den1 : Int) : Option Bool := w_lLow_t0 w_lLow_L1 num0 den1
theorem w_lLow_e (num0 : Int) (den1 : Int) : c_w_lLow.start c_w_lLow.L (num0, den1, ()) = w_lLow num0 den1 := by kernel_rfl
noncomputable def F_w_lLow : Ins c_w_lLow.ins → Option Bool := fun x => w_lLow x.1 x.2.1
noncomputable def S_w_lLow : FSpec := mkF c_w_lLow.env.pre c_w_lLow.ins c_w_lLow.out c_w_lLow.inj F_w_lLow
theorem h_w_lLow : Cert Tryz.prog 107 S_w_lLow := FnCx.certF (c := c_w_lLow) F_w_lLow (tyOk _ _ _) (spOk trivial) (fun _ _ _ _ _ hs => evDr_ok (tyOk _ _ _) hs follows) Tryz.func107 rfl rfl Tryz.ntmps107 (by kernel_rfl) rfl rfl (fun _ => rfl) w_lLow_ts w_lLow_hs (fun x t hb ht => by
  obtain ⟨num0, den1, _⟩ := x
  exact (w_lLow_e num0 den1).trans ht)
/-! laws.lIs -/
noncomputable def c_w_lIs : FnCx := { env := env 21 [(107, S_w_lLow)] [], body := bodyOf Tryz.f52, res := [.tmp 8], ins := [.ro kint, .ro kint, .ro kint, .ro kint], out := [(kbool, true)], T := Bool, fin := fun r => r.1.1, inj := fun t => ((t, ()), ((), (), (), (), ())), pts := [], fuel := 400, dr := noDr }
noncomputable def w_lIs (num0 : Int) (den1 : Int) (x2 : Int) (y3 : Int) : Option Bool :=
  Option.bind (w_lLow num0 den1) fun r => bif r then some (IntKind.wrap IntKind.i64 (num0 * y3) == IntKind.wrap IntKind.i64 (x2 * den1)) else some false
theorem w_lIs_e (num0 : Int) (den1 : Int) (x2 : Int) (y3 : Int) : c_w_lIs.start c_w_lIs.L (num0, den1, x2, y3, ()) = w_lIs num0 den1 x2 y3 := by kernel_rfl
noncomputable def F_w_lIs : Ins c_w_lIs.ins → Option Bool := fun x => w_lIs x.1 x.2.1 x.2.2.1 x.2.2.2.1
noncomputable def S_w_lIs : FSpec := mkF c_w_lIs.env.pre c_w_lIs.ins c_w_lIs.out c_w_lIs.inj F_w_lIs
theorem h_w_lIs : Cert Tryz.prog 52 S_w_lIs := FnCx.certF (c := c_w_lIs) F_w_lIs (tyOk _ _ _) (spOk ⟨h_w_lLow, fun _ _ h => h, trivial⟩) (fun _ _ _ _ _ hs => noDr_ok) Tryz.func52 rfl rfl Tryz.ntmps52 (by kernel_rfl) rfl rfl (fun _ => rfl) trivial (fun x => .inl ⟨c_w_lIs.start () x, fun _ => rfl⟩) (fun x t hb ht => by
  obtain ⟨num0, den1, x2, y3, _⟩ := x
  exact (w_lIs_e num0 den1 x2 y3).trans ht)
/-! laws.lSame -/
noncomputable def c_w_lSame : FnCx := { env := env 26 [] [], body := bodyOf Tryz.f66, res := [.tmp 4], ins := [.ro kSint, .ro kSint], out := [(kbool, true)], T := Bool, fin := fun r => r.1.1, inj := fun t => ((t, ()), ((), (), ())), pts := [([.inLoop [1, 1, 0, 1, 0, 0], .inBlock 0, .code [1, 1, 1]], Shape.mk [Bs.row kint 3 false, Bs.row kint 3 false] [(0, Ss.one (Cs.sl 0)), (1, Ss.one (Cs.sl 1)), (12, Ss.one (Cs.sc kint)), (13, Ss.one (Cs.sc kint))] [Ss.one (Cs.any), Ss.one (Cs.any)])], fuel := 400, dr := evDr (env 26 [] []) }
noncomputable def w_lSame_t1 (g1 : List (Int) → List (Int) → Int → Int → Option (Bool)) (r0 : List (Int)) (r1 : List (Int)) (s12 : Int) (s13 : Int) : Option Bool :=
  bif decide (s13 < s12) then
    bif decide (0 ≤ s13) then
      bif decide (s13 < (↑(List.length r0) : Int)) then
        bif decide (0 ≤ s13) then
          bif decide (s13 < (↑(List.length r1) : Int)) then
            bif rdk kint r0 s13 != rdk kint r1 s13 then some false else g1 r0 r1 s12 (IntKind.wrap IntKind.i64 (s13 + 1))
          else none
        else none
      else none
    else none
  else some true
noncomputable def w_lSame_t0 (g1 : List (Int) → List (Int) → Int → Int → Option (Bool)) (a0 : List Int) (b1 : List Int) : Option Bool :=
  bif (↑(List.length a0) : Int) != (↑(List.length b1) : Int) then some false else g1 a0 b1 (↑(List.length a0) : Int) 0
theorem w_lSame_ts : Tails c_w_lSame.pts c_w_lSame.round :=
  ⟨fun s => by
    obtain ⟨⟨r0, r1, _⟩, ⟨_, _, s12, s13, _⟩, ⟨_, _, _⟩⟩ := s
    refine Tail.eq (Y := fun g => w_lSame_t1 (fun r0 r1 s12 s13 => g.1 ((r0, r1, ()), ((), (), s12, s13, ()), ((), (), ()))) r0 r1 s12 s13) ?_ (fun g => by kernel_rfl)
    simp only [w_lSame_t1]; repeat (first | exact Tail.const _ | exact Tail.here _ | exact Tail.there (Tail.here _) | exact Tail.there (Tail.there (Tail.here _)) | exact Tail.there (Tail.there (Tail.there (Tail.here _))) | exact Tail.there (Tail.there (Tail.there (Tail.there (Tail.here _)))) | exact Tail.there (Tail.there (Tail.there (Tail.there (Tail.there (Tail.here _))))) | apply Tail.cond | (apply Tail.bind; intro _)), trivial⟩
theorem w_lSame_hs : ∀ x, Tail c_w_lSame.pts (fun g => c_w_lSame.start g x) := fun x => by
    obtain ⟨a0, b1, _⟩ := x
    refine Tail.eq (Y := fun g => w_lSame_t0 (fun r0 r1 s12 s13 => g.1 ((r0, r1, ()), ((), (), s12, s13, ()), ((), (), ()))) a0 b1) ?_ (fun g => by kernel_rfl)
    simp only [w_lSame_t0]; repeat (first | exact Tail.const _ | exact Tail.here _ | exact Tail.there (Tail.here _) | exact Tail.there (Tail.there (Tail.here _)) | exact Tail.there (Tail.there (Tail.there (Tail.here _))) | exact Tail.there (Tail.there (Tail.there (Tail.there (Tail.here _)))) | exact Tail.there (Tail.there (Tail.there (Tail.there (Tail.there (Tail.here _))))) | apply Tail.cond | (apply Tail.bind; intro _))
noncomputable def w_lSame_L1 (r0 : List (Int)) (r1 : List (Int)) (s12 : Int) (s13 : Int) : Option Bool := c_w_lSame.L.1 ((r0, r1, ()), ((), (), s12, s13, ()), ((), (), ()))
theorem w_lSame_u1 (r0 : List (Int)) (r1 : List (Int)) (s12 : Int) (s13 : Int) : w_lSame_L1 r0 r1 s12 s13 = w_lSame_t1 w_lSame_L1 r0 r1 s12 s13 :=
  (congrArg (fun g => g.1 ((r0, r1, ()), ((), (), s12, s13, ()), ((), (), ()))) (FnCx.L_eq w_lSame_ts)).trans (by kernel_rfl)
noncomputable def w_lSame (a0 : List Int) (b1 : List Int) : Option Bool := w_lSame_t0 w_lSame_L1 a0 b1
theorem w_lSame_e (a0 : List Int) (b1 : List Int) : c_w_lSame.start c_w_lSame.L (a0, b1, ()) = w_lSame a0 b1 := by kernel_rfl
noncomputable def F_w_lSame : Ins c_w_lSame.ins → Option Bool := fun x => w_lSame x.1 x.2.1
noncomputable def S_w_lSame : FSpec := mkF c_w_lSame.env.pre c_w_lSame.ins c_w_lSame.out c_w_lSame.inj F_w_lSame
theorem h_w_lSame : Cert Tryz.prog 66 S_w_lSame := FnCx.certF (c := c_w_lSame) F_w_lSame (tyOk _ _ _) (spOk trivial) (fun _ _ _ _ _ hs => evDr_ok (tyOk _ _ _) hs follows) Tryz.func66 rfl rfl Tryz.ntmps66 (by kernel_rfl) rfl rfl (fun _ => rfl) w_lSame_ts w_lSame_hs (fun x t hb ht => by
  obtain ⟨a0, b1, _⟩ := x
  exact (w_lSame_e a0 b1).trans ht)
/-! laws.lSum -/
noncomputable def c_w_lSum : FnCx := { env := env 17 [] [], body := bodyOf Tryz.f68, res := [.tmp 2], ins := [.ro kSint], out := [(kint, true)], T := Int, fin := fun r => r.1.1, inj := fun t => ((t, ()), ((), ())), pts := [([.inLoop [1, 1, 0, 1, 0, 0], .inBlock 0, .code [1, 1, 1]], Shape.mk [Bs.row kint 3 false] [(3, Ss.one (Cs.sc kint)), (6, Ss.one (Cs.sl 0)), (7, Ss.one (Cs.sc kint)), (8, Ss.one (Cs.sc kint))] [Ss.one (Cs.any)])], fuel := 400, dr := noDr }
noncomputable def w_lSum_t1 (g1 : List (Int) → Int → Int → Int → Option (Int)) (r0 : List (Int)) (sum3 : Int) (s7 : Int) (s8 : Int) : Option Int :=
  bif decide (s8 < s7) then
    bif decide (0 ≤ s8) then
      bif decide (s8 < (↑(List.length r0) : Int)) then
        g1 r0 (IntKind.wrap IntKind.i64 (sum3 + rdk kint r0 s8)) s7 (IntKind.wrap IntKind.i64 (s8 + 1))
      else none
    else none
  else some sum3
noncomputable def w_lSum_t0 (g1 : List (Int) → Int → Int → Int → Option (Int)) (list0 : List Int) : Option Int :=
  g1 list0 0 (↑(List.length list0) : Int) 0
theorem w_lSum_ts : Tails c_w_lSum.pts c_w_lSum.round :=
  ⟨fun s => by
    obtain ⟨⟨r0, _⟩, ⟨sum3, _, s7, s8, _⟩, ⟨_, _⟩⟩ := s
    refine Tail.eq (Y := fun g => w_lSum_t1 (fun r0 sum3 s7 s8 => g.1 ((r0, ()), (sum3, (), s7, s8, ()), ((), ()))) r0 sum3 s7 s8) ?_ (fun g => by kernel_rfl)
    simp only [w_lSum_t1]; repeat (first | exact Tail.const _ | exact Tail.here _ | exact Tail.there (Tail.here _) | exact Tail.there (Tail.there (Tail.here _)) | exact Tail.there (Tail.there (Tail.there (Tail.here _))) | exact Tail.there (Tail.there (Tail.there (Tail.there (Tail.here _)))) | exact Tail.there (Tail.there (Tail.there (Tail.there (Tail.there (Tail.here _))))) | apply Tail.cond | (apply Tail.bind; intro _)), trivial⟩
theorem w_lSum_hs : ∀ x, Tail c_w_lSum.pts (fun g => c_w_lSum.start g x) := fun x => by
    obtain ⟨list0, _⟩ := x
    refine Tail.eq (Y := fun g => w_lSum_t0 (fun r0 sum3 s7 s8 => g.1 ((r0, ()), (sum3, (), s7, s8, ()), ((), ()))) list0) ?_ (fun g => by kernel_rfl)
    simp only [w_lSum_t0]; repeat (first | exact Tail.const _ | exact Tail.here _ | exact Tail.there (Tail.here _) | exact Tail.there (Tail.there (Tail.here _)) | exact Tail.there (Tail.there (Tail.there (Tail.here _))) | exact Tail.there (Tail.there (Tail.there (Tail.there (Tail.here _)))) | exact Tail.there (Tail.there (Tail.there (Tail.there (Tail.there (Tail.here _))))) | apply Tail.cond | (apply Tail.bind; intro _))
noncomputable def w_lSum_L1 (r0 : List (Int)) (sum3 : Int) (s7 : Int) (s8 : Int) : Option Int := c_w_lSum.L.1 ((r0, ()), (sum3, (), s7, s8, ()), ((), ()))
theorem w_lSum_u1 (r0 : List (Int)) (sum3 : Int) (s7 : Int) (s8 : Int) : w_lSum_L1 r0 sum3 s7 s8 = w_lSum_t1 w_lSum_L1 r0 sum3 s7 s8 :=
  (congrArg (fun g => g.1 ((r0, ()), (sum3, (), s7, s8, ()), ((), ()))) (FnCx.L_eq w_lSum_ts)).trans (by kernel_rfl)
noncomputable def w_lSum (list0 : List Int) : Option Int := w_lSum_t0 w_lSum_L1 list0
theorem w_lSum_e (list0 : List Int) : c_w_lSum.start c_w_lSum.L (list0, ()) = w_lSum list0 := by kernel_rfl
noncomputable def F_w_lSum : Ins c_w_lSum.ins → Option Int := fun x => w_lSum x.1
noncomputable def S_w_lSum : FSpec := mkF c_w_lSum.env.pre c_w_lSum.ins c_w_lSum.out c_w_lSum.inj F_w_lSum
theorem h_w_lSum : Cert Tryz.prog 68 S_w_lSum := FnCx.certF (c := c_w_lSum) F_w_lSum (tyOk _ _ _) (spOk trivial) (fun _ _ _ _ _ hs => noDr_ok) Tryz.func68 rfl rfl Tryz.ntmps68 (by kernel_rfl) rfl rfl (fun _ => rfl) w_lSum_ts w_lSum_hs (fun x t hb ht => by
  obtain ⟨list0, _⟩ := x
  exact (w_lSum_e list0).trans ht)
/-! laws.lFlights -/
noncomputable def c_w_lFlights : FnCx := { env := env 26 [] [], body := bodyOf Tryz.f67, res := [.tmp 4], ins := [.ro kSFlight, .ro kSFlight], out := [(kbool, true)], T := Bool, fin := fun r => r.1.1, inj := fun t => ((t, ()), ((), (), ())), pts := [([.inLoop [1, 1, 0, 1, 0, 0], .inBlock 0, .code [1, 1, 1]], Shape.mk [Bs.row kFlight 52 false, Bs.row kFlight 52 false] [(0, Ss.one (Cs.sl 0)), (1, Ss.one (Cs.sl 1)), (12, Ss.one (Cs.sc kint)), (13, Ss.one (Cs.sc kint))] [Ss.one (Cs.any), Ss.one (Cs.any)])], fuel := 400, dr := evDr (env 26 [] []) }
noncomputable def w_lFlights_t1 (g1 : List (Int × (Int × Int)) → List (Int × (Int × Int)) → Int → Int → Option (Bool)) (r0 : List (Int × (Int × Int))) (r1 : List (Int × (Int × Int))) (s12 : Int) (s13 : Int) : Option Bool :=
  bif decide (s13 < s12) then
    bif decide (0 ≤ s13) then
      bif decide (s13 < (↑(List.length r0) : Int)) then
        bif decide (0 ≤ s13) then
          bif decide (s13 < (↑(List.length r1) : Int)) then
            bif
                !(Prod.fst (rdk kFlight r0 s13) ==
                      Prod.fst (rdk kFlight r1 s13) &&
                    (Prod.fst (Prod.snd (rdk kFlight r0 s13)) ==
                        Prod.fst (Prod.snd (rdk kFlight r1 s13)) &&
                      Prod.snd (Prod.snd (rdk kFlight r0 s13)) ==
                        Prod.snd (Prod.snd (rdk kFlight r1 s13)))) then
              some false
            else g1 r0 r1 s12 (IntKind.wrap IntKind.i64 (s13 + 1))
          else none
        else none
      else none
    else none
  else some true
noncomputable def w_lFlights_t0 (g1 : List (Int × (Int × Int)) → List (Int × (Int × Int)) → Int → Int → Option (Bool)) (a0 : List ((Int × Int × Int))) (b1 : List ((Int × Int × Int))) : Option Bool :=
  bif (↑(List.length a0) : Int) != (↑(List.length b1) : Int) then some false else g1 a0 b1 (↑(List.length a0) : Int) 0
theorem w_lFlights_ts : Tails c_w_lFlights.pts c_w_lFlights.round :=
  ⟨fun s => by
    obtain ⟨⟨r0, r1, _⟩, ⟨_, _, s12, s13, _⟩, ⟨_, _, _⟩⟩ := s
    refine Tail.eq (Y := fun g => w_lFlights_t1 (fun r0 r1 s12 s13 => g.1 ((r0, r1, ()), ((), (), s12, s13, ()), ((), (), ()))) r0 r1 s12 s13) ?_ (fun g => by kernel_rfl)
    simp only [w_lFlights_t1]; repeat (first | exact Tail.const _ | exact Tail.here _ | exact Tail.there (Tail.here _) | exact Tail.there (Tail.there (Tail.here _)) | exact Tail.there (Tail.there (Tail.there (Tail.here _))) | exact Tail.there (Tail.there (Tail.there (Tail.there (Tail.here _)))) | exact Tail.there (Tail.there (Tail.there (Tail.there (Tail.there (Tail.here _))))) | apply Tail.cond | (apply Tail.bind; intro _)), trivial⟩
theorem w_lFlights_hs : ∀ x, Tail c_w_lFlights.pts (fun g => c_w_lFlights.start g x) := fun x => by
    obtain ⟨a0, b1, _⟩ := x
    refine Tail.eq (Y := fun g => w_lFlights_t0 (fun r0 r1 s12 s13 => g.1 ((r0, r1, ()), ((), (), s12, s13, ()), ((), (), ()))) a0 b1) ?_ (fun g => by kernel_rfl)
    simp only [w_lFlights_t0]; repeat (first | exact Tail.const _ | exact Tail.here _ | exact Tail.there (Tail.here _) | exact Tail.there (Tail.there (Tail.here _)) | exact Tail.there (Tail.there (Tail.there (Tail.here _))) | exact Tail.there (Tail.there (Tail.there (Tail.there (Tail.here _)))) | exact Tail.there (Tail.there (Tail.there (Tail.there (Tail.there (Tail.here _))))) | apply Tail.cond | (apply Tail.bind; intro _))
noncomputable def w_lFlights_L1 (r0 : List (Int × (Int × Int))) (r1 : List (Int × (Int × Int))) (s12 : Int) (s13 : Int) : Option Bool := c_w_lFlights.L.1 ((r0, r1, ()), ((), (), s12, s13, ()), ((), (), ()))
theorem w_lFlights_u1 (r0 : List (Int × (Int × Int))) (r1 : List (Int × (Int × Int))) (s12 : Int) (s13 : Int) : w_lFlights_L1 r0 r1 s12 s13 = w_lFlights_t1 w_lFlights_L1 r0 r1 s12 s13 :=
  (congrArg (fun g => g.1 ((r0, r1, ()), ((), (), s12, s13, ()), ((), (), ()))) (FnCx.L_eq w_lFlights_ts)).trans (by kernel_rfl)
noncomputable def w_lFlights (a0 : List ((Int × Int × Int))) (b1 : List ((Int × Int × Int))) : Option Bool := w_lFlights_t0 w_lFlights_L1 a0 b1
theorem w_lFlights_e (a0 : List ((Int × Int × Int))) (b1 : List ((Int × Int × Int))) : c_w_lFlights.start c_w_lFlights.L (a0, b1, ()) = w_lFlights a0 b1 := by kernel_rfl
noncomputable def F_w_lFlights : Ins c_w_lFlights.ins → Option Bool := fun x => w_lFlights x.1 x.2.1
noncomputable def S_w_lFlights : FSpec := mkF c_w_lFlights.env.pre c_w_lFlights.ins c_w_lFlights.out c_w_lFlights.inj F_w_lFlights
theorem h_w_lFlights : Cert Tryz.prog 67 S_w_lFlights := FnCx.certF (c := c_w_lFlights) F_w_lFlights (tyOk _ _ _) (spOk trivial) (fun _ _ _ _ _ hs => evDr_ok (tyOk _ _ _) hs follows) Tryz.func67 rfl rfl Tryz.ntmps67 (by kernel_rfl) rfl rfl (fun _ => rfl) w_lFlights_ts w_lFlights_hs (fun x t hb ht => by
  obtain ⟨a0, b1, _⟩ := x
  exact (w_lFlights_e a0 b1).trans ht)
/-! laws.lHas -/
noncomputable def c_w_lHas : FnCx := { env := env 17 [] [], body := bodyOf Tryz.f69, res := [.tmp 4], ins := [.ro kSint, .ro kint], out := [(kbool, true)], T := Bool, fin := fun r => r.1.1, inj := fun t => ((t, ()), ((), (), ())), pts := [([.inLoop [1, 0, 1, 0, 0], .inBlock 0, .code [1, 1]], Shape.mk [Bs.row kint 3 false] [(1, Ss.one (Cs.sc kint)), (7, Ss.one (Cs.sl 0)), (8, Ss.one (Cs.sc kint)), (9, Ss.one (Cs.sc kint))] [Ss.one (Cs.any), Ss.one (Cs.any)])], fuel := 400, dr := noDr }
noncomputable def w_lHas_t1 (g1 : List (Int) → Int → Int → Int → Option (Bool)) (r0 : List (Int)) (n1 : Int) (s8 : Int) (s9 : Int) : Option Bool :=
  bif decide (s9 < s8) then
    bif decide (0 ≤ s9) then
      bif decide (s9 < (↑(List.length r0) : Int)) then
        bif rdk kint r0 s9 == n1 then some true else g1 r0 n1 s8 (IntKind.wrap IntKind.i64 (s9 + 1))
      else none
    else none
  else some false
noncomputable def w_lHas_t0 (g1 : List (Int) → Int → Int → Int → Option (Bool)) (list0 : List Int) (n1 : Int) : Option Bool :=
  g1 list0 n1 (↑(List.length list0) : Int) 0
theorem w_lHas_ts : Tails c_w_lHas.pts c_w_lHas.round :=
  ⟨fun s => by
    obtain ⟨⟨r0, _⟩, ⟨n1, _, s8, s9, _⟩, ⟨_, _, _⟩⟩ := s
    refine Tail.eq (Y := fun g => w_lHas_t1 (fun r0 n1 s8 s9 => g.1 ((r0, ()), (n1, (), s8, s9, ()), ((), (), ()))) r0 n1 s8 s9) ?_ (fun g => by kernel_rfl)
    simp only [w_lHas_t1]; repeat (first | exact Tail.const _ | exact Tail.here _ | exact Tail.there (Tail.here _) | exact Tail.there (Tail.there (Tail.here _)) | exact Tail.there (Tail.there (Tail.there (Tail.here _))) | exact Tail.there (Tail.there (Tail.there (Tail.there (Tail.here _)))) | exact Tail.there (Tail.there (Tail.there (Tail.there (Tail.there (Tail.here _))))) | apply Tail.cond | (apply Tail.bind; intro _)), trivial⟩
theorem w_lHas_hs : ∀ x, Tail c_w_lHas.pts (fun g => c_w_lHas.start g x) := fun x => by
    obtain ⟨list0, n1, _⟩ := x
    refine Tail.eq (Y := fun g => w_lHas_t0 (fun r0 n1 s8 s9 => g.1 ((r0, ()), (n1, (), s8, s9, ()), ((), (), ()))) list0 n1) ?_ (fun g => by kernel_rfl)
    simp only [w_lHas_t0]; repeat (first | exact Tail.const _ | exact Tail.here _ | exact Tail.there (Tail.here _) | exact Tail.there (Tail.there (Tail.here _)) | exact Tail.there (Tail.there (Tail.there (Tail.here _))) | exact Tail.there (Tail.there (Tail.there (Tail.there (Tail.here _)))) | exact Tail.there (Tail.there (Tail.there (Tail.there (Tail.there (Tail.here _))))) | apply Tail.cond | (apply Tail.bind; intro _))
noncomputable def w_lHas_L1 (r0 : List (Int)) (n1 : Int) (s8 : Int) (s9 : Int) : Option Bool := c_w_lHas.L.1 ((r0, ()), (n1, (), s8, s9, ()), ((), (), ()))
theorem w_lHas_u1 (r0 : List (Int)) (n1 : Int) (s8 : Int) (s9 : Int) : w_lHas_L1 r0 n1 s8 s9 = w_lHas_t1 w_lHas_L1 r0 n1 s8 s9 :=
  (congrArg (fun g => g.1 ((r0, ()), (n1, (), s8, s9, ()), ((), (), ()))) (FnCx.L_eq w_lHas_ts)).trans (by kernel_rfl)
noncomputable def w_lHas (list0 : List Int) (n1 : Int) : Option Bool := w_lHas_t0 w_lHas_L1 list0 n1
theorem w_lHas_e (list0 : List Int) (n1 : Int) : c_w_lHas.start c_w_lHas.L (list0, n1, ()) = w_lHas list0 n1 := by kernel_rfl
noncomputable def F_w_lHas : Ins c_w_lHas.ins → Option Bool := fun x => w_lHas x.1 x.2.1
noncomputable def S_w_lHas : FSpec := mkF c_w_lHas.env.pre c_w_lHas.ins c_w_lHas.out c_w_lHas.inj F_w_lHas
theorem h_w_lHas : Cert Tryz.prog 69 S_w_lHas := FnCx.certF (c := c_w_lHas) F_w_lHas (tyOk _ _ _) (spOk trivial) (fun _ _ _ _ _ hs => noDr_ok) Tryz.func69 rfl rfl Tryz.ntmps69 (by kernel_rfl) rfl rfl (fun _ => rfl) w_lHas_ts w_lHas_hs (fun x t hb ht => by
  obtain ⟨list0, n1, _⟩ := x
  exact (w_lHas_e list0 n1).trans ht)
/-! laws.lRises -/
noncomputable def c_w_lRises : FnCx := { env := env 20 [] [], body := bodyOf Tryz.f70, res := [.tmp 2], ins := [.ro kSint], out := [(kbool, true)], T := Bool, fin := fun r => r.1.1, inj := fun t => ((t, ()), ((), ())), pts := [([.inLoop [1, 0, 1, 0, 0], .inBlock 0, .code [1, 1]], Shape.mk [Bs.row kint 3 false] [(0, Ss.one (Cs.sl 0)), (3, Ss.one (Cs.sc kint))] [Ss.one (Cs.any)])], fuel := 400, dr := evDr (env 20 [] []) }
noncomputable def w_lRises_t1 (g1 : List (Int) → Int → Option (Bool)) (r0 : List (Int)) (i3 : Int) : Option Bool :=
  bif decide (i3 < (↑(List.length r0) : Int)) then
    bif decide (0 ≤ IntKind.wrap IntKind.i64 (i3 - 1)) then
      bif decide (IntKind.wrap IntKind.i64 (i3 - 1) < (↑(List.length r0) : Int)) then
        bif decide (0 ≤ i3) then
          bif decide (i3 < (↑(List.length r0) : Int)) then
            bif decide (rdk kint r0 (IntKind.wrap IntKind.i64 (i3 - 1)) ≥ rdk kint r0 i3) then some false
            else g1 r0 (IntKind.wrap IntKind.i64 (i3 + 1))
          else none
        else none
      else none
    else none
  else some true
noncomputable def w_lRises_t0 (g1 : List (Int) → Int → Option (Bool)) (list0 : List Int) : Option Bool :=
  g1 list0 1
theorem w_lRises_ts : Tails c_w_lRises.pts c_w_lRises.round :=
  ⟨fun s => by
    obtain ⟨⟨r0, _⟩, ⟨_, i3, _⟩, ⟨_, _⟩⟩ := s
    refine Tail.eq (Y := fun g => w_lRises_t1 (fun r0 i3 => g.1 ((r0, ()), ((), i3, ()), ((), ()))) r0 i3) ?_ (fun g => by kernel_rfl)
    simp only [w_lRises_t1]; repeat (first | exact Tail.const _ | exact Tail.here _ | exact Tail.there (Tail.here _) | exact Tail.there (Tail.there (Tail.here _)) | exact Tail.there (Tail.there (Tail.there (Tail.here _))) | exact Tail.there (Tail.there (Tail.there (Tail.there (Tail.here _)))) | exact Tail.there (Tail.there (Tail.there (Tail.there (Tail.there (Tail.here _))))) | apply Tail.cond | (apply Tail.bind; intro _)), trivial⟩
theorem w_lRises_hs : ∀ x, Tail c_w_lRises.pts (fun g => c_w_lRises.start g x) := fun x => by
    obtain ⟨list0, _⟩ := x
    refine Tail.eq (Y := fun g => w_lRises_t0 (fun r0 i3 => g.1 ((r0, ()), ((), i3, ()), ((), ()))) list0) ?_ (fun g => by kernel_rfl)
    simp only [w_lRises_t0]; repeat (first | exact Tail.const _ | exact Tail.here _ | exact Tail.there (Tail.here _) | exact Tail.there (Tail.there (Tail.here _)) | exact Tail.there (Tail.there (Tail.there (Tail.here _))) | exact Tail.there (Tail.there (Tail.there (Tail.there (Tail.here _)))) | exact Tail.there (Tail.there (Tail.there (Tail.there (Tail.there (Tail.here _))))) | apply Tail.cond | (apply Tail.bind; intro _))
noncomputable def w_lRises_L1 (r0 : List (Int)) (i3 : Int) : Option Bool := c_w_lRises.L.1 ((r0, ()), ((), i3, ()), ((), ()))
theorem w_lRises_u1 (r0 : List (Int)) (i3 : Int) : w_lRises_L1 r0 i3 = w_lRises_t1 w_lRises_L1 r0 i3 :=
  (congrArg (fun g => g.1 ((r0, ()), ((), i3, ()), ((), ()))) (FnCx.L_eq w_lRises_ts)).trans (by kernel_rfl)
noncomputable def w_lRises (list0 : List Int) : Option Bool := w_lRises_t0 w_lRises_L1 list0
theorem w_lRises_e (list0 : List Int) : c_w_lRises.start c_w_lRises.L (list0, ()) = w_lRises list0 := by kernel_rfl
noncomputable def F_w_lRises : Ins c_w_lRises.ins → Option Bool := fun x => w_lRises x.1
noncomputable def S_w_lRises : FSpec := mkF c_w_lRises.env.pre c_w_lRises.ins c_w_lRises.out c_w_lRises.inj F_w_lRises
theorem h_w_lRises : Cert Tryz.prog 70 S_w_lRises := FnCx.certF (c := c_w_lRises) F_w_lRises (tyOk _ _ _) (spOk trivial) (fun _ _ _ _ _ hs => evDr_ok (tyOk _ _ _) hs follows) Tryz.func70 rfl rfl Tryz.ntmps70 (by kernel_rfl) rfl rfl (fun _ => rfl) w_lRises_ts w_lRises_hs (fun x t hb ht => by
  obtain ⟨list0, _⟩ := x
  exact (w_lRises_e list0).trans ht)
end Go.Proofs.YtddlajhpdbjapaaGreatDoor.V
