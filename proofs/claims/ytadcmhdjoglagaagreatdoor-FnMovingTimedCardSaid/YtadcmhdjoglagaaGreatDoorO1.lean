/- Functions of the program, as plain functions. No condition. -/
import Derived.Test.YtadcmhdjoglagaaGreatDoorTyO
set_option linter.unusedVariables false
set_option linter.unusedSimpArgs false
set_option maxRecDepth 100000
namespace Go.Proofs.YtadcmhdjoglagaaGreatDoor.V
open Go Go.Ev Go.Proofs
/-! impl.within -/
noncomputable def c_i_within : FnCx := { env := env 15 [] [], body := bodyOf Tryz.f48, res := [.tmp 6], ins := [.ro kint, .ro kint, .ro kint], out := [(kbool, true)], T := Bool, fin := fun r => r.1.1, inj := fun t => ((t, ()), ((), (), (), ())), pts := [], fuel := 400, dr := noDr }
noncomputable def i_within (n0 : Int) (low1 : Int) (high2 : Int) : Bool :=
  bif decide (low1 ≤ n0) then decide (n0 ≤ high2) else false
theorem i_within_e (n0 : Int) (low1 : Int) (high2 : Int) : c_i_within.start c_i_within.L (n0, low1, high2, ()) = some (i_within n0 low1 high2) := by
  refine Eq.trans (b := (bif decide (low1 ≤ n0) then some (decide (n0 ≤ high2)) else some false : Option Bool)) (by kernel_rfl) ?_
  unfold i_within
  repeat (first | rfl | apply condS)
noncomputable def F_i_within : Ins c_i_within.ins → Bool := fun x => i_within x.1 x.2.1 x.2.2.1
noncomputable def S_i_within : FSpec := mkT c_i_within.env.pre c_i_within.ins c_i_within.out c_i_within.inj F_i_within
theorem h_i_within : Cert Tryz.prog 48 S_i_within := FnCx.certT (c := c_i_within) F_i_within (tyOk _ _ _) (spOk trivial) (fun _ _ _ _ _ hs => noDr_ok) Tryz.func48 rfl rfl Tryz.ntmps48 (by kernel_rfl) rfl rfl (fun _ => rfl) trivial (fun x => .inl ⟨c_i_within.start () x, fun _ => rfl⟩) (fun x hb => by
  obtain ⟨n0, low1, high2, _⟩ := x
  exact i_within_e n0 low1 high2)
/-! impl.IsMoving -/
noncomputable def c_i_IsMoving : FnCx := { env := env 11 [(48, S_i_within)] [], body := bodyOf Tryz.f21, res := [.tmp 2], ins := [.ro kMoving], out := [(kbool, true)], T := Bool, fin := fun r => r.1.1, inj := fun t => ((t, ()), ((), ())), pts := [], fuel := 400, dr := noDr }
noncomputable def i_IsMoving (m0_Visible : Int) (m0_Speed : Int) : Bool :=
  bif i_within m0_Visible 1 500 then i_within m0_Speed 0 20 else false
theorem i_IsMoving_e (m0_Visible : Int) (m0_Speed : Int) : c_i_IsMoving.start c_i_IsMoving.L ((m0_Visible, m0_Speed), ()) = some (i_IsMoving m0_Visible m0_Speed) := by
  refine Eq.trans (b := (bif i_within m0_Visible 1 500 then some (i_within m0_Speed 0 20) else some false : Option Bool)) (by kernel_rfl) ?_
  unfold i_IsMoving
  repeat (first | rfl | apply condS)
noncomputable def F_i_IsMoving : Ins c_i_IsMoving.ins → Bool := fun x => i_IsMoving x.1.1 x.1.2
noncomputable def S_i_IsMoving : FSpec := mkT c_i_IsMoving.env.pre c_i_IsMoving.ins c_i_IsMoving.out c_i_IsMoving.inj F_i_IsMoving
theorem h_i_IsMoving : Cert Tryz.prog 21 S_i_IsMoving := FnCx.certT (c := c_i_IsMoving) F_i_IsMoving (tyOk _ _ _) (spOk ⟨h_i_within, fun _ _ h => h, trivial⟩) (fun _ _ _ _ _ hs => noDr_ok) Tryz.func21 rfl rfl Tryz.ntmps21 (by kernel_rfl) rfl rfl (fun _ => rfl) trivial (fun x => .inl ⟨c_i_IsMoving.start () x, fun _ => rfl⟩) (fun x hb => by
  obtain ⟨⟨m0_Visible, m0_Speed⟩, _⟩ := x
  exact i_IsMoving_e m0_Visible m0_Speed)
/-! impl.isPace -/
noncomputable def c_i_isPace : FnCx := { env := env 5 [(48, S_i_within)] [], body := bodyOf Tryz.f41, res := [.tmp 2], ins := [.ro kint], out := [(kbool, true)], T := Bool, fin := fun r => r.1.1, inj := fun t => ((t, ()), ((), ())), pts := [], fuel := 400, dr := noDr }
noncomputable def i_isPace (n0 : Int) : Bool :=
  i_within n0 0 20
theorem i_isPace_e (n0 : Int) : c_i_isPace.start c_i_isPace.L (n0, ()) = some (i_isPace n0) := by kernel_rfl
noncomputable def F_i_isPace : Ins c_i_isPace.ins → Bool := fun x => i_isPace x.1
noncomputable def S_i_isPace : FSpec := mkT c_i_isPace.env.pre c_i_isPace.ins c_i_isPace.out c_i_isPace.inj F_i_isPace
theorem h_i_isPace : Cert Tryz.prog 41 S_i_isPace := FnCx.certT (c := c_i_isPace) F_i_isPace (tyOk _ _ _) (spOk ⟨h_i_within, fun _ _ h => h, trivial⟩) (fun _ _ _ _ _ hs => noDr_ok) Tryz.func41 rfl rfl Tryz.ntmps41 (by kernel_rfl) rfl rfl (fun _ => rfl) trivial (fun x => .inl ⟨c_i_isPace.start () x, fun _ => rfl⟩) (fun x hb => by
  obtain ⟨n0, _⟩ := x
  exact i_isPace_e n0)
/-! impl.gcd -/
noncomputable def c_i_gcd : FnCx := { env := env 12 [] [], body := bodyOf Tryz.f62, res := [.tmp 4], ins := [.ro kint, .ro kint], out := [(kint, true)], T := Int, fin := fun r => r.1.1, inj := fun t => ((t, ()), ((), (), ())), pts := [([.inLoop [1, 0, 0, 0], .inBlock 0, .code [1, 1]], Shape.mk [] [(0, Ss.one (Cs.sc kint)), (1, Ss.one (Cs.sc kint))] [Ss.one (Cs.any), Ss.one (Cs.any)])], fuel := 400, dr := evDr (env 12 [] []) }
noncomputable def i_gcd_t1 (g1 : Int → Int → Option (Int)) (a0 : Int) (b1 : Int) : Option Int :=
  bif b1 != 0 then bif b1 == 0 then none else g1 b1 (Int.tmod a0 b1) else some a0
noncomputable def i_gcd_t0 (g1 : Int → Int → Option (Int)) (a0 : Int) (b1 : Int) : Option Int :=
  g1 a0 b1
theorem i_gcd_ts : Tails c_i_gcd.pts c_i_gcd.round :=
  ⟨fun s => by
    obtain ⟨_, ⟨a0, b1, _⟩, ⟨_, _, _⟩⟩ := s
    refine Tail.eq (Y := fun g => i_gcd_t1 (fun a0 b1 => g.1 ((), (a0, b1, ()), ((), (), ()))) a0 b1) ?_ (fun g => by kernel_rfl)
    simp only [i_gcd_t1]; repeat (first | exact Tail.const _ | exact Tail.here _ | exact Tail.there (Tail.here _) | exact Tail.there (Tail.there (Tail.here _)) | exact Tail.there (Tail.there (Tail.there (Tail.here _))) | exact Tail.there (Tail.there (Tail.there (Tail.there (Tail.here _)))) | exact Tail.there (Tail.there (Tail.there (Tail.there (Tail.there (Tail.here _))))) | apply Tail.cond | (apply Tail.bind; intro _)), trivial⟩
theorem i_gcd_hs : ∀ x, Tail c_i_gcd.pts (fun g => c_i_gcd.start g x) := fun x => by
    obtain ⟨a0, b1, _⟩ := x
    refine Tail.eq (Y := fun g => i_gcd_t0 (fun a0 b1 => g.1 ((), (a0, b1, ()), ((), (), ()))) a0 b1) ?_ (fun g => by kernel_rfl)
    simp only [i_gcd_t0]; repeat (first | exact Tail.const _ | exact Tail.here _ | exact Tail.there (Tail.here _) | exact Tail.there (Tail.there (Tail.here _)) | exact Tail.there (Tail.there (Tail.there (Tail.here _))) | exact Tail.there (Tail.there (Tail.there (Tail.there (Tail.here _)))) | exact Tail.there (Tail.there (Tail.there (Tail.there (Tail.there (Tail.here _))))) | apply Tail.cond | (apply Tail.bind; intro _))
noncomputable def i_gcd_L1 (a0 : Int) (b1 : Int) : Option Int := c_i_gcd.L.1 ((), (a0, b1, ()), ((), (), ()))
theorem i_gcd_u1 (a0 : Int) (b1 : Int) : i_gcd_L1 a0 b1 = i_gcd_t1 i_gcd_L1 a0 b1 :=
  (congrArg (fun g => g.1 ((), (a0, b1, ()), ((), (), ()))) (FnCx.L_eq i_gcd_ts)).trans (by kernel_rfl)
noncomputable def i_gcd (a0 : Int) (b1 : Int) : Option Int := i_gcd_t0 i_gcd_L1 a0 b1
theorem i_gcd_e (a0 : Int) (b1 : Int) : c_i_gcd.start c_i_gcd.L (a0, b1, ()) = i_gcd a0 b1 := by kernel_rfl
noncomputable def F_i_gcd : Ins c_i_gcd.ins → Option Int := fun x => i_gcd x.1 x.2.1
noncomputable def S_i_gcd : FSpec := mkF c_i_gcd.env.pre c_i_gcd.ins c_i_gcd.out c_i_gcd.inj F_i_gcd
theorem h_i_gcd : Cert Tryz.prog 62 S_i_gcd := FnCx.certF (c := c_i_gcd) F_i_gcd (tyOk _ _ _) (spOk trivial) (fun _ _ _ _ _ hs => evDr_ok (tyOk _ _ _) hs follows) Tryz.func62 rfl rfl Tryz.ntmps62 (by kernel_rfl) rfl rfl (fun _ => rfl) i_gcd_ts i_gcd_hs (fun x t hb ht => by
  obtain ⟨a0, b1, _⟩ := x
  exact (i_gcd_e a0 b1).trans ht)
/-! impl.part -/
noncomputable def c_i_part : FnCx := { env := env 19 [(62, S_i_gcd)] [], body := bodyOf Tryz.f42, res := [.tmp 4, .tmp 5, .tmp 6], ins := [.ro kint, .ro kint], out := [(kint, true), (kint, true), (kbool, true)], T := Int × Int × Bool, fin := fun r => (r.1.1, r.1.2.1, r.1.2.2.1), inj := fun t => ((t.1, t.2.1, t.2.2, ()), ((), (), ())), pts := [], fuel := 400, dr := evDr (env 19 [(62, S_i_gcd)] []) }
noncomputable def i_part (n0 : Int) (d1 : Int) : Option (Int × Int × Bool) :=
  bif decide (d1 ≤ 0) then some (0, 0, false)
  else
    Option.bind (i_gcd n0 d1) fun r =>
      bif r == 0 then none else bif r == 0 then none else some (IntKind.wrap IntKind.i64 (Int.tdiv n0 r), IntKind.wrap IntKind.i64 (Int.tdiv d1 r), true)
theorem i_part_e (n0 : Int) (d1 : Int) : c_i_part.start c_i_part.L (n0, d1, ()) = i_part n0 d1 := by kernel_rfl
noncomputable def F_i_part : Ins c_i_part.ins → Option (Int × Int × Bool) := fun x => i_part x.1 x.2.1
noncomputable def S_i_part : FSpec := mkF c_i_part.env.pre c_i_part.ins c_i_part.out c_i_part.inj F_i_part
theorem h_i_part : Cert Tryz.prog 42 S_i_part := FnCx.certF (c := c_i_part) F_i_part (tyOk _ _ _) (spOk ⟨h_i_gcd, fun _ _ h => h, trivial⟩) (fun _ _ _ _ _ hs => evDr_ok (tyOk _ _ _) hs follows) Tryz.func42 rfl rfl Tryz.ntmps42 (by kernel_rfl) rfl rfl (fun _ => rfl) trivial (fun x => .inl ⟨c_i_part.start () x, fun _ => rfl⟩) (fun x t hb ht => by
  obtain ⟨n0, d1, _⟩ := x
  exact (i_part_e n0 d1).trans ht)
/-! impl.TimeWith -/
noncomputable def c_i_TimeWith : FnCx := { env := env 25 [(21, S_i_IsMoving), (41, S_i_isPace), (42, S_i_part)] [], body := bodyOf Tryz.f6, res := [.tmp 4, .tmp 5, .tmp 6], ins := [.ro kMoving, .ro kint], out := [(kint, true), (kint, true), (kbool, true)], T := Int × Int × Bool, fin := fun r => (r.1.1, r.1.2.1, r.1.2.2.1), inj := fun t => ((t.1, t.2.1, t.2.2, ()), ((), (), ())), pts := [], fuel := 400, dr := noDr }
noncomputable def i_TimeWith (m0_Visible : Int) (m0_Speed : Int) (pace1 : Int) : Option (Int × Int × Bool) :=
  bif !i_IsMoving m0_Visible m0_Speed then some (0, 0, false)
  else
    bif !i_isPace pace1 then some (0, 0, false)
    else Option.bind (i_part m0_Visible (IntKind.wrap IntKind.i64 (m0_Speed + pace1))) fun r => some (Prod.fst r, Prod.fst (Prod.snd r), Prod.snd (Prod.snd r))
theorem i_TimeWith_e (m0_Visible : Int) (m0_Speed : Int) (pace1 : Int) : c_i_TimeWith.start c_i_TimeWith.L ((m0_Visible, m0_Speed), pace1, ()) = i_TimeWith m0_Visible m0_Speed pace1 := by kernel_rfl
noncomputable def F_i_TimeWith : Ins c_i_TimeWith.ins → Option (Int × Int × Bool) := fun x => i_TimeWith x.1.1 x.1.2 x.2.1
noncomputable def S_i_TimeWith : FSpec := mkF c_i_TimeWith.env.pre c_i_TimeWith.ins c_i_TimeWith.out c_i_TimeWith.inj F_i_TimeWith
theorem h_i_TimeWith : Cert Tryz.prog 6 S_i_TimeWith := FnCx.certF (c := c_i_TimeWith) F_i_TimeWith (tyOk _ _ _) (spOk ⟨h_i_IsMoving, fun _ _ h => h, ⟨h_i_isPace, fun _ _ h => h, ⟨h_i_part, fun _ _ h => h, trivial⟩⟩⟩) (fun _ _ _ _ _ hs => noDr_ok) Tryz.func6 rfl rfl Tryz.ntmps6 (by kernel_rfl) rfl rfl (fun _ => rfl) trivial (fun x => .inl ⟨c_i_TimeWith.start () x, fun _ => rfl⟩) (fun x t hb ht => by
  obtain ⟨⟨m0_Visible, m0_Speed⟩, pace1, _⟩ := x
  exact (i_TimeWith_e m0_Visible m0_Speed pace1).trans ht)
/-! spec.l1In -/
noncomputable def c_s_l1In : FnCx := { env := env 15 [] [], body := bodyOf Tryz.f58, res := [.tmp 6], ins := [.ro kint, .ro kint, .ro kint], out := [(kbool, true)], T := Bool, fin := fun r => r.1.1, inj := fun t => ((t, ()), ((), (), (), ())), pts := [], fuel := 400, dr := noDr }
noncomputable def s_l1In (n0 : Int) (lo1 : Int) (hi2 : Int) : Bool :=
  bif decide (n0 ≥ lo1) then decide (n0 ≤ hi2) else false
theorem s_l1In_e (n0 : Int) (lo1 : Int) (hi2 : Int) : c_s_l1In.start c_s_l1In.L (n0, lo1, hi2, ()) = some (s_l1In n0 lo1 hi2) := by
  refine Eq.trans (b := (bif decide (n0 ≥ lo1) then some (decide (n0 ≤ hi2)) else some false : Option Bool)) (by kernel_rfl) ?_
  unfold s_l1In
  repeat (first | rfl | apply condS)
noncomputable def F_s_l1In : Ins c_s_l1In.ins → Bool := fun x => s_l1In x.1 x.2.1 x.2.2.1
noncomputable def S_s_l1In : FSpec := mkT c_s_l1In.env.pre c_s_l1In.ins c_s_l1In.out c_s_l1In.inj F_s_l1In
theorem h_s_l1In : Cert Tryz.prog 58 S_s_l1In := FnCx.certT (c := c_s_l1In) F_s_l1In (tyOk _ _ _) (spOk trivial) (fun _ _ _ _ _ hs => noDr_ok) Tryz.func58 rfl rfl Tryz.ntmps58 (by kernel_rfl) rfl rfl (fun _ => rfl) trivial (fun x => .inl ⟨c_s_l1In.start () x, fun _ => rfl⟩) (fun x hb => by
  obtain ⟨n0, lo1, hi2, _⟩ := x
  exact s_l1In_e n0 lo1 hi2)
/-! spec.moGood -/
noncomputable def c_s_moGood : FnCx := { env := env 11 [(58, S_s_l1In)] [], body := bodyOf Tryz.f45, res := [.tmp 2], ins := [.ro kMoving], out := [(kbool, true)], T := Bool, fin := fun r => r.1.1, inj := fun t => ((t, ()), ((), ())), pts := [], fuel := 400, dr := noDr }
noncomputable def s_moGood (m0_Visible : Int) (m0_Speed : Int) : Bool :=
  bif s_l1In m0_Visible 1 500 then s_l1In m0_Speed 0 20 else false
theorem s_moGood_e (m0_Visible : Int) (m0_Speed : Int) : c_s_moGood.start c_s_moGood.L ((m0_Visible, m0_Speed), ()) = some (s_moGood m0_Visible m0_Speed) := by
  refine Eq.trans (b := (bif s_l1In m0_Visible 1 500 then some (s_l1In m0_Speed 0 20) else some false : Option Bool)) (by kernel_rfl) ?_
  unfold s_moGood
  repeat (first | rfl | apply condS)
noncomputable def F_s_moGood : Ins c_s_moGood.ins → Bool := fun x => s_moGood x.1.1 x.1.2
noncomputable def S_s_moGood : FSpec := mkT c_s_moGood.env.pre c_s_moGood.ins c_s_moGood.out c_s_moGood.inj F_s_moGood
theorem h_s_moGood : Cert Tryz.prog 45 S_s_moGood := FnCx.certT (c := c_s_moGood) F_s_moGood (tyOk _ _ _) (spOk ⟨h_s_l1In, fun _ _ h => h, trivial⟩) (fun _ _ _ _ _ hs => noDr_ok) Tryz.func45 rfl rfl Tryz.ntmps45 (by kernel_rfl) rfl rfl (fun _ => rfl) trivial (fun x => .inl ⟨c_s_moGood.start () x, fun _ => rfl⟩) (fun x hb => by
  obtain ⟨⟨m0_Visible, m0_Speed⟩, _⟩ := x
  exact s_moGood_e m0_Visible m0_Speed)
/-! spec.moAsked -/
noncomputable def c_s_moAsked : FnCx := { env := env 11 [(45, S_s_moGood), (58, S_s_l1In)] [], body := bodyOf Tryz.f43, res := [.tmp 4], ins := [.ro kMoving, .ro kint], out := [(kbool, true)], T := Bool, fin := fun r => r.1.1, inj := fun t => ((t, ()), ((), (), ())), pts := [], fuel := 400, dr := noDr }
noncomputable def s_moAsked (m0_Visible : Int) (m0_Speed : Int) (pace1 : Int) : Bool :=
  bif s_moGood m0_Visible m0_Speed then s_l1In pace1 0 20 else false
theorem s_moAsked_e (m0_Visible : Int) (m0_Speed : Int) (pace1 : Int) : c_s_moAsked.start c_s_moAsked.L ((m0_Visible, m0_Speed), pace1, ()) = some (s_moAsked m0_Visible m0_Speed pace1) := by
  refine Eq.trans (b := (bif s_moGood m0_Visible m0_Speed then some (s_l1In pace1 0 20) else some false : Option Bool)) (by kernel_rfl) ?_
  unfold s_moAsked
  repeat (first | rfl | apply condS)
noncomputable def F_s_moAsked : Ins c_s_moAsked.ins → Bool := fun x => s_moAsked x.1.1 x.1.2 x.2.1
noncomputable def S_s_moAsked : FSpec := mkT c_s_moAsked.env.pre c_s_moAsked.ins c_s_moAsked.out c_s_moAsked.inj F_s_moAsked
theorem h_s_moAsked : Cert Tryz.prog 43 S_s_moAsked := FnCx.certT (c := c_s_moAsked) F_s_moAsked (tyOk _ _ _) (spOk ⟨h_s_moGood, fun _ _ h => h, ⟨h_s_l1In, fun _ _ h => h, trivial⟩⟩) (fun _ _ _ _ _ hs => noDr_ok) Tryz.func43 rfl rfl Tryz.ntmps43 (by kernel_rfl) rfl rfl (fun _ => rfl) trivial (fun x => .inl ⟨c_s_moAsked.start () x, fun _ => rfl⟩) (fun x hb => by
  obtain ⟨⟨m0_Visible, m0_Speed⟩, pace1, _⟩ := x
  exact s_moAsked_e m0_Visible m0_Speed pace1)
/-! spec.moLow -/
noncomputable def c_s_moLow : FnCx := { env := env 22 [] [], body := bodyOf Tryz.f44, res := [.tmp 4, .tmp 5], ins := [.ro kint, .ro kint], out := [(kint, true), (kint, true)], T := Int × Int, fin := fun r => (r.1.1, r.1.2.1), inj := fun t => ((t.1, t.2, ()), ((), (), ())), pts := [([.inLoop [1, 1, 0, 0, 0], .inBlock 0, .code [1, 1, 1]], Shape.mk [] [(0, Ss.one (Cs.sc kint)), (1, Ss.one (Cs.sc kint)), (6, Ss.one (Cs.sc kint)), (7, Ss.one (Cs.sc kint))] [Ss.one (Cs.any), Ss.one (Cs.any)])], fuel := 400, dr := evDr (env 22 [] []) }
noncomputable def s_moLow_t1 (g1 : Int → Int → Int → Int → Option (Int × Int)) (num0 : Int) (den1 : Int) (a6 : Int) (b7 : Int) : Option (Int × Int) :=
  bif decide (b7 > 0) then bif b7 == 0 then none else g1 num0 den1 b7 (Int.tmod a6 b7)
  else bif a6 == 0 then none else bif a6 == 0 then none else some (IntKind.wrap IntKind.i64 (Int.tdiv num0 a6), IntKind.wrap IntKind.i64 (Int.tdiv den1 a6))
noncomputable def s_moLow_t0 (g1 : Int → Int → Int → Int → Option (Int × Int)) (num0 : Int) (den1 : Int) : Option (Int × Int) :=
  g1 num0 den1 num0 den1
theorem s_moLow_ts : Tails c_s_moLow.pts c_s_moLow.round :=
  ⟨fun s => by
    obtain ⟨_, ⟨num0, den1, a6, b7, _⟩, ⟨_, _, _⟩⟩ := s
    refine Tail.eq (Y := fun g => s_moLow_t1 (fun num0 den1 a6 b7 => g.1 ((), (num0, den1, a6, b7, ()), ((), (), ()))) num0 den1 a6 b7) ?_ (fun g => by kernel_rfl)
    simp only [s_moLow_t1]; repeat (first | exact Tail.const _ | exact Tail.here _ | exact Tail.there (Tail.here _) | exact Tail.there (Tail.there (Tail.here _)) | exact Tail.there (Tail.there (Tail.there (Tail.here _))) | exact Tail.there (Tail.there (Tail.there (Tail.there (Tail.here _)))) | exact Tail.there (Tail.there (Tail.there (Tail.there (Tail.there (Tail.here _))))) | apply Tail.cond | (apply Tail.bind; intro _)), trivial⟩
theorem s_moLow_hs : ∀ x, Tail c_s_moLow.pts (fun g => c_s_moLow.start g x) := fun x => by
    obtain ⟨num0, den1, _⟩ := x
    refine Tail.eq (Y := fun g => s_moLow_t0 (fun num0 den1 a6 b7 => g.1 ((), (num0, den1, a6, b7, ()), ((), (), ()))) num0 den1) ?_ (fun g => by kernel_rfl)
    simp only [s_moLow_t0]; repeat (first | exact Tail.const _ | exact Tail.here _ | exact Tail.there (Tail.here _) | exact Tail.there (Tail.there (Tail.here _)) | exact Tail.there (Tail.there (Tail.there (Tail.here _))) | exact Tail.there (Tail.there (Tail.there (Tail.there (Tail.here _)))) | exact Tail.there (Tail.there (Tail.there (Tail.there (Tail.there (Tail.here _))))) | apply Tail.cond | (apply Tail.bind; intro _))
noncomputable def s_moLow_L1 (num0 : Int) (den1 : Int) (a6 : Int) (b7 : Int) : Option (Int × Int) := c_s_moLow.L.1 ((), (num0, den1, a6, b7, ()), ((), (), ()))
theorem s_moLow_u1 (num0 : Int) (den1 : Int) (a6 : Int) (b7 : Int) : s_moLow_L1 num0 den1 a6 b7 = s_moLow_t1 s_moLow_L1 num0 den1 a6 b7 :=
  (congrArg (fun g => g.1 ((), (num0, den1, a6, b7, ()), ((), (), ()))) (FnCx.L_eq s_moLow_ts)).trans (by kernel_rfl)
noncomputable def s_moLow (num0 : Int) (den1 : Int) : Option (Int × Int) := s_moLow_t0 s_moLow_L1 num0 den1
theorem s_moLow_e (num0 : Int) (den1 : Int) : c_s_moLow.start c_s_moLow.L (num0, den1, ()) = s_moLow num0 den1 := by kernel_rfl
noncomputable def F_s_moLow : Ins c_s_moLow.ins → Option (Int × Int) := fun x => s_moLow x.1 x.2.1
noncomputable def S_s_moLow : FSpec := mkF c_s_moLow.env.pre c_s_moLow.ins c_s_moLow.out c_s_moLow.inj F_s_moLow
theorem h_s_moLow : Cert Tryz.prog 44 S_s_moLow := FnCx.certF (c := c_s_moLow) F_s_moLow (tyOk _ _ _) (spOk trivial) (fun _ _ _ _ _ hs => evDr_ok (tyOk _ _ _) hs follows) Tryz.func44 rfl rfl Tryz.ntmps44 (by kernel_rfl) rfl rfl (fun _ => rfl) s_moLow_ts s_moLow_hs (fun x t hb ht => by
  obtain ⟨num0, den1, _⟩ := x
  exact (s_moLow_e num0 den1).trans ht)
/-! spec.TimeWith -/
noncomputable def c_s_TimeWith : FnCx := { env := env 32 [(43, S_s_moAsked), (44, S_s_moLow)] [], body := bodyOf Tryz.f7, res := [.tmp 4, .tmp 5, .tmp 6], ins := [.ro kMoving, .ro kint], out := [(kint, true), (kint, true), (kbool, true)], T := Int × Int × Bool, fin := fun r => (r.1.1, r.1.2.1, r.1.2.2.1), inj := fun t => ((t.1, t.2.1, t.2.2, ()), ((), (), ())), pts := [], fuel := 400, dr := noDr }
noncomputable def s_TimeWith (m0_Visible : Int) (m0_Speed : Int) (pace1 : Int) : Option (Int × Int × Bool) :=
  bif !s_moAsked m0_Visible m0_Speed pace1 then some (0, 0, false)
  else
    bif IntKind.wrap IntKind.i64 (m0_Speed + pace1) == 0 then some (0, 0, false)
    else Option.bind (s_moLow m0_Visible (IntKind.wrap IntKind.i64 (m0_Speed + pace1))) fun r => some (Prod.fst r, Prod.snd r, true)
theorem s_TimeWith_e (m0_Visible : Int) (m0_Speed : Int) (pace1 : Int) : c_s_TimeWith.start c_s_TimeWith.L ((m0_Visible, m0_Speed), pace1, ()) = s_TimeWith m0_Visible m0_Speed pace1 := by kernel_rfl
noncomputable def F_s_TimeWith : Ins c_s_TimeWith.ins → Option (Int × Int × Bool) := fun x => s_TimeWith x.1.1 x.1.2 x.2.1
noncomputable def S_s_TimeWith : FSpec := mkF c_s_TimeWith.env.pre c_s_TimeWith.ins c_s_TimeWith.out c_s_TimeWith.inj F_s_TimeWith
theorem h_s_TimeWith : Cert Tryz.prog 7 S_s_TimeWith := FnCx.certF (c := c_s_TimeWith) F_s_TimeWith (tyOk _ _ _) (spOk ⟨h_s_moAsked, fun _ _ h => h, ⟨h_s_moLow, fun _ _ h => h, trivial⟩⟩) (fun _ _ _ _ _ hs => noDr_ok) Tryz.func7 rfl rfl Tryz.ntmps7 (by kernel_rfl) rfl rfl (fun _ => rfl) trivial (fun x => .inl ⟨c_s_TimeWith.start () x, fun _ => rfl⟩) (fun x t hb ht => by
  obtain ⟨⟨m0_Visible, m0_Speed⟩, pace1, _⟩ := x
  exact (s_TimeWith_e m0_Visible m0_Speed pace1).trans ht)
/-! impl.StepsWith -/
noncomputable def c_i_StepsWith : FnCx := { env := env 27 [(21, S_i_IsMoving), (41, S_i_isPace), (42, S_i_part)] [], body := bodyOf Tryz.f8, res := [.tmp 4, .tmp 5, .tmp 6], ins := [.ro kMoving, .ro kint], out := [(kint, true), (kint, true), (kbool, true)], T := Int × Int × Bool, fin := fun r => (r.1.1, r.1.2.1, r.1.2.2.1), inj := fun t => ((t.1, t.2.1, t.2.2, ()), ((), (), ())), pts := [], fuel := 400, dr := noDr }
noncomputable def i_StepsWith (m0_Visible : Int) (m0_Speed : Int) (pace1 : Int) : Option (Int × Int × Bool) :=
  bif !i_IsMoving m0_Visible m0_Speed then some (0, 0, false)
  else
    bif !i_isPace pace1 then some (0, 0, false)
    else
      Option.bind (i_part (IntKind.wrap IntKind.i64 (pace1 * m0_Visible)) (IntKind.wrap IntKind.i64 (m0_Speed + pace1))) fun r =>
        some (Prod.fst r, Prod.fst (Prod.snd r), Prod.snd (Prod.snd r))
theorem i_StepsWith_e (m0_Visible : Int) (m0_Speed : Int) (pace1 : Int) : c_i_StepsWith.start c_i_StepsWith.L ((m0_Visible, m0_Speed), pace1, ()) = i_StepsWith m0_Visible m0_Speed pace1 := by kernel_rfl
noncomputable def F_i_StepsWith : Ins c_i_StepsWith.ins → Option (Int × Int × Bool) := fun x => i_StepsWith x.1.1 x.1.2 x.2.1
noncomputable def S_i_StepsWith : FSpec := mkF c_i_StepsWith.env.pre c_i_StepsWith.ins c_i_StepsWith.out c_i_StepsWith.inj F_i_StepsWith
theorem h_i_StepsWith : Cert Tryz.prog 8 S_i_StepsWith := FnCx.certF (c := c_i_StepsWith) F_i_StepsWith (tyOk _ _ _) (spOk ⟨h_i_IsMoving, fun _ _ h => h, ⟨h_i_isPace, fun _ _ h => h, ⟨h_i_part, fun _ _ h => h, trivial⟩⟩⟩) (fun _ _ _ _ _ hs => noDr_ok) Tryz.func8 rfl rfl Tryz.ntmps8 (by kernel_rfl) rfl rfl (fun _ => rfl) trivial (fun x => .inl ⟨c_i_StepsWith.start () x, fun _ => rfl⟩) (fun x t hb ht => by
  obtain ⟨⟨m0_Visible, m0_Speed⟩, pace1, _⟩ := x
  exact (i_StepsWith_e m0_Visible m0_Speed pace1).trans ht)
/-! spec.StepsWith -/
noncomputable def c_s_StepsWith : FnCx := { env := env 34 [(43, S_s_moAsked), (44, S_s_moLow)] [], body := bodyOf Tryz.f9, res := [.tmp 4, .tmp 5, .tmp 6], ins := [.ro kMoving, .ro kint], out := [(kint, true), (kint, true), (kbool, true)], T := Int × Int × Bool, fin := fun r => (r.1.1, r.1.2.1, r.1.2.2.1), inj := fun t => ((t.1, t.2.1, t.2.2, ()), ((), (), ())), pts := [], fuel := 400, dr := noDr }
noncomputable def s_StepsWith (m0_Visible : Int) (m0_Speed : Int) (pace1 : Int) : Option (Int × Int × Bool) :=
  bif !s_moAsked m0_Visible m0_Speed pace1 then some (0, 0, false)
  else
    bif IntKind.wrap IntKind.i64 (m0_Speed + pace1) == 0 then some (0, 0, false)
    else
      Option.bind (s_moLow (IntKind.wrap IntKind.i64 (m0_Visible * pace1)) (IntKind.wrap IntKind.i64 (m0_Speed + pace1))) fun r =>
        some (Prod.fst r, Prod.snd r, true)
theorem s_StepsWith_e (m0_Visible : Int) (m0_Speed : Int) (pace1 : Int) : c_s_StepsWith.start c_s_StepsWith.L ((m0_Visible, m0_Speed), pace1, ()) = s_StepsWith m0_Visible m0_Speed pace1 := by kernel_rfl
noncomputable def F_s_StepsWith : Ins c_s_StepsWith.ins → Option (Int × Int × Bool) := fun x => s_StepsWith x.1.1 x.1.2 x.2.1
noncomputable def S_s_StepsWith : FSpec := mkF c_s_StepsWith.env.pre c_s_StepsWith.ins c_s_StepsWith.out c_s_StepsWith.inj F_s_StepsWith
theorem h_s_StepsWith : Cert Tryz.prog 9 S_s_StepsWith := FnCx.certF (c := c_s_StepsWith) F_s_StepsWith (tyOk _ _ _) (spOk ⟨h_s_moAsked, fun _ _ h => h, ⟨h_s_moLow, fun _ _ h => h, trivial⟩⟩) (fun _ _ _ _ _ hs => noDr_ok) Tryz.func9 rfl rfl Tryz.ntmps9 (by kernel_rfl) rfl rfl (fun _ => rfl) trivial (fun x => .inl ⟨c_s_StepsWith.start () x, fun _ => rfl⟩) (fun x t hb ht => by
  obtain ⟨⟨m0_Visible, m0_Speed⟩, pace1, _⟩ := x
  exact (s_StepsWith_e m0_Visible m0_Speed pace1).trans ht)
/-! impl.TimeAgainst -/
noncomputable def c_i_TimeAgainst : FnCx := { env := env 25 [(21, S_i_IsMoving), (41, S_i_isPace), (42, S_i_part)] [], body := bodyOf Tryz.f10, res := [.tmp 4, .tmp 5, .tmp 6], ins := [.ro kMoving, .ro kint], out := [(kint, true), (kint, true), (kbool, true)], T := Int × Int × Bool, fin := fun r => (r.1.1, r.1.2.1, r.1.2.2.1), inj := fun t => ((t.1, t.2.1, t.2.2, ()), ((), (), ())), pts := [], fuel := 400, dr := noDr }
noncomputable def i_TimeAgainst (m0_Visible : Int) (m0_Speed : Int) (pace1 : Int) : Option (Int × Int × Bool) :=
  bif !i_IsMoving m0_Visible m0_Speed then some (0, 0, false)
  else
    bif !i_isPace pace1 then some (0, 0, false)
    else Option.bind (i_part m0_Visible (IntKind.wrap IntKind.i64 (pace1 - m0_Speed))) fun r => some (Prod.fst r, Prod.fst (Prod.snd r), Prod.snd (Prod.snd r))
theorem i_TimeAgainst_e (m0_Visible : Int) (m0_Speed : Int) (pace1 : Int) : c_i_TimeAgainst.start c_i_TimeAgainst.L ((m0_Visible, m0_Speed), pace1, ()) = i_TimeAgainst m0_Visible m0_Speed pace1 := by kernel_rfl
noncomputable def F_i_TimeAgainst : Ins c_i_TimeAgainst.ins → Option (Int × Int × Bool) := fun x => i_TimeAgainst x.1.1 x.1.2 x.2.1
noncomputable def S_i_TimeAgainst : FSpec := mkF c_i_TimeAgainst.env.pre c_i_TimeAgainst.ins c_i_TimeAgainst.out c_i_TimeAgainst.inj F_i_TimeAgainst
theorem h_i_TimeAgainst : Cert Tryz.prog 10 S_i_TimeAgainst := FnCx.certF (c := c_i_TimeAgainst) F_i_TimeAgainst (tyOk _ _ _) (spOk ⟨h_i_IsMoving, fun _ _ h => h, ⟨h_i_isPace, fun _ _ h => h, ⟨h_i_part, fun _ _ h => h, trivial⟩⟩⟩) (fun _ _ _ _ _ hs => noDr_ok) Tryz.func10 rfl rfl Tryz.ntmps10 (by kernel_rfl) rfl rfl (fun _ => rfl) trivial (fun x => .inl ⟨c_i_TimeAgainst.start () x, fun _ => rfl⟩) (fun x t hb ht => by
  obtain ⟨⟨m0_Visible, m0_Speed⟩, pace1, _⟩ := x
  exact (i_TimeAgainst_e m0_Visible m0_Speed pace1).trans ht)
/-! spec.TimeAgainst -/
noncomputable def c_s_TimeAgainst : FnCx := { env := env 31 [(43, S_s_moAsked), (44, S_s_moLow)] [], body := bodyOf Tryz.f11, res := [.tmp 4, .tmp 5, .tmp 6], ins := [.ro kMoving, .ro kint], out := [(kint, true), (kint, true), (kbool, true)], T := Int × Int × Bool, fin := fun r => (r.1.1, r.1.2.1, r.1.2.2.1), inj := fun t => ((t.1, t.2.1, t.2.2, ()), ((), (), ())), pts := [], fuel := 400, dr := noDr }
noncomputable def s_TimeAgainst (m0_Visible : Int) (m0_Speed : Int) (pace1 : Int) : Option (Int × Int × Bool) :=
  bif !s_moAsked m0_Visible m0_Speed pace1 then some (0, 0, false)
  else
    bif decide (pace1 ≤ m0_Speed) then some (0, 0, false)
    else Option.bind (s_moLow m0_Visible (IntKind.wrap IntKind.i64 (pace1 - m0_Speed))) fun r => some (Prod.fst r, Prod.snd r, true)
theorem s_TimeAgainst_e (m0_Visible : Int) (m0_Speed : Int) (pace1 : Int) : c_s_TimeAgainst.start c_s_TimeAgainst.L ((m0_Visible, m0_Speed), pace1, ()) = s_TimeAgainst m0_Visible m0_Speed pace1 := by kernel_rfl
noncomputable def F_s_TimeAgainst : Ins c_s_TimeAgainst.ins → Option (Int × Int × Bool) := fun x => s_TimeAgainst x.1.1 x.1.2 x.2.1
noncomputable def S_s_TimeAgainst : FSpec := mkF c_s_TimeAgainst.env.pre c_s_TimeAgainst.ins c_s_TimeAgainst.out c_s_TimeAgainst.inj F_s_TimeAgainst
theorem h_s_TimeAgainst : Cert Tryz.prog 11 S_s_TimeAgainst := FnCx.certF (c := c_s_TimeAgainst) F_s_TimeAgainst (tyOk _ _ _) (spOk ⟨h_s_moAsked, fun _ _ h => h, ⟨h_s_moLow, fun _ _ h => h, trivial⟩⟩) (fun _ _ _ _ _ hs => noDr_ok) Tryz.func11 rfl rfl Tryz.ntmps11 (by kernel_rfl) rfl rfl (fun _ => rfl) trivial (fun x => .inl ⟨c_s_TimeAgainst.start () x, fun _ => rfl⟩) (fun x t hb ht => by
  obtain ⟨⟨m0_Visible, m0_Speed⟩, pace1, _⟩ := x
  exact (s_TimeAgainst_e m0_Visible m0_Speed pace1).trans ht)
/-! impl.StepsAgainst -/
noncomputable def c_i_StepsAgainst : FnCx := { env := env 27 [(21, S_i_IsMoving), (41, S_i_isPace), (42, S_i_part)] [], body := bodyOf Tryz.f12, res := [.tmp 4, .tmp 5, .tmp 6], ins := [.ro kMoving, .ro kint], out := [(kint, true), (kint, true), (kbool, true)], T := Int × Int × Bool, fin := fun r => (r.1.1, r.1.2.1, r.1.2.2.1), inj := fun t => ((t.1, t.2.1, t.2.2, ()), ((), (), ())), pts := [], fuel := 400, dr := noDr }
noncomputable def i_StepsAgainst (m0_Visible : Int) (m0_Speed : Int) (pace1 : Int) : Option (Int × Int × Bool) :=
  bif !i_IsMoving m0_Visible m0_Speed then some (0, 0, false)
  else
    bif !i_isPace pace1 then some (0, 0, false)
    else
      Option.bind (i_part (IntKind.wrap IntKind.i64 (pace1 * m0_Visible)) (IntKind.wrap IntKind.i64 (pace1 - m0_Speed))) fun r =>
        some (Prod.fst r, Prod.fst (Prod.snd r), Prod.snd (Prod.snd r))
theorem i_StepsAgainst_e (m0_Visible : Int) (m0_Speed : Int) (pace1 : Int) : c_i_StepsAgainst.start c_i_StepsAgainst.L ((m0_Visible, m0_Speed), pace1, ()) = i_StepsAgainst m0_Visible m0_Speed pace1 := by kernel_rfl
noncomputable def F_i_StepsAgainst : Ins c_i_StepsAgainst.ins → Option (Int × Int × Bool) := fun x => i_StepsAgainst x.1.1 x.1.2 x.2.1
noncomputable def S_i_StepsAgainst : FSpec := mkF c_i_StepsAgainst.env.pre c_i_StepsAgainst.ins c_i_StepsAgainst.out c_i_StepsAgainst.inj F_i_StepsAgainst
theorem h_i_StepsAgainst : Cert Tryz.prog 12 S_i_StepsAgainst := FnCx.certF (c := c_i_StepsAgainst) F_i_StepsAgainst (tyOk _ _ _) (spOk ⟨h_i_IsMoving, fun _ _ h => h, ⟨h_i_isPace, fun _ _ h => h, ⟨h_i_part, fun _ _ h => h, trivial⟩⟩⟩) (fun _ _ _ _ _ hs => noDr_ok) Tryz.func12 rfl rfl Tryz.ntmps12 (by kernel_rfl) rfl rfl (fun _ => rfl) trivial (fun x => .inl ⟨c_i_StepsAgainst.start () x, fun _ => rfl⟩) (fun x t hb ht => by
  obtain ⟨⟨m0_Visible, m0_Speed⟩, pace1, _⟩ := x
  exact (i_StepsAgainst_e m0_Visible m0_Speed pace1).trans ht)
/-! spec.StepsAgainst -/
noncomputable def c_s_StepsAgainst : FnCx := { env := env 33 [(43, S_s_moAsked), (44, S_s_moLow)] [], body := bodyOf Tryz.f13, res := [.tmp 4, .tmp 5, .tmp 6], ins := [.ro kMoving, .ro kint], out := [(kint, true), (kint, true), (kbool, true)], T := Int × Int × Bool, fin := fun r => (r.1.1, r.1.2.1, r.1.2.2.1), inj := fun t => ((t.1, t.2.1, t.2.2, ()), ((), (), ())), pts := [], fuel := 400, dr := noDr }
noncomputable def s_StepsAgainst (m0_Visible : Int) (m0_Speed : Int) (pace1 : Int) : Option (Int × Int × Bool) :=
  bif !s_moAsked m0_Visible m0_Speed pace1 then some (0, 0, false)
  else
    bif decide (pace1 ≤ m0_Speed) then some (0, 0, false)
    else
      Option.bind (s_moLow (IntKind.wrap IntKind.i64 (m0_Visible * pace1)) (IntKind.wrap IntKind.i64 (pace1 - m0_Speed))) fun r =>
        some (Prod.fst r, Prod.snd r, true)
theorem s_StepsAgainst_e (m0_Visible : Int) (m0_Speed : Int) (pace1 : Int) : c_s_StepsAgainst.start c_s_StepsAgainst.L ((m0_Visible, m0_Speed), pace1, ()) = s_StepsAgainst m0_Visible m0_Speed pace1 := by kernel_rfl
noncomputable def F_s_StepsAgainst : Ins c_s_StepsAgainst.ins → Option (Int × Int × Bool) := fun x => s_StepsAgainst x.1.1 x.1.2 x.2.1
noncomputable def S_s_StepsAgainst : FSpec := mkF c_s_StepsAgainst.env.pre c_s_StepsAgainst.ins c_s_StepsAgainst.out c_s_StepsAgainst.inj F_s_StepsAgainst
theorem h_s_StepsAgainst : Cert Tryz.prog 13 S_s_StepsAgainst := FnCx.certF (c := c_s_StepsAgainst) F_s_StepsAgainst (tyOk _ _ _) (spOk ⟨h_s_moAsked, fun _ _ h => h, ⟨h_s_moLow, fun _ _ h => h, trivial⟩⟩) (fun _ _ _ _ _ hs => noDr_ok) Tryz.func13 rfl rfl Tryz.ntmps13 (by kernel_rfl) rfl rfl (fun _ => rfl) trivial (fun x => .inl ⟨c_s_StepsAgainst.start () x, fun _ => rfl⟩) (fun x t hb ht => by
  obtain ⟨⟨m0_Visible, m0_Speed⟩, pace1, _⟩ := x
  exact (s_StepsAgainst_e m0_Visible m0_Speed pace1).trans ht)
/-! impl.RoundTrip -/
noncomputable def c_i_RoundTrip : FnCx := { env := env 26 [(21, S_i_IsMoving), (41, S_i_isPace), (42, S_i_part)] [], body := bodyOf Tryz.f14, res := [.tmp 4, .tmp 5, .tmp 6], ins := [.ro kMoving, .ro kint], out := [(kint, true), (kint, true), (kbool, true)], T := Int × Int × Bool, fin := fun r => (r.1.1, r.1.2.1, r.1.2.2.1), inj := fun t => ((t.1, t.2.1, t.2.2, ()), ((), (), ())), pts := [], fuel := 400, dr := noDr }
noncomputable def i_RoundTrip (m0_Visible : Int) (m0_Speed : Int) (pace1 : Int) : Option (Int × Int × Bool) :=
  bif !i_IsMoving m0_Visible m0_Speed then some (0, 0, false)
  else
    bif !i_isPace pace1 then some (0, 0, false)
    else
      Option.bind (i_part (IntKind.wrap IntKind.i64 (2 * m0_Visible)) (IntKind.wrap IntKind.i64 (m0_Speed + pace1))) fun r =>
        some (Prod.fst r, Prod.fst (Prod.snd r), Prod.snd (Prod.snd r))
theorem i_RoundTrip_e (m0_Visible : Int) (m0_Speed : Int) (pace1 : Int) : c_i_RoundTrip.start c_i_RoundTrip.L ((m0_Visible, m0_Speed), pace1, ()) = i_RoundTrip m0_Visible m0_Speed pace1 := by kernel_rfl
noncomputable def F_i_RoundTrip : Ins c_i_RoundTrip.ins → Option (Int × Int × Bool) := fun x => i_RoundTrip x.1.1 x.1.2 x.2.1
noncomputable def S_i_RoundTrip : FSpec := mkF c_i_RoundTrip.env.pre c_i_RoundTrip.ins c_i_RoundTrip.out c_i_RoundTrip.inj F_i_RoundTrip
theorem h_i_RoundTrip : Cert Tryz.prog 14 S_i_RoundTrip := FnCx.certF (c := c_i_RoundTrip) F_i_RoundTrip (tyOk _ _ _) (spOk ⟨h_i_IsMoving, fun _ _ h => h, ⟨h_i_isPace, fun _ _ h => h, ⟨h_i_part, fun _ _ h => h, trivial⟩⟩⟩) (fun _ _ _ _ _ hs => noDr_ok) Tryz.func14 rfl rfl Tryz.ntmps14 (by kernel_rfl) rfl rfl (fun _ => rfl) trivial (fun x => .inl ⟨c_i_RoundTrip.start () x, fun _ => rfl⟩) (fun x t hb ht => by
  obtain ⟨⟨m0_Visible, m0_Speed⟩, pace1, _⟩ := x
  exact (i_RoundTrip_e m0_Visible m0_Speed pace1).trans ht)
/-! spec.RoundTrip -/
noncomputable def c_s_RoundTrip : FnCx := { env := env 33 [(43, S_s_moAsked), (44, S_s_moLow)] [], body := bodyOf Tryz.f15, res := [.tmp 4, .tmp 5, .tmp 6], ins := [.ro kMoving, .ro kint], out := [(kint, true), (kint, true), (kbool, true)], T := Int × Int × Bool, fin := fun r => (r.1.1, r.1.2.1, r.1.2.2.1), inj := fun t => ((t.1, t.2.1, t.2.2, ()), ((), (), ())), pts := [], fuel := 400, dr := noDr }
noncomputable def s_RoundTrip (m0_Visible : Int) (m0_Speed : Int) (pace1 : Int) : Option (Int × Int × Bool) :=
  bif !s_moAsked m0_Visible m0_Speed pace1 then some (0, 0, false)
  else
    bif IntKind.wrap IntKind.i64 (m0_Speed + pace1) == 0 then some (0, 0, false)
    else
      Option.bind (s_moLow (IntKind.wrap IntKind.i64 (2 * m0_Visible)) (IntKind.wrap IntKind.i64 (m0_Speed + pace1))) fun r => some (Prod.fst r, Prod.snd r, true)
theorem s_RoundTrip_e (m0_Visible : Int) (m0_Speed : Int) (pace1 : Int) : c_s_RoundTrip.start c_s_RoundTrip.L ((m0_Visible, m0_Speed), pace1, ()) = s_RoundTrip m0_Visible m0_Speed pace1 := by kernel_rfl
noncomputable def F_s_RoundTrip : Ins c_s_RoundTrip.ins → Option (Int × Int × Bool) := fun x => s_RoundTrip x.1.1 x.1.2 x.2.1
noncomputable def S_s_RoundTrip : FSpec := mkF c_s_RoundTrip.env.pre c_s_RoundTrip.ins c_s_RoundTrip.out c_s_RoundTrip.inj F_s_RoundTrip
theorem h_s_RoundTrip : Cert Tryz.prog 15 S_s_RoundTrip := FnCx.certF (c := c_s_RoundTrip) F_s_RoundTrip (tyOk _ _ _) (spOk ⟨h_s_moAsked, fun _ _ h => h, ⟨h_s_moLow, fun _ _ h => h, trivial⟩⟩) (fun _ _ _ _ _ hs => noDr_ok) Tryz.func15 rfl rfl Tryz.ntmps15 (by kernel_rfl) rfl rfl (fun _ => rfl) trivial (fun x => .inl ⟨c_s_RoundTrip.start () x, fun _ => rfl⟩) (fun x t hb ht => by
  obtain ⟨⟨m0_Visible, m0_Speed⟩, pace1, _⟩ := x
  exact (s_RoundTrip_e m0_Visible m0_Speed pace1).trans ht)
/-! impl.WholeTimes -/
noncomputable def c_i_WholeTimes : FnCx := { env := env 33 [(21, S_i_IsMoving)] [], body := bodyOf Tryz.f16, res := [.tmp 2, .tmp 3], ins := [.ro kMoving], out := [(kSint, true), (kbool, true)], T := List Int × Bool, fin := fun r => (r.1.1, r.1.2.1), inj := fun t => ((t.1, t.2, ()), ((), ())), pts := [([.inLoop [1, 1, 1, 0, 1, 0, 0], .inBlock 0, .code [1, 1, 1, 1]], Shape.mk [Bs.box 25 [Cs.sc kint, Cs.sc kint], Bs.row kint 3 true] [(1, Ss.one (Cs.ptr 0 0)), (4, Ss.one (Cs.sl 1)), (11, Ss.one (Cs.sc kint))] [Ss.one (Cs.any)])], fuel := 400, dr := noDr }
noncomputable def i_WholeTimes_t1 (g1 : Int → Int → List (Int) → Int → Option (List Int × Bool)) (b0_0 : Int) (b0_1 : Int) (r1 : List (Int)) (s11 : Int) : Option (List Int × Bool) :=
  bif decide (s11 < 21) then
    bif decide (IntKind.wrap IntKind.i64 (b0_1 + s11) > 0) then
      bif IntKind.wrap IntKind.i64 (b0_1 + s11) == 0 then none
      else
        bif Int.tmod b0_0 (IntKind.wrap IntKind.i64 (b0_1 + s11)) == 0 then
          bif Nat.ble (List.length r1 + 1) 4294967296 then g1 b0_0 b0_1 (r1 ++ [s11]) (IntKind.wrap IntKind.i64 (s11 + 1)) else none
        else g1 b0_0 b0_1 r1 (IntKind.wrap IntKind.i64 (s11 + 1))
    else g1 b0_0 b0_1 r1 (IntKind.wrap IntKind.i64 (s11 + 1))
  else some (r1, true)
noncomputable def i_WholeTimes_t0 (g1 : Int → Int → List (Int) → Int → Option (List Int × Bool)) (m0_Visible : Int) (m0_Speed : Int) : Option (List Int × Bool) :=
  bif !i_IsMoving m0_Visible m0_Speed then some ([], false) else g1 m0_Visible m0_Speed [] 0
theorem i_WholeTimes_ts : Tails c_i_WholeTimes.pts c_i_WholeTimes.round :=
  ⟨fun s => by
    obtain ⟨⟨⟨b0_0, b0_1, _⟩, r1, _⟩, ⟨_, _, s11, _⟩, ⟨_, _⟩⟩ := s
    refine Tail.eq (Y := fun g => i_WholeTimes_t1 (fun b0_0 b0_1 r1 s11 => g.1 (((b0_0, b0_1, ()), r1, ()), ((), (), s11, ()), ((), ()))) b0_0 b0_1 r1 s11) ?_ (fun g => by kernel_rfl)
    simp only [i_WholeTimes_t1]; repeat (first | exact Tail.const _ | exact Tail.here _ | exact Tail.there (Tail.here _) | exact Tail.there (Tail.there (Tail.here _)) | exact Tail.there (Tail.there (Tail.there (Tail.here _))) | exact Tail.there (Tail.there (Tail.there (Tail.there (Tail.here _)))) | exact Tail.there (Tail.there (Tail.there (Tail.there (Tail.there (Tail.here _))))) | apply Tail.cond | (apply Tail.bind; intro _)), trivial⟩
theorem i_WholeTimes_hs : ∀ x, Tail c_i_WholeTimes.pts (fun g => c_i_WholeTimes.start g x) := fun x => by
    obtain ⟨⟨m0_Visible, m0_Speed⟩, _⟩ := x
    refine Tail.eq (Y := fun g => i_WholeTimes_t0 (fun b0_0 b0_1 r1 s11 => g.1 (((b0_0, b0_1, ()), r1, ()), ((), (), s11, ()), ((), ()))) m0_Visible m0_Speed) ?_ (fun g => by kernel_rfl)
    simp only [i_WholeTimes_t0]; repeat (first | exact Tail.const _ | exact Tail.here _ | exact Tail.there (Tail.here _) | exact Tail.there (Tail.there (Tail.here _)) | exact Tail.there (Tail.there (Tail.there (Tail.here _))) | exact Tail.there (Tail.there (Tail.there (Tail.there (Tail.here _)))) | exact Tail.there (Tail.there (Tail.there (Tail.there (Tail.there (Tail.here _))))) | apply Tail.cond | (apply Tail.bind; intro _))
noncomputable def i_WholeTimes_L1 (b0_0 : Int) (b0_1 : Int) (r1 : List (Int)) (s11 : Int) : Option (List Int × Bool) := c_i_WholeTimes.L.1 (((b0_0, b0_1, ()), r1, ()), ((), (), s11, ()), ((), ()))
theorem i_WholeTimes_u1 (b0_0 : Int) (b0_1 : Int) (r1 : List (Int)) (s11 : Int) : i_WholeTimes_L1 b0_0 b0_1 r1 s11 = i_WholeTimes_t1 i_WholeTimes_L1 b0_0 b0_1 r1 s11 :=
  (congrArg (fun g => g.1 (((b0_0, b0_1, ()), r1, ()), ((), (), s11, ()), ((), ()))) (FnCx.L_eq i_WholeTimes_ts)).trans (by kernel_rfl)
noncomputable def i_WholeTimes (m0_Visible : Int) (m0_Speed : Int) : Option (List Int × Bool) := i_WholeTimes_t0 i_WholeTimes_L1 m0_Visible m0_Speed
theorem i_WholeTimes_e (m0_Visible : Int) (m0_Speed : Int) : c_i_WholeTimes.start c_i_WholeTimes.L ((m0_Visible, m0_Speed), ()) = i_WholeTimes m0_Visible m0_Speed := by kernel_rfl
noncomputable def F_i_WholeTimes : Ins c_i_WholeTimes.ins → Option (List Int × Bool) := fun x => i_WholeTimes x.1.1 x.1.2
noncomputable def S_i_WholeTimes : FSpec := mkF c_i_WholeTimes.env.pre c_i_WholeTimes.ins c_i_WholeTimes.out c_i_WholeTimes.inj F_i_WholeTimes
theorem h_i_WholeTimes : Cert Tryz.prog 16 S_i_WholeTimes := FnCx.certF (c := c_i_WholeTimes) F_i_WholeTimes (tyOk _ _ _) (spOk ⟨h_i_IsMoving, fun _ _ h => h, trivial⟩) (fun _ _ _ _ _ hs => noDr_ok) Tryz.func16 rfl rfl Tryz.ntmps16 (by kernel_rfl) rfl rfl (fun _ => rfl) i_WholeTimes_ts i_WholeTimes_hs (fun x t hb ht => by
  obtain ⟨⟨m0_Visible, m0_Speed⟩, _⟩ := x
  exact (i_WholeTimes_e m0_Visible m0_Speed).trans ht)
/-! spec.WholeTimes -/
noncomputable def c_s_WholeTimes : FnCx := { env := env 33 [(45, S_s_moGood)] [], body := bodyOf Tryz.f17, res := [.tmp 2, .tmp 3], ins := [.ro kMoving], out := [(kSint, true), (kbool, true)], T := List Int × Bool, fin := fun r => (r.1.1, r.1.2.1), inj := fun t => ((t.1, t.2, ()), ((), ())), pts := [([.inLoop [1, 1, 1, 0, 1, 0, 0], .inBlock 0, .code [1, 1, 1, 1]], Shape.mk [Bs.box 25 [Cs.sc kint, Cs.sc kint], Bs.row kint 3 true] [(1, Ss.one (Cs.ptr 0 0)), (4, Ss.one (Cs.sl 1)), (5, Ss.one (Cs.sc kint))] [Ss.one (Cs.any)])], fuel := 400, dr := noDr }
noncomputable def s_WholeTimes_t1 (g1 : Int → Int → List (Int) → Int → Option (List Int × Bool)) (b0_0 : Int) (b0_1 : Int) (r1 : List (Int)) (pace5 : Int) : Option (List Int × Bool) :=
  bif decide (pace5 ≤ 20) then
    bif decide (IntKind.wrap IntKind.i64 (b0_1 + pace5) > 0) then
      bif IntKind.wrap IntKind.i64 (b0_1 + pace5) == 0 then none
      else
        bif Int.tmod b0_0 (IntKind.wrap IntKind.i64 (b0_1 + pace5)) == 0 then
          bif Nat.ble (List.length r1 + 1) 4294967296 then g1 b0_0 b0_1 (r1 ++ [pace5]) (IntKind.wrap IntKind.i64 (pace5 + 1)) else none
        else g1 b0_0 b0_1 r1 (IntKind.wrap IntKind.i64 (pace5 + 1))
    else g1 b0_0 b0_1 r1 (IntKind.wrap IntKind.i64 (pace5 + 1))
  else some (r1, true)
noncomputable def s_WholeTimes_t0 (g1 : Int → Int → List (Int) → Int → Option (List Int × Bool)) (m0_Visible : Int) (m0_Speed : Int) : Option (List Int × Bool) :=
  bif !s_moGood m0_Visible m0_Speed then some ([], false) else g1 m0_Visible m0_Speed [] 0
theorem s_WholeTimes_ts : Tails c_s_WholeTimes.pts c_s_WholeTimes.round :=
  ⟨fun s => by
    obtain ⟨⟨⟨b0_0, b0_1, _⟩, r1, _⟩, ⟨_, _, pace5, _⟩, ⟨_, _⟩⟩ := s
    refine Tail.eq (Y := fun g => s_WholeTimes_t1 (fun b0_0 b0_1 r1 pace5 => g.1 (((b0_0, b0_1, ()), r1, ()), ((), (), pace5, ()), ((), ()))) b0_0 b0_1 r1 pace5) ?_ (fun g => by kernel_rfl)
    simp only [s_WholeTimes_t1]; repeat (first | exact Tail.const _ | exact Tail.here _ | exact Tail.there (Tail.here _) | exact Tail.there (Tail.there (Tail.here _)) | exact Tail.there (Tail.there (Tail.there (Tail.here _))) | exact Tail.there (Tail.there (Tail.there (Tail.there (Tail.here _)))) | exact Tail.there (Tail.there (Tail.there (Tail.there (Tail.there (Tail.here _))))) | apply Tail.cond | (apply Tail.bind; intro _)), trivial⟩
theorem s_WholeTimes_hs : ∀ x, Tail c_s_WholeTimes.pts (fun g => c_s_WholeTimes.start g x) := fun x => by
    obtain ⟨⟨m0_Visible, m0_Speed⟩, _⟩ := x
    refine Tail.eq (Y := fun g => s_WholeTimes_t0 (fun b0_0 b0_1 r1 pace5 => g.1 (((b0_0, b0_1, ()), r1, ()), ((), (), pace5, ()), ((), ()))) m0_Visible m0_Speed) ?_ (fun g => by kernel_rfl)
    simp only [s_WholeTimes_t0]; repeat (first | exact Tail.const _ | exact Tail.here _ | exact Tail.there (Tail.here _) | exact Tail.there (Tail.there (Tail.here _)) | exact Tail.there (Tail.there (Tail.there (Tail.here _))) | exact Tail.there (Tail.there (Tail.there (Tail.there (Tail.here _)))) | exact Tail.there (Tail.there (Tail.there (Tail.there (Tail.there (Tail.here _))))) | apply Tail.cond | (apply Tail.bind; intro _))
noncomputable def s_WholeTimes_L1 (b0_0 : Int) (b0_1 : Int) (r1 : List (Int)) (pace5 : Int) : Option (List Int × Bool) := c_s_WholeTimes.L.1 (((b0_0, b0_1, ()), r1, ()), ((), (), pace5, ()), ((), ()))
theorem s_WholeTimes_u1 (b0_0 : Int) (b0_1 : Int) (r1 : List (Int)) (pace5 : Int) : s_WholeTimes_L1 b0_0 b0_1 r1 pace5 = s_WholeTimes_t1 s_WholeTimes_L1 b0_0 b0_1 r1 pace5 :=
  (congrArg (fun g => g.1 (((b0_0, b0_1, ()), r1, ()), ((), (), pace5, ()), ((), ()))) (FnCx.L_eq s_WholeTimes_ts)).trans (by kernel_rfl)
noncomputable def s_WholeTimes (m0_Visible : Int) (m0_Speed : Int) : Option (List Int × Bool) := s_WholeTimes_t0 s_WholeTimes_L1 m0_Visible m0_Speed
theorem s_WholeTimes_e (m0_Visible : Int) (m0_Speed : Int) : c_s_WholeTimes.start c_s_WholeTimes.L ((m0_Visible, m0_Speed), ()) = s_WholeTimes m0_Visible m0_Speed := by kernel_rfl
noncomputable def F_s_WholeTimes : Ins c_s_WholeTimes.ins → Option (List Int × Bool) := fun x => s_WholeTimes x.1.1 x.1.2
noncomputable def S_s_WholeTimes : FSpec := mkF c_s_WholeTimes.env.pre c_s_WholeTimes.ins c_s_WholeTimes.out c_s_WholeTimes.inj F_s_WholeTimes
theorem h_s_WholeTimes : Cert Tryz.prog 17 S_s_WholeTimes := FnCx.certF (c := c_s_WholeTimes) F_s_WholeTimes (tyOk _ _ _) (spOk ⟨h_s_moGood, fun _ _ h => h, trivial⟩) (fun _ _ _ _ _ hs => noDr_ok) Tryz.func17 rfl rfl Tryz.ntmps17 (by kernel_rfl) rfl rfl (fun _ => rfl) s_WholeTimes_ts s_WholeTimes_hs (fun x t hb ht => by
  obtain ⟨⟨m0_Visible, m0_Speed⟩, _⟩ := x
  exact (s_WholeTimes_e m0_Visible m0_Speed).trans ht)
/-! impl.PaceForSteps -/
noncomputable def c_i_PaceForSteps : FnCx := { env := env 35 [(21, S_i_IsMoving), (48, S_i_within), (42, S_i_part)] [], body := bodyOf Tryz.f25, res := [.tmp 4, .tmp 5, .tmp 6], ins := [.ro kMoving, .ro kint], out := [(kint, true), (kint, true), (kbool, true)], T := Int × Int × Bool, fin := fun r => (r.1.1, r.1.2.1, r.1.2.2.1), inj := fun t => ((t.1, t.2.1, t.2.2, ()), ((), (), ())), pts := [], fuel := 400, dr := noDr }
noncomputable def i_PaceForSteps (m0_Visible : Int) (m0_Speed : Int) (steps1 : Int) : Option (Int × Int × Bool) :=
  bif !i_IsMoving m0_Visible m0_Speed then some (0, 0, false)
  else
    bif !i_within steps1 0 (IntKind.wrap IntKind.i64 (m0_Visible - 1)) then some (0, 0, false)
    else
      bif m0_Speed == 0 then some (0, 0, false)
      else
        Option.bind (i_part (IntKind.wrap IntKind.i64 (steps1 * m0_Speed)) (IntKind.wrap IntKind.i64 (m0_Visible - steps1))) fun r =>
          some (Prod.fst r, Prod.fst (Prod.snd r), Prod.snd (Prod.snd r))
theorem i_PaceForSteps_e (m0_Visible : Int) (m0_Speed : Int) (steps1 : Int) : c_i_PaceForSteps.start c_i_PaceForSteps.L ((m0_Visible, m0_Speed), steps1, ()) = i_PaceForSteps m0_Visible m0_Speed steps1 := by kernel_rfl
noncomputable def F_i_PaceForSteps : Ins c_i_PaceForSteps.ins → Option (Int × Int × Bool) := fun x => i_PaceForSteps x.1.1 x.1.2 x.2.1
noncomputable def S_i_PaceForSteps : FSpec := mkF c_i_PaceForSteps.env.pre c_i_PaceForSteps.ins c_i_PaceForSteps.out c_i_PaceForSteps.inj F_i_PaceForSteps
theorem h_i_PaceForSteps : Cert Tryz.prog 25 S_i_PaceForSteps := FnCx.certF (c := c_i_PaceForSteps) F_i_PaceForSteps (tyOk _ _ _) (spOk ⟨h_i_IsMoving, fun _ _ h => h, ⟨h_i_within, fun _ _ h => h, ⟨h_i_part, fun _ _ h => h, trivial⟩⟩⟩) (fun _ _ _ _ _ hs => noDr_ok) Tryz.func25 rfl rfl Tryz.ntmps25 (by kernel_rfl) rfl rfl (fun _ => rfl) trivial (fun x => .inl ⟨c_i_PaceForSteps.start () x, fun _ => rfl⟩) (fun x t hb ht => by
  obtain ⟨⟨m0_Visible, m0_Speed⟩, steps1, _⟩ := x
  exact (i_PaceForSteps_e m0_Visible m0_Speed steps1).trans ht)
/-! spec.PaceForSteps -/
noncomputable def c_s_PaceForSteps : FnCx := { env := env 39 [(45, S_s_moGood), (58, S_s_l1In), (44, S_s_moLow)] [], body := bodyOf Tryz.f38, res := [.tmp 4, .tmp 5, .tmp 6], ins := [.ro kMoving, .ro kint], out := [(kint, true), (kint, true), (kbool, true)], T := Int × Int × Bool, fin := fun r => (r.1.1, r.1.2.1, r.1.2.2.1), inj := fun t => ((t.1, t.2.1, t.2.2, ()), ((), (), ())), pts := [], fuel := 400, dr := noDr }
noncomputable def s_PaceForSteps (m0_Visible : Int) (m0_Speed : Int) (steps1 : Int) : Option (Int × Int × Bool) :=
  bif !s_moGood m0_Visible m0_Speed then some (0, 0, false)
  else
    bif !s_l1In steps1 0 (IntKind.wrap IntKind.i64 (m0_Visible - 1)) then some (0, 0, false)
    else
      bif m0_Speed == 0 then some (0, 0, false)
      else
        Option.bind (s_moLow (IntKind.wrap IntKind.i64 (steps1 * m0_Speed)) (IntKind.wrap IntKind.i64 (m0_Visible - steps1))) fun r =>
          some (Prod.fst r, Prod.snd r, true)
theorem s_PaceForSteps_e (m0_Visible : Int) (m0_Speed : Int) (steps1 : Int) : c_s_PaceForSteps.start c_s_PaceForSteps.L ((m0_Visible, m0_Speed), steps1, ()) = s_PaceForSteps m0_Visible m0_Speed steps1 := by kernel_rfl
noncomputable def F_s_PaceForSteps : Ins c_s_PaceForSteps.ins → Option (Int × Int × Bool) := fun x => s_PaceForSteps x.1.1 x.1.2 x.2.1
noncomputable def S_s_PaceForSteps : FSpec := mkF c_s_PaceForSteps.env.pre c_s_PaceForSteps.ins c_s_PaceForSteps.out c_s_PaceForSteps.inj F_s_PaceForSteps
theorem h_s_PaceForSteps : Cert Tryz.prog 38 S_s_PaceForSteps := FnCx.certF (c := c_s_PaceForSteps) F_s_PaceForSteps (tyOk _ _ _) (spOk ⟨h_s_moGood, fun _ _ h => h, ⟨h_s_l1In, fun _ _ h => h, ⟨h_s_moLow, fun _ _ h => h, trivial⟩⟩⟩) (fun _ _ _ _ _ hs => noDr_ok) Tryz.func38 rfl rfl Tryz.ntmps38 (by kernel_rfl) rfl rfl (fun _ => rfl) trivial (fun x => .inl ⟨c_s_PaceForSteps.start () x, fun _ => rfl⟩) (fun x t hb ht => by
  obtain ⟨⟨m0_Visible, m0_Speed⟩, steps1, _⟩ := x
  exact (s_PaceForSteps_e m0_Visible m0_Speed steps1).trans ht)
/-! impl.PlaceAt -/
noncomputable def c_i_PlaceAt : FnCx := { env := env 30 [(21, S_i_IsMoving), (41, S_i_isPace), (48, S_i_within)] [], body := bodyOf Tryz.f26, res := [.tmp 6, .tmp 7], ins := [.ro kMoving, .ro kint, .ro kint], out := [(kint, true), (kbool, true)], T := Int × Bool, fin := fun r => (r.1.1, r.1.2.1), inj := fun t => ((t.1, t.2, ()), ((), (), (), ())), pts := [], fuel := 400, dr := noDr }
noncomputable def i_PlaceAt (m0_Visible : Int) (m0_Speed : Int) (pace1 : Int) (time2 : Int) : (Int × Bool) :=
  bif !i_IsMoving m0_Visible m0_Speed then (0, false)
  else
    bif !i_isPace pace1 then (0, false)
    else
      bif !i_within time2 0 1000 then (0, false)
      else
        (bif decide (IntKind.wrap IntKind.i64 (IntKind.wrap IntKind.i64 (m0_Speed + pace1) * time2) < m0_Visible) then
            IntKind.wrap IntKind.i64 (IntKind.wrap IntKind.i64 (m0_Speed + pace1) * time2)
          else m0_Visible,
          true)
theorem i_PlaceAt_e (m0_Visible : Int) (m0_Speed : Int) (pace1 : Int) (time2 : Int) : c_i_PlaceAt.start c_i_PlaceAt.L ((m0_Visible, m0_Speed), pace1, time2, ()) = some (i_PlaceAt m0_Visible m0_Speed pace1 time2) := by
  refine Eq.trans (b := (bif !i_IsMoving m0_Visible m0_Speed then some (0, false) else bif !i_isPace pace1 then some (0, false) else bif !i_within time2 0 1000 then some (0, false) else some (bif decide (IntKind.wrap IntKind.i64 (IntKind.wrap IntKind.i64 (m0_Speed + pace1) * time2) < m0_Visible) then IntKind.wrap IntKind.i64 (IntKind.wrap IntKind.i64 (m0_Speed + pace1) * time2) else m0_Visible, true) : Option (Int × Bool))) (by kernel_rfl) ?_
  unfold i_PlaceAt
  repeat (first | rfl | apply condS)
noncomputable def F_i_PlaceAt : Ins c_i_PlaceAt.ins → (Int × Bool) := fun x => i_PlaceAt x.1.1 x.1.2 x.2.1 x.2.2.1
noncomputable def S_i_PlaceAt : FSpec := mkT c_i_PlaceAt.env.pre c_i_PlaceAt.ins c_i_PlaceAt.out c_i_PlaceAt.inj F_i_PlaceAt
theorem h_i_PlaceAt : Cert Tryz.prog 26 S_i_PlaceAt := FnCx.certT (c := c_i_PlaceAt) F_i_PlaceAt (tyOk _ _ _) (spOk ⟨h_i_IsMoving, fun _ _ h => h, ⟨h_i_isPace, fun _ _ h => h, ⟨h_i_within, fun _ _ h => h, trivial⟩⟩⟩) (fun _ _ _ _ _ hs => noDr_ok) Tryz.func26 rfl rfl Tryz.ntmps26 (by kernel_rfl) rfl rfl (fun _ => rfl) trivial (fun x => .inl ⟨c_i_PlaceAt.start () x, fun _ => rfl⟩) (fun x hb => by
  obtain ⟨⟨m0_Visible, m0_Speed⟩, pace1, time2, _⟩ := x
  exact i_PlaceAt_e m0_Visible m0_Speed pace1 time2)
/-! impl.isCount -/
noncomputable def c_i_isCount : FnCx := { env := env 5 [(48, S_i_within)] [], body := bodyOf Tryz.f49, res := [.tmp 2], ins := [.ro kint], out := [(kbool, true)], T := Bool, fin := fun r => r.1.1, inj := fun t => ((t, ()), ((), ())), pts := [], fuel := 400, dr := noDr }
noncomputable def i_isCount (n0 : Int) : Bool :=
  i_within n0 1 10000
theorem i_isCount_e (n0 : Int) : c_i_isCount.start c_i_isCount.L (n0, ()) = some (i_isCount n0) := by kernel_rfl
noncomputable def F_i_isCount : Ins c_i_isCount.ins → Bool := fun x => i_isCount x.1
noncomputable def S_i_isCount : FSpec := mkT c_i_isCount.env.pre c_i_isCount.ins c_i_isCount.out c_i_isCount.inj F_i_isCount
theorem h_i_isCount : Cert Tryz.prog 49 S_i_isCount := FnCx.certT (c := c_i_isCount) F_i_isCount (tyOk _ _ _) (spOk ⟨h_i_within, fun _ _ h => h, trivial⟩) (fun _ _ _ _ _ hs => noDr_ok) Tryz.func49 rfl rfl Tryz.ntmps49 (by kernel_rfl) rfl rfl (fun _ => rfl) trivial (fun x => .inl ⟨c_i_isCount.start () x, fun _ => rfl⟩) (fun x hb => by
  obtain ⟨n0, _⟩ := x
  exact i_isCount_e n0)
/-! impl.VisibleFromBoth -/
noncomputable def c_i_VisibleFromBoth : FnCx := { env := env 38 [(48, S_i_within), (49, S_i_isCount), (42, S_i_part)] [], body := bodyOf Tryz.f27, res := [.tmp 6, .tmp 7, .tmp 8], ins := [.ro kint, .ro kint, .ro kint], out := [(kint, true), (kint, true), (kbool, true)], T := Int × Int × Bool, fin := fun r => (r.1.1, r.1.2.1, r.1.2.2.1), inj := fun t => ((t.1, t.2.1, t.2.2, ()), ((), (), (), ())), pts := [], fuel := 400, dr := noDr }
noncomputable def i_VisibleFromBoth (pace0 : Int) (with1 : Int) (against2 : Int) : Option (Int × Int × Bool) :=
  bif !i_within pace0 1 20 then some (0, 0, false)
  else
    bif !i_isCount with1 then some (0, 0, false)
    else
      bif !i_isCount against2 then some (0, 0, false)
      else
        bif decide (against2 < with1) then some (0, 0, false)
        else
          Option.bind (i_part (IntKind.wrap IntKind.i64 (IntKind.wrap IntKind.i64 (2 * with1) * against2)) (IntKind.wrap IntKind.i64 (with1 + against2))) fun r =>
            some (Prod.fst r, Prod.fst (Prod.snd r), Prod.snd (Prod.snd r))
theorem i_VisibleFromBoth_e (pace0 : Int) (with1 : Int) (against2 : Int) : c_i_VisibleFromBoth.start c_i_VisibleFromBoth.L (pace0, with1, against2, ()) = i_VisibleFromBoth pace0 with1 against2 := by kernel_rfl
noncomputable def F_i_VisibleFromBoth : Ins c_i_VisibleFromBoth.ins → Option (Int × Int × Bool) := fun x => i_VisibleFromBoth x.1 x.2.1 x.2.2.1
noncomputable def S_i_VisibleFromBoth : FSpec := mkF c_i_VisibleFromBoth.env.pre c_i_VisibleFromBoth.ins c_i_VisibleFromBoth.out c_i_VisibleFromBoth.inj F_i_VisibleFromBoth
theorem h_i_VisibleFromBoth : Cert Tryz.prog 27 S_i_VisibleFromBoth := FnCx.certF (c := c_i_VisibleFromBoth) F_i_VisibleFromBoth (tyOk _ _ _) (spOk ⟨h_i_within, fun _ _ h => h, ⟨h_i_isCount, fun _ _ h => h, ⟨h_i_part, fun _ _ h => h, trivial⟩⟩⟩) (fun _ _ _ _ _ hs => noDr_ok) Tryz.func27 rfl rfl Tryz.ntmps27 (by kernel_rfl) rfl rfl (fun _ => rfl) trivial (fun x => .inl ⟨c_i_VisibleFromBoth.start () x, fun _ => rfl⟩) (fun x t hb ht => by
  obtain ⟨pace0, with1, against2, _⟩ := x
  exact (i_VisibleFromBoth_e pace0 with1 against2).trans ht)
/-! spec.VisibleFromBoth -/
noncomputable def c_s_VisibleFromBoth : FnCx := { env := env 38 [(58, S_s_l1In), (44, S_s_moLow)] [], body := bodyOf Tryz.f36, res := [.tmp 6, .tmp 7, .tmp 8], ins := [.ro kint, .ro kint, .ro kint], out := [(kint, true), (kint, true), (kbool, true)], T := Int × Int × Bool, fin := fun r => (r.1.1, r.1.2.1, r.1.2.2.1), inj := fun t => ((t.1, t.2.1, t.2.2, ()), ((), (), (), ())), pts := [], fuel := 400, dr := noDr }
noncomputable def s_VisibleFromBoth (pace0 : Int) (with1 : Int) (against2 : Int) : Option (Int × Int × Bool) :=
  bif !s_l1In pace0 1 20 then some (0, 0, false)
  else
    bif !s_l1In with1 1 10000 then some (0, 0, false)
    else
      bif !s_l1In against2 with1 10000 then some (0, 0, false)
      else
        Option.bind (s_moLow (IntKind.wrap IntKind.i64 (IntKind.wrap IntKind.i64 (2 * with1) * against2)) (IntKind.wrap IntKind.i64 (with1 + against2))) fun r =>
          some (Prod.fst r, Prod.snd r, true)
theorem s_VisibleFromBoth_e (pace0 : Int) (with1 : Int) (against2 : Int) : c_s_VisibleFromBoth.start c_s_VisibleFromBoth.L (pace0, with1, against2, ()) = s_VisibleFromBoth pace0 with1 against2 := by kernel_rfl
noncomputable def F_s_VisibleFromBoth : Ins c_s_VisibleFromBoth.ins → Option (Int × Int × Bool) := fun x => s_VisibleFromBoth x.1 x.2.1 x.2.2.1
noncomputable def S_s_VisibleFromBoth : FSpec := mkF c_s_VisibleFromBoth.env.pre c_s_VisibleFromBoth.ins c_s_VisibleFromBoth.out c_s_VisibleFromBoth.inj F_s_VisibleFromBoth
theorem h_s_VisibleFromBoth : Cert Tryz.prog 36 S_s_VisibleFromBoth := FnCx.certF (c := c_s_VisibleFromBoth) F_s_VisibleFromBoth (tyOk _ _ _) (spOk ⟨h_s_l1In, fun _ _ h => h, ⟨h_s_moLow, fun _ _ h => h, trivial⟩⟩) (fun _ _ _ _ _ hs => noDr_ok) Tryz.func36 rfl rfl Tryz.ntmps36 (by kernel_rfl) rfl rfl (fun _ => rfl) trivial (fun x => .inl ⟨c_s_VisibleFromBoth.start () x, fun _ => rfl⟩) (fun x t hb ht => by
  obtain ⟨pace0, with1, against2, _⟩ := x
  exact (s_VisibleFromBoth_e pace0 with1 against2).trans ht)
/-! impl.areTwo -/
noncomputable def c_i_areTwo : FnCx := { env := env 33 [(48, S_i_within), (41, S_i_isPace), (49, S_i_isCount)] [], body := bodyOf Tryz.f55, res := [.tmp 8], ins := [.ro kint, .ro kint, .ro kint, .ro kint], out := [(kbool, true)], T := Bool, fin := fun r => r.1.1, inj := fun t => ((t, ()), ((), (), (), (), ())), pts := [], fuel := 400, dr := noDr }
noncomputable def i_areTwo (pace0 : Int) (steps1 : Int) (other2 : Int) (many3 : Int) : Bool :=
  bif i_within pace0 1 20 then
    bif i_isPace other2 then
      bif decide (other2 > pace0) then bif i_isCount steps1 then bif i_isCount many3 then decide (steps1 < many3) else false else false else false
    else false
  else false
theorem i_areTwo_e (pace0 : Int) (steps1 : Int) (other2 : Int) (many3 : Int) : c_i_areTwo.start c_i_areTwo.L (pace0, steps1, other2, many3, ()) = some (i_areTwo pace0 steps1 other2 many3) := by
  refine Eq.trans (b := (bif i_within pace0 1 20 then bif i_isPace other2 then bif decide (other2 > pace0) then bif i_isCount steps1 then bif i_isCount many3 then some (decide (steps1 < many3)) else some false else some false else some false else some false else some false : Option Bool)) (by kernel_rfl) ?_
  unfold i_areTwo
  repeat (first | rfl | apply condS)
noncomputable def F_i_areTwo : Ins c_i_areTwo.ins → Bool := fun x => i_areTwo x.1 x.2.1 x.2.2.1 x.2.2.2.1
noncomputable def S_i_areTwo : FSpec := mkT c_i_areTwo.env.pre c_i_areTwo.ins c_i_areTwo.out c_i_areTwo.inj F_i_areTwo
theorem h_i_areTwo : Cert Tryz.prog 55 S_i_areTwo := FnCx.certT (c := c_i_areTwo) F_i_areTwo (tyOk _ _ _) (spOk ⟨h_i_within, fun _ _ h => h, ⟨h_i_isPace, fun _ _ h => h, ⟨h_i_isCount, fun _ _ h => h, trivial⟩⟩⟩) (fun _ _ _ _ _ hs => noDr_ok) Tryz.func55 rfl rfl Tryz.ntmps55 (by kernel_rfl) rfl rfl (fun _ => rfl) trivial (fun x => .inl ⟨c_i_areTwo.start () x, fun _ => rfl⟩) (fun x hb => by
  obtain ⟨pace0, steps1, other2, many3, _⟩ := x
  exact i_areTwo_e pace0 steps1 other2 many3)
/-! impl.VisibleFromTwo -/
noncomputable def c_i_VisibleFromTwo : FnCx := { env := env 35 [(55, S_i_areTwo), (42, S_i_part)] [], body := bodyOf Tryz.f31, res := [.tmp 8, .tmp 9, .tmp 10], ins := [.ro kint, .ro kint, .ro kint, .ro kint], out := [(kint, true), (kint, true), (kbool, true)], T := Int × Int × Bool, fin := fun r => (r.1.1, r.1.2.1, r.1.2.2.1), inj := fun t => ((t.1, t.2.1, t.2.2, ()), ((), (), (), (), ())), pts := [], fuel := 400, dr := noDr }
noncomputable def i_VisibleFromTwo (pace0 : Int) (steps1 : Int) (other2 : Int) (many3 : Int) : Option (Int × Int × Bool) :=
  bif !i_areTwo pace0 steps1 other2 many3 then some (0, 0, false)
  else
    Option.bind
      (i_part (IntKind.wrap IntKind.i64 (IntKind.wrap IntKind.i64 (steps1 * many3) * IntKind.wrap IntKind.i64 (other2 - pace0)))
        (IntKind.wrap IntKind.i64 (IntKind.wrap IntKind.i64 (steps1 * other2) - IntKind.wrap IntKind.i64 (many3 * pace0))))
      fun r => some (Prod.fst r, Prod.fst (Prod.snd r), Prod.snd (Prod.snd r))
theorem i_VisibleFromTwo_e (pace0 : Int) (steps1 : Int) (other2 : Int) (many3 : Int) : c_i_VisibleFromTwo.start c_i_VisibleFromTwo.L (pace0, steps1, other2, many3, ()) = i_VisibleFromTwo pace0 steps1 other2 many3 := by kernel_rfl
noncomputable def F_i_VisibleFromTwo : Ins c_i_VisibleFromTwo.ins → Option (Int × Int × Bool) := fun x => i_VisibleFromTwo x.1 x.2.1 x.2.2.1 x.2.2.2.1
noncomputable def S_i_VisibleFromTwo : FSpec := mkF c_i_VisibleFromTwo.env.pre c_i_VisibleFromTwo.ins c_i_VisibleFromTwo.out c_i_VisibleFromTwo.inj F_i_VisibleFromTwo
theorem h_i_VisibleFromTwo : Cert Tryz.prog 31 S_i_VisibleFromTwo := FnCx.certF (c := c_i_VisibleFromTwo) F_i_VisibleFromTwo (tyOk _ _ _) (spOk ⟨h_i_areTwo, fun _ _ h => h, ⟨h_i_part, fun _ _ h => h, trivial⟩⟩) (fun _ _ _ _ _ hs => noDr_ok) Tryz.func31 rfl rfl Tryz.ntmps31 (by kernel_rfl) rfl rfl (fun _ => rfl) trivial (fun x => .inl ⟨c_i_VisibleFromTwo.start () x, fun _ => rfl⟩) (fun x t hb ht => by
  obtain ⟨pace0, steps1, other2, many3, _⟩ := x
  exact (i_VisibleFromTwo_e pace0 steps1 other2 many3).trans ht)
/-! spec.moTwo -/
noncomputable def c_s_moTwo : FnCx := { env := env 51 [(58, S_s_l1In)] [], body := bodyOf Tryz.f56, res := [.tmp 8, .tmp 9, .tmp 10], ins := [.ro kint, .ro kint, .ro kint, .ro kint], out := [(kint, true), (kint, true), (kbool, true)], T := Int × Int × Bool, fin := fun r => (r.1.1, r.1.2.1, r.1.2.2.1), inj := fun t => ((t.1, t.2.1, t.2.2, ()), ((), (), (), (), ())), pts := [], fuel := 400, dr := noDr }
noncomputable def s_moTwo (pace0 : Int) (steps1 : Int) (other2 : Int) (many3 : Int) : (Int × Int × Bool) :=
  bif !s_l1In pace0 1 20 then (0, 0, false)
  else
    bif !s_l1In other2 (IntKind.wrap IntKind.i64 (pace0 + 1)) 20 then (0, 0, false)
    else
      bif !s_l1In steps1 1 10000 then (0, 0, false)
      else
        bif !s_l1In many3 (IntKind.wrap IntKind.i64 (steps1 + 1)) 10000 then (0, 0, false)
        else
          bif decide (IntKind.wrap IntKind.i64 (IntKind.wrap IntKind.i64 (steps1 * other2) - IntKind.wrap IntKind.i64 (many3 * pace0)) ≤ 0) then (0, 0, false)
          else
            (IntKind.wrap IntKind.i64 (IntKind.wrap IntKind.i64 (IntKind.wrap IntKind.i64 (many3 - steps1) * pace0) * other2),
              IntKind.wrap IntKind.i64 (IntKind.wrap IntKind.i64 (steps1 * other2) - IntKind.wrap IntKind.i64 (many3 * pace0)), true)
theorem s_moTwo_e (pace0 : Int) (steps1 : Int) (other2 : Int) (many3 : Int) : c_s_moTwo.start c_s_moTwo.L (pace0, steps1, other2, many3, ()) = some (s_moTwo pace0 steps1 other2 many3) := by
  refine Eq.trans (b := (bif !s_l1In pace0 1 20 then some (0, 0, false) else bif !s_l1In other2 (IntKind.wrap IntKind.i64 (pace0 + 1)) 20 then some (0, 0, false) else bif !s_l1In steps1 1 10000 then some (0, 0, false) else bif !s_l1In many3 (IntKind.wrap IntKind.i64 (steps1 + 1)) 10000 then some (0, 0, false) else bif decide (IntKind.wrap IntKind.i64 (IntKind.wrap IntKind.i64 (steps1 * other2) - IntKind.wrap IntKind.i64 (many3 * pace0)) ≤ 0) then some (0, 0, false) else some (IntKind.wrap IntKind.i64 (IntKind.wrap IntKind.i64 (IntKind.wrap IntKind.i64 (many3 - steps1) * pace0) * other2), IntKind.wrap IntKind.i64 (IntKind.wrap IntKind.i64 (steps1 * other2) - IntKind.wrap IntKind.i64 (many3 * pace0)), true) : Option (Int × Int × Bool))) (by kernel_rfl) ?_
  unfold s_moTwo
  repeat (first | rfl | apply condS)
noncomputable def F_s_moTwo : Ins c_s_moTwo.ins → (Int × Int × Bool) := fun x => s_moTwo x.1 x.2.1 x.2.2.1 x.2.2.2.1
noncomputable def S_s_moTwo : FSpec := mkT c_s_moTwo.env.pre c_s_moTwo.ins c_s_moTwo.out c_s_moTwo.inj F_s_moTwo
theorem h_s_moTwo : Cert Tryz.prog 56 S_s_moTwo := FnCx.certT (c := c_s_moTwo) F_s_moTwo (tyOk _ _ _) (spOk ⟨h_s_l1In, fun _ _ h => h, trivial⟩) (fun _ _ _ _ _ hs => noDr_ok) Tryz.func56 rfl rfl Tryz.ntmps56 (by kernel_rfl) rfl rfl (fun _ => rfl) trivial (fun x => .inl ⟨c_s_moTwo.start () x, fun _ => rfl⟩) (fun x hb => by
  obtain ⟨pace0, steps1, other2, many3, _⟩ := x
  exact s_moTwo_e pace0 steps1 other2 many3)
/-! spec.VisibleFromTwo -/
noncomputable def c_s_VisibleFromTwo : FnCx := { env := env 43 [(56, S_s_moTwo), (44, S_s_moLow)] [], body := bodyOf Tryz.f32, res := [.tmp 8, .tmp 9, .tmp 10], ins := [.ro kint, .ro kint, .ro kint, .ro kint], out := [(kint, true), (kint, true), (kbool, true)], T := Int × Int × Bool, fin := fun r => (r.1.1, r.1.2.1, r.1.2.2.1), inj := fun t => ((t.1, t.2.1, t.2.2, ()), ((), (), (), (), ())), pts := [], fuel := 400, dr := noDr }
noncomputable def s_VisibleFromTwo (pace0 : Int) (steps1 : Int) (other2 : Int) (many3 : Int) : Option (Int × Int × Bool) :=
  bif !Prod.snd (Prod.snd (s_moTwo pace0 steps1 other2 many3)) then some (0, 0, false)
  else
    Option.bind
      (s_moLow
        (IntKind.wrap IntKind.i64
          (steps1 *
            IntKind.wrap IntKind.i64
              (IntKind.wrap IntKind.i64 (pace0 * Prod.fst (Prod.snd (s_moTwo pace0 steps1 other2 many3))) + Prod.fst (s_moTwo pace0 steps1 other2 many3))))
        (IntKind.wrap IntKind.i64 (pace0 * Prod.fst (Prod.snd (s_moTwo pace0 steps1 other2 many3)))))
      fun r => some (Prod.fst r, Prod.snd r, true)
theorem s_VisibleFromTwo_e (pace0 : Int) (steps1 : Int) (other2 : Int) (many3 : Int) : c_s_VisibleFromTwo.start c_s_VisibleFromTwo.L (pace0, steps1, other2, many3, ()) = s_VisibleFromTwo pace0 steps1 other2 many3 := by kernel_rfl
noncomputable def F_s_VisibleFromTwo : Ins c_s_VisibleFromTwo.ins → Option (Int × Int × Bool) := fun x => s_VisibleFromTwo x.1 x.2.1 x.2.2.1 x.2.2.2.1
noncomputable def S_s_VisibleFromTwo : FSpec := mkF c_s_VisibleFromTwo.env.pre c_s_VisibleFromTwo.ins c_s_VisibleFromTwo.out c_s_VisibleFromTwo.inj F_s_VisibleFromTwo
theorem h_s_VisibleFromTwo : Cert Tryz.prog 32 S_s_VisibleFromTwo := FnCx.certF (c := c_s_VisibleFromTwo) F_s_VisibleFromTwo (tyOk _ _ _) (spOk ⟨h_s_moTwo, fun _ _ h => h, ⟨h_s_moLow, fun _ _ h => h, trivial⟩⟩) (fun _ _ _ _ _ hs => noDr_ok) Tryz.func32 rfl rfl Tryz.ntmps32 (by kernel_rfl) rfl rfl (fun _ => rfl) trivial (fun x => .inl ⟨c_s_VisibleFromTwo.start () x, fun _ => rfl⟩) (fun x t hb ht => by
  obtain ⟨pace0, steps1, other2, many3, _⟩ := x
  exact (s_VisibleFromTwo_e pace0 steps1 other2 many3).trans ht)
/-! impl.SpeedFromTwo -/
noncomputable def c_i_SpeedFromTwo : FnCx := { env := env 35 [(55, S_i_areTwo), (42, S_i_part)] [], body := bodyOf Tryz.f33, res := [.tmp 8, .tmp 9, .tmp 10], ins := [.ro kint, .ro kint, .ro kint, .ro kint], out := [(kint, true), (kint, true), (kbool, true)], T := Int × Int × Bool, fin := fun r => (r.1.1, r.1.2.1, r.1.2.2.1), inj := fun t => ((t.1, t.2.1, t.2.2, ()), ((), (), (), (), ())), pts := [], fuel := 400, dr := noDr }
noncomputable def i_SpeedFromTwo (pace0 : Int) (steps1 : Int) (other2 : Int) (many3 : Int) : Option (Int × Int × Bool) :=
  bif !i_areTwo pace0 steps1 other2 many3 then some (0, 0, false)
  else
    Option.bind
      (i_part (IntKind.wrap IntKind.i64 (IntKind.wrap IntKind.i64 (IntKind.wrap IntKind.i64 (many3 - steps1) * pace0) * other2))
        (IntKind.wrap IntKind.i64 (IntKind.wrap IntKind.i64 (steps1 * other2) - IntKind.wrap IntKind.i64 (many3 * pace0))))
      fun r => some (Prod.fst r, Prod.fst (Prod.snd r), Prod.snd (Prod.snd r))
theorem i_SpeedFromTwo_e (pace0 : Int) (steps1 : Int) (other2 : Int) (many3 : Int) : c_i_SpeedFromTwo.start c_i_SpeedFromTwo.L (pace0, steps1, other2, many3, ()) = i_SpeedFromTwo pace0 steps1 other2 many3 := by kernel_rfl
noncomputable def F_i_SpeedFromTwo : Ins c_i_SpeedFromTwo.ins → Option (Int × Int × Bool) := fun x => i_SpeedFromTwo x.1 x.2.1 x.2.2.1 x.2.2.2.1
noncomputable def S_i_SpeedFromTwo : FSpec := mkF c_i_SpeedFromTwo.env.pre c_i_SpeedFromTwo.ins c_i_SpeedFromTwo.out c_i_SpeedFromTwo.inj F_i_SpeedFromTwo
theorem h_i_SpeedFromTwo : Cert Tryz.prog 33 S_i_SpeedFromTwo := FnCx.certF (c := c_i_SpeedFromTwo) F_i_SpeedFromTwo (tyOk _ _ _) (spOk ⟨h_i_areTwo, fun _ _ h => h, ⟨h_i_part, fun _ _ h => h, trivial⟩⟩) (fun _ _ _ _ _ hs => noDr_ok) Tryz.func33 rfl rfl Tryz.ntmps33 (by kernel_rfl) rfl rfl (fun _ => rfl) trivial (fun x => .inl ⟨c_i_SpeedFromTwo.start () x, fun _ => rfl⟩) (fun x t hb ht => by
  obtain ⟨pace0, steps1, other2, many3, _⟩ := x
  exact (i_SpeedFromTwo_e pace0 steps1 other2 many3).trans ht)
/-! spec.SpeedFromTwo -/
noncomputable def c_s_SpeedFromTwo : FnCx := { env := env 35 [(56, S_s_moTwo), (44, S_s_moLow)] [], body := bodyOf Tryz.f34, res := [.tmp 8, .tmp 9, .tmp 10], ins := [.ro kint, .ro kint, .ro kint, .ro kint], out := [(kint, true), (kint, true), (kbool, true)], T := Int × Int × Bool, fin := fun r => (r.1.1, r.1.2.1, r.1.2.2.1), inj := fun t => ((t.1, t.2.1, t.2.2, ()), ((), (), (), (), ())), pts := [], fuel := 400, dr := noDr }
noncomputable def s_SpeedFromTwo (pace0 : Int) (steps1 : Int) (other2 : Int) (many3 : Int) : Option (Int × Int × Bool) :=
  bif !Prod.snd (Prod.snd (s_moTwo pace0 steps1 other2 many3)) then some (0, 0, false)
  else
    Option.bind (s_moLow (Prod.fst (s_moTwo pace0 steps1 other2 many3)) (Prod.fst (Prod.snd (s_moTwo pace0 steps1 other2 many3)))) fun r =>
      some (Prod.fst r, Prod.snd r, true)
theorem s_SpeedFromTwo_e (pace0 : Int) (steps1 : Int) (other2 : Int) (many3 : Int) : c_s_SpeedFromTwo.start c_s_SpeedFromTwo.L (pace0, steps1, other2, many3, ()) = s_SpeedFromTwo pace0 steps1 other2 many3 := by kernel_rfl
noncomputable def F_s_SpeedFromTwo : Ins c_s_SpeedFromTwo.ins → Option (Int × Int × Bool) := fun x => s_SpeedFromTwo x.1 x.2.1 x.2.2.1 x.2.2.2.1
noncomputable def S_s_SpeedFromTwo : FSpec := mkF c_s_SpeedFromTwo.env.pre c_s_SpeedFromTwo.ins c_s_SpeedFromTwo.out c_s_SpeedFromTwo.inj F_s_SpeedFromTwo
theorem h_s_SpeedFromTwo : Cert Tryz.prog 34 S_s_SpeedFromTwo := FnCx.certF (c := c_s_SpeedFromTwo) F_s_SpeedFromTwo (tyOk _ _ _) (spOk ⟨h_s_moTwo, fun _ _ h => h, ⟨h_s_moLow, fun _ _ h => h, trivial⟩⟩) (fun _ _ _ _ _ hs => noDr_ok) Tryz.func34 rfl rfl Tryz.ntmps34 (by kernel_rfl) rfl rfl (fun _ => rfl) trivial (fun x => .inl ⟨c_s_SpeedFromTwo.start () x, fun _ => rfl⟩) (fun x t hb ht => by
  obtain ⟨pace0, steps1, other2, many3, _⟩ := x
  exact (s_SpeedFromTwo_e pace0 steps1 other2 many3).trans ht)
/-! strconv.Itoa -/
noncomputable def strconv_Itoa (n : Int) : Option ByteArray := itoaF n
noncomputable def F_strconv_Itoa : Ins [.ro kint] → Option ByteArray := fun x => strconv_Itoa x.1
noncomputable def S_strconv_Itoa : FSpec := mkF (T := ByteArray) textPre [.ro kint] [(.str, true)] (fun t => ((t, ()), ((), ()))) F_strconv_Itoa
theorem h_strconv_Itoa : Cert Tryz.prog 46 S_strconv_Itoa := itoa_cert litoa rfl ⟨_, Tryz.func46, rfl, by kernel_rfl⟩ (by simp [textL])
/-! impl.MovingText -/
noncomputable def c_i_MovingText : FnCx := { env := env 15 [(21, S_i_IsMoving), (46, S_strconv_Itoa)] [], body := bodyOf Tryz.f18, res := [.tmp 2, .tmp 3], ins := [.ro kMoving], out := [(kstring, true), (kbool, true)], T := ByteArray × Bool, fin := fun r => (r.1.1, r.1.2.1), inj := fun t => ((t.1, t.2, ()), ((), ())), pts := [], fuel := 400, dr := evDr (env 15 [(21, S_i_IsMoving), (46, S_strconv_Itoa)] []) }
noncomputable def i_MovingText (m0_Visible : Int) (m0_Speed : Int) : Option (ByteArray × Bool) :=
  bif !i_IsMoving m0_Visible m0_Speed then some ({ data := #[] }, false)
  else
    Option.bind (strconv_Itoa m0_Visible) fun r =>
      bif Nat.ble (ByteArray.size r + ByteArray.size { data := #[118] }) 9223372036854775807 then
        Option.bind (strconv_Itoa m0_Speed) fun r_1 =>
          bif Nat.ble (ByteArray.size (r ++ { data := #[118] }) + ByteArray.size r_1) 9223372036854775807 then some (r ++ { data := #[118] } ++ r_1, true)
          else none
      else none
theorem i_MovingText_e (m0_Visible : Int) (m0_Speed : Int) : c_i_MovingText.start c_i_MovingText.L ((m0_Visible, m0_Speed), ()) = i_MovingText m0_Visible m0_Speed := by kernel_rfl
noncomputable def F_i_MovingText : Ins c_i_MovingText.ins → Option (ByteArray × Bool) := fun x => i_MovingText x.1.1 x.1.2
noncomputable def S_i_MovingText : FSpec := mkF c_i_MovingText.env.pre c_i_MovingText.ins c_i_MovingText.out c_i_MovingText.inj F_i_MovingText
theorem h_i_MovingText : Cert Tryz.prog 18 S_i_MovingText := FnCx.certF (c := c_i_MovingText) F_i_MovingText (tyOk _ _ _) (spOk ⟨h_i_IsMoving, fun _ _ h => h, ⟨h_strconv_Itoa, fun _ _ h => h, trivial⟩⟩) (fun _ _ _ _ _ hs => evDr_ok (tyOk _ _ _) hs follows) Tryz.func18 rfl rfl Tryz.ntmps18 (by kernel_rfl) rfl rfl (fun _ => rfl) trivial (fun x => .inl ⟨c_i_MovingText.start () x, fun _ => rfl⟩) (fun x t hb ht => by
  obtain ⟨⟨m0_Visible, m0_Speed⟩, _⟩ := x
  exact (i_MovingText_e m0_Visible m0_Speed).trans ht)
/-! spec.l1Num -/
noncomputable def SR_s_l1Num (RR : Int → Option (ByteArray)) : FSpec := mkF (T := ByteArray) textPre [.ro kint] [(kstring, true)] (fun t => ((t, ()), ((), ()))) (fun x => RR x.1)
noncomputable def c_s_l1Num (RR : Int → Option (ByteArray)) : FnCx := { env := env 20 [(64, SR_s_l1Num RR)] [], body := bodyOf Tryz.f64, res := [.tmp 2], ins := [.ro kint], out := [(kstring, true)], T := ByteArray, fin := fun r => r.1.1, inj := fun t => ((t, ()), ((), ())), pts := [], fuel := 400, dr := evDr (env 20 [(64, SR_s_l1Num RR)] []) }
noncomputable def s_l1Num (RR : Int → Option (ByteArray)) (n0 : Int) : Option ByteArray :=
  bif decide (n0 < 10) then
    some (List.foldl (fun r n => ByteArray.push r (UInt8.ofNat (Int.toNat n))) ByteArray.empty [IntKind.wrap IntKind.u8 (IntKind.wrap IntKind.i64 (48 + n0))])
  else
    Option.bind (RR (IntKind.wrap IntKind.i64 (Int.tdiv n0 10))) fun r =>
      bif
          Nat.ble
            (ByteArray.size r +
              ByteArray.size
                (List.foldl (fun r n => ByteArray.push r (UInt8.ofNat (Int.toNat n))) ByteArray.empty
                  [IntKind.wrap IntKind.u8 (IntKind.wrap IntKind.i64 (48 + Int.tmod n0 10))]))
            9223372036854775807 then
        some
          (r ++
            List.foldl (fun r n => ByteArray.push r (UInt8.ofNat (Int.toNat n))) ByteArray.empty
              [IntKind.wrap IntKind.u8 (IntKind.wrap IntKind.i64 (48 + Int.tmod n0 10))])
      else none
theorem s_l1Num_e (RR : Int → Option (ByteArray)) (n0 : Int) : (c_s_l1Num RR).start (c_s_l1Num RR).L (n0, ()) = (s_l1Num RR) n0 := by kernel_rfl
noncomputable def s_l1Num_it : Nat → Int → Option (ByteArray) := fun n => Nat.rec (fun _ => none) (fun _ RR => s_l1Num RR) n
theorem s_l1Num_is (n : Nat) (n0 : Int) : s_l1Num_it (n + 1) n0 = s_l1Num (s_l1Num_it n) n0 := rfl
theorem hh_s_l1Num : ∀ n, Cert Tryz.prog 64 (SR_s_l1Num (s_l1Num_it n))
  | 0 => cert_none Tryz.func64 rfl (by kernel_rfl) rfl rfl
  | n + 1 => FnCx.certF (c := c_s_l1Num (s_l1Num_it n)) (fun x => s_l1Num_it (n + 1) x.1) (tyOk _ _ _) (spOk ⟨hh_s_l1Num n, fun _ _ h => h, trivial⟩) (fun _ _ _ _ _ hs => evDr_ok (tyOk _ _ _) hs follows) Tryz.func64 rfl rfl Tryz.ntmps64 (by kernel_rfl) rfl rfl (fun _ => rfl) trivial (fun x => .inl ⟨(c_s_l1Num (s_l1Num_it n)).start () x, fun _ => rfl⟩) (fun x t hb ht => by
    obtain ⟨n0, _⟩ := x
    exact (s_l1Num_e (s_l1Num_it n) n0).trans ht)
-- NICE rec
theorem wrapU8 {n : Int} (h1 : 0 ≤ n) (h2 : n ≤ 255) : IntKind.wrap .u8 n = n := by
  unfold IntKind.wrap
  simp [IntKind.signed, IntKind.bits]
  omega
theorem bytes_app (a b : List UInt8) : (⟨a.toArray⟩ : ByteArray) ++ ⟨b.toArray⟩ = ⟨(a ++ b).toArray⟩ := ByteArray.ext (by rw [ByteArray.data_append]; simp)
theorem dec_len : ∀ u : Nat, (Lib.decDigits u).length ≤ u + 1 := by
  intro u
  induction u using Nat.strongRecOn with
  | ind u ih =>
    rw [Lib.decDigits]
    by_cases h : u < 10
    · rw [dif_pos h]; simp
    · rw [dif_neg h]
      have := ih (u / 10) (by omega)
      rw [List.length_append, List.length_singleton]; omega
theorem itoa_nat (n : Nat) : Lib.itoa (n : Int) = Lib.decDigits n := by
  unfold Lib.itoa
  rw [if_neg (by omega), Int.toNat_natCast]
theorem digit_eq {m : Nat} (h : m < 10) : List.foldl (fun r n => ByteArray.push r (UInt8.ofNat (Int.toNat n))) ByteArray.empty [IntKind.wrap .u8 (IntKind.wrap .i64 (48 + (m : Int)))] = ⟨([UInt8.ofNat (48 + m)] : List UInt8).toArray⟩ := by
  rw [wrapI (n := 48 + (m : Int)) (by omega) (by omega), wrapU8 (by omega) (by omega), show (48 + (m : Int)) = ((48 + m : Nat) : Int) by omega]
  simp only [List.foldl_cons, List.foldl_nil, Int.toNat_natCast]
  rfl
theorem num_it : ∀ (k n : Nat), n < k → n ≤ 4000000000000000000 → s_l1Num_it k (n : Int) = some ⟨(Lib.decDigits n).toArray⟩
  | 0, n, h, _ => by omega
  | k + 1, n, h, hn => by
    rw [s_l1Num_is, s_l1Num]
    by_cases h10 : n < 10
    · rw [decide_eq_true (show (n : Int) < 10 by omega), cond_true, digit_eq h10, Lib.decDigits, dif_pos h10]
    · have hm : Int.tmod (n : Int) 10 = ((n % 10 : Nat) : Int) := by rw [Int.tmod_eq_emod_of_nonneg (by omega)]; rfl
      have hd : Int.tdiv (n : Int) 10 = ((n / 10 : Nat) : Int) := by rw [Int.tdiv_eq_ediv_of_nonneg (by omega)]; rfl
      have ih := num_it k (n / 10) (by omega) (by omega)
      have hl := dec_len (n / 10)
      rw [decide_eq_false (show ¬ (n : Int) < 10 by omega), cond_false, hd, hm, wrapI (n := ((n / 10 : Nat) : Int)) (by omega) (by omega), ih, Option.bind_some, digit_eq (Nat.mod_lt n (by omega)), ble_dec, decide_eq_true, cond_true, bytes_app, Lib.decDigits.eq_def n, dif_neg h10]
      show (Lib.decDigits (n / 10)).toArray.size + 1 ≤ _
      simp; omega
noncomputable def s_l1Num_n (n : Int) : Option ByteArray := bif decide (0 ≤ n) && decide (n ≤ 4000000000000000000) then some ⟨(Lib.itoa n).toArray⟩ else none
theorem s_l1Num_ok (n : Int) (t : ByteArray) (h : s_l1Num_n n = some t) : ∃ k, s_l1Num_it k n = some t := by
  unfold s_l1Num_n at h
  cases hc : decide (0 ≤ n) && decide (n ≤ 4000000000000000000)
  · rw [hc] at h; cases h
  · rw [hc, cond_true] at h
    cases h
    rw [Bool.and_eq_true, decide_eq_true_eq, decide_eq_true_eq] at hc
    obtain ⟨m, rfl⟩ := Int.eq_ofNat_of_zero_le hc.1
    exact ⟨m + 1, by rw [num_it (m + 1) m (by omega) (by omega), itoa_nat]⟩
noncomputable def F_s_l1Num : Ins [.ro kint] → Option ByteArray := fun x => s_l1Num_n x.1
noncomputable def S_s_l1Num : FSpec := mkF (T := ByteArray) textPre [.ro kint] [(kstring, true)] (fun t => ((t, ()), ((), ()))) F_s_l1Num
theorem h_s_l1Num : Cert Tryz.prog 64 S_s_l1Num := cert_lim hh_s_l1Num (fun x t hb ht => by
  obtain ⟨n0, _⟩ := x
  exact s_l1Num_ok n0 t ht)
/-! spec.moText -/
noncomputable def c_s_moText : FnCx := { env := env 11 [(64, S_s_l1Num)] [], body := bodyOf Tryz.f47, res := [.tmp 2], ins := [.ro kMoving], out := [(kstring, true)], T := ByteArray, fin := fun r => r.1.1, inj := fun t => ((t, ()), ((), ())), pts := [], fuel := 400, dr := evDr (env 11 [(64, S_s_l1Num)] []) }
noncomputable def s_moText (m0_Visible : Int) (m0_Speed : Int) : Option ByteArray :=
  Option.bind (s_l1Num_n m0_Visible) fun r =>
    bif Nat.ble (ByteArray.size r + ByteArray.size { data := #[118] }) 9223372036854775807 then
      Option.bind (s_l1Num_n m0_Speed) fun r_1 =>
        bif Nat.ble (ByteArray.size (r ++ { data := #[118] }) + ByteArray.size r_1) 9223372036854775807 then some (r ++ { data := #[118] } ++ r_1) else none
    else none
theorem s_moText_e (m0_Visible : Int) (m0_Speed : Int) : c_s_moText.start c_s_moText.L ((m0_Visible, m0_Speed), ()) = s_moText m0_Visible m0_Speed := by kernel_rfl
noncomputable def F_s_moText : Ins c_s_moText.ins → Option ByteArray := fun x => s_moText x.1.1 x.1.2
noncomputable def S_s_moText : FSpec := mkF c_s_moText.env.pre c_s_moText.ins c_s_moText.out c_s_moText.inj F_s_moText
theorem h_s_moText : Cert Tryz.prog 47 S_s_moText := FnCx.certF (c := c_s_moText) F_s_moText (tyOk _ _ _) (spOk ⟨h_s_l1Num, fun _ _ h => h, trivial⟩) (fun _ _ _ _ _ hs => evDr_ok (tyOk _ _ _) hs follows) Tryz.func47 rfl rfl Tryz.ntmps47 (by kernel_rfl) rfl rfl (fun _ => rfl) trivial (fun x => .inl ⟨c_s_moText.start () x, fun _ => rfl⟩) (fun x t hb ht => by
  obtain ⟨⟨m0_Visible, m0_Speed⟩, _⟩ := x
  exact (s_moText_e m0_Visible m0_Speed).trans ht)
/-! spec.MovingText -/
noncomputable def c_s_MovingText : FnCx := { env := env 9 [(45, S_s_moGood), (47, S_s_moText)] [], body := bodyOf Tryz.f19, res := [.tmp 2, .tmp 3], ins := [.ro kMoving], out := [(kstring, true), (kbool, true)], T := ByteArray × Bool, fin := fun r => (r.1.1, r.1.2.1), inj := fun t => ((t.1, t.2, ()), ((), ())), pts := [], fuel := 400, dr := noDr }
noncomputable def s_MovingText (m0_Visible : Int) (m0_Speed : Int) : Option (ByteArray × Bool) :=
  bif !s_moGood m0_Visible m0_Speed then some ({ data := #[] }, false) else Option.bind (s_moText m0_Visible m0_Speed) fun r => some (r, true)
theorem s_MovingText_e (m0_Visible : Int) (m0_Speed : Int) : c_s_MovingText.start c_s_MovingText.L ((m0_Visible, m0_Speed), ()) = s_MovingText m0_Visible m0_Speed := by kernel_rfl
noncomputable def F_s_MovingText : Ins c_s_MovingText.ins → Option (ByteArray × Bool) := fun x => s_MovingText x.1.1 x.1.2
noncomputable def S_s_MovingText : FSpec := mkF c_s_MovingText.env.pre c_s_MovingText.ins c_s_MovingText.out c_s_MovingText.inj F_s_MovingText
theorem h_s_MovingText : Cert Tryz.prog 19 S_s_MovingText := FnCx.certF (c := c_s_MovingText) F_s_MovingText (tyOk _ _ _) (spOk ⟨h_s_moGood, fun _ _ h => h, ⟨h_s_moText, fun _ _ h => h, trivial⟩⟩) (fun _ _ _ _ _ hs => noDr_ok) Tryz.func19 rfl rfl Tryz.ntmps19 (by kernel_rfl) rfl rfl (fun _ => rfl) trivial (fun x => .inl ⟨c_s_MovingText.start () x, fun _ => rfl⟩) (fun x t hb ht => by
  obtain ⟨⟨m0_Visible, m0_Speed⟩, _⟩ := x
  exact (s_MovingText_e m0_Visible m0_Speed).trans ht)
/-! strings.Cut -/
noncomputable def strings_Cut (s sep : ByteArray) : Option (ByteArray × ByteArray × Bool) := cutF s sep
noncomputable def F_strings_Cut : Ins [.ro kstring, .ro kstring] → Option (ByteArray × ByteArray × Bool) := fun x => strings_Cut x.1 x.2.1
noncomputable def S_strings_Cut : FSpec := mkF (T := ByteArray × ByteArray × Bool) textPre [.ro kstring, .ro kstring] [(.str, true), (.str, true), (.bool, true)] (fun t => ((t.1, t.2.1, t.2.2, ()), ((), (), ()))) F_strings_Cut
theorem h_strings_Cut : Cert Tryz.prog 50 S_strings_Cut := cut_cert (show Lays.n145 Tryz.prog lcut_ren from { lcut with }) rfl ⟨_, Tryz.func50, rfl, by kernel_rfl⟩ (by simp [textL]) (by kernel_rfl)
/-! strconv.Atoi -/
noncomputable def strconv_Atoi (s : ByteArray) : Option (Int × Bool) := atoiF s
noncomputable def F_strconv_Atoi : Ins [.ro kstring] → Option (Int × Bool) := fun x => strconv_Atoi x.1
noncomputable def S_strconv_Atoi : FSpec := mkF (T := Int × Bool) textPre [.ro kstring] [(.int .i64, true), (.err, true)] (fun t => ((t.1, t.2, ()), ((), ()))) F_strconv_Atoi
theorem h_strconv_Atoi : Cert Tryz.prog 66 S_strconv_Atoi := atoi_cert rfl latoi rfl ⟨_, Tryz.func66, rfl, by kernel_rfl⟩ (by simp [textL]) (by kernel_rfl) (by simp [textL]) (by kernel_rfl)
/-! impl.num -/
noncomputable def c_i_num : FnCx := { env := env 27 [(66, S_strconv_Atoi), (46, S_strconv_Itoa)] [], body := bodyOf Tryz.f51, res := [.tmp 2], ins := [.ro kstring], out := [(kint, true)], T := Int, fin := fun r => r.1.1, inj := fun t => ((t, ()), ((), ())), pts := [], fuel := 400, dr := noDr }
noncomputable def i_num (s0 : ByteArray) : Option Int :=
  Option.bind (strconv_Atoi s0) fun r =>
    bif !Prod.snd r then some (-1)
    else
      bif decide (Prod.fst r < 0) then some (-1)
      else
        bif decide (Prod.fst r > 999999) then some (-1)
        else Option.bind (strconv_Itoa (Prod.fst r)) fun r_1 => bif !ByteArray.toList r_1 == ByteArray.toList s0 then some (-1) else some (Prod.fst r)
theorem i_num_e (s0 : ByteArray) : c_i_num.start c_i_num.L (s0, ()) = i_num s0 := by kernel_rfl
noncomputable def F_i_num : Ins c_i_num.ins → Option Int := fun x => i_num x.1
noncomputable def S_i_num : FSpec := mkF c_i_num.env.pre c_i_num.ins c_i_num.out c_i_num.inj F_i_num
theorem h_i_num : Cert Tryz.prog 51 S_i_num := FnCx.certF (c := c_i_num) F_i_num (tyOk _ _ _) (spOk ⟨h_strconv_Atoi, fun _ _ h => h, ⟨h_strconv_Itoa, fun _ _ h => h, trivial⟩⟩) (fun _ _ _ _ _ hs => noDr_ok) Tryz.func51 rfl rfl Tryz.ntmps51 (by kernel_rfl) rfl rfl (fun _ => rfl) trivial (fun x => .inl ⟨c_i_num.start () x, fun _ => rfl⟩) (fun x t hb ht => by
  obtain ⟨s0, _⟩ := x
  exact (i_num_e s0).trans ht)
/-! impl.ParseMoving -/
noncomputable def c_i_ParseMoving : FnCx := { env := env 24 [(50, S_strings_Cut), (51, S_i_num), (21, S_i_IsMoving)] [], body := bodyOf Tryz.f28, res := [.cell 2 25, .tmp 3], ins := [.ro kstring], out := [(kMoving, true), (kbool, true)], T := (Int × Int) × Bool, fin := fun r => (r.1.1, r.1.2.1), inj := fun t => ((t.1, t.2, ()), ((), ())), pts := [], fuel := 400, dr := noDr }
noncomputable def i_ParseMoving (s0 : ByteArray) : Option ((Int × Int) × Bool) :=
  Option.bind (strings_Cut s0 { data := #[118] }) fun r =>
    Option.bind (i_num (Prod.fst r)) fun r_1 =>
      Option.bind (i_num (Prod.fst (Prod.snd r))) fun r => bif !i_IsMoving r_1 r then some ((0, 0), false) else some ((r_1, r), true)
theorem i_ParseMoving_e (s0 : ByteArray) : c_i_ParseMoving.start c_i_ParseMoving.L (s0, ()) = i_ParseMoving s0 := by kernel_rfl
noncomputable def F_i_ParseMoving : Ins c_i_ParseMoving.ins → Option ((Int × Int) × Bool) := fun x => i_ParseMoving x.1
noncomputable def S_i_ParseMoving : FSpec := mkF c_i_ParseMoving.env.pre c_i_ParseMoving.ins c_i_ParseMoving.out c_i_ParseMoving.inj F_i_ParseMoving
theorem h_i_ParseMoving : Cert Tryz.prog 28 S_i_ParseMoving := FnCx.certF (c := c_i_ParseMoving) F_i_ParseMoving (tyOk _ _ _) (spOk ⟨h_strings_Cut, fun _ _ h => h, ⟨h_i_num, fun _ _ h => h, ⟨h_i_IsMoving, fun _ _ h => h, trivial⟩⟩⟩) (fun _ _ _ _ _ hs => noDr_ok) Tryz.func28 rfl rfl Tryz.ntmps28 (by kernel_rfl) rfl rfl (fun _ => rfl) trivial (fun x => .inl ⟨c_i_ParseMoving.start () x, fun _ => rfl⟩) (fun x t hb ht => by
  obtain ⟨s0, _⟩ := x
  exact (i_ParseMoving_e s0).trans ht)
/-! spec.IsMoving -/
noncomputable def c_s_IsMoving : FnCx := { env := env 5 [(45, S_s_moGood)] [], body := bodyOf Tryz.f22, res := [.tmp 2], ins := [.ro kMoving], out := [(kbool, true)], T := Bool, fin := fun r => r.1.1, inj := fun t => ((t, ()), ((), ())), pts := [], fuel := 400, dr := noDr }
noncomputable def s_IsMoving (m0_Visible : Int) (m0_Speed : Int) : Bool :=
  s_moGood m0_Visible m0_Speed
theorem s_IsMoving_e (m0_Visible : Int) (m0_Speed : Int) : c_s_IsMoving.start c_s_IsMoving.L ((m0_Visible, m0_Speed), ()) = some (s_IsMoving m0_Visible m0_Speed) := by kernel_rfl
noncomputable def F_s_IsMoving : Ins c_s_IsMoving.ins → Bool := fun x => s_IsMoving x.1.1 x.1.2
noncomputable def S_s_IsMoving : FSpec := mkT c_s_IsMoving.env.pre c_s_IsMoving.ins c_s_IsMoving.out c_s_IsMoving.inj F_s_IsMoving
theorem h_s_IsMoving : Cert Tryz.prog 22 S_s_IsMoving := FnCx.certT (c := c_s_IsMoving) F_s_IsMoving (tyOk _ _ _) (spOk ⟨h_s_moGood, fun _ _ h => h, trivial⟩) (fun _ _ _ _ _ hs => noDr_ok) Tryz.func22 rfl rfl Tryz.ntmps22 (by kernel_rfl) rfl rfl (fun _ => rfl) trivial (fun x => .inl ⟨c_s_IsMoving.start () x, fun _ => rfl⟩) (fun x hb => by
  obtain ⟨⟨m0_Visible, m0_Speed⟩, _⟩ := x
  exact s_IsMoving_e m0_Visible m0_Speed)
/-! laws.lLow -/
noncomputable def c_w_lLow : FnCx := { env := env 23 [] [], body := bodyOf Tryz.f39, res := [.tmp 4], ins := [.ro kint, .ro kint], out := [(kbool, true)], T := Bool, fin := fun r => r.1.1, inj := fun t => ((t, ()), ((), (), ())), pts := [([.inLoop [1, 1, 1, 0, 0, 0], .inBlock 0, .code [1, 1, 1, 1]], Shape.mk [] [(5, Ss.one (Cs.sc kint)), (6, Ss.one (Cs.sc kint))] [Ss.one (Cs.any), Ss.one (Cs.any)])], fuel := 400, dr := evDr (env 23 [] []) }
noncomputable def w_lLow_t1 (g1 : Int → Int → Option (Bool)) (a5 : Int) (b6 : Int) : Option Bool :=
  bif decide (b6 > 0) then bif b6 == 0 then none else g1 b6 (Int.tmod a5 b6) else some (a5 == 1)
noncomputable def w_lLow_t0 (g1 : Int → Int → Option (Bool)) (num0 : Int) (den1 : Int) : Option Bool :=
  bif decide (num0 < 0) then some false else bif decide (den1 < 1) then some false else g1 num0 den1
theorem w_lLow_ts : Tails c_w_lLow.pts c_w_lLow.round :=
  ⟨fun s => by
    obtain ⟨_, ⟨a5, b6, _⟩, ⟨_, _, _⟩⟩ := s
    refine Tail.eq (Y := fun g => w_lLow_t1 (fun a5 b6 => g.1 ((), (a5, b6, ()), ((), (), ()))) a5 b6) ?_ (fun g => by kernel_rfl)
    simp only [w_lLow_t1]; repeat (first | exact Tail.const _ | exact Tail.here _ | exact Tail.there (Tail.here _) | exact Tail.there (Tail.there (Tail.here _)) | exact Tail.there (Tail.there (Tail.there (Tail.here _))) | exact Tail.there (Tail.there (Tail.there (Tail.there (Tail.here _)))) | exact Tail.there (Tail.there (Tail.there (Tail.there (Tail.there (Tail.here _))))) | apply Tail.cond | (apply Tail.bind; intro _)), trivial⟩
theorem w_lLow_hs : ∀ x, Tail c_w_lLow.pts (fun g => c_w_lLow.start g x) := fun x => by
    obtain ⟨num0, den1, _⟩ := x
    refine Tail.eq (Y := fun g => w_lLow_t0 (fun a5 b6 => g.1 ((), (a5, b6, ()), ((), (), ()))) num0 den1) ?_ (fun g => by kernel_rfl)
    simp only [w_lLow_t0]; repeat (first | exact Tail.const _ | exact Tail.here _ | exact Tail.there (Tail.here _) | exact Tail.there (Tail.there (Tail.here _)) | exact Tail.there (Tail.there (Tail.there (Tail.here _))) | exact Tail.there (Tail.there (Tail.there (Tail.there (Tail.here _)))) | exact Tail.there (Tail.there (Tail.there (Tail.there (Tail.there (Tail.here _))))) | apply Tail.cond | (apply Tail.bind; intro _))
noncomputable def w_lLow_L1 (a5 : Int) (b6 : Int) : Option Bool := c_w_lLow.L.1 ((), (a5, b6, ()), ((), (), ()))
theorem w_lLow_u1 (a5 : Int) (b6 : Int) : w_lLow_L1 a5 b6 = w_lLow_t1 w_lLow_L1 a5 b6 :=
  (congrArg (fun g => g.1 ((), (a5, b6, ()), ((), (), ()))) (FnCx.L_eq w_lLow_ts)).trans (by kernel_rfl)
noncomputable def w_lLow (num0 : Int) (den1 : Int) : Option Bool := w_lLow_t0 w_lLow_L1 num0 den1
theorem w_lLow_e (num0 : Int) (den1 : Int) : c_w_lLow.start c_w_lLow.L (num0, den1, ()) = w_lLow num0 den1 := by kernel_rfl
noncomputable def F_w_lLow : Ins c_w_lLow.ins → Option Bool := fun x => w_lLow x.1 x.2.1
noncomputable def S_w_lLow : FSpec := mkF c_w_lLow.env.pre c_w_lLow.ins c_w_lLow.out c_w_lLow.inj F_w_lLow
theorem h_w_lLow : Cert Tryz.prog 39 S_w_lLow := FnCx.certF (c := c_w_lLow) F_w_lLow (tyOk _ _ _) (spOk trivial) (fun _ _ _ _ _ hs => evDr_ok (tyOk _ _ _) hs follows) Tryz.func39 rfl rfl Tryz.ntmps39 (by kernel_rfl) rfl rfl (fun _ => rfl) w_lLow_ts w_lLow_hs (fun x t hb ht => by
  obtain ⟨num0, den1, _⟩ := x
  exact (w_lLow_e num0 den1).trans ht)
/-! laws.lIs -/
noncomputable def c_w_lIs : FnCx := { env := env 21 [(39, S_w_lLow)] [], body := bodyOf Tryz.f23, res := [.tmp 8], ins := [.ro kint, .ro kint, .ro kint, .ro kint], out := [(kbool, true)], T := Bool, fin := fun r => r.1.1, inj := fun t => ((t, ()), ((), (), (), (), ())), pts := [], fuel := 400, dr := noDr }
noncomputable def w_lIs (num0 : Int) (den1 : Int) (x2 : Int) (y3 : Int) : Option Bool :=
  Option.bind (w_lLow num0 den1) fun r => bif r then some (IntKind.wrap IntKind.i64 (num0 * y3) == IntKind.wrap IntKind.i64 (x2 * den1)) else some false
theorem w_lIs_e (num0 : Int) (den1 : Int) (x2 : Int) (y3 : Int) : c_w_lIs.start c_w_lIs.L (num0, den1, x2, y3, ()) = w_lIs num0 den1 x2 y3 := by kernel_rfl
noncomputable def F_w_lIs : Ins c_w_lIs.ins → Option Bool := fun x => w_lIs x.1 x.2.1 x.2.2.1 x.2.2.2.1
noncomputable def S_w_lIs : FSpec := mkF c_w_lIs.env.pre c_w_lIs.ins c_w_lIs.out c_w_lIs.inj F_w_lIs
theorem h_w_lIs : Cert Tryz.prog 23 S_w_lIs := FnCx.certF (c := c_w_lIs) F_w_lIs (tyOk _ _ _) (spOk ⟨h_w_lLow, fun _ _ h => h, trivial⟩) (fun _ _ _ _ _ hs => noDr_ok) Tryz.func23 rfl rfl Tryz.ntmps23 (by kernel_rfl) rfl rfl (fun _ => rfl) trivial (fun x => .inl ⟨c_w_lIs.start () x, fun _ => rfl⟩) (fun x t hb ht => by
  obtain ⟨num0, den1, x2, y3, _⟩ := x
  exact (w_lIs_e num0 den1 x2 y3).trans ht)
/-! laws.lHas -/
noncomputable def c_w_lHas : FnCx := { env := env 17 [] [], body := bodyOf Tryz.f24, res := [.tmp 4], ins := [.ro kSint, .ro kint], out := [(kbool, true)], T := Bool, fin := fun r => r.1.1, inj := fun t => ((t, ()), ((), (), ())), pts := [([.inLoop [1, 0, 1, 0, 0], .inBlock 0, .code [1, 1]], Shape.mk [Bs.row kint 3 false] [(1, Ss.one (Cs.sc kint)), (7, Ss.one (Cs.sl 0)), (8, Ss.one (Cs.sc kint)), (9, Ss.one (Cs.sc kint))] [Ss.one (Cs.any), Ss.one (Cs.any)])], fuel := 400, dr := noDr }
noncomputable def w_lHas_t1 (g1 : List (Int) → Int → Int → Int → Option (Bool)) (r0 : List (Int)) (n1 : Int) (s8 : Int) (s9 : Int) : Option Bool :=
  bif decide (s9 < s8) then
    bif decide (0 ≤ s9) then
      bif decide (s9 < (↑(List.length r0) : Int)) then
        bif rdk kint r0 s9 == n1 then some true else g1 r0 n1 s8 (IntKind.wrap IntKind.i64 (s9 + 1))
      else none
    else none
  else some false
noncomputable def w_lHas_t0 (g1 : List (Int) → Int → Int → Int → Option (Bool)) (list0 : List Int) (n1 : Int) : Option Bool :=
  g1 list0 n1 (↑(List.length list0) : Int) 0
theorem w_lHas_ts : Tails c_w_lHas.pts c_w_lHas.round :=
  ⟨fun s => by
    obtain ⟨⟨r0, _⟩, ⟨n1, _, s8, s9, _⟩, ⟨_, _, _⟩⟩ := s
    refine Tail.eq (Y := fun g => w_lHas_t1 (fun r0 n1 s8 s9 => g.1 ((r0, ()), (n1, (), s8, s9, ()), ((), (), ()))) r0 n1 s8 s9) ?_ (fun g => by kernel_rfl)
    simp only [w_lHas_t1]; repeat (first | exact Tail.const _ | exact Tail.here _ | exact Tail.there (Tail.here _) | exact Tail.there (Tail.there (Tail.here _)) | exact Tail.there (Tail.there (Tail.there (Tail.here _))) | exact Tail.there (Tail.there (Tail.there (Tail.there (Tail.here _)))) | exact Tail.there (Tail.there (Tail.there (Tail.there (Tail.there (Tail.here _))))) | apply Tail.cond | (apply Tail.bind; intro _)), trivial⟩
theorem w_lHas_hs : ∀ x, Tail c_w_lHas.pts (fun g => c_w_lHas.start g x) := fun x => by
    obtain ⟨list0, n1, _⟩ := x
    refine Tail.eq (Y := fun g => w_lHas_t0 (fun r0 n1 s8 s9 => g.1 ((r0, ()), (n1, (), s8, s9, ()), ((), (), ()))) list0 n1) ?_ (fun g => by kernel_rfl)
    simp only [w_lHas_t0]; repeat (first | exact Tail.const _ | exact Tail.here _ | exact Tail.there (Tail.here _) | exact Tail.there (Tail.there (Tail.here _)) | exact Tail.there (Tail.there (Tail.there (Tail.here _))) | exact Tail.there (Tail.there (Tail.there (Tail.there (Tail.here _)))) | exact Tail.there (Tail.there (Tail.there (Tail.there (Tail.there (Tail.here _))))) | apply Tail.cond | (apply Tail.bind; intro _))
noncomputable def w_lHas_L1 (r0 : List (Int)) (n1 : Int) (s8 : Int) (s9 : Int) : Option Bool := c_w_lHas.L.1 ((r0, ()), (n1, (), s8, s9, ()), ((), (), ()))
theorem w_lHas_u1 (r0 : List (Int)) (n1 : Int) (s8 : Int) (s9 : Int) : w_lHas_L1 r0 n1 s8 s9 = w_lHas_t1 w_lHas_L1 r0 n1 s8 s9 :=
  (congrArg (fun g => g.1 ((r0, ()), (n1, (), s8, s9, ()), ((), (), ()))) (FnCx.L_eq w_lHas_ts)).trans (by kernel_rfl)
noncomputable def w_lHas (list0 : List Int) (n1 : Int) : Option Bool := w_lHas_t0 w_lHas_L1 list0 n1
theorem w_lHas_e (list0 : List Int) (n1 : Int) : c_w_lHas.start c_w_lHas.L (list0, n1, ()) = w_lHas list0 n1 := by kernel_rfl
noncomputable def F_w_lHas : Ins c_w_lHas.ins → Option Bool := fun x => w_lHas x.1 x.2.1
noncomputable def S_w_lHas : FSpec := mkF c_w_lHas.env.pre c_w_lHas.ins c_w_lHas.out c_w_lHas.inj F_w_lHas
theorem h_w_lHas : Cert Tryz.prog 24 S_w_lHas := FnCx.certF (c := c_w_lHas) F_w_lHas (tyOk _ _ _) (spOk trivial) (fun _ _ _ _ _ hs => noDr_ok) Tryz.func24 rfl rfl Tryz.ntmps24 (by kernel_rfl) rfl rfl (fun _ => rfl) w_lHas_ts w_lHas_hs (fun x t hb ht => by
  obtain ⟨list0, n1, _⟩ := x
  exact (w_lHas_e list0 n1).trans ht)
/-! laws.lSame -/
noncomputable def c_w_lSame : FnCx := { env := env 26 [] [], body := bodyOf Tryz.f20, res := [.tmp 4], ins := [.ro kSint, .ro kSint], out := [(kbool, true)], T := Bool, fin := fun r => r.1.1, inj := fun t => ((t, ()), ((), (), ())), pts := [([.inLoop [1, 1, 0, 1, 0, 0], .inBlock 0, .code [1, 1, 1]], Shape.mk [Bs.row kint 3 false, Bs.row kint 3 false] [(0, Ss.one (Cs.sl 0)), (1, Ss.one (Cs.sl 1)), (12, Ss.one (Cs.sc kint)), (13, Ss.one (Cs.sc kint))] [Ss.one (Cs.any), Ss.one (Cs.any)])], fuel := 400, dr := evDr (env 26 [] []) }
noncomputable def w_lSame_t1 (g1 : List (Int) → List (Int) → Int → Int → Option (Bool)) (r0 : List (Int)) (r1 : List (Int)) (s12 : Int) (s13 : Int) : Option Bool :=
  bif decide (s13 < s12) then
    bif decide (0 ≤ s13) then
      bif decide (s13 < (↑(List.length r0) : Int)) then
        bif decide (0 ≤ s13) then
          bif decide (s13 < (↑(List.length r1) : Int)) then
            bif rdk kint r0 s13 != rdk kint r1 s13 then some false else g1 r0 r1 s12 (IntKind.wrap IntKind.i64 (s13 + 1))
          else none
        else none
      else none
    else none
  else some true
noncomputable def w_lSame_t0 (g1 : List (Int) → List (Int) → Int → Int → Option (Bool)) (a0 : List Int) (b1 : List Int) : Option Bool :=
  bif (↑(List.length a0) : Int) != (↑(List.length b1) : Int) then some false else g1 a0 b1 (↑(List.length a0) : Int) 0
theorem w_lSame_ts : Tails c_w_lSame.pts c_w_lSame.round :=
  ⟨fun s => by
    obtain ⟨⟨r0, r1, _⟩, ⟨_, _, s12, s13, _⟩, ⟨_, _, _⟩⟩ := s
    refine Tail.eq (Y := fun g => w_lSame_t1 (fun r0 r1 s12 s13 => g.1 ((r0, r1, ()), ((), (), s12, s13, ()), ((), (), ()))) r0 r1 s12 s13) ?_ (fun g => by kernel_rfl)
    simp only [w_lSame_t1]; repeat (first | exact Tail.const _ | exact Tail.here _ | exact Tail.there (Tail.here _) | exact Tail.there (Tail.there (Tail.here _)) | exact Tail.there (Tail.there (Tail.there (Tail.here _))) | exact Tail.there (Tail.there (Tail.there (Tail.there (Tail.here _)))) | exact Tail.there (Tail.there (Tail.there (Tail.there (Tail.there (Tail.here _))))) | apply Tail.cond | (apply Tail.bind; intro _)), trivial⟩
theorem w_lSame_hs : ∀ x, Tail c_w_lSame.pts (fun g => c_w_lSame.start g x) := fun x => by
    obtain ⟨a0, b1, _⟩ := x
    refine Tail.eq (Y := fun g => w_lSame_t0 (fun r0 r1 s12 s13 => g.1 ((r0, r1, ()), ((), (), s12, s13, ()), ((), (), ()))) a0 b1) ?_ (fun g => by kernel_rfl)
    simp only [w_lSame_t0]; repeat (first | exact Tail.const _ | exact Tail.here _ | exact Tail.there (Tail.here _) | exact Tail.there (Tail.there (Tail.here _)) | exact Tail.there (Tail.there (Tail.there (Tail.here _))) | exact Tail.there (Tail.there (Tail.there (Tail.there (Tail.here _)))) | exact Tail.there (Tail.there (Tail.there (Tail.there (Tail.there (Tail.here _))))) | apply Tail.cond | (apply Tail.bind; intro _))
noncomputable def w_lSame_L1 (r0 : List (Int)) (r1 : List (Int)) (s12 : Int) (s13 : Int) : Option Bool := c_w_lSame.L.1 ((r0, r1, ()), ((), (), s12, s13, ()), ((), (), ()))
theorem w_lSame_u1 (r0 : List (Int)) (r1 : List (Int)) (s12 : Int) (s13 : Int) : w_lSame_L1 r0 r1 s12 s13 = w_lSame_t1 w_lSame_L1 r0 r1 s12 s13 :=
  (congrArg (fun g => g.1 ((r0, r1, ()), ((), (), s12, s13, ()), ((), (), ()))) (FnCx.L_eq w_lSame_ts)).trans (by kernel_rfl)
noncomputable def w_lSame (a0 : List Int) (b1 : List Int) : Option Bool := w_lSame_t0 w_lSame_L1 a0 b1
theorem w_lSame_e (a0 : List Int) (b1 : List Int) : c_w_lSame.start c_w_lSame.L (a0, b1, ()) = w_lSame a0 b1 := by kernel_rfl
noncomputable def F_w_lSame : Ins c_w_lSame.ins → Option Bool := fun x => w_lSame x.1 x.2.1
noncomputable def S_w_lSame : FSpec := mkF c_w_lSame.env.pre c_w_lSame.ins c_w_lSame.out c_w_lSame.inj F_w_lSame
theorem h_w_lSame : Cert Tryz.prog 20 S_w_lSame := FnCx.certF (c := c_w_lSame) F_w_lSame (tyOk _ _ _) (spOk trivial) (fun _ _ _ _ _ hs => evDr_ok (tyOk _ _ _) hs follows) Tryz.func20 rfl rfl Tryz.ntmps20 (by kernel_rfl) rfl rfl (fun _ => rfl) w_lSame_ts w_lSame_hs (fun x t hb ht => by
  obtain ⟨a0, b1, _⟩ := x
  exact (w_lSame_e a0 b1).trans ht)
/-! laws.lRises -/
noncomputable def c_w_lRises : FnCx := { env := env 20 [] [], body := bodyOf Tryz.f29, res := [.tmp 2], ins := [.ro kSint], out := [(kbool, true)], T := Bool, fin := fun r => r.1.1, inj := fun t => ((t, ()), ((), ())), pts := [([.inLoop [1, 0, 1, 0, 0], .inBlock 0, .code [1, 1]], Shape.mk [Bs.row kint 3 false] [(0, Ss.one (Cs.sl 0)), (3, Ss.one (Cs.sc kint))] [Ss.one (Cs.any)])], fuel := 400, dr := evDr (env 20 [] []) }
noncomputable def w_lRises_t1 (g1 : List (Int) → Int → Option (Bool)) (r0 : List (Int)) (i3 : Int) : Option Bool :=
  bif decide (i3 < (↑(List.length r0) : Int)) then
    bif decide (0 ≤ IntKind.wrap IntKind.i64 (i3 - 1)) then
      bif decide (IntKind.wrap IntKind.i64 (i3 - 1) < (↑(List.length r0) : Int)) then
        bif decide (0 ≤ i3) then
          bif decide (i3 < (↑(List.length r0) : Int)) then
            bif decide (rdk kint r0 (IntKind.wrap IntKind.i64 (i3 - 1)) ≥ rdk kint r0 i3) then some false
            else g1 r0 (IntKind.wrap IntKind.i64 (i3 + 1))
          else none
        else none
      else none
    else none
  else some true
noncomputable def w_lRises_t0 (g1 : List (Int) → Int → Option (Bool)) (list0 : List Int) : Option Bool :=
  g1 list0 1
theorem w_lRises_ts : Tails c_w_lRises.pts c_w_lRises.round :=
  ⟨fun s => by
    obtain ⟨⟨r0, _⟩, ⟨_, i3, _⟩, ⟨_, _⟩⟩ := s
    refine Tail.eq (Y := fun g => w_lRises_t1 (fun r0 i3 => g.1 ((r0, ()), ((), i3, ()), ((), ()))) r0 i3) ?_ (fun g => by kernel_rfl)
    simp only [w_lRises_t1]; repeat (first | exact Tail.const _ | exact Tail.here _ | exact Tail.there (Tail.here _) | exact Tail.there (Tail.there (Tail.here _)) | exact Tail.there (Tail.there (Tail.there (Tail.here _))) | exact Tail.there (Tail.there (Tail.there (Tail.there (Tail.here _)))) | exact Tail.there (Tail.there (Tail.there (Tail.there (Tail.there (Tail.here _))))) | apply Tail.cond | (apply Tail.bind; intro _)), trivial⟩
theorem w_lRises_hs : ∀ x, Tail c_w_lRises.pts (fun g => c_w_lRises.start g x) := fun x => by
    obtain ⟨list0, _⟩ := x
    refine Tail.eq (Y := fun g => w_lRises_t0 (fun r0 i3 => g.1 ((r0, ()), ((), i3, ()), ((), ()))) list0) ?_ (fun g => by kernel_rfl)
    simp only [w_lRises_t0]; repeat (first | exact Tail.const _ | exact Tail.here _ | exact Tail.there (Tail.here _) | exact Tail.there (Tail.there (Tail.here _)) | exact Tail.there (Tail.there (Tail.there (Tail.here _))) | exact Tail.there (Tail.there (Tail.there (Tail.there (Tail.here _)))) | exact Tail.there (Tail.there (Tail.there (Tail.there (Tail.there (Tail.here _))))) | apply Tail.cond | (apply Tail.bind; intro _))
noncomputable def w_lRises_L1 (r0 : List (Int)) (i3 : Int) : Option Bool := c_w_lRises.L.1 ((r0, ()), ((), i3, ()), ((), ()))
theorem w_lRises_u1 (r0 : List (Int)) (i3 : Int) : w_lRises_L1 r0 i3 = w_lRises_t1 w_lRises_L1 r0 i3 :=
  (congrArg (fun g => g.1 ((r0, ()), ((), i3, ()), ((), ()))) (FnCx.L_eq w_lRises_ts)).trans (by kernel_rfl)
noncomputable def w_lRises (list0 : List Int) : Option Bool := w_lRises_t0 w_lRises_L1 list0
theorem w_lRises_e (list0 : List Int) : c_w_lRises.start c_w_lRises.L (list0, ()) = w_lRises list0 := by kernel_rfl
noncomputable def F_w_lRises : Ins c_w_lRises.ins → Option Bool := fun x => w_lRises x.1
noncomputable def S_w_lRises : FSpec := mkF c_w_lRises.env.pre c_w_lRises.ins c_w_lRises.out c_w_lRises.inj F_w_lRises
theorem h_w_lRises : Cert Tryz.prog 29 S_w_lRises := FnCx.certF (c := c_w_lRises) F_w_lRises (tyOk _ _ _) (spOk trivial) (fun _ _ _ _ _ hs => evDr_ok (tyOk _ _ _) hs follows) Tryz.func29 rfl rfl Tryz.ntmps29 (by kernel_rfl) rfl rfl (fun _ => rfl) w_lRises_ts w_lRises_hs (fun x t hb ht => by
  obtain ⟨list0, _⟩ := x
  exact (w_lRises_e list0).trans ht)
end Go.Proofs.YtadcmhdjoglagaaGreatDoor.V
