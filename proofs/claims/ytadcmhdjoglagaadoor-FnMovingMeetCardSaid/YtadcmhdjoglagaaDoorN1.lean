/- Functions of the program, as plain functions. No condition. -/
import Derived.Test.YtadcmhdjoglagaaDoorTyN
set_option linter.unusedVariables false
set_option linter.unusedSimpArgs false
set_option maxRecDepth 100000
namespace Go.Proofs.YtadcmhdjoglagaaDoor.V
open Go Go.Ev Go.Proofs
/-! impl.within -/
noncomputable def c_i_within : FnCx := { env := env 15 [] [], body := bodyOf Tryd.f36, res := [.tmp 6], ins := [.ro kint, .ro kint, .ro kint], out := [(kbool, true)], T := Bool, fin := fun r => r.1.1, inj := fun t => ((t, ()), ((), (), (), ())), pts := [], fuel := 400, dr := noDr }
noncomputable def i_within (n0 : Int) (low1 : Int) (high2 : Int) : Bool :=
  bif decide (low1 ≤ n0) then decide (n0 ≤ high2) else false
theorem i_within_e (n0 : Int) (low1 : Int) (high2 : Int) : c_i_within.start c_i_within.L (n0, low1, high2, ()) = some (i_within n0 low1 high2) := by
  refine Eq.trans (b := (bif decide (low1 ≤ n0) then some (decide (n0 ≤ high2)) else some false : Option Bool)) (by kernel_rfl) ?_
  unfold i_within
  repeat (first | rfl | apply condS)
noncomputable def F_i_within : Ins c_i_within.ins → Bool := fun x => i_within x.1 x.2.1 x.2.2.1
noncomputable def S_i_within : FSpec := mkT c_i_within.env.pre c_i_within.ins c_i_within.out c_i_within.inj F_i_within
theorem h_i_within : Cert Tryd.prog 36 S_i_within := FnCx.certT (c := c_i_within) F_i_within (tyOk _ _ _) (spOk trivial) (fun _ _ _ _ _ hs => noDr_ok) Tryd.func36 rfl rfl Tryd.ntmps36 (by kernel_rfl) rfl rfl (fun _ => rfl) trivial (fun x => .inl ⟨c_i_within.start () x, fun _ => rfl⟩) (fun x hb => by
  obtain ⟨n0, low1, high2, _⟩ := x
  exact i_within_e n0 low1 high2)
/-! impl.IsMoving -/
noncomputable def c_i_IsMoving : FnCx := { env := env 11 [(36, S_i_within)] [], body := bodyOf Tryd.f31, res := [.tmp 2], ins := [.ro kMoving], out := [(kbool, true)], T := Bool, fin := fun r => r.1.1, inj := fun t => ((t, ()), ((), ())), pts := [], fuel := 400, dr := noDr }
noncomputable def i_IsMoving (m0_Visible : Int) (m0_Speed : Int) : Bool :=
  bif i_within m0_Visible 1 500 then i_within m0_Speed 0 20 else false
theorem i_IsMoving_e (m0_Visible : Int) (m0_Speed : Int) : c_i_IsMoving.start c_i_IsMoving.L ((m0_Visible, m0_Speed), ()) = some (i_IsMoving m0_Visible m0_Speed) := by
  refine Eq.trans (b := (bif i_within m0_Visible 1 500 then some (i_within m0_Speed 0 20) else some false : Option Bool)) (by kernel_rfl) ?_
  unfold i_IsMoving
  repeat (first | rfl | apply condS)
noncomputable def F_i_IsMoving : Ins c_i_IsMoving.ins → Bool := fun x => i_IsMoving x.1.1 x.1.2
noncomputable def S_i_IsMoving : FSpec := mkT c_i_IsMoving.env.pre c_i_IsMoving.ins c_i_IsMoving.out c_i_IsMoving.inj F_i_IsMoving
theorem h_i_IsMoving : Cert Tryd.prog 31 S_i_IsMoving := FnCx.certT (c := c_i_IsMoving) F_i_IsMoving (tyOk _ _ _) (spOk ⟨h_i_within, fun _ _ h => h, trivial⟩) (fun _ _ _ _ _ hs => noDr_ok) Tryd.func31 rfl rfl Tryd.ntmps31 (by kernel_rfl) rfl rfl (fun _ => rfl) trivial (fun x => .inl ⟨c_i_IsMoving.start () x, fun _ => rfl⟩) (fun x hb => by
  obtain ⟨⟨m0_Visible, m0_Speed⟩, _⟩ := x
  exact i_IsMoving_e m0_Visible m0_Speed)
/-! impl.isPace -/
noncomputable def c_i_isPace : FnCx := { env := env 5 [(36, S_i_within)] [], body := bodyOf Tryd.f32, res := [.tmp 2], ins := [.ro kint], out := [(kbool, true)], T := Bool, fin := fun r => r.1.1, inj := fun t => ((t, ()), ((), ())), pts := [], fuel := 400, dr := noDr }
noncomputable def i_isPace (n0 : Int) : Bool :=
  i_within n0 0 20
theorem i_isPace_e (n0 : Int) : c_i_isPace.start c_i_isPace.L (n0, ()) = some (i_isPace n0) := by kernel_rfl
noncomputable def F_i_isPace : Ins c_i_isPace.ins → Bool := fun x => i_isPace x.1
noncomputable def S_i_isPace : FSpec := mkT c_i_isPace.env.pre c_i_isPace.ins c_i_isPace.out c_i_isPace.inj F_i_isPace
theorem h_i_isPace : Cert Tryd.prog 32 S_i_isPace := FnCx.certT (c := c_i_isPace) F_i_isPace (tyOk _ _ _) (spOk ⟨h_i_within, fun _ _ h => h, trivial⟩) (fun _ _ _ _ _ hs => noDr_ok) Tryd.func32 rfl rfl Tryd.ntmps32 (by kernel_rfl) rfl rfl (fun _ => rfl) trivial (fun x => .inl ⟨c_i_isPace.start () x, fun _ => rfl⟩) (fun x hb => by
  obtain ⟨n0, _⟩ := x
  exact i_isPace_e n0)
/-! impl.gcd -/
noncomputable def c_i_gcd : FnCx := { env := env 12 [] [], body := bodyOf Tryd.f50, res := [.tmp 4], ins := [.ro kint, .ro kint], out := [(kint, true)], T := Int, fin := fun r => r.1.1, inj := fun t => ((t, ()), ((), (), ())), pts := [([.inLoop [1, 0, 0, 0], .inBlock 0, .code [1, 1]], Shape.mk [] [(0, Ss.one (Cs.sc kint)), (1, Ss.one (Cs.sc kint))] [Ss.one (Cs.any), Ss.one (Cs.any)])], fuel := 400, dr := evDr (env 12 [] []) }
noncomputable def i_gcd_t1 (g1 : Int → Int → Option (Int)) (a0 : Int) (b1 : Int) : Option Int :=
  bif b1 != 0 then bif b1 == 0 then none else g1 b1 (Int.tmod a0 b1) else some a0
noncomputable def i_gcd_t0 (g1 : Int → Int → Option (Int)) (a0 : Int) (b1 : Int) : Option Int :=
  g1 a0 b1
theorem i_gcd_ts : Tails c_i_gcd.pts c_i_gcd.round :=
  ⟨fun s => by
    obtain ⟨_, ⟨a0, b1, _⟩, ⟨_, _, _⟩⟩ := s
    refine Tail.eq (Y := fun g => i_gcd_t1 (fun a0 b1 => g.1 ((), (a0, b1, ()), ((), (), ()))) a0 b1) ?_ (fun g => by kernel_rfl)
    simp only [i_gcd_t1]; repeat (first | exact Tail.const _ | exact Tail.here _ | exact Tail.there (Tail.here _) | exact Tail.there (Tail.there (Tail.here _)) | exact Tail.there (Tail.there (Tail.there (Tail.here _))) | exact Tail.there (Tail.there (Tail.there (Tail.there (Tail.here _)))) | exact Tail.there (Tail.there (Tail.there (Tail.there (Tail.there (Tail.here _))))) | apply Tail.cond | (apply Tail.bind; intro _)), trivial⟩
theorem i_gcd_hs : ∀ x, Tail c_i_gcd.pts (fun g => c_i_gcd.start g x) := fun x => by
    obtain ⟨a0, b1, _⟩ := x
    refine Tail.eq (Y := fun g => i_gcd_t0 (fun a0 b1 => g.1 ((), (a0, b1, ()), ((), (), ()))) a0 b1) ?_ (fun g => by kernel_rfl)
    simp only [i_gcd_t0]; repeat (first | exact Tail.const _ | exact Tail.here _ | exact Tail.there (Tail.here _) | exact Tail.there (Tail.there (Tail.here _)) | exact Tail.there (Tail.there (Tail.there (Tail.here _))) | exact Tail.there (Tail.there (Tail.there (Tail.there (Tail.here _)))) | exact Tail.there (Tail.there (Tail.there (Tail.there (Tail.there (Tail.here _))))) | apply Tail.cond | (apply Tail.bind; intro _))
noncomputable def i_gcd_L1 (a0 : Int) (b1 : Int) : Option Int := c_i_gcd.L.1 ((), (a0, b1, ()), ((), (), ()))
theorem i_gcd_u1 (a0 : Int) (b1 : Int) : i_gcd_L1 a0 b1 = i_gcd_t1 i_gcd_L1 a0 b1 :=
  (congrArg (fun g => g.1 ((), (a0, b1, ()), ((), (), ()))) (FnCx.L_eq i_gcd_ts)).trans (by kernel_rfl)
noncomputable def i_gcd (a0 : Int) (b1 : Int) : Option Int := i_gcd_t0 i_gcd_L1 a0 b1
theorem i_gcd_e (a0 : Int) (b1 : Int) : c_i_gcd.start c_i_gcd.L (a0, b1, ()) = i_gcd a0 b1 := by kernel_rfl
noncomputable def F_i_gcd : Ins c_i_gcd.ins → Option Int := fun x => i_gcd x.1 x.2.1
noncomputable def S_i_gcd : FSpec := mkF c_i_gcd.env.pre c_i_gcd.ins c_i_gcd.out c_i_gcd.inj F_i_gcd
theorem h_i_gcd : Cert Tryd.prog 50 S_i_gcd := FnCx.certF (c := c_i_gcd) F_i_gcd (tyOk _ _ _) (spOk trivial) (fun _ _ _ _ _ hs => evDr_ok (tyOk _ _ _) hs follows) Tryd.func50 rfl rfl Tryd.ntmps50 (by kernel_rfl) rfl rfl (fun _ => rfl) i_gcd_ts i_gcd_hs (fun x t hb ht => by
  obtain ⟨a0, b1, _⟩ := x
  exact (i_gcd_e a0 b1).trans ht)
/-! impl.part -/
noncomputable def c_i_part : FnCx := { env := env 19 [(50, S_i_gcd)] [], body := bodyOf Tryd.f33, res := [.tmp 4, .tmp 5, .tmp 6], ins := [.ro kint, .ro kint], out := [(kint, true), (kint, true), (kbool, true)], T := Int × Int × Bool, fin := fun r => (r.1.1, r.1.2.1, r.1.2.2.1), inj := fun t => ((t.1, t.2.1, t.2.2, ()), ((), (), ())), pts := [], fuel := 400, dr := evDr (env 19 [(50, S_i_gcd)] []) }
noncomputable def i_part (n0 : Int) (d1 : Int) : Option (Int × Int × Bool) :=
  bif decide (d1 ≤ 0) then some (0, 0, false)
  else
    Option.bind (i_gcd n0 d1) fun r =>
      bif r == 0 then none else bif r == 0 then none else some (IntKind.wrap IntKind.i64 (Int.tdiv n0 r), IntKind.wrap IntKind.i64 (Int.tdiv d1 r), true)
theorem i_part_e (n0 : Int) (d1 : Int) : c_i_part.start c_i_part.L (n0, d1, ()) = i_part n0 d1 := by kernel_rfl
noncomputable def F_i_part : Ins c_i_part.ins → Option (Int × Int × Bool) := fun x => i_part x.1 x.2.1
noncomputable def S_i_part : FSpec := mkF c_i_part.env.pre c_i_part.ins c_i_part.out c_i_part.inj F_i_part
theorem h_i_part : Cert Tryd.prog 33 S_i_part := FnCx.certF (c := c_i_part) F_i_part (tyOk _ _ _) (spOk ⟨h_i_gcd, fun _ _ h => h, trivial⟩) (fun _ _ _ _ _ hs => evDr_ok (tyOk _ _ _) hs follows) Tryd.func33 rfl rfl Tryd.ntmps33 (by kernel_rfl) rfl rfl (fun _ => rfl) trivial (fun x => .inl ⟨c_i_part.start () x, fun _ => rfl⟩) (fun x t hb ht => by
  obtain ⟨n0, d1, _⟩ := x
  exact (i_part_e n0 d1).trans ht)
/-! impl.MeetTime -/
noncomputable def c_i_MeetTime : FnCx := { env := env 35 [(31, S_i_IsMoving), (32, S_i_isPace), (33, S_i_part)] [], body := bodyOf Tryd.f6, res := [.tmp 6, .tmp 7, .tmp 8], ins := [.ro kMoving, .ro kint, .ro kint], out := [(kint, true), (kint, true), (kbool, true)], T := Int × Int × Bool, fin := fun r => (r.1.1, r.1.2.1, r.1.2.2.1), inj := fun t => ((t.1, t.2.1, t.2.2, ()), ((), (), (), ())), pts := [], fuel := 400, dr := noDr }
noncomputable def i_MeetTime (m0_Visible : Int) (m0_Speed : Int) (up1 : Int) (down2 : Int) : Option (Int × Int × Bool) :=
  bif !i_IsMoving m0_Visible m0_Speed then some (0, 0, false)
  else
    bif !i_isPace up1 then some (0, 0, false)
    else
      bif !i_isPace down2 then some (0, 0, false)
      else
        Option.bind (i_part m0_Visible (IntKind.wrap IntKind.i64 (IntKind.wrap IntKind.i64 (IntKind.wrap IntKind.i64 (2 * m0_Speed) + up1) + down2))) fun r =>
          some (Prod.fst r, Prod.fst (Prod.snd r), Prod.snd (Prod.snd r))
theorem i_MeetTime_e (m0_Visible : Int) (m0_Speed : Int) (up1 : Int) (down2 : Int) : c_i_MeetTime.start c_i_MeetTime.L ((m0_Visible, m0_Speed), up1, down2, ()) = i_MeetTime m0_Visible m0_Speed up1 down2 := by kernel_rfl
noncomputable def F_i_MeetTime : Ins c_i_MeetTime.ins → Option (Int × Int × Bool) := fun x => i_MeetTime x.1.1 x.1.2 x.2.1 x.2.2.1
noncomputable def S_i_MeetTime : FSpec := mkF c_i_MeetTime.env.pre c_i_MeetTime.ins c_i_MeetTime.out c_i_MeetTime.inj F_i_MeetTime
theorem h_i_MeetTime : Cert Tryd.prog 6 S_i_MeetTime := FnCx.certF (c := c_i_MeetTime) F_i_MeetTime (tyOk _ _ _) (spOk ⟨h_i_IsMoving, fun _ _ h => h, ⟨h_i_isPace, fun _ _ h => h, ⟨h_i_part, fun _ _ h => h, trivial⟩⟩⟩) (fun _ _ _ _ _ hs => noDr_ok) Tryd.func6 rfl rfl Tryd.ntmps6 (by kernel_rfl) rfl rfl (fun _ => rfl) trivial (fun x => .inl ⟨c_i_MeetTime.start () x, fun _ => rfl⟩) (fun x t hb ht => by
  obtain ⟨⟨m0_Visible, m0_Speed⟩, up1, down2, _⟩ := x
  exact (i_MeetTime_e m0_Visible m0_Speed up1 down2).trans ht)
/-! spec.l1In -/
noncomputable def c_s_l1In : FnCx := { env := env 15 [] [], body := bodyOf Tryd.f39, res := [.tmp 6], ins := [.ro kint, .ro kint, .ro kint], out := [(kbool, true)], T := Bool, fin := fun r => r.1.1, inj := fun t => ((t, ()), ((), (), (), ())), pts := [], fuel := 400, dr := noDr }
noncomputable def s_l1In (n0 : Int) (lo1 : Int) (hi2 : Int) : Bool :=
  bif decide (n0 ≥ lo1) then decide (n0 ≤ hi2) else false
theorem s_l1In_e (n0 : Int) (lo1 : Int) (hi2 : Int) : c_s_l1In.start c_s_l1In.L (n0, lo1, hi2, ()) = some (s_l1In n0 lo1 hi2) := by
  refine Eq.trans (b := (bif decide (n0 ≥ lo1) then some (decide (n0 ≤ hi2)) else some false : Option Bool)) (by kernel_rfl) ?_
  unfold s_l1In
  repeat (first | rfl | apply condS)
noncomputable def F_s_l1In : Ins c_s_l1In.ins → Bool := fun x => s_l1In x.1 x.2.1 x.2.2.1
noncomputable def S_s_l1In : FSpec := mkT c_s_l1In.env.pre c_s_l1In.ins c_s_l1In.out c_s_l1In.inj F_s_l1In
theorem h_s_l1In : Cert Tryd.prog 39 S_s_l1In := FnCx.certT (c := c_s_l1In) F_s_l1In (tyOk _ _ _) (spOk trivial) (fun _ _ _ _ _ hs => noDr_ok) Tryd.func39 rfl rfl Tryd.ntmps39 (by kernel_rfl) rfl rfl (fun _ => rfl) trivial (fun x => .inl ⟨c_s_l1In.start () x, fun _ => rfl⟩) (fun x hb => by
  obtain ⟨n0, lo1, hi2, _⟩ := x
  exact s_l1In_e n0 lo1 hi2)
/-! spec.moGood -/
noncomputable def c_s_moGood : FnCx := { env := env 11 [(39, S_s_l1In)] [], body := bodyOf Tryd.f41, res := [.tmp 2], ins := [.ro kMoving], out := [(kbool, true)], T := Bool, fin := fun r => r.1.1, inj := fun t => ((t, ()), ((), ())), pts := [], fuel := 400, dr := noDr }
noncomputable def s_moGood (m0_Visible : Int) (m0_Speed : Int) : Bool :=
  bif s_l1In m0_Visible 1 500 then s_l1In m0_Speed 0 20 else false
theorem s_moGood_e (m0_Visible : Int) (m0_Speed : Int) : c_s_moGood.start c_s_moGood.L ((m0_Visible, m0_Speed), ()) = some (s_moGood m0_Visible m0_Speed) := by
  refine Eq.trans (b := (bif s_l1In m0_Visible 1 500 then some (s_l1In m0_Speed 0 20) else some false : Option Bool)) (by kernel_rfl) ?_
  unfold s_moGood
  repeat (first | rfl | apply condS)
noncomputable def F_s_moGood : Ins c_s_moGood.ins → Bool := fun x => s_moGood x.1.1 x.1.2
noncomputable def S_s_moGood : FSpec := mkT c_s_moGood.env.pre c_s_moGood.ins c_s_moGood.out c_s_moGood.inj F_s_moGood
theorem h_s_moGood : Cert Tryd.prog 41 S_s_moGood := FnCx.certT (c := c_s_moGood) F_s_moGood (tyOk _ _ _) (spOk ⟨h_s_l1In, fun _ _ h => h, trivial⟩) (fun _ _ _ _ _ hs => noDr_ok) Tryd.func41 rfl rfl Tryd.ntmps41 (by kernel_rfl) rfl rfl (fun _ => rfl) trivial (fun x => .inl ⟨c_s_moGood.start () x, fun _ => rfl⟩) (fun x hb => by
  obtain ⟨⟨m0_Visible, m0_Speed⟩, _⟩ := x
  exact s_moGood_e m0_Visible m0_Speed)
/-! spec.moAsked -/
noncomputable def c_s_moAsked : FnCx := { env := env 11 [(41, S_s_moGood), (39, S_s_l1In)] [], body := bodyOf Tryd.f34, res := [.tmp 4], ins := [.ro kMoving, .ro kint], out := [(kbool, true)], T := Bool, fin := fun r => r.1.1, inj := fun t => ((t, ()), ((), (), ())), pts := [], fuel := 400, dr := noDr }
noncomputable def s_moAsked (m0_Visible : Int) (m0_Speed : Int) (pace1 : Int) : Bool :=
  bif s_moGood m0_Visible m0_Speed then s_l1In pace1 0 20 else false
theorem s_moAsked_e (m0_Visible : Int) (m0_Speed : Int) (pace1 : Int) : c_s_moAsked.start c_s_moAsked.L ((m0_Visible, m0_Speed), pace1, ()) = some (s_moAsked m0_Visible m0_Speed pace1) := by
  refine Eq.trans (b := (bif s_moGood m0_Visible m0_Speed then some (s_l1In pace1 0 20) else some false : Option Bool)) (by kernel_rfl) ?_
  unfold s_moAsked
  repeat (first | rfl | apply condS)
noncomputable def F_s_moAsked : Ins c_s_moAsked.ins → Bool := fun x => s_moAsked x.1.1 x.1.2 x.2.1
noncomputable def S_s_moAsked : FSpec := mkT c_s_moAsked.env.pre c_s_moAsked.ins c_s_moAsked.out c_s_moAsked.inj F_s_moAsked
theorem h_s_moAsked : Cert Tryd.prog 34 S_s_moAsked := FnCx.certT (c := c_s_moAsked) F_s_moAsked (tyOk _ _ _) (spOk ⟨h_s_moGood, fun _ _ h => h, ⟨h_s_l1In, fun _ _ h => h, trivial⟩⟩) (fun _ _ _ _ _ hs => noDr_ok) Tryd.func34 rfl rfl Tryd.ntmps34 (by kernel_rfl) rfl rfl (fun _ => rfl) trivial (fun x => .inl ⟨c_s_moAsked.start () x, fun _ => rfl⟩) (fun x hb => by
  obtain ⟨⟨m0_Visible, m0_Speed⟩, pace1, _⟩ := x
  exact s_moAsked_e m0_Visible m0_Speed pace1)
/-! spec.moLow -/
noncomputable def c_s_moLow : FnCx := { env := env 22 [] [], body := bodyOf Tryd.f35, res := [.tmp 4, .tmp 5], ins := [.ro kint, .ro kint], out := [(kint, true), (kint, true)], T := Int × Int, fin := fun r => (r.1.1, r.1.2.1), inj := fun t => ((t.1, t.2, ()), ((), (), ())), pts := [([.inLoop [1, 1, 0, 0, 0], .inBlock 0, .code [1, 1, 1]], Shape.mk [] [(0, Ss.one (Cs.sc kint)), (1, Ss.one (Cs.sc kint)), (6, Ss.one (Cs.sc kint)), (7, Ss.one (Cs.sc kint))] [Ss.one (Cs.any), Ss.one (Cs.any)])], fuel := 400, dr := evDr (env 22 [] []) }
noncomputable def s_moLow_t1 (g1 : Int → Int → Int → Int → Option (Int × Int)) (num0 : Int) (den1 : Int) (a6 : Int) (b7 : Int) : Option (Int × Int) :=
  bif decide (b7 > 0) then bif b7 == 0 then none else g1 num0 den1 b7 (Int.tmod a6 b7)
  else bif a6 == 0 then none else bif a6 == 0 then none else some (IntKind.wrap IntKind.i64 (Int.tdiv num0 a6), IntKind.wrap IntKind.i64 (Int.tdiv den1 a6))
noncomputable def s_moLow_t0 (g1 : Int → Int → Int → Int → Option (Int × Int)) (num0 : Int) (den1 : Int) : Option (Int × Int) :=
  g1 num0 den1 num0 den1
theorem s_moLow_ts : Tails c_s_moLow.pts c_s_moLow.round :=
  ⟨fun s => by
    obtain ⟨_, ⟨num0, den1, a6, b7, _⟩, ⟨_, _, _⟩⟩ := s
    refine Tail.eq (Y := fun g => s_moLow_t1 (fun num0 den1 a6 b7 => g.1 ((), (num0, den1, a6, b7, ()), ((), (), ()))) num0 den1 a6 b7) ?_ (fun g => by kernel_rfl)
    simp only [s_moLow_t1]; repeat (first | exact Tail.const _ | exact Tail.here _ | exact Tail.there (Tail.here _) | exact Tail.there (Tail.there (Tail.here _)) | exact Tail.there (Tail.there (Tail.there (Tail.here _))) | exact Tail.there (Tail.there (Tail.there (Tail.there (Tail.here _)))) | exact Tail.there (Tail.there (Tail.there (Tail.there (Tail.there (Tail.here _))))) | apply Tail.cond | (apply Tail.bind; intro _)), trivial⟩
theorem s_moLow_hs : ∀ x, Tail c_s_moLow.pts (fun g => c_s_moLow.start g x) := fun x => by
    obtain ⟨num0, den1, _⟩ := x
    refine Tail.eq (Y := fun g => s_moLow_t0 (fun num0 den1 a6 b7 => g.1 ((), (num0, den1, a6, b7, ()), ((), (), ()))) num0 den1) ?_ (fun g => by kernel_rfl)
    simp only [s_moLow_t0]; repeat (first | exact Tail.const _ | exact Tail.here _ | exact Tail.there (Tail.here _) | exact Tail.there (Tail.there (Tail.here _)) | exact Tail.there (Tail.there (Tail.there (Tail.here _))) | exact Tail.there (Tail.there (Tail.there (Tail.there (Tail.here _)))) | exact Tail.there (Tail.there (Tail.there (Tail.there (Tail.there (Tail.here _))))) | apply Tail.cond | (apply Tail.bind; intro _))
noncomputable def s_moLow_L1 (num0 : Int) (den1 : Int) (a6 : Int) (b7 : Int) : Option (Int × Int) := c_s_moLow.L.1 ((), (num0, den1, a6, b7, ()), ((), (), ()))
theorem s_moLow_u1 (num0 : Int) (den1 : Int) (a6 : Int) (b7 : Int) : s_moLow_L1 num0 den1 a6 b7 = s_moLow_t1 s_moLow_L1 num0 den1 a6 b7 :=
  (congrArg (fun g => g.1 ((), (num0, den1, a6, b7, ()), ((), (), ()))) (FnCx.L_eq s_moLow_ts)).trans (by kernel_rfl)
noncomputable def s_moLow (num0 : Int) (den1 : Int) : Option (Int × Int) := s_moLow_t0 s_moLow_L1 num0 den1
theorem s_moLow_e (num0 : Int) (den1 : Int) : c_s_moLow.start c_s_moLow.L (num0, den1, ()) = s_moLow num0 den1 := by kernel_rfl
noncomputable def F_s_moLow : Ins c_s_moLow.ins → Option (Int × Int) := fun x => s_moLow x.1 x.2.1
noncomputable def S_s_moLow : FSpec := mkF c_s_moLow.env.pre c_s_moLow.ins c_s_moLow.out c_s_moLow.inj F_s_moLow
theorem h_s_moLow : Cert Tryd.prog 35 S_s_moLow := FnCx.certF (c := c_s_moLow) F_s_moLow (tyOk _ _ _) (spOk trivial) (fun _ _ _ _ _ hs => evDr_ok (tyOk _ _ _) hs follows) Tryd.func35 rfl rfl Tryd.ntmps35 (by kernel_rfl) rfl rfl (fun _ => rfl) s_moLow_ts s_moLow_hs (fun x t hb ht => by
  obtain ⟨num0, den1, _⟩ := x
  exact (s_moLow_e num0 den1).trans ht)
/-! spec.MeetTime -/
noncomputable def c_s_MeetTime : FnCx := { env := env 46 [(34, S_s_moAsked), (35, S_s_moLow)] [], body := bodyOf Tryd.f7, res := [.tmp 6, .tmp 7, .tmp 8], ins := [.ro kMoving, .ro kint, .ro kint], out := [(kint, true), (kint, true), (kbool, true)], T := Int × Int × Bool, fin := fun r => (r.1.1, r.1.2.1, r.1.2.2.1), inj := fun t => ((t.1, t.2.1, t.2.2, ()), ((), (), (), ())), pts := [], fuel := 400, dr := noDr }
noncomputable def s_MeetTime (m0_Visible : Int) (m0_Speed : Int) (up1 : Int) (down2 : Int) : Option (Int × Int × Bool) :=
  bif !s_moAsked m0_Visible m0_Speed up1 then some (0, 0, false)
  else
    bif !s_moAsked m0_Visible m0_Speed down2 then some (0, 0, false)
    else
      bif IntKind.wrap IntKind.i64 (IntKind.wrap IntKind.i64 (IntKind.wrap IntKind.i64 (2 * m0_Speed) + up1) + down2) == 0 then some (0, 0, false)
      else
        Option.bind (s_moLow m0_Visible (IntKind.wrap IntKind.i64 (IntKind.wrap IntKind.i64 (IntKind.wrap IntKind.i64 (2 * m0_Speed) + up1) + down2))) fun r =>
          some (Prod.fst r, Prod.snd r, true)
theorem s_MeetTime_e (m0_Visible : Int) (m0_Speed : Int) (up1 : Int) (down2 : Int) : c_s_MeetTime.start c_s_MeetTime.L ((m0_Visible, m0_Speed), up1, down2, ()) = s_MeetTime m0_Visible m0_Speed up1 down2 := by kernel_rfl
noncomputable def F_s_MeetTime : Ins c_s_MeetTime.ins → Option (Int × Int × Bool) := fun x => s_MeetTime x.1.1 x.1.2 x.2.1 x.2.2.1
noncomputable def S_s_MeetTime : FSpec := mkF c_s_MeetTime.env.pre c_s_MeetTime.ins c_s_MeetTime.out c_s_MeetTime.inj F_s_MeetTime
theorem h_s_MeetTime : Cert Tryd.prog 7 S_s_MeetTime := FnCx.certF (c := c_s_MeetTime) F_s_MeetTime (tyOk _ _ _) (spOk ⟨h_s_moAsked, fun _ _ h => h, ⟨h_s_moLow, fun _ _ h => h, trivial⟩⟩) (fun _ _ _ _ _ hs => noDr_ok) Tryd.func7 rfl rfl Tryd.ntmps7 (by kernel_rfl) rfl rfl (fun _ => rfl) trivial (fun x => .inl ⟨c_s_MeetTime.start () x, fun _ => rfl⟩) (fun x t hb ht => by
  obtain ⟨⟨m0_Visible, m0_Speed⟩, up1, down2, _⟩ := x
  exact (s_MeetTime_e m0_Visible m0_Speed up1 down2).trans ht)
/-! impl.MeetStep -/
noncomputable def c_i_MeetStep : FnCx := { env := env 40 [(31, S_i_IsMoving), (32, S_i_isPace), (33, S_i_part)] [], body := bodyOf Tryd.f8, res := [.tmp 6, .tmp 7, .tmp 8], ins := [.ro kMoving, .ro kint, .ro kint], out := [(kint, true), (kint, true), (kbool, true)], T := Int × Int × Bool, fin := fun r => (r.1.1, r.1.2.1, r.1.2.2.1), inj := fun t => ((t.1, t.2.1, t.2.2, ()), ((), (), (), ())), pts := [], fuel := 400, dr := noDr }
noncomputable def i_MeetStep (m0_Visible : Int) (m0_Speed : Int) (up1 : Int) (down2 : Int) : Option (Int × Int × Bool) :=
  bif !i_IsMoving m0_Visible m0_Speed then some (0, 0, false)
  else
    bif !i_isPace up1 then some (0, 0, false)
    else
      bif !i_isPace down2 then some (0, 0, false)
      else
        Option.bind
          (i_part (IntKind.wrap IntKind.i64 (IntKind.wrap IntKind.i64 (m0_Speed + up1) * m0_Visible))
            (IntKind.wrap IntKind.i64 (IntKind.wrap IntKind.i64 (IntKind.wrap IntKind.i64 (2 * m0_Speed) + up1) + down2)))
          fun r => some (Prod.fst r, Prod.fst (Prod.snd r), Prod.snd (Prod.snd r))
theorem i_MeetStep_e (m0_Visible : Int) (m0_Speed : Int) (up1 : Int) (down2 : Int) : c_i_MeetStep.start c_i_MeetStep.L ((m0_Visible, m0_Speed), up1, down2, ()) = i_MeetStep m0_Visible m0_Speed up1 down2 := by kernel_rfl
noncomputable def F_i_MeetStep : Ins c_i_MeetStep.ins → Option (Int × Int × Bool) := fun x => i_MeetStep x.1.1 x.1.2 x.2.1 x.2.2.1
noncomputable def S_i_MeetStep : FSpec := mkF c_i_MeetStep.env.pre c_i_MeetStep.ins c_i_MeetStep.out c_i_MeetStep.inj F_i_MeetStep
theorem h_i_MeetStep : Cert Tryd.prog 8 S_i_MeetStep := FnCx.certF (c := c_i_MeetStep) F_i_MeetStep (tyOk _ _ _) (spOk ⟨h_i_IsMoving, fun _ _ h => h, ⟨h_i_isPace, fun _ _ h => h, ⟨h_i_part, fun _ _ h => h, trivial⟩⟩⟩) (fun _ _ _ _ _ hs => noDr_ok) Tryd.func8 rfl rfl Tryd.ntmps8 (by kernel_rfl) rfl rfl (fun _ => rfl) trivial (fun x => .inl ⟨c_i_MeetStep.start () x, fun _ => rfl⟩) (fun x t hb ht => by
  obtain ⟨⟨m0_Visible, m0_Speed⟩, up1, down2, _⟩ := x
  exact (i_MeetStep_e m0_Visible m0_Speed up1 down2).trans ht)
/-! spec.MeetStep -/
noncomputable def c_s_MeetStep : FnCx := { env := env 51 [(34, S_s_moAsked), (35, S_s_moLow)] [], body := bodyOf Tryd.f9, res := [.tmp 6, .tmp 7, .tmp 8], ins := [.ro kMoving, .ro kint, .ro kint], out := [(kint, true), (kint, true), (kbool, true)], T := Int × Int × Bool, fin := fun r => (r.1.1, r.1.2.1, r.1.2.2.1), inj := fun t => ((t.1, t.2.1, t.2.2, ()), ((), (), (), ())), pts := [], fuel := 400, dr := noDr }
noncomputable def s_MeetStep (m0_Visible : Int) (m0_Speed : Int) (up1 : Int) (down2 : Int) : Option (Int × Int × Bool) :=
  bif !s_moAsked m0_Visible m0_Speed up1 then some (0, 0, false)
  else
    bif !s_moAsked m0_Visible m0_Speed down2 then some (0, 0, false)
    else
      bif IntKind.wrap IntKind.i64 (IntKind.wrap IntKind.i64 (IntKind.wrap IntKind.i64 (2 * m0_Speed) + up1) + down2) == 0 then some (0, 0, false)
      else
        Option.bind
          (s_moLow (IntKind.wrap IntKind.i64 (m0_Visible * IntKind.wrap IntKind.i64 (m0_Speed + up1)))
            (IntKind.wrap IntKind.i64 (IntKind.wrap IntKind.i64 (IntKind.wrap IntKind.i64 (2 * m0_Speed) + up1) + down2)))
          fun r => some (Prod.fst r, Prod.snd r, true)
theorem s_MeetStep_e (m0_Visible : Int) (m0_Speed : Int) (up1 : Int) (down2 : Int) : c_s_MeetStep.start c_s_MeetStep.L ((m0_Visible, m0_Speed), up1, down2, ()) = s_MeetStep m0_Visible m0_Speed up1 down2 := by kernel_rfl
noncomputable def F_s_MeetStep : Ins c_s_MeetStep.ins → Option (Int × Int × Bool) := fun x => s_MeetStep x.1.1 x.1.2 x.2.1 x.2.2.1
noncomputable def S_s_MeetStep : FSpec := mkF c_s_MeetStep.env.pre c_s_MeetStep.ins c_s_MeetStep.out c_s_MeetStep.inj F_s_MeetStep
theorem h_s_MeetStep : Cert Tryd.prog 9 S_s_MeetStep := FnCx.certF (c := c_s_MeetStep) F_s_MeetStep (tyOk _ _ _) (spOk ⟨h_s_moAsked, fun _ _ h => h, ⟨h_s_moLow, fun _ _ h => h, trivial⟩⟩) (fun _ _ _ _ _ hs => noDr_ok) Tryd.func9 rfl rfl Tryd.ntmps9 (by kernel_rfl) rfl rfl (fun _ => rfl) trivial (fun x => .inl ⟨c_s_MeetStep.start () x, fun _ => rfl⟩) (fun x t hb ht => by
  obtain ⟨⟨m0_Visible, m0_Speed⟩, up1, down2, _⟩ := x
  exact (s_MeetStep_e m0_Visible m0_Speed up1 down2).trans ht)
/-! impl.PlaceAt -/
noncomputable def c_i_PlaceAt : FnCx := { env := env 30 [(31, S_i_IsMoving), (32, S_i_isPace), (36, S_i_within)] [], body := bodyOf Tryd.f12, res := [.tmp 6, .tmp 7], ins := [.ro kMoving, .ro kint, .ro kint], out := [(kint, true), (kbool, true)], T := Int × Bool, fin := fun r => (r.1.1, r.1.2.1), inj := fun t => ((t.1, t.2, ()), ((), (), (), ())), pts := [], fuel := 400, dr := noDr }
noncomputable def i_PlaceAt (m0_Visible : Int) (m0_Speed : Int) (pace1 : Int) (time2 : Int) : (Int × Bool) :=
  bif !i_IsMoving m0_Visible m0_Speed then (0, false)
  else
    bif !i_isPace pace1 then (0, false)
    else
      bif !i_within time2 0 1000 then (0, false)
      else
        (bif decide (IntKind.wrap IntKind.i64 (IntKind.wrap IntKind.i64 (m0_Speed + pace1) * time2) < m0_Visible) then
            IntKind.wrap IntKind.i64 (IntKind.wrap IntKind.i64 (m0_Speed + pace1) * time2)
          else m0_Visible,
          true)
theorem i_PlaceAt_e (m0_Visible : Int) (m0_Speed : Int) (pace1 : Int) (time2 : Int) : c_i_PlaceAt.start c_i_PlaceAt.L ((m0_Visible, m0_Speed), pace1, time2, ()) = some (i_PlaceAt m0_Visible m0_Speed pace1 time2) := by
  refine Eq.trans (b := (bif !i_IsMoving m0_Visible m0_Speed then some (0, false) else bif !i_isPace pace1 then some (0, false) else bif !i_within time2 0 1000 then some (0, false) else some (bif decide (IntKind.wrap IntKind.i64 (IntKind.wrap IntKind.i64 (m0_Speed + pace1) * time2) < m0_Visible) then IntKind.wrap IntKind.i64 (IntKind.wrap IntKind.i64 (m0_Speed + pace1) * time2) else m0_Visible, true) : Option (Int × Bool))) (by kernel_rfl) ?_
  unfold i_PlaceAt
  repeat (first | rfl | apply condS)
noncomputable def F_i_PlaceAt : Ins c_i_PlaceAt.ins → (Int × Bool) := fun x => i_PlaceAt x.1.1 x.1.2 x.2.1 x.2.2.1
noncomputable def S_i_PlaceAt : FSpec := mkT c_i_PlaceAt.env.pre c_i_PlaceAt.ins c_i_PlaceAt.out c_i_PlaceAt.inj F_i_PlaceAt
theorem h_i_PlaceAt : Cert Tryd.prog 12 S_i_PlaceAt := FnCx.certT (c := c_i_PlaceAt) F_i_PlaceAt (tyOk _ _ _) (spOk ⟨h_i_IsMoving, fun _ _ h => h, ⟨h_i_isPace, fun _ _ h => h, ⟨h_i_within, fun _ _ h => h, trivial⟩⟩⟩) (fun _ _ _ _ _ hs => noDr_ok) Tryd.func12 rfl rfl Tryd.ntmps12 (by kernel_rfl) rfl rfl (fun _ => rfl) trivial (fun x => .inl ⟨c_i_PlaceAt.start () x, fun _ => rfl⟩) (fun x hb => by
  obtain ⟨⟨m0_Visible, m0_Speed⟩, pace1, time2, _⟩ := x
  exact i_PlaceAt_e m0_Visible m0_Speed pace1 time2)
/-! spec.l1Least -/
noncomputable def c_s_l1Least : FnCx := { env := env 10 [] [], body := bodyOf Tryd.f40, res := [.tmp 4], ins := [.ro kint, .ro kint], out := [(kint, true)], T := Int, fin := fun r => r.1.1, inj := fun t => ((t, ()), ((), (), ())), pts := [], fuel := 400, dr := noDr }
noncomputable def s_l1Least (a0 : Int) (b1 : Int) : Int :=
  bif decide (a0 < b1) then a0 else b1
theorem s_l1Least_e (a0 : Int) (b1 : Int) : c_s_l1Least.start c_s_l1Least.L (a0, b1, ()) = some (s_l1Least a0 b1) := by
  refine Eq.trans (b := (bif decide (a0 < b1) then some a0 else some b1 : Option Int)) (by kernel_rfl) ?_
  unfold s_l1Least
  repeat (first | rfl | apply condS)
noncomputable def F_s_l1Least : Ins c_s_l1Least.ins → Int := fun x => s_l1Least x.1 x.2.1
noncomputable def S_s_l1Least : FSpec := mkT c_s_l1Least.env.pre c_s_l1Least.ins c_s_l1Least.out c_s_l1Least.inj F_s_l1Least
theorem h_s_l1Least : Cert Tryd.prog 40 S_s_l1Least := FnCx.certT (c := c_s_l1Least) F_s_l1Least (tyOk _ _ _) (spOk trivial) (fun _ _ _ _ _ hs => noDr_ok) Tryd.func40 rfl rfl Tryd.ntmps40 (by kernel_rfl) rfl rfl (fun _ => rfl) trivial (fun x => .inl ⟨c_s_l1Least.start () x, fun _ => rfl⟩) (fun x hb => by
  obtain ⟨a0, b1, _⟩ := x
  exact s_l1Least_e a0 b1)
/-! spec.PlaceAt -/
noncomputable def c_s_PlaceAt : FnCx := { env := env 26 [(34, S_s_moAsked), (39, S_s_l1In), (40, S_s_l1Least)] [], body := bodyOf Tryd.f23, res := [.tmp 6, .tmp 7], ins := [.ro kMoving, .ro kint, .ro kint], out := [(kint, true), (kbool, true)], T := Int × Bool, fin := fun r => (r.1.1, r.1.2.1), inj := fun t => ((t.1, t.2, ()), ((), (), (), ())), pts := [], fuel := 400, dr := noDr }
noncomputable def s_PlaceAt (m0_Visible : Int) (m0_Speed : Int) (pace1 : Int) (time2 : Int) : (Int × Bool) :=
  bif !s_moAsked m0_Visible m0_Speed pace1 then (0, false)
  else bif !s_l1In time2 0 1000 then (0, false) else (s_l1Least m0_Visible (IntKind.wrap IntKind.i64 (IntKind.wrap IntKind.i64 (m0_Speed + pace1) * time2)), true)
theorem s_PlaceAt_e (m0_Visible : Int) (m0_Speed : Int) (pace1 : Int) (time2 : Int) : c_s_PlaceAt.start c_s_PlaceAt.L ((m0_Visible, m0_Speed), pace1, time2, ()) = some (s_PlaceAt m0_Visible m0_Speed pace1 time2) := by
  refine Eq.trans (b := (bif !s_moAsked m0_Visible m0_Speed pace1 then some (0, false) else bif !s_l1In time2 0 1000 then some (0, false) else some (s_l1Least m0_Visible (IntKind.wrap IntKind.i64 (IntKind.wrap IntKind.i64 (m0_Speed + pace1) * time2)), true) : Option (Int × Bool))) (by kernel_rfl) ?_
  unfold s_PlaceAt
  repeat (first | rfl | apply condS)
noncomputable def F_s_PlaceAt : Ins c_s_PlaceAt.ins → (Int × Bool) := fun x => s_PlaceAt x.1.1 x.1.2 x.2.1 x.2.2.1
noncomputable def S_s_PlaceAt : FSpec := mkT c_s_PlaceAt.env.pre c_s_PlaceAt.ins c_s_PlaceAt.out c_s_PlaceAt.inj F_s_PlaceAt
theorem h_s_PlaceAt : Cert Tryd.prog 23 S_s_PlaceAt := FnCx.certT (c := c_s_PlaceAt) F_s_PlaceAt (tyOk _ _ _) (spOk ⟨h_s_moAsked, fun _ _ h => h, ⟨h_s_l1In, fun _ _ h => h, ⟨h_s_l1Least, fun _ _ h => h, trivial⟩⟩⟩) (fun _ _ _ _ _ hs => noDr_ok) Tryd.func23 rfl rfl Tryd.ntmps23 (by kernel_rfl) rfl rfl (fun _ => rfl) trivial (fun x => .inl ⟨c_s_PlaceAt.start () x, fun _ => rfl⟩) (fun x hb => by
  obtain ⟨⟨m0_Visible, m0_Speed⟩, pace1, time2, _⟩ := x
  exact s_PlaceAt_e m0_Visible m0_Speed pace1 time2)
/-! impl.CatchUp -/
noncomputable def c_i_CatchUp : FnCx := { env := env 62 [(31, S_i_IsMoving), (32, S_i_isPace), (36, S_i_within), (33, S_i_part)] [], body := bodyOf Tryd.f14, res := [.tmp 8, .tmp 9, .tmp 10], ins := [.ro kMoving, .ro kint, .ro kint, .ro kint], out := [(kint, true), (kint, true), (kbool, true)], T := Int × Int × Bool, fin := fun r => (r.1.1, r.1.2.1, r.1.2.2.1), inj := fun t => ((t.1, t.2.1, t.2.2, ()), ((), (), (), (), ())), pts := [], fuel := 400, dr := noDr }
noncomputable def i_CatchUp (m0_Visible : Int) (m0_Speed : Int) (slow1 : Int) (fast2 : Int) (start3 : Int) : Option (Int × Int × Bool) :=
  bif !i_IsMoving m0_Visible m0_Speed then some (0, 0, false)
  else
    bif !i_isPace slow1 then some (0, 0, false)
    else
      bif !i_isPace fast2 then some (0, 0, false)
      else
        bif decide (fast2 ≤ slow1) then some (0, 0, false)
        else
          bif !i_within start3 0 1000 then some (0, 0, false)
          else
            bif
                decide
                  (IntKind.wrap IntKind.i64
                      (IntKind.wrap IntKind.i64 (m0_Speed + slow1) * IntKind.wrap IntKind.i64 (IntKind.wrap IntKind.i64 (m0_Speed + fast2) * start3)) >
                    IntKind.wrap IntKind.i64 (m0_Visible * IntKind.wrap IntKind.i64 (fast2 - slow1))) then
              some (0, 0, false)
            else
              Option.bind (i_part (IntKind.wrap IntKind.i64 (IntKind.wrap IntKind.i64 (m0_Speed + fast2) * start3)) (IntKind.wrap IntKind.i64 (fast2 - slow1)))
                fun r => some (Prod.fst r, Prod.fst (Prod.snd r), Prod.snd (Prod.snd r))
theorem i_CatchUp_e (m0_Visible : Int) (m0_Speed : Int) (slow1 : Int) (fast2 : Int) (start3 : Int) : c_i_CatchUp.start c_i_CatchUp.L ((m0_Visible, m0_Speed), slow1, fast2, start3, ()) = i_CatchUp m0_Visible m0_Speed slow1 fast2 start3 := by kernel_rfl
noncomputable def F_i_CatchUp : Ins c_i_CatchUp.ins → Option (Int × Int × Bool) := fun x => i_CatchUp x.1.1 x.1.2 x.2.1 x.2.2.1 x.2.2.2.1
noncomputable def S_i_CatchUp : FSpec := mkF c_i_CatchUp.env.pre c_i_CatchUp.ins c_i_CatchUp.out c_i_CatchUp.inj F_i_CatchUp
theorem h_i_CatchUp : Cert Tryd.prog 14 S_i_CatchUp := FnCx.certF (c := c_i_CatchUp) F_i_CatchUp (tyOk _ _ _) (spOk ⟨h_i_IsMoving, fun _ _ h => h, ⟨h_i_isPace, fun _ _ h => h, ⟨h_i_within, fun _ _ h => h, ⟨h_i_part, fun _ _ h => h, trivial⟩⟩⟩⟩) (fun _ _ _ _ _ hs => noDr_ok) Tryd.func14 rfl rfl Tryd.ntmps14 (by kernel_rfl) rfl rfl (fun _ => rfl) trivial (fun x => .inl ⟨c_i_CatchUp.start () x, fun _ => rfl⟩) (fun x t hb ht => by
  obtain ⟨⟨m0_Visible, m0_Speed⟩, slow1, fast2, start3, _⟩ := x
  exact (i_CatchUp_e m0_Visible m0_Speed slow1 fast2 start3).trans ht)
/-! spec.CatchUp -/
noncomputable def c_s_CatchUp : FnCx := { env := env 63 [(34, S_s_moAsked), (39, S_s_l1In), (35, S_s_moLow)] [], body := bodyOf Tryd.f15, res := [.tmp 8, .tmp 9, .tmp 10], ins := [.ro kMoving, .ro kint, .ro kint, .ro kint], out := [(kint, true), (kint, true), (kbool, true)], T := Int × Int × Bool, fin := fun r => (r.1.1, r.1.2.1, r.1.2.2.1), inj := fun t => ((t.1, t.2.1, t.2.2, ()), ((), (), (), (), ())), pts := [], fuel := 400, dr := noDr }
noncomputable def s_CatchUp (m0_Visible : Int) (m0_Speed : Int) (slow1 : Int) (fast2 : Int) (start3 : Int) : Option (Int × Int × Bool) :=
  bif !s_moAsked m0_Visible m0_Speed slow1 then some (0, 0, false)
  else
    bif !s_moAsked m0_Visible m0_Speed fast2 then some (0, 0, false)
    else
      bif decide (fast2 ≤ slow1) then some (0, 0, false)
      else
        bif !s_l1In start3 0 1000 then some (0, 0, false)
        else
          bif
              decide
                (IntKind.wrap IntKind.i64
                    (IntKind.wrap IntKind.i64 (m0_Speed + slow1) * IntKind.wrap IntKind.i64 (IntKind.wrap IntKind.i64 (m0_Speed + fast2) * start3)) >
                  IntKind.wrap IntKind.i64 (m0_Visible * IntKind.wrap IntKind.i64 (fast2 - slow1))) then
            some (0, 0, false)
          else
            Option.bind (s_moLow (IntKind.wrap IntKind.i64 (IntKind.wrap IntKind.i64 (m0_Speed + fast2) * start3)) (IntKind.wrap IntKind.i64 (fast2 - slow1)))
              fun r => some (Prod.fst r, Prod.snd r, true)
theorem s_CatchUp_e (m0_Visible : Int) (m0_Speed : Int) (slow1 : Int) (fast2 : Int) (start3 : Int) : c_s_CatchUp.start c_s_CatchUp.L ((m0_Visible, m0_Speed), slow1, fast2, start3, ()) = s_CatchUp m0_Visible m0_Speed slow1 fast2 start3 := by kernel_rfl
noncomputable def F_s_CatchUp : Ins c_s_CatchUp.ins → Option (Int × Int × Bool) := fun x => s_CatchUp x.1.1 x.1.2 x.2.1 x.2.2.1 x.2.2.2.1
noncomputable def S_s_CatchUp : FSpec := mkF c_s_CatchUp.env.pre c_s_CatchUp.ins c_s_CatchUp.out c_s_CatchUp.inj F_s_CatchUp
theorem h_s_CatchUp : Cert Tryd.prog 15 S_s_CatchUp := FnCx.certF (c := c_s_CatchUp) F_s_CatchUp (tyOk _ _ _) (spOk ⟨h_s_moAsked, fun _ _ h => h, ⟨h_s_l1In, fun _ _ h => h, ⟨h_s_moLow, fun _ _ h => h, trivial⟩⟩⟩) (fun _ _ _ _ _ hs => noDr_ok) Tryd.func15 rfl rfl Tryd.ntmps15 (by kernel_rfl) rfl rfl (fun _ => rfl) trivial (fun x => .inl ⟨c_s_CatchUp.start () x, fun _ => rfl⟩) (fun x t hb ht => by
  obtain ⟨⟨m0_Visible, m0_Speed⟩, slow1, fast2, start3, _⟩ := x
  exact (s_CatchUp_e m0_Visible m0_Speed slow1 fast2 start3).trans ht)
/-! impl.RailLead -/
noncomputable def c_i_RailLead : FnCx := { env := env 49 [(31, S_i_IsMoving), (32, S_i_isPace), (36, S_i_within), (33, S_i_part)] [], body := bodyOf Tryd.f17, res := [.tmp 6, .tmp 7, .tmp 8], ins := [.ro kMoving, .ro kint, .ro kint], out := [(kint, true), (kint, true), (kbool, true)], T := Int × Int × Bool, fin := fun r => (r.1.1, r.1.2.1, r.1.2.2.1), inj := fun t => ((t.1, t.2.1, t.2.2, ()), ((), (), (), ())), pts := [], fuel := 400, dr := noDr }
noncomputable def i_RailLead (m0_Visible : Int) (m0_Speed : Int) (rail1 : Int) (pace2 : Int) : Option (Int × Int × Bool) :=
  bif !i_IsMoving m0_Visible m0_Speed then some (0, 0, false)
  else
    bif !i_isPace pace2 then some (0, 0, false)
    else
      bif !i_within rail1 m0_Speed 20 then some (0, 0, false)
      else
        bif decide (rail1 < IntKind.wrap IntKind.i64 (m0_Speed + pace2)) then some (0, 0, false)
        else
          Option.bind
            (i_part (IntKind.wrap IntKind.i64 (IntKind.wrap IntKind.i64 (IntKind.wrap IntKind.i64 (rail1 - m0_Speed) - pace2) * m0_Visible))
              (IntKind.wrap IntKind.i64 (m0_Speed + pace2)))
            fun r => some (Prod.fst r, Prod.fst (Prod.snd r), Prod.snd (Prod.snd r))
theorem i_RailLead_e (m0_Visible : Int) (m0_Speed : Int) (rail1 : Int) (pace2 : Int) : c_i_RailLead.start c_i_RailLead.L ((m0_Visible, m0_Speed), rail1, pace2, ()) = i_RailLead m0_Visible m0_Speed rail1 pace2 := by kernel_rfl
noncomputable def F_i_RailLead : Ins c_i_RailLead.ins → Option (Int × Int × Bool) := fun x => i_RailLead x.1.1 x.1.2 x.2.1 x.2.2.1
noncomputable def S_i_RailLead : FSpec := mkF c_i_RailLead.env.pre c_i_RailLead.ins c_i_RailLead.out c_i_RailLead.inj F_i_RailLead
theorem h_i_RailLead : Cert Tryd.prog 17 S_i_RailLead := FnCx.certF (c := c_i_RailLead) F_i_RailLead (tyOk _ _ _) (spOk ⟨h_i_IsMoving, fun _ _ h => h, ⟨h_i_isPace, fun _ _ h => h, ⟨h_i_within, fun _ _ h => h, ⟨h_i_part, fun _ _ h => h, trivial⟩⟩⟩⟩) (fun _ _ _ _ _ hs => noDr_ok) Tryd.func17 rfl rfl Tryd.ntmps17 (by kernel_rfl) rfl rfl (fun _ => rfl) trivial (fun x => .inl ⟨c_i_RailLead.start () x, fun _ => rfl⟩) (fun x t hb ht => by
  obtain ⟨⟨m0_Visible, m0_Speed⟩, rail1, pace2, _⟩ := x
  exact (i_RailLead_e m0_Visible m0_Speed rail1 pace2).trans ht)
/-! spec.RailLead -/
noncomputable def c_s_RailLead : FnCx := { env := env 56 [(34, S_s_moAsked), (39, S_s_l1In), (35, S_s_moLow)] [], body := bodyOf Tryd.f18, res := [.tmp 6, .tmp 7, .tmp 8], ins := [.ro kMoving, .ro kint, .ro kint], out := [(kint, true), (kint, true), (kbool, true)], T := Int × Int × Bool, fin := fun r => (r.1.1, r.1.2.1, r.1.2.2.1), inj := fun t => ((t.1, t.2.1, t.2.2, ()), ((), (), (), ())), pts := [], fuel := 400, dr := noDr }
noncomputable def s_RailLead (m0_Visible : Int) (m0_Speed : Int) (rail1 : Int) (pace2 : Int) : Option (Int × Int × Bool) :=
  bif !s_moAsked m0_Visible m0_Speed pace2 then some (0, 0, false)
  else
    bif IntKind.wrap IntKind.i64 (m0_Speed + pace2) == 0 then some (0, 0, false)
    else
      bif !s_l1In rail1 m0_Speed 20 then some (0, 0, false)
      else
        bif decide (rail1 < IntKind.wrap IntKind.i64 (m0_Speed + pace2)) then some (0, 0, false)
        else
          Option.bind
            (s_moLow (IntKind.wrap IntKind.i64 (m0_Visible * IntKind.wrap IntKind.i64 (IntKind.wrap IntKind.i64 (rail1 - m0_Speed) - pace2)))
              (IntKind.wrap IntKind.i64 (m0_Speed + pace2)))
            fun r => some (Prod.fst r, Prod.snd r, true)
theorem s_RailLead_e (m0_Visible : Int) (m0_Speed : Int) (rail1 : Int) (pace2 : Int) : c_s_RailLead.start c_s_RailLead.L ((m0_Visible, m0_Speed), rail1, pace2, ()) = s_RailLead m0_Visible m0_Speed rail1 pace2 := by kernel_rfl
noncomputable def F_s_RailLead : Ins c_s_RailLead.ins → Option (Int × Int × Bool) := fun x => s_RailLead x.1.1 x.1.2 x.2.1 x.2.2.1
noncomputable def S_s_RailLead : FSpec := mkF c_s_RailLead.env.pre c_s_RailLead.ins c_s_RailLead.out c_s_RailLead.inj F_s_RailLead
theorem h_s_RailLead : Cert Tryd.prog 18 S_s_RailLead := FnCx.certF (c := c_s_RailLead) F_s_RailLead (tyOk _ _ _) (spOk ⟨h_s_moAsked, fun _ _ h => h, ⟨h_s_l1In, fun _ _ h => h, ⟨h_s_moLow, fun _ _ h => h, trivial⟩⟩⟩) (fun _ _ _ _ _ hs => noDr_ok) Tryd.func18 rfl rfl Tryd.ntmps18 (by kernel_rfl) rfl rfl (fun _ => rfl) trivial (fun x => .inl ⟨c_s_RailLead.start () x, fun _ => rfl⟩) (fun x t hb ht => by
  obtain ⟨⟨m0_Visible, m0_Speed⟩, rail1, pace2, _⟩ := x
  exact (s_RailLead_e m0_Visible m0_Speed rail1 pace2).trans ht)
/-! impl.FullHouse -/
noncomputable def c_i_FullHouse : FnCx := { env := env 24 [(31, S_i_IsMoving), (36, S_i_within), (33, S_i_part)] [], body := bodyOf Tryd.f20, res := [.tmp 4, .tmp 5, .tmp 6], ins := [.ro kMoving, .ro kint], out := [(kint, true), (kint, true), (kbool, true)], T := Int × Int × Bool, fin := fun r => (r.1.1, r.1.2.1, r.1.2.2.1), inj := fun t => ((t.1, t.2.1, t.2.2, ()), ((), (), ())), pts := [], fuel := 400, dr := noDr }
noncomputable def i_FullHouse (m0_Visible : Int) (m0_Speed : Int) (each1 : Int) : Option (Int × Int × Bool) :=
  bif !i_IsMoving m0_Visible m0_Speed then some (0, 0, false)
  else
    bif !i_within each1 1 5 then some (0, 0, false)
    else
      Option.bind (i_part (IntKind.wrap IntKind.i64 (IntKind.wrap IntKind.i64 (60 * m0_Speed) * each1)) 1) fun r =>
        some (Prod.fst r, Prod.fst (Prod.snd r), Prod.snd (Prod.snd r))
theorem i_FullHouse_e (m0_Visible : Int) (m0_Speed : Int) (each1 : Int) : c_i_FullHouse.start c_i_FullHouse.L ((m0_Visible, m0_Speed), each1, ()) = i_FullHouse m0_Visible m0_Speed each1 := by kernel_rfl
noncomputable def F_i_FullHouse : Ins c_i_FullHouse.ins → Option (Int × Int × Bool) := fun x => i_FullHouse x.1.1 x.1.2 x.2.1
noncomputable def S_i_FullHouse : FSpec := mkF c_i_FullHouse.env.pre c_i_FullHouse.ins c_i_FullHouse.out c_i_FullHouse.inj F_i_FullHouse
theorem h_i_FullHouse : Cert Tryd.prog 20 S_i_FullHouse := FnCx.certF (c := c_i_FullHouse) F_i_FullHouse (tyOk _ _ _) (spOk ⟨h_i_IsMoving, fun _ _ h => h, ⟨h_i_within, fun _ _ h => h, ⟨h_i_part, fun _ _ h => h, trivial⟩⟩⟩) (fun _ _ _ _ _ hs => noDr_ok) Tryd.func20 rfl rfl Tryd.ntmps20 (by kernel_rfl) rfl rfl (fun _ => rfl) trivial (fun x => .inl ⟨c_i_FullHouse.start () x, fun _ => rfl⟩) (fun x t hb ht => by
  obtain ⟨⟨m0_Visible, m0_Speed⟩, each1, _⟩ := x
  exact (i_FullHouse_e m0_Visible m0_Speed each1).trans ht)
/-! spec.FullHouse -/
noncomputable def c_s_FullHouse : FnCx := { env := env 20 [(41, S_s_moGood), (39, S_s_l1In)] [], body := bodyOf Tryd.f21, res := [.tmp 4, .tmp 5, .tmp 6], ins := [.ro kMoving, .ro kint], out := [(kint, true), (kint, true), (kbool, true)], T := Int × Int × Bool, fin := fun r => (r.1.1, r.1.2.1, r.1.2.2.1), inj := fun t => ((t.1, t.2.1, t.2.2, ()), ((), (), ())), pts := [], fuel := 400, dr := noDr }
noncomputable def s_FullHouse (m0_Visible : Int) (m0_Speed : Int) (each1 : Int) : (Int × Int × Bool) :=
  bif !s_moGood m0_Visible m0_Speed then (0, 0, false)
  else bif !s_l1In each1 1 5 then (0, 0, false) else (IntKind.wrap IntKind.i64 (IntKind.wrap IntKind.i64 (60 * m0_Speed) * each1), 1, true)
theorem s_FullHouse_e (m0_Visible : Int) (m0_Speed : Int) (each1 : Int) : c_s_FullHouse.start c_s_FullHouse.L ((m0_Visible, m0_Speed), each1, ()) = some (s_FullHouse m0_Visible m0_Speed each1) := by
  refine Eq.trans (b := (bif !s_moGood m0_Visible m0_Speed then some (0, 0, false) else bif !s_l1In each1 1 5 then some (0, 0, false) else some (IntKind.wrap IntKind.i64 (IntKind.wrap IntKind.i64 (60 * m0_Speed) * each1), 1, true) : Option (Int × Int × Bool))) (by kernel_rfl) ?_
  unfold s_FullHouse
  repeat (first | rfl | apply condS)
noncomputable def F_s_FullHouse : Ins c_s_FullHouse.ins → (Int × Int × Bool) := fun x => s_FullHouse x.1.1 x.1.2 x.2.1
noncomputable def S_s_FullHouse : FSpec := mkT c_s_FullHouse.env.pre c_s_FullHouse.ins c_s_FullHouse.out c_s_FullHouse.inj F_s_FullHouse
theorem h_s_FullHouse : Cert Tryd.prog 21 S_s_FullHouse := FnCx.certT (c := c_s_FullHouse) F_s_FullHouse (tyOk _ _ _) (spOk ⟨h_s_moGood, fun _ _ h => h, ⟨h_s_l1In, fun _ _ h => h, trivial⟩⟩) (fun _ _ _ _ _ hs => noDr_ok) Tryd.func21 rfl rfl Tryd.ntmps21 (by kernel_rfl) rfl rfl (fun _ => rfl) trivial (fun x => .inl ⟨c_s_FullHouse.start () x, fun _ => rfl⟩) (fun x hb => by
  obtain ⟨⟨m0_Visible, m0_Speed⟩, each1, _⟩ := x
  exact s_FullHouse_e m0_Visible m0_Speed each1)
/-! impl.TimeWith -/
noncomputable def c_i_TimeWith : FnCx := { env := env 25 [(31, S_i_IsMoving), (32, S_i_isPace), (33, S_i_part)] [], body := bodyOf Tryd.f27, res := [.tmp 4, .tmp 5, .tmp 6], ins := [.ro kMoving, .ro kint], out := [(kint, true), (kint, true), (kbool, true)], T := Int × Int × Bool, fin := fun r => (r.1.1, r.1.2.1, r.1.2.2.1), inj := fun t => ((t.1, t.2.1, t.2.2, ()), ((), (), ())), pts := [], fuel := 400, dr := noDr }
noncomputable def i_TimeWith (m0_Visible : Int) (m0_Speed : Int) (pace1 : Int) : Option (Int × Int × Bool) :=
  bif !i_IsMoving m0_Visible m0_Speed then some (0, 0, false)
  else
    bif !i_isPace pace1 then some (0, 0, false)
    else Option.bind (i_part m0_Visible (IntKind.wrap IntKind.i64 (m0_Speed + pace1))) fun r => some (Prod.fst r, Prod.fst (Prod.snd r), Prod.snd (Prod.snd r))
theorem i_TimeWith_e (m0_Visible : Int) (m0_Speed : Int) (pace1 : Int) : c_i_TimeWith.start c_i_TimeWith.L ((m0_Visible, m0_Speed), pace1, ()) = i_TimeWith m0_Visible m0_Speed pace1 := by kernel_rfl
noncomputable def F_i_TimeWith : Ins c_i_TimeWith.ins → Option (Int × Int × Bool) := fun x => i_TimeWith x.1.1 x.1.2 x.2.1
noncomputable def S_i_TimeWith : FSpec := mkF c_i_TimeWith.env.pre c_i_TimeWith.ins c_i_TimeWith.out c_i_TimeWith.inj F_i_TimeWith
theorem h_i_TimeWith : Cert Tryd.prog 27 S_i_TimeWith := FnCx.certF (c := c_i_TimeWith) F_i_TimeWith (tyOk _ _ _) (spOk ⟨h_i_IsMoving, fun _ _ h => h, ⟨h_i_isPace, fun _ _ h => h, ⟨h_i_part, fun _ _ h => h, trivial⟩⟩⟩) (fun _ _ _ _ _ hs => noDr_ok) Tryd.func27 rfl rfl Tryd.ntmps27 (by kernel_rfl) rfl rfl (fun _ => rfl) trivial (fun x => .inl ⟨c_i_TimeWith.start () x, fun _ => rfl⟩) (fun x t hb ht => by
  obtain ⟨⟨m0_Visible, m0_Speed⟩, pace1, _⟩ := x
  exact (i_TimeWith_e m0_Visible m0_Speed pace1).trans ht)
/-! strconv.Itoa -/
noncomputable def strconv_Itoa (n : Int) : Option ByteArray := itoaF n
noncomputable def F_strconv_Itoa : Ins [.ro kint] → Option ByteArray := fun x => strconv_Itoa x.1
noncomputable def S_strconv_Itoa : FSpec := mkF (T := ByteArray) textPre [.ro kint] [(.str, true)] (fun t => ((t, ()), ((), ()))) F_strconv_Itoa
theorem h_strconv_Itoa : Cert Tryd.prog 49 S_strconv_Itoa := itoa_cert litoa rfl ⟨_, Tryd.func49, rfl, by kernel_rfl⟩ (by simp [textL])
/-! impl.MovingText -/
noncomputable def c_i_MovingText : FnCx := { env := env 15 [(31, S_i_IsMoving), (49, S_strconv_Itoa)] [], body := bodyOf Tryd.f28, res := [.tmp 2, .tmp 3], ins := [.ro kMoving], out := [(kstring, true), (kbool, true)], T := ByteArray × Bool, fin := fun r => (r.1.1, r.1.2.1), inj := fun t => ((t.1, t.2, ()), ((), ())), pts := [], fuel := 400, dr := evDr (env 15 [(31, S_i_IsMoving), (49, S_strconv_Itoa)] []) }
noncomputable def i_MovingText (m0_Visible : Int) (m0_Speed : Int) : Option (ByteArray × Bool) :=
  bif !i_IsMoving m0_Visible m0_Speed then some ({ data := #[] }, false)
  else
    Option.bind (strconv_Itoa m0_Visible) fun r =>
      bif Nat.ble (ByteArray.size r + ByteArray.size { data := #[118] }) 9223372036854775807 then
        Option.bind (strconv_Itoa m0_Speed) fun r_1 =>
          bif Nat.ble (ByteArray.size (r ++ { data := #[118] }) + ByteArray.size r_1) 9223372036854775807 then some (r ++ { data := #[118] } ++ r_1, true)
          else none
      else none
theorem i_MovingText_e (m0_Visible : Int) (m0_Speed : Int) : c_i_MovingText.start c_i_MovingText.L ((m0_Visible, m0_Speed), ()) = i_MovingText m0_Visible m0_Speed := by kernel_rfl
noncomputable def F_i_MovingText : Ins c_i_MovingText.ins → Option (ByteArray × Bool) := fun x => i_MovingText x.1.1 x.1.2
noncomputable def S_i_MovingText : FSpec := mkF c_i_MovingText.env.pre c_i_MovingText.ins c_i_MovingText.out c_i_MovingText.inj F_i_MovingText
theorem h_i_MovingText : Cert Tryd.prog 28 S_i_MovingText := FnCx.certF (c := c_i_MovingText) F_i_MovingText (tyOk _ _ _) (spOk ⟨h_i_IsMoving, fun _ _ h => h, ⟨h_strconv_Itoa, fun _ _ h => h, trivial⟩⟩) (fun _ _ _ _ _ hs => evDr_ok (tyOk _ _ _) hs follows) Tryd.func28 rfl rfl Tryd.ntmps28 (by kernel_rfl) rfl rfl (fun _ => rfl) trivial (fun x => .inl ⟨c_i_MovingText.start () x, fun _ => rfl⟩) (fun x t hb ht => by
  obtain ⟨⟨m0_Visible, m0_Speed⟩, _⟩ := x
  exact (i_MovingText_e m0_Visible m0_Speed).trans ht)
/-! spec.l1Num -/
noncomputable def SR_s_l1Num (RR : Int → Option (ByteArray)) : FSpec := mkF (T := ByteArray) textPre [.ro kint] [(kstring, true)] (fun t => ((t, ()), ((), ()))) (fun x => RR x.1)
noncomputable def c_s_l1Num (RR : Int → Option (ByteArray)) : FnCx := { env := env 20 [(52, SR_s_l1Num RR)] [], body := bodyOf Tryd.f52, res := [.tmp 2], ins := [.ro kint], out := [(kstring, true)], T := ByteArray, fin := fun r => r.1.1, inj := fun t => ((t, ()), ((), ())), pts := [], fuel := 400, dr := evDr (env 20 [(52, SR_s_l1Num RR)] []) }
noncomputable def s_l1Num (RR : Int → Option (ByteArray)) (n0 : Int) : Option ByteArray :=
  bif decide (n0 < 10) then
    some (List.foldl (fun r n => ByteArray.push r (UInt8.ofNat (Int.toNat n))) ByteArray.empty [IntKind.wrap IntKind.u8 (IntKind.wrap IntKind.i64 (48 + n0))])
  else
    Option.bind (RR (IntKind.wrap IntKind.i64 (Int.tdiv n0 10))) fun r =>
      bif
          Nat.ble
            (ByteArray.size r +
              ByteArray.size
                (List.foldl (fun r n => ByteArray.push r (UInt8.ofNat (Int.toNat n))) ByteArray.empty
                  [IntKind.wrap IntKind.u8 (IntKind.wrap IntKind.i64 (48 + Int.tmod n0 10))]))
            9223372036854775807 then
        some
          (r ++
            List.foldl (fun r n => ByteArray.push r (UInt8.ofNat (Int.toNat n))) ByteArray.empty
              [IntKind.wrap IntKind.u8 (IntKind.wrap IntKind.i64 (48 + Int.tmod n0 10))])
      else none
theorem s_l1Num_e (RR : Int → Option (ByteArray)) (n0 : Int) : (c_s_l1Num RR).start (c_s_l1Num RR).L (n0, ()) = (s_l1Num RR) n0 := by kernel_rfl
noncomputable def s_l1Num_it : Nat → Int → Option (ByteArray) := fun n => Nat.rec (fun _ => none) (fun _ RR => s_l1Num RR) n
theorem s_l1Num_is (n : Nat) (n0 : Int) : s_l1Num_it (n + 1) n0 = s_l1Num (s_l1Num_it n) n0 := rfl
theorem hh_s_l1Num : ∀ n, Cert Tryd.prog 52 (SR_s_l1Num (s_l1Num_it n))
  | 0 => cert_none Tryd.func52 rfl (by kernel_rfl) rfl rfl
  | n + 1 => FnCx.certF (c := c_s_l1Num (s_l1Num_it n)) (fun x => s_l1Num_it (n + 1) x.1) (tyOk _ _ _) (spOk ⟨hh_s_l1Num n, fun _ _ h => h, trivial⟩) (fun _ _ _ _ _ hs => evDr_ok (tyOk _ _ _) hs follows) Tryd.func52 rfl rfl Tryd.ntmps52 (by kernel_rfl) rfl rfl (fun _ => rfl) trivial (fun x => .inl ⟨(c_s_l1Num (s_l1Num_it n)).start () x, fun _ => rfl⟩) (fun x t hb ht => by
    obtain ⟨n0, _⟩ := x
    exact (s_l1Num_e (s_l1Num_it n) n0).trans ht)
-- NICE rec
theorem wrapU8 {n : Int} (h1 : 0 ≤ n) (h2 : n ≤ 255) : IntKind.wrap .u8 n = n := by
  unfold IntKind.wrap
  simp [IntKind.signed, IntKind.bits]
  omega
theorem bytes_app (a b : List UInt8) : (⟨a.toArray⟩ : ByteArray) ++ ⟨b.toArray⟩ = ⟨(a ++ b).toArray⟩ := ByteArray.ext (by rw [ByteArray.data_append]; simp)
theorem dec_len : ∀ u : Nat, (Lib.decDigits u).length ≤ u + 1 := by
  intro u
  induction u using Nat.strongRecOn with
  | ind u ih =>
    rw [Lib.decDigits]
    by_cases h : u < 10
    · rw [dif_pos h]; simp
    · rw [dif_neg h]
      have := ih (u / 10) (by omega)
      rw [List.length_append, List.length_singleton]; omega
theorem itoa_nat (n : Nat) : Lib.itoa (n : Int) = Lib.decDigits n := by
  unfold Lib.itoa
  rw [if_neg (by omega), Int.toNat_natCast]
theorem digit_eq {m : Nat} (h : m < 10) : List.foldl (fun r n => ByteArray.push r (UInt8.ofNat (Int.toNat n))) ByteArray.empty [IntKind.wrap .u8 (IntKind.wrap .i64 (48 + (m : Int)))] = ⟨([UInt8.ofNat (48 + m)] : List UInt8).toArray⟩ := by
  rw [wrapI (n := 48 + (m : Int)) (by omega) (by omega), wrapU8 (by omega) (by omega), show (48 + (m : Int)) = ((48 + m : Nat) : Int) by omega]
  simp only [List.foldl_cons, List.foldl_nil, Int.toNat_natCast]
  rfl
theorem num_it : ∀ (k n : Nat), n < k → n ≤ 4000000000000000000 → s_l1Num_it k (n : Int) = some ⟨(Lib.decDigits n).toArray⟩
  | 0, n, h, _ => by omega
  | k + 1, n, h, hn => by
    rw [s_l1Num_is, s_l1Num]
    by_cases h10 : n < 10
    · rw [decide_eq_true (show (n : Int) < 10 by omega), cond_true, digit_eq h10, Lib.decDigits, dif_pos h10]
    · have hm : Int.tmod (n : Int) 10 = ((n % 10 : Nat) : Int) := by rw [Int.tmod_eq_emod_of_nonneg (by omega)]; rfl
      have hd : Int.tdiv (n : Int) 10 = ((n / 10 : Nat) : Int) := by rw [Int.tdiv_eq_ediv_of_nonneg (by omega)]; rfl
      have ih := num_it k (n / 10) (by omega) (by omega)
      have hl := dec_len (n / 10)
      rw [decide_eq_false (show ¬ (n : Int) < 10 by omega), cond_false, hd, hm, wrapI (n := ((n / 10 : Nat) : Int)) (by omega) (by omega), ih, Option.bind_some, digit_eq (Nat.mod_lt n (by omega)), ble_dec, decide_eq_true, cond_true, bytes_app, Lib.decDigits.eq_def n, dif_neg h10]
      show (Lib.decDigits (n / 10)).toArray.size + 1 ≤ _
      simp; omega
noncomputable def s_l1Num_n (n : Int) : Option ByteArray := bif decide (0 ≤ n) && decide (n ≤ 4000000000000000000) then some ⟨(Lib.itoa n).toArray⟩ else none
theorem s_l1Num_ok (n : Int) (t : ByteArray) (h : s_l1Num_n n = some t) : ∃ k, s_l1Num_it k n = some t := by
  unfold s_l1Num_n at h
  cases hc : decide (0 ≤ n) && decide (n ≤ 4000000000000000000)
  · rw [hc] at h; cases h
  · rw [hc, cond_true] at h
    cases h
    rw [Bool.and_eq_true, decide_eq_true_eq, decide_eq_true_eq] at hc
    obtain ⟨m, rfl⟩ := Int.eq_ofNat_of_zero_le hc.1
    exact ⟨m + 1, by rw [num_it (m + 1) m (by omega) (by omega), itoa_nat]⟩
noncomputable def F_s_l1Num : Ins [.ro kint] → Option ByteArray := fun x => s_l1Num_n x.1
noncomputable def S_s_l1Num : FSpec := mkF (T := ByteArray) textPre [.ro kint] [(kstring, true)] (fun t => ((t, ()), ((), ()))) F_s_l1Num
theorem h_s_l1Num : Cert Tryd.prog 52 S_s_l1Num := cert_lim hh_s_l1Num (fun x t hb ht => by
  obtain ⟨n0, _⟩ := x
  exact s_l1Num_ok n0 t ht)
/-! spec.moText -/
noncomputable def c_s_moText : FnCx := { env := env 11 [(52, S_s_l1Num)] [], body := bodyOf Tryd.f42, res := [.tmp 2], ins := [.ro kMoving], out := [(kstring, true)], T := ByteArray, fin := fun r => r.1.1, inj := fun t => ((t, ()), ((), ())), pts := [], fuel := 400, dr := evDr (env 11 [(52, S_s_l1Num)] []) }
noncomputable def s_moText (m0_Visible : Int) (m0_Speed : Int) : Option ByteArray :=
  Option.bind (s_l1Num_n m0_Visible) fun r =>
    bif Nat.ble (ByteArray.size r + ByteArray.size { data := #[118] }) 9223372036854775807 then
      Option.bind (s_l1Num_n m0_Speed) fun r_1 =>
        bif Nat.ble (ByteArray.size (r ++ { data := #[118] }) + ByteArray.size r_1) 9223372036854775807 then some (r ++ { data := #[118] } ++ r_1) else none
    else none
theorem s_moText_e (m0_Visible : Int) (m0_Speed : Int) : c_s_moText.start c_s_moText.L ((m0_Visible, m0_Speed), ()) = s_moText m0_Visible m0_Speed := by kernel_rfl
noncomputable def F_s_moText : Ins c_s_moText.ins → Option ByteArray := fun x => s_moText x.1.1 x.1.2
noncomputable def S_s_moText : FSpec := mkF c_s_moText.env.pre c_s_moText.ins c_s_moText.out c_s_moText.inj F_s_moText
theorem h_s_moText : Cert Tryd.prog 42 S_s_moText := FnCx.certF (c := c_s_moText) F_s_moText (tyOk _ _ _) (spOk ⟨h_s_l1Num, fun _ _ h => h, trivial⟩) (fun _ _ _ _ _ hs => evDr_ok (tyOk _ _ _) hs follows) Tryd.func42 rfl rfl Tryd.ntmps42 (by kernel_rfl) rfl rfl (fun _ => rfl) trivial (fun x => .inl ⟨c_s_moText.start () x, fun _ => rfl⟩) (fun x t hb ht => by
  obtain ⟨⟨m0_Visible, m0_Speed⟩, _⟩ := x
  exact (s_moText_e m0_Visible m0_Speed).trans ht)
/-! strings.Cut -/
noncomputable def strings_Cut (s sep : ByteArray) : Option (ByteArray × ByteArray × Bool) := cutF s sep
noncomputable def F_strings_Cut : Ins [.ro kstring, .ro kstring] → Option (ByteArray × ByteArray × Bool) := fun x => strings_Cut x.1 x.2.1
noncomputable def S_strings_Cut : FSpec := mkF (T := ByteArray × ByteArray × Bool) textPre [.ro kstring, .ro kstring] [(.str, true), (.str, true), (.bool, true)] (fun t => ((t.1, t.2.1, t.2.2, ()), ((), (), ()))) F_strings_Cut
theorem h_strings_Cut : Cert Tryd.prog 46 S_strings_Cut := cut_cert (show Lays.n145 Tryd.prog lcut_ren from { lcut with }) rfl ⟨_, Tryd.func46, rfl, by kernel_rfl⟩ (by simp [textL]) (by kernel_rfl)
/-! strconv.Atoi -/
noncomputable def strconv_Atoi (s : ByteArray) : Option (Int × Bool) := atoiF s
noncomputable def F_strconv_Atoi : Ins [.ro kstring] → Option (Int × Bool) := fun x => strconv_Atoi x.1
noncomputable def S_strconv_Atoi : FSpec := mkF (T := Int × Bool) textPre [.ro kstring] [(.int .i64, true), (.err, true)] (fun t => ((t.1, t.2, ()), ((), ()))) F_strconv_Atoi
theorem h_strconv_Atoi : Cert Tryd.prog 54 S_strconv_Atoi := atoi_cert rfl latoi rfl ⟨_, Tryd.func54, rfl, by kernel_rfl⟩ (by simp [textL]) (by kernel_rfl) (by simp [textL]) (by kernel_rfl)
/-! impl.num -/
noncomputable def c_i_num : FnCx := { env := env 27 [(54, S_strconv_Atoi), (49, S_strconv_Itoa)] [], body := bodyOf Tryd.f47, res := [.tmp 2], ins := [.ro kstring], out := [(kint, true)], T := Int, fin := fun r => r.1.1, inj := fun t => ((t, ()), ((), ())), pts := [], fuel := 400, dr := noDr }
noncomputable def i_num (s0 : ByteArray) : Option Int :=
  Option.bind (strconv_Atoi s0) fun r =>
    bif !Prod.snd r then some (-1)
    else
      bif decide (Prod.fst r < 0) then some (-1)
      else
        bif decide (Prod.fst r > 999999) then some (-1)
        else Option.bind (strconv_Itoa (Prod.fst r)) fun r_1 => bif !ByteArray.toList r_1 == ByteArray.toList s0 then some (-1) else some (Prod.fst r)
theorem i_num_e (s0 : ByteArray) : c_i_num.start c_i_num.L (s0, ()) = i_num s0 := by kernel_rfl
noncomputable def F_i_num : Ins c_i_num.ins → Option Int := fun x => i_num x.1
noncomputable def S_i_num : FSpec := mkF c_i_num.env.pre c_i_num.ins c_i_num.out c_i_num.inj F_i_num
theorem h_i_num : Cert Tryd.prog 47 S_i_num := FnCx.certF (c := c_i_num) F_i_num (tyOk _ _ _) (spOk ⟨h_strconv_Atoi, fun _ _ h => h, ⟨h_strconv_Itoa, fun _ _ h => h, trivial⟩⟩) (fun _ _ _ _ _ hs => noDr_ok) Tryd.func47 rfl rfl Tryd.ntmps47 (by kernel_rfl) rfl rfl (fun _ => rfl) trivial (fun x => .inl ⟨c_i_num.start () x, fun _ => rfl⟩) (fun x t hb ht => by
  obtain ⟨s0, _⟩ := x
  exact (i_num_e s0).trans ht)
/-! impl.ParseMoving -/
noncomputable def c_i_ParseMoving : FnCx := { env := env 24 [(46, S_strings_Cut), (47, S_i_num), (31, S_i_IsMoving)] [], body := bodyOf Tryd.f25, res := [.cell 2 25, .tmp 3], ins := [.ro kstring], out := [(kMoving, true), (kbool, true)], T := (Int × Int) × Bool, fin := fun r => (r.1.1, r.1.2.1), inj := fun t => ((t.1, t.2, ()), ((), ())), pts := [], fuel := 400, dr := noDr }
noncomputable def i_ParseMoving (s0 : ByteArray) : Option ((Int × Int) × Bool) :=
  Option.bind (strings_Cut s0 { data := #[118] }) fun r =>
    Option.bind (i_num (Prod.fst r)) fun r_1 =>
      Option.bind (i_num (Prod.fst (Prod.snd r))) fun r => bif !i_IsMoving r_1 r then some ((0, 0), false) else some ((r_1, r), true)
theorem i_ParseMoving_e (s0 : ByteArray) : c_i_ParseMoving.start c_i_ParseMoving.L (s0, ()) = i_ParseMoving s0 := by kernel_rfl
noncomputable def F_i_ParseMoving : Ins c_i_ParseMoving.ins → Option ((Int × Int) × Bool) := fun x => i_ParseMoving x.1
noncomputable def S_i_ParseMoving : FSpec := mkF c_i_ParseMoving.env.pre c_i_ParseMoving.ins c_i_ParseMoving.out c_i_ParseMoving.inj F_i_ParseMoving
theorem h_i_ParseMoving : Cert Tryd.prog 25 S_i_ParseMoving := FnCx.certF (c := c_i_ParseMoving) F_i_ParseMoving (tyOk _ _ _) (spOk ⟨h_strings_Cut, fun _ _ h => h, ⟨h_i_num, fun _ _ h => h, ⟨h_i_IsMoving, fun _ _ h => h, trivial⟩⟩⟩) (fun _ _ _ _ _ hs => noDr_ok) Tryd.func25 rfl rfl Tryd.ntmps25 (by kernel_rfl) rfl rfl (fun _ => rfl) trivial (fun x => .inl ⟨c_i_ParseMoving.start () x, fun _ => rfl⟩) (fun x t hb ht => by
  obtain ⟨s0, _⟩ := x
  exact (i_ParseMoving_e s0).trans ht)
/-! spec.l1Split -/
noncomputable def c_s_l1Split : FnCx := { env := env 34 [] [], body := bodyOf Tryd.f55, res := [.tmp 4], ins := [.ro kstring, .ro kuint8], out := [(kSstring, true)], T := List ByteArray, fin := fun r => r.1.1, inj := fun t => ((t, ()), ((), (), ())), pts := [([.inLoop [1, 1, 1, 0, 1, 0, 0], .inBlock 0, .code [1, 1, 1, 1]], Shape.mk [Bs.row kstring 9 true] [(0, Ss.one (Cs.sc kstring)), (1, Ss.one (Cs.sc kuint8)), (5, Ss.one (Cs.sl 0)), (6, Ss.one (Cs.sc kint)), (7, Ss.one (Cs.sc kint))] [Ss.one (Cs.any), Ss.one (Cs.any)])], fuel := 400, dr := noDr }
noncomputable def s_l1Split_t1 (g1 : List (ByteArray) → ByteArray → Int → Int → Int → Option (List ByteArray)) (r0 : List (ByteArray)) (s0 : ByteArray) (b1 : Int) (from6 : Int) (i7 : Int) : Option (List ByteArray) :=
  bif decide (i7 < (↑(ByteArray.size s0) : Int)) then
    bif decide (0 ≤ i7) then
      bif decide (i7 < (↑(ByteArray.size s0) : Int)) then
        bif bt s0 i7 == b1 then
          bif decide (0 ≤ i7) then
            bif decide (i7 ≤ (↑(ByteArray.size s0) : Int)) then
              bif decide (0 ≤ from6) then
                bif decide (from6 ≤ i7) then
                  bif Nat.ble (List.length r0 + 1) 4294967296 then
                    g1 (r0 ++ [ByteArray.extract s0 (Int.toNat from6) (Int.toNat i7)]) s0 b1 (IntKind.wrap IntKind.i64 (i7 + 1))
                      (IntKind.wrap IntKind.i64 (i7 + 1))
                  else none
                else none
              else none
            else none
          else none
        else g1 r0 s0 b1 from6 (IntKind.wrap IntKind.i64 (i7 + 1))
      else none
    else none
  else
    bif decide (0 ≤ from6) then
      bif decide (from6 ≤ (↑(ByteArray.size s0) : Int)) then
        bif Nat.ble (List.length r0 + 1) 4294967296 then some (r0 ++ [ByteArray.extract s0 (Int.toNat from6) (Int.toNat (↑(ByteArray.size s0) : Int))]) else none
      else none
    else none
noncomputable def s_l1Split_t0 (g1 : List (ByteArray) → ByteArray → Int → Int → Int → Option (List ByteArray)) (s0 : ByteArray) (b1 : Int) : Option (List ByteArray) :=
  g1 [] s0 b1 0 0
theorem s_l1Split_ts : Tails c_s_l1Split.pts c_s_l1Split.round :=
  ⟨fun s => by
    obtain ⟨⟨r0, _⟩, ⟨s0, b1, _, from6, i7, _⟩, ⟨_, _, _⟩⟩ := s
    refine Tail.eq (Y := fun g => s_l1Split_t1 (fun r0 s0 b1 from6 i7 => g.1 ((r0, ()), (s0, b1, (), from6, i7, ()), ((), (), ()))) r0 s0 b1 from6 i7) ?_ (fun g => by kernel_rfl)
    simp only [s_l1Split_t1]; repeat (first | apply Tail.cond | (apply Tail.bind; intro _) | exact Tail.here _ | exact Tail.there (Tail.here _) | exact Tail.there (Tail.there (Tail.here _)) | exact Tail.there (Tail.there (Tail.there (Tail.here _))) | exact Tail.there (Tail.there (Tail.there (Tail.there (Tail.here _)))) | exact Tail.there (Tail.there (Tail.there (Tail.there (Tail.there (Tail.here _))))) | exact Tail.const _), trivial⟩
theorem s_l1Split_hs : ∀ x, Tail c_s_l1Split.pts (fun g => c_s_l1Split.start g x) := fun x => by
    obtain ⟨s0, b1, _⟩ := x
    refine Tail.eq (Y := fun g => s_l1Split_t0 (fun r0 s0 b1 from6 i7 => g.1 ((r0, ()), (s0, b1, (), from6, i7, ()), ((), (), ()))) s0 b1) ?_ (fun g => by kernel_rfl)
    simp only [s_l1Split_t0]; repeat (first | apply Tail.cond | (apply Tail.bind; intro _) | exact Tail.here _ | exact Tail.there (Tail.here _) | exact Tail.there (Tail.there (Tail.here _)) | exact Tail.there (Tail.there (Tail.there (Tail.here _))) | exact Tail.there (Tail.there (Tail.there (Tail.there (Tail.here _)))) | exact Tail.there (Tail.there (Tail.there (Tail.there (Tail.there (Tail.here _))))) | exact Tail.const _)
noncomputable def s_l1Split_L1 (r0 : List (ByteArray)) (s0 : ByteArray) (b1 : Int) (from6 : Int) (i7 : Int) : Option (List ByteArray) := c_s_l1Split.L.1 ((r0, ()), (s0, b1, (), from6, i7, ()), ((), (), ()))
theorem s_l1Split_u1 (r0 : List (ByteArray)) (s0 : ByteArray) (b1 : Int) (from6 : Int) (i7 : Int) : s_l1Split_L1 r0 s0 b1 from6 i7 = s_l1Split_t1 s_l1Split_L1 r0 s0 b1 from6 i7 :=
  (congrArg (fun g => g.1 ((r0, ()), (s0, b1, (), from6, i7, ()), ((), (), ()))) (FnCx.L_eq s_l1Split_ts)).trans (by kernel_rfl)
noncomputable def s_l1Split (s0 : ByteArray) (b1 : Int) : Option (List ByteArray) := s_l1Split_t0 s_l1Split_L1 s0 b1
theorem s_l1Split_e (s0 : ByteArray) (b1 : Int) : c_s_l1Split.start c_s_l1Split.L (s0, b1, ()) = s_l1Split s0 b1 := by kernel_rfl
noncomputable def F_s_l1Split : Ins c_s_l1Split.ins → Option (List ByteArray) := fun x => s_l1Split x.1 x.2.1
noncomputable def S_s_l1Split : FSpec := mkF c_s_l1Split.env.pre c_s_l1Split.ins c_s_l1Split.out c_s_l1Split.inj F_s_l1Split
theorem h_s_l1Split : Cert Tryd.prog 55 S_s_l1Split := FnCx.certF (c := c_s_l1Split) F_s_l1Split (tyOk _ _ _) (spOk trivial) (fun _ _ _ _ _ hs => noDr_ok) Tryd.func55 rfl rfl Tryd.ntmps55 (by kernel_rfl) rfl rfl (fun _ => rfl) s_l1Split_ts s_l1Split_hs (fun x t hb ht => by
  obtain ⟨s0, b1, _⟩ := x
  exact (s_l1Split_e s0 b1).trans ht)
/-! spec.l1Read -/
noncomputable def c_s_l1Read : FnCx := { env := env 44 [(39, S_s_l1In)] [], body := bodyOf Tryd.f56, res := [.tmp 2], ins := [.ro kstring], out := [(kint, true)], T := Int, fin := fun r => r.1.1, inj := fun t => ((t, ()), ((), ())), pts := [([.inLoop [1, 1, 1, 0, 1, 0, 0], .inBlock 0, .code [1, 1, 1, 1]], Shape.mk [] [(0, Ss.one (Cs.sc kstring)), (3, Ss.one (Cs.sc kint)), (4, Ss.one (Cs.sc kint))] [Ss.one (Cs.any)])], fuel := 400, dr := noDr }
noncomputable def s_l1Read_t1 (g1 : ByteArray → Int → Int → Option (Int)) (s0 : ByteArray) (n3 : Int) (i4 : Int) : Option Int :=
  bif decide (i4 < (↑(ByteArray.size s0) : Int)) then
    bif decide (0 ≤ i4) then
      bif decide (i4 < (↑(ByteArray.size s0) : Int)) then
        bif decide (bt s0 i4 < 48) then some (-1)
        else
          bif decide (0 ≤ i4) then
            bif decide (i4 < (↑(ByteArray.size s0) : Int)) then
              bif decide (bt s0 i4 > 57) then some (-1)
              else
                bif decide (0 ≤ i4) then
                  bif decide (i4 < (↑(ByteArray.size s0) : Int)) then
                    g1 s0 (IntKind.wrap IntKind.i64 (IntKind.wrap IntKind.i64 (10 * n3) + IntKind.wrap IntKind.i64 (IntKind.wrap IntKind.u8 (bt s0 i4 - 48))))
                      (IntKind.wrap IntKind.i64 (i4 + 1))
                  else none
                else none
            else none
          else none
      else none
    else none
  else some n3
noncomputable def s_l1Read_t0 (g1 : ByteArray → Int → Int → Option (Int)) (s0 : ByteArray) : Option Int :=
  bif !s_l1In (↑(ByteArray.size s0) : Int) 1 6 then some (-1)
  else
    bif decide (0 < (↑(ByteArray.size s0) : Int)) then
      bif bt s0 0 == 48 then bif decide ((↑(ByteArray.size s0) : Int) > 1) then some (-1) else g1 s0 0 0 else g1 s0 0 0
    else none
theorem s_l1Read_ts : Tails c_s_l1Read.pts c_s_l1Read.round :=
  ⟨fun s => by
    obtain ⟨_, ⟨s0, n3, i4, _⟩, ⟨_, _⟩⟩ := s
    refine Tail.eq (Y := fun g => s_l1Read_t1 (fun s0 n3 i4 => g.1 ((), (s0, n3, i4, ()), ((), ()))) s0 n3 i4) ?_ (fun g => by kernel_rfl)
    simp only [s_l1Read_t1]; repeat (first | apply Tail.cond | (apply Tail.bind; intro _) | exact Tail.here _ | exact Tail.there (Tail.here _) | exact Tail.there (Tail.there (Tail.here _)) | exact Tail.there (Tail.there (Tail.there (Tail.here _))) | exact Tail.there (Tail.there (Tail.there (Tail.there (Tail.here _)))) | exact Tail.there (Tail.there (Tail.there (Tail.there (Tail.there (Tail.here _))))) | exact Tail.const _), trivial⟩
theorem s_l1Read_hs : ∀ x, Tail c_s_l1Read.pts (fun g => c_s_l1Read.start g x) := fun x => by
    obtain ⟨s0, _⟩ := x
    refine Tail.eq (Y := fun g => s_l1Read_t0 (fun s0 n3 i4 => g.1 ((), (s0, n3, i4, ()), ((), ()))) s0) ?_ (fun g => by kernel_rfl)
    simp only [s_l1Read_t0]; repeat (first | apply Tail.cond | (apply Tail.bind; intro _) | exact Tail.here _ | exact Tail.there (Tail.here _) | exact Tail.there (Tail.there (Tail.here _)) | exact Tail.there (Tail.there (Tail.there (Tail.here _))) | exact Tail.there (Tail.there (Tail.there (Tail.there (Tail.here _)))) | exact Tail.there (Tail.there (Tail.there (Tail.there (Tail.there (Tail.here _))))) | exact Tail.const _)
noncomputable def s_l1Read_L1 (s0 : ByteArray) (n3 : Int) (i4 : Int) : Option Int := c_s_l1Read.L.1 ((), (s0, n3, i4, ()), ((), ()))
theorem s_l1Read_u1 (s0 : ByteArray) (n3 : Int) (i4 : Int) : s_l1Read_L1 s0 n3 i4 = s_l1Read_t1 s_l1Read_L1 s0 n3 i4 :=
  (congrArg (fun g => g.1 ((), (s0, n3, i4, ()), ((), ()))) (FnCx.L_eq s_l1Read_ts)).trans (by kernel_rfl)
noncomputable def s_l1Read (s0 : ByteArray) : Option Int := s_l1Read_t0 s_l1Read_L1 s0
theorem s_l1Read_e (s0 : ByteArray) : c_s_l1Read.start c_s_l1Read.L (s0, ()) = s_l1Read s0 := by kernel_rfl
noncomputable def F_s_l1Read : Ins c_s_l1Read.ins → Option Int := fun x => s_l1Read x.1
noncomputable def S_s_l1Read : FSpec := mkF c_s_l1Read.env.pre c_s_l1Read.ins c_s_l1Read.out c_s_l1Read.inj F_s_l1Read
theorem h_s_l1Read : Cert Tryd.prog 56 S_s_l1Read := FnCx.certF (c := c_s_l1Read) F_s_l1Read (tyOk _ _ _) (spOk ⟨h_s_l1In, fun _ _ h => h, trivial⟩) (fun _ _ _ _ _ hs => noDr_ok) Tryd.func56 rfl rfl Tryd.ntmps56 (by kernel_rfl) rfl rfl (fun _ => rfl) s_l1Read_ts s_l1Read_hs (fun x t hb ht => by
  obtain ⟨s0, _⟩ := x
  exact (s_l1Read_e s0).trans ht)
/-! spec.moParse -/
noncomputable def c_s_moParse : FnCx := { env := env 31 [(55, S_s_l1Split), (56, S_s_l1Read), (41, S_s_moGood)] [], body := bodyOf Tryd.f48, res := [.cell 2 25, .tmp 3], ins := [.ro kstring], out := [(kMoving, true), (kbool, true)], T := (Int × Int) × Bool, fin := fun r => (r.1.1, r.1.2.1), inj := fun t => ((t.1, t.2, ()), ((), ())), pts := [], fuel := 400, dr := evDr (env 31 [(55, S_s_l1Split), (56, S_s_l1Read), (41, S_s_moGood)] []) }
noncomputable def s_moParse (s0 : ByteArray) : Option ((Int × Int) × Bool) :=
  Option.bind (s_l1Split s0 118) fun r =>
    bif decide ((↑(ByteArray.size s0) : Int) > 6) then some ((0, 0), false)
    else
      bif (↑(List.length r) : Int) != 2 then some ((0, 0), false)
      else
        bif decide (0 < (↑(List.length r) : Int)) then
          Option.bind (s_l1Read (rdk kstring r 0)) fun r_1 =>
            bif decide (1 < (↑(List.length r) : Int)) then
              Option.bind (s_l1Read (rdk kstring r 1)) fun r => bif !s_moGood r_1 r then some ((0, 0), false) else some ((r_1, r), true)
            else none
        else none
theorem s_moParse_e (s0 : ByteArray) : c_s_moParse.start c_s_moParse.L (s0, ()) = s_moParse s0 := by kernel_rfl
noncomputable def F_s_moParse : Ins c_s_moParse.ins → Option ((Int × Int) × Bool) := fun x => s_moParse x.1
noncomputable def S_s_moParse : FSpec := mkF c_s_moParse.env.pre c_s_moParse.ins c_s_moParse.out c_s_moParse.inj F_s_moParse
theorem h_s_moParse : Cert Tryd.prog 48 S_s_moParse := FnCx.certF (c := c_s_moParse) F_s_moParse (tyOk _ _ _) (spOk ⟨h_s_l1Split, fun _ _ h => h, ⟨h_s_l1Read, fun _ _ h => h, ⟨h_s_moGood, fun _ _ h => h, trivial⟩⟩⟩) (fun _ _ _ _ _ hs => evDr_ok (tyOk _ _ _) hs follows) Tryd.func48 rfl rfl Tryd.ntmps48 (by kernel_rfl) rfl rfl (fun _ => rfl) trivial (fun x => .inl ⟨c_s_moParse.start () x, fun _ => rfl⟩) (fun x t hb ht => by
  obtain ⟨s0, _⟩ := x
  exact (s_moParse_e s0).trans ht)
/-! spec.ParseMoving -/
noncomputable def c_s_ParseMoving : FnCx := { env := env 8 [(48, S_s_moParse)] [], body := bodyOf Tryd.f26, res := [.cell 2 25, .tmp 3], ins := [.ro kstring], out := [(kMoving, true), (kbool, true)], T := (Int × Int) × Bool, fin := fun r => (r.1.1, r.1.2.1), inj := fun t => ((t.1, t.2, ()), ((), ())), pts := [], fuel := 400, dr := noDr }
noncomputable def s_ParseMoving (s0 : ByteArray) : Option ((Int × Int) × Bool) :=
  Option.bind (s_moParse s0) fun r => some ((Prod.fst (Prod.fst r), Prod.snd (Prod.fst r)), Prod.snd r)
theorem s_ParseMoving_e (s0 : ByteArray) : c_s_ParseMoving.start c_s_ParseMoving.L (s0, ()) = s_ParseMoving s0 := by kernel_rfl
noncomputable def F_s_ParseMoving : Ins c_s_ParseMoving.ins → Option ((Int × Int) × Bool) := fun x => s_ParseMoving x.1
noncomputable def S_s_ParseMoving : FSpec := mkF c_s_ParseMoving.env.pre c_s_ParseMoving.ins c_s_ParseMoving.out c_s_ParseMoving.inj F_s_ParseMoving
theorem h_s_ParseMoving : Cert Tryd.prog 26 S_s_ParseMoving := FnCx.certF (c := c_s_ParseMoving) F_s_ParseMoving (tyOk _ _ _) (spOk ⟨h_s_moParse, fun _ _ h => h, trivial⟩) (fun _ _ _ _ _ hs => noDr_ok) Tryd.func26 rfl rfl Tryd.ntmps26 (by kernel_rfl) rfl rfl (fun _ => rfl) trivial (fun x => .inl ⟨c_s_ParseMoving.start () x, fun _ => rfl⟩) (fun x t hb ht => by
  obtain ⟨s0, _⟩ := x
  exact (s_ParseMoving_e s0).trans ht)
/-! laws.lLow -/
noncomputable def c_w_lLow : FnCx := { env := env 23 [] [], body := bodyOf Tryd.f10, res := [.tmp 4], ins := [.ro kint, .ro kint], out := [(kbool, true)], T := Bool, fin := fun r => r.1.1, inj := fun t => ((t, ()), ((), (), ())), pts := [([.inLoop [1, 1, 1, 0, 0, 0], .inBlock 0, .code [1, 1, 1, 1]], Shape.mk [] [(5, Ss.one (Cs.sc kint)), (6, Ss.one (Cs.sc kint))] [Ss.one (Cs.any), Ss.one (Cs.any)])], fuel := 400, dr := evDr (env 23 [] []) }
noncomputable def w_lLow_t1 (g1 : Int → Int → Option (Bool)) (a5 : Int) (b6 : Int) : Option Bool :=
  bif decide (b6 > 0) then bif b6 == 0 then none else g1 b6 (Int.tmod a5 b6) else some (a5 == 1)
noncomputable def w_lLow_t0 (g1 : Int → Int → Option (Bool)) (num0 : Int) (den1 : Int) : Option Bool :=
  bif decide (num0 < 0) then some false else bif decide (den1 < 1) then some false else g1 num0 den1
theorem w_lLow_ts : Tails c_w_lLow.pts c_w_lLow.round :=
  ⟨fun s => by
    obtain ⟨_, ⟨a5, b6, _⟩, ⟨_, _, _⟩⟩ := s
    refine Tail.eq (Y := fun g => w_lLow_t1 (fun a5 b6 => g.1 ((), (a5, b6, ()), ((), (), ()))) a5 b6) ?_ (fun g => by kernel_rfl)
    simp only [w_lLow_t1]; repeat (first | exact Tail.const _ | exact Tail.here _ | exact Tail.there (Tail.here _) | exact Tail.there (Tail.there (Tail.here _)) | exact Tail.there (Tail.there (Tail.there (Tail.here _))) | exact Tail.there (Tail.there (Tail.there (Tail.there (Tail.here _)))) | exact Tail.there (Tail.there (Tail.there (Tail.there (Tail.there (Tail.here _))))) | apply Tail.cond | (apply Tail.bind; intro _)), trivial⟩
theorem w_lLow_hs : ∀ x, Tail c_w_lLow.pts (fun g => c_w_lLow.start g x) := fun x => by
    obtain ⟨num0, den1, _⟩ := x
    refine Tail.eq (Y := fun g => w_lLow_t0 (fun a5 b6 => g.1 ((), (a5, b6, ()), ((), (), ()))) num0 den1) ?_ (fun g => by kernel_rfl)
    simp only [w_lLow_t0]; repeat (first | exact Tail.const _ | exact Tail.here _ | exact Tail.there (Tail.here _) | exact Tail.there (Tail.there (Tail.here _)) | exact Tail.there (Tail.there (Tail.there (Tail.here _))) | exact Tail.there (Tail.there (Tail.there (Tail.there (Tail.here _)))) | exact Tail.there (Tail.there (Tail.there (Tail.there (Tail.there (Tail.here _))))) | apply Tail.cond | (apply Tail.bind; intro _))
noncomputable def w_lLow_L1 (a5 : Int) (b6 : Int) : Option Bool := c_w_lLow.L.1 ((), (a5, b6, ()), ((), (), ()))
theorem w_lLow_u1 (a5 : Int) (b6 : Int) : w_lLow_L1 a5 b6 = w_lLow_t1 w_lLow_L1 a5 b6 :=
  (congrArg (fun g => g.1 ((), (a5, b6, ()), ((), (), ()))) (FnCx.L_eq w_lLow_ts)).trans (by kernel_rfl)
noncomputable def w_lLow (num0 : Int) (den1 : Int) : Option Bool := w_lLow_t0 w_lLow_L1 num0 den1
theorem w_lLow_e (num0 : Int) (den1 : Int) : c_w_lLow.start c_w_lLow.L (num0, den1, ()) = w_lLow num0 den1 := by kernel_rfl
noncomputable def F_w_lLow : Ins c_w_lLow.ins → Option Bool := fun x => w_lLow x.1 x.2.1
noncomputable def S_w_lLow : FSpec := mkF c_w_lLow.env.pre c_w_lLow.ins c_w_lLow.out c_w_lLow.inj F_w_lLow
theorem h_w_lLow : Cert Tryd.prog 10 S_w_lLow := FnCx.certF (c := c_w_lLow) F_w_lLow (tyOk _ _ _) (spOk trivial) (fun _ _ _ _ _ hs => evDr_ok (tyOk _ _ _) hs follows) Tryd.func10 rfl rfl Tryd.ntmps10 (by kernel_rfl) rfl rfl (fun _ => rfl) w_lLow_ts w_lLow_hs (fun x t hb ht => by
  obtain ⟨num0, den1, _⟩ := x
  exact (w_lLow_e num0 den1).trans ht)
/-! laws.lIs -/
noncomputable def c_w_lIs : FnCx := { env := env 21 [(10, S_w_lLow)] [], body := bodyOf Tryd.f11, res := [.tmp 8], ins := [.ro kint, .ro kint, .ro kint, .ro kint], out := [(kbool, true)], T := Bool, fin := fun r => r.1.1, inj := fun t => ((t, ()), ((), (), (), (), ())), pts := [], fuel := 400, dr := noDr }
noncomputable def w_lIs (num0 : Int) (den1 : Int) (x2 : Int) (y3 : Int) : Option Bool :=
  Option.bind (w_lLow num0 den1) fun r => bif r then some (IntKind.wrap IntKind.i64 (num0 * y3) == IntKind.wrap IntKind.i64 (x2 * den1)) else some false
theorem w_lIs_e (num0 : Int) (den1 : Int) (x2 : Int) (y3 : Int) : c_w_lIs.start c_w_lIs.L (num0, den1, x2, y3, ()) = w_lIs num0 den1 x2 y3 := by kernel_rfl
noncomputable def F_w_lIs : Ins c_w_lIs.ins → Option Bool := fun x => w_lIs x.1 x.2.1 x.2.2.1 x.2.2.2.1
noncomputable def S_w_lIs : FSpec := mkF c_w_lIs.env.pre c_w_lIs.ins c_w_lIs.out c_w_lIs.inj F_w_lIs
theorem h_w_lIs : Cert Tryd.prog 11 S_w_lIs := FnCx.certF (c := c_w_lIs) F_w_lIs (tyOk _ _ _) (spOk ⟨h_w_lLow, fun _ _ h => h, trivial⟩) (fun _ _ _ _ _ hs => noDr_ok) Tryd.func11 rfl rfl Tryd.ntmps11 (by kernel_rfl) rfl rfl (fun _ => rfl) trivial (fun x => .inl ⟨c_w_lIs.start () x, fun _ => rfl⟩) (fun x t hb ht => by
  obtain ⟨num0, den1, x2, y3, _⟩ := x
  exact (w_lIs_e num0 den1 x2 y3).trans ht)
end Go.Proofs.YtadcmhdjoglagaaDoor.V
